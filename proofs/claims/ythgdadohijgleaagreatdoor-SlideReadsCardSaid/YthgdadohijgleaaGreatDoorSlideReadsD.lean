/- Part 4 of what SlideReads leans on: my own lemmas, merged by shake.py. -/
import Derived.Test.YthgdadohijgleaaGreatDoorSlideReadsC
import Derived.Shelf.Abstract
import Derived.Shelf.RegionOpen
import Derived.OwnWalkIn
import Derived.TacticsInMore
import Derived.LoopNIn
import Derived.LoopIn
import Derived.Stop.RegionWithIn
import Derived.Sort.CutIn
import Derived.Defers
import Derived.Recover
import Derived.Laws.Pointers
section
section
namespace Go.Proofs.YthgdadohijgleaaGreatDoor
open Go.RowKit Word
structure Ext (w:World) (m p1 b1 p2 b2 n:Nat) (L:List Ob):Prop where
 good:Good n L
 v1:Vec w p1 b1 (startsL n L)
 v2:Vec w p2 b2 (endsL n L)
 hm:m<w.heap.size
 c0:w.cell? ⟨m,0,none⟩=some (.pointer (some ⟨p1,0,none⟩))
 c1:w.cell? ⟨m,1,none⟩=some (.pointer (some ⟨p2,0,none⟩))
 c2:w.cell? ⟨m,2,none⟩=some (.int .i64 L.length)
 fr:w.frozen? ⟨m,2,none⟩=false
 am:m≠p1/\m≠b1/\m≠p2/\m≠b2
 ab:p1≠b2/\p2≠b1/\b1≠b2
theorem Ext.touch {S:Nat->Prop} {w w':World} {m p1 b1 p2 b2 n:Nat} {L:List Ob} (h:Ext w m p1 b1 p2 b2 n L) (t:Touch S w w') (h1:¬ S m) (h2:¬ S p1) (h3:¬ S b1) (h4:¬ S p2) (h5:¬ S b2):Ext w' m p1 b1 p2 b2 n L:=
 ⟨h.good,h.v1.touch t h2 h3,h.v2.touch t h4 h5,Nat.lt_of_lt_of_le h.hm t.size,(t.cell h.hm h1 0).trans h.c0,(t.cell h.hm h1 1).trans h.c1,(t.cell h.hm h1 2).trans h.c2,(t.frozen h.hm h1 2).trans h.fr,h.am,h.ab⟩
theorem Ext.gr {w w':World} {m p1 b1 p2 b2 n:Nat} {L:List Ob} (h:Ext w m p1 b1 p2 b2 n L) (t:Gr w w'):Ext w' m p1 b1 p2 b2 n L:=
 h.touch (t.touch (fun _=>False)) (fun h=>h) (fun h=>h) (fun h=>h) (fun h=>h) (fun h=>h)
theorem Ext.nb {w:World} {m p1 b1 p2 b2 n:Nat} {L:List Ob} (h:Ext w m p1 b1 p2 b2 n L):1<=n/\n<=1048576:=by
 have h1:=h.v1.n1
 have h2:=h.v1.n2
 rw [startsL_len] at h1 h2
 exact ⟨h1,h2⟩
def obS (L:List Ob) (j:Nat):Int:=((L[j]?.getD (0,0)).1:Nat)
def obZ (L:List Ob) (j:Nat):Int:=((L[j]?.getD (0,0)).2:Nat)
theorem obS_in {L:List Ob} {j:Nat} (h:j<L.length):obS L j=(L[j].1:Nat)/\obZ L j=(L[j].2:Nat):=by unfold obS obZ;rw [List.getElem?_eq_getElem h];exact ⟨rfl,rfl⟩
theorem obS_out {L:List Ob} {j:Nat} (h:¬ j<L.length):obS L j=0/\obZ L j=0:=by unfold obS obZ;rw [List.getElem?_eq_none (by omega)];exact ⟨rfl,rfl⟩
def tellO (L:List Ob) (j:Nat):Value:=.tuple #[.int .i64 (obS L j),.int .i64 (obZ L j),.bool (decide (j<L.length))]
theorem tellO_in {L:List Ob} {j:Nat} (h:j<L.length):tellO L j=.tuple #[.int .i64 (L[j].1:Nat),.int .i64 (L[j].2:Nat),.bool true]:=by unfold tellO;rw [(obS_in h).1,(obS_in h).2,decide_eq_true h]
theorem tellO_out {L:List Ob} {j:Nat} (h:¬ j<L.length):tellO L j=.tuple #[.int .i64 0,.int .i64 0,.bool false]:=by unfold tellO;rw [(obS_out h).1,(obS_out h).2,decide_eq_false h]
section
variable {w:World} {m p1 b1 p2 b2 n:Nat} {L:List Ob}
theorem ext_none (hE:Ext w m p1 b1 p2 b2 n L):Calls Tryz.prog 271 #[.pointer (some ⟨m,0,none⟩)] w fun e w'=>e=.returned (.bool false)/\w=w':=by
 have c0:=hE.c0
 have HE:=hid hE
 clear hE
 go_enter Tryz.func271,Tryz.ntmps271
 go_wp2
 go_ret
 exact ⟨rfl,rfl⟩
theorem ext_words (hE:Ext w m p1 b1 p2 b2 n L):Calls Tryz.prog 187 #[.pointer (some ⟨m,0,none⟩)] w fun e w'=>e=.returned (.int .i64 n)/\w=w':=by
 have c0:=hE.c0
 have HE:=hid hE
 have HL:=hid (startsL_len n L)
 clear hE
 go_enter Tryz.func187,Tryz.ntmps187
 go_wp2_with (first
  | (go_at_call 271;refine (ext_none HE.out).mono ?_;rintro e w' ⟨rfl,rfl⟩)
  | (go_at_call 278;refine (len_vec HE.out.v1).mono ?_;rintro e w' ⟨rfl,rfl⟩;rw [HL.out]))
 go_ret
 exact ⟨rfl,rfl⟩
theorem ext_objects (hE:Ext w m p1 b1 p2 b2 n L):Calls Tryz.prog 261 #[.pointer (some ⟨m,0,none⟩)] w fun e w'=>e=.returned (.int .i64 L.length)/\w=w':=by
 have c2:=hE.c2
 have HE:=hid hE
 clear hE
 go_enter Tryz.func261,Tryz.ntmps261
 go_wp2_with (go_at_call 271;refine (ext_none HE.out).mono ?_;rintro e w' ⟨rfl,rfl⟩)
 go_ret
 exact ⟨rfl,rfl⟩
set_option maxHeartbeats 400000 in
theorem ext_size (hE:Ext w m p1 b1 p2 b2 n L) (hT:TabAt w) {j:Nat} (hj:j<L.length):
  Calls Tryz.prog 273 #[.pointer (some ⟨m,0,none⟩),.int .i64 (L[j].1:Nat)] w fun e w'=>e=.returned (.int .i64 (L[j].2:Nat))/\w=w':=by
 have c1:=hE.c1
 have hm:=List.getElem_mem hj
 obtain ⟨hn1,hn2⟩:=next_end hE.good hm
 have hs:=hE.good.sz _ hm
 have hb:=hE.nb
 obtain ⟨s,hs'⟩:∃ s,s=L[j].1:=⟨_,rfl⟩
 obtain ⟨z,hz'⟩:∃ z,z=L[j].2:=⟨_,rfl⟩
 rw [<-hs',<-hz'] at hn1 hn2 hs ⊢
 rw [<-hn1] at hn2
 have HE:=hid hE
 have HT:=hid hT
 have HV:=hid (And.intro (valN_yes hn2) hn1)
 have hsb:s+z<=1048576:=by omega
 have hz1:1<=z:=hs.1
 clear hE hT hn1 hn2 hs' hz' hm hj
 go_enter Tryz.func273,Tryz.ntmps273
 go_wp2_with (go_at_call 330;refine (next_vec HE.out.v2 HT.out _).mono ?_;rintro e w' ⟨rfl,rfl⟩;rw [HV.out.1,HV.out.2])
 go_ret
 exact ⟨ret_int (by omega),rfl⟩
set_option maxHeartbeats 800000 in
theorem ext_next (hE:Ext w m p1 b1 p2 b2 n L) (hT:TabAt w) (a:Int):
  Calls Tryz.prog 290 #[.pointer (some ⟨m,0,none⟩),.int .i64 a] w fun e w'=>e=.returned (tellO L (nextO L a))/\w=w':=by
 have c0:=hE.c0
 have HE:=hid hE
 have HT:=hid hT
 by_cases hj:nextO L a<L.length
 ·obtain ⟨h1,h2⟩:=next_start_yes hE.good hj
  rw [tellO_in hj]
  have HZ:=hid (ext_size hE hT hj)
  have HV:=hid (And.intro (valN_yes h2) (And.intro h1 (decide_eq_true h2)))
  clear hE hT h1 h2
  go_enter Tryz.func290,Tryz.ntmps290
  go_wp2_with (first
   | (go_at_call 271;refine (ext_none HE.out).mono ?_;rintro e w' ⟨rfl,rfl⟩)
   | (go_at_call 330;refine (next_vec HE.out.v1 HT.out _).mono ?_;rintro e w' ⟨rfl,rfl⟩;rw [HV.out.1,HV.out.2.2,HV.out.2.1])
   | (go_at_call 273;refine HZ.out.mono ?_;rintro e w' ⟨rfl,rfl⟩))
  go_ret3
  exact ⟨rfl,rfl⟩
 ·have h1:=next_start_no hE.good hj
  rw [tellO_out hj]
  have HV:Hid (valN (startsL n L).length (nextL (startsL n L) a)=0/\decide (nextL (startsL n L) a<(startsL n L).length)=false):=⟨by rw [h1];exact ⟨valN_no (by omega),decide_eq_false (by omega)⟩⟩
  clear hE hT h1
  go_enter Tryz.func290,Tryz.ntmps290
  go_wp2_with (first
   | (go_at_call 271;refine (ext_none HE.out).mono ?_;rintro e w' ⟨rfl,rfl⟩)
   | (go_at_call 330;refine (next_vec HE.out.v1 HT.out _).mono ?_;rintro e w' ⟨rfl,rfl⟩;rw [HV.out.1,HV.out.2]))
  go_ret3
  exact ⟨rfl,rfl⟩
set_option maxHeartbeats 800000 in
theorem ext_find (hE:Ext w m p1 b1 p2 b2 n L) (hT:TabAt w) (a:Int):
  Calls Tryz.prog 168 #[.pointer (some ⟨m,0,none⟩),.int .i64 a] w fun e w'=>e=.returned (tellO L (findO L a))/\w=w':=by
 have c0:=hE.c0
 have hb:=hE.nb
 have HE:=hid hE
 have HT:=hid hT
 by_cases h0:a<0
 ·have d0:decide (a<0)=true:=by simp [h0]
  rw [tellO_out (by rw [findO_none (fun o _=>by omega)];omega)]
  clear hE hT
  go_enter Tryz.func168,Tryz.ntmps168
  go_wp2_with (go_at_call 271;refine (ext_none HE.out).mono ?_;rintro e w' ⟨rfl,rfl⟩)
  go_ret3
  exact ⟨rfl,rfl⟩
 ·have d0:decide (a<0)=false:=by simp;omega
  by_cases h1:(n:Int)<=a
  ·have d1:decide ((n:Int)<=a)=true:=by simp [h1]
   rw [tellO_out (by rw [findO_none (fun o ho=>by have:=hE.good.sz o ho;omega)];omega)]
   clear hE hT
   go_enter Tryz.func168,Tryz.ntmps168
   go_wp2_with (first
    | (go_at_call 271;refine (ext_none HE.out).mono ?_;rintro e w' ⟨rfl,rfl⟩)
    | (go_at_call 187;refine (ext_words HE.out).mono ?_;rintro e w' ⟨rfl,rfl⟩))
   go_ret3
   exact ⟨rfl,rfl⟩
  ·have d1:decide ((n:Int)<=a)=false:=by simp;omega
   rcases last_of hE.good a with ⟨hl,hall⟩ | ⟨j,hj,hl,hle,hall⟩
   ·rw [tellO_out (by rw [findO_none (fun o ho=>by have:=hall o ho;omega)];omega)]
    have HV:Hid (valI (lastL (startsL n L) (a+1))=0/\decide (0<=lastL (startsL n L) (a+1))=false):=⟨by rw [hl];exact ⟨rfl,rfl⟩⟩
    clear hE hT hl hall
    go_enter Tryz.func168,Tryz.ntmps168
    go_wp2_with (first
     | (go_at_call 271;refine (ext_none HE.out).mono ?_;rintro e w' ⟨rfl,rfl⟩)
     | (go_at_call 187;refine (ext_words HE.out).mono ?_;rintro e w' ⟨rfl,rfl⟩)
     | (go_at_call 272;refine (last_vec HE.out.v1 _).mono ?_;rintro e w' ⟨rfl,rfl⟩;rw [HV.out.1,HV.out.2]))
    go_ret3
    exact ⟨rfl,rfl⟩
   ·have HZ:=hid (ext_size hE hT hj)
    have hs:=hE.good.sz _ (List.getElem_mem hj)
    have HV:Hid (valI (lastL (startsL n L) (a+1))=(L[j].1:Nat)/\decide (0<=lastL (startsL n L) (a+1))=true):=⟨by rw [hl];exact ⟨if_pos (by omega),decide_eq_true (by omega)⟩⟩
    have hgood:=hE.good
    by_cases hin:a<L[j].1+L[j].2
    ·have hf:=findO_eq hgood hj hle hin
     rw [hf,tellO_in hj]
     generalize L[j].1=s at *
     generalize L[j].2=z at *
     have d2:decide (((s:Int)+(z:Int))<=a)=false:=by simp;omega
     clear hE hT hl hall hgood hf
     go_enter Tryz.func168,Tryz.ntmps168
     go_wp2_with (first
      | (go_at_call 271;refine (ext_none HE.out).mono ?_;rintro e w' ⟨rfl,rfl⟩)
      | (go_at_call 187;refine (ext_words HE.out).mono ?_;rintro e w' ⟨rfl,rfl⟩)
      | (go_at_call 272;refine (last_vec HE.out.v1 _).mono ?_;rintro e w' ⟨rfl,rfl⟩;rw [HV.out.1,HV.out.2])
      | (go_at_call 273;refine HZ.out.mono ?_;rintro e w' ⟨rfl,rfl⟩))
     go_ret3
     exact ⟨rfl,rfl⟩
    ·have hf:¬ findO L a<L.length:=by
      rw [findO_none (fun o ho=>?_)];· omega
      obtain ⟨i,hi,rfl⟩:=List.getElem_of_mem ho
      rcases Nat.lt_trichotomy i j with h3 | rfl | h3
      ·have:=hgood.at hi hj h3;omega
      ·omega
      ·have:=hall i hi h3;omega
     rw [tellO_out hf]
     generalize L[j].1=s at *
     generalize L[j].2=z at *
     have d2:decide (((s:Int)+(z:Int))<=a)=true:=by simp;omega
     clear hE hT hl hall hgood hf
     go_enter Tryz.func168,Tryz.ntmps168
     go_wp2_with (first
      | (go_at_call 271;refine (ext_none HE.out).mono ?_;rintro e w' ⟨rfl,rfl⟩)
      | (go_at_call 187;refine (ext_words HE.out).mono ?_;rintro e w' ⟨rfl,rfl⟩)
      | (go_at_call 272;refine (last_vec HE.out.v1 _).mono ?_;rintro e w' ⟨rfl,rfl⟩;rw [HV.out.1,HV.out.2])
      | (go_at_call 273;refine HZ.out.mono ?_;rintro e w' ⟨rfl,rfl⟩))
     go_ret3
     exact ⟨rfl,rfl⟩
end
end Go.Proofs.YthgdadohijgleaaGreatDoor
end
section
namespace Go.Proofs.YthgdadohijgleaaGreatDoor
open Go.RowKit Word
section
variable {w:World} {m p1 b1 p2 b2 n:Nat} {L:List Ob}
def okV:Value->Bool
 | .bool b=>b
 | _=>false
theorem obS_bd {n:Nat} {L:List Ob} (h:Good n L) (hn:n<=1048576) (j:Nat):0<=obS L j/\0<=obZ L j/\obS L j+obZ L j<=1048576:=by
 by_cases hj:j<L.length
 ·rw [(obS_in hj).1,(obS_in hj).2]
  have:=h.sz _ (List.getElem_mem hj);omega
 ·rw [(obS_out hj).1,(obS_out hj).2];omega
theorem overs_bd {n:Nat} {L:List Ob} (h:Good n L) (hn:n<=1048576) (j:Nat) (f t:Int):0<=overs (L.take j) f t/\overs (L.take j) f t<=1048576:=by
 have hg:Good n (L.take j):=⟨h.pw.sublist (List.take_sublist ..),fun o ho=>h.sz o (List.mem_of_mem_take ho)⟩
 have h1:=liveN_eq hg f t
 have h2:liveN (L.take j) n f t<=n:=cnt_le _ _
 omega
set_option maxRecDepth 100000 in
set_option maxHeartbeats 3200000 in
theorem ext_live (hE:Ext w m p1 b1 p2 b2 n L) (hT:TabAt w) (f t:Int) (hf:f<=9223372036854775807) (ht:-9223372036854775808<=t):
  Calls Tryz.prog 291 #[.pointer (some ⟨m,0,none⟩),.int .i64 f,.int .i64 t] w fun e w'=>e=.returned (.int .i64 (overs L f t))/\w=w':=by
 have hb:=hE.nb
 have hg:=hE.good
 have HE:=hid hE
 have HT:=hid hT
 rw [<-overs_clip hg f t]
 obtain ⟨lo,hlo⟩:∃ lo,lo=max f 0:=⟨_,rfl⟩
 obtain ⟨hi,hhi⟩:∃ hi,hi=min t (n:Int):=⟨_,rfl⟩
 have hlo0:0<=lo/\lo<=9223372036854775807:=by omega
 have hhib:hi<=1048576/\-9223372036854775808<=hi:=by omega
 have HLO:=hid hlo
 have HHI:=hid hhi
 have hmax:∀ w',(Builtin.max_ #[3,3] 3 #[.int .i64 f,.int .i64 0]).run Tryz.prog w'=.ok (.int .i64 lo) w':=fun w'=>by rw [run_maxB2,hlo]
 have hmin:∀ w',(Builtin.min_ #[3,3] 3 #[.int .i64 t,.int .i64 n]).run Tryz.prog w'=.ok (.int .i64 hi) w':=fun w'=>by rw [run_minB2,hhi]
 rw [<-hlo,<-hhi]
 have hmin2:=fun x y=>run_minB2 Tryz.prog #[3,3] 3 .i64 x y
 obtain ⟨jf,hjf⟩:∃ j,j=findO L lo:=⟨_,rfl⟩
 obtain ⟨jn,hjn⟩:∃ j,j=nextO L lo:=⟨_,rfl⟩
 have hjnl:jn<=L.length:=by rw [hjn];exact nextO_le _ _
 have hhead:=overs_head hg (f:=lo) (t:=hi)
 rw [<-hjf,<-hjn] at hhead
 have hss:((L[jf]?.getD (0,0)).1:Int)=obS L jf:=rfl
 have hzz:((L[jf]?.getD (0,0)).2:Int)=obZ L jf:=rfl
 rw [hss,hzz] at hhead
 have hbf:=obS_bd hg hb.2 jf
 obtain ⟨s,hs⟩:∃ s,s=obS L jf:=⟨_,rfl⟩
 obtain ⟨z,hz⟩:∃ z,z=obZ L jf:=⟨_,rfl⟩
 obtain ⟨bf,hbff⟩:∃ b,b=decide (jf<L.length):=⟨_,rfl⟩
 rw [<-hs,<-hz] at hhead hbf
 have HF:Hid (tellO L (findO L lo)=.tuple #[.int .i64 s,.int .i64 z,.bool bf]):=⟨by rw [hs,hz,hbff,hjf];rfl⟩
 obtain ⟨s1,hs1⟩:∃ s,s=obS L jn:=⟨_,rfl⟩
 obtain ⟨z1,hz1⟩:∃ z,z=obZ L jn:=⟨_,rfl⟩
 obtain ⟨bn,hbn⟩:∃ b,b=decide (jn<L.length):=⟨_,rfl⟩
 have HN:Hid (tellO L (nextO L lo)=.tuple #[.int .i64 s1,.int .i64 z1,.bool bn]):=⟨by rw [hs1,hz1,hbn,hjn];rfl⟩
 have HN1:=hid (And.intro hs1 (And.intro hz1 hbn))
 obtain ⟨v0,hv0⟩:∃ v,v=overs (L.take jn) lo hi:=⟨_,rfl⟩
 rw [<-hv0] at hhead
 have HV0:=hid hv0
 have HJN:=hid hjn
 have hpart:(bf=true/\s<lo/\lo<hi/\v0=min (s+z) hi-lo)\/(bf=false/\v0=0)\/(bf=true/\lo<=s/\v0=0)\/(bf=true/\s<lo/\hi<=lo/\v0=0):=by
  by_cases h1:jf<L.length
  ·have e1:bf=true:=by rw [hbff,decide_eq_true h1]
   by_cases h2:s<lo
   ·by_cases h3:lo<hi
    ·left;rw [if_pos ⟨h1,h2,h3⟩] at hhead;exact ⟨e1,h2,h3,hhead⟩
    ·right;right;right;rw [if_neg (fun h=>h3 h.2.2)] at hhead;exact ⟨e1,h2,by omega,hhead⟩
   ·right;right;left;rw [if_neg (fun h=>h2 h.2.1)] at hhead;exact ⟨e1,by omega,hhead⟩
  ·right;left;rw [if_neg (fun h=>h1 h.1)] at hhead;exact ⟨by rw [hbff,decide_eq_false h1],hhead⟩
 have HG:=hid hg
 clear hE hT hlo hhi hjf hjn hhead hss hzz hs hz hbff hs1 hz1 hbn hv0 hg
 rcases hpart with ⟨rfl,h2,h3,rfl⟩ | ⟨rfl,rfl⟩ | ⟨rfl,h2,rfl⟩ | ⟨rfl,h2,h3,rfl⟩
 all_goals
  have hmm:min (s+z) hi<=1048576:=by omega
  go_enter Tryz.func291,Tryz.ntmps291
  go_wp2_with (first
   | (go_at_call 271;refine (ext_none HE.out).mono ?_;rintro e w' ⟨rfl,rfl⟩)
   | (go_at_call 187;refine (ext_words HE.out).mono ?_;rintro e w' ⟨rfl,rfl⟩)
   | (go_at_call 168;refine (ext_find HE.out HT.out _).mono ?_;rintro e w' ⟨rfl,rfl⟩;rw [HF.out])
   | (go_at_call 290;refine (ext_next HE.out HT.out _).mono ?_;rintro e w' ⟨rfl,rfl⟩;rw [HN.out]))
  clear hmax hmin
 all_goals
  go_loop [7,11,12,13] (fun s7 s11 s12 s13=>∃ j,jn<=j/\j<=L.length/\s7=.int .i64 (overs (L.take j) lo hi)/\s11=.int .i64 (obS L j)/\s12=.int .i64 (obZ L j)/\s13=.bool (decide (j<L.length))) (fun _ s11 _ s13=>if okV s13 then 1048577-(intOf s11).toNat else 0)
  case atStart=>exact ⟨jn,Nat.le_refl _,hjnl,by rw [<-HV0.out],by rw [HN1.out.1],by rw [HN1.out.2.1],by rw [HN1.out.2.2]⟩
  case round=>
   obtain ⟨j,hj1,hj2,rfl,rfl,rfl,rfl⟩:=hrel
   have hbo:=overs_bd HG.out hb.2 j lo hi
   have hbj:=obS_bd HG.out hb.2 j
   by_cases hj:j<L.length
   ·rw [decide_eq_true hj]
    obtain ⟨o1,o2⟩:=obS_in hj
    have hsz:=HG.out.sz _ (List.getElem_mem hj)
    obtain ⟨sj,hsj⟩:∃ s,s=obS L j:=⟨_,rfl⟩
    obtain ⟨zj,hzj⟩:∃ z,z=obZ L j:=⟨_,rfl⟩
    obtain ⟨vj,hvj⟩:∃ v,v=overs (L.take j) lo hi:=⟨_,rfl⟩
    have hge:lo<=sj:=by
     rw [hsj,o1]
     have hjn2:nextO L lo<L.length:=by have:=HJN.out;omega
     have hy:=nextO_yes hjn2
     rcases Nat.lt_or_ge (nextO L lo) j with h | h
     ·have:=HG.out.at hjn2 hj h;omega
     ·have e:L[nextO L lo]'hjn2=L[j]:=by congr 1;have:=HJN.out;omega
      rw [e] at hy;exact hy
    have hz1:1<=zj:=by rw [hzj,o2];omega
    have htk:=overs_take hj lo hi
    have hov:over L[j] lo hi=max 0 (min (sj+zj) hi-sj):=by
     unfold over
     rw [hsj,hzj,o1,o2] at *
     omega
    rw [hov,<-hvj] at htk
    have hbo2:=overs_bd HG.out hb.2 (j+1) lo hi
    have hnx:nextO L (sj+zj)=j+1:=by rw [hsj,hzj,o1,o2];exact next_after_ob HG.out hj
    obtain ⟨s2,hs2⟩:∃ s,s=obS L (j+1):=⟨_,rfl⟩
    obtain ⟨z2,hz2⟩:∃ z,z=obZ L (j+1):=⟨_,rfl⟩
    obtain ⟨b2',hb2⟩:∃ b,b=decide (j+1<L.length):=⟨_,rfl⟩
    have HX:Hid (tellO L (nextO L (sj+zj))=.tuple #[.int .i64 s2,.int .i64 z2,.bool b2']):=⟨by rw [hnx,hs2,hz2,hb2];rfl⟩
    have HX2:=hid (And.intro hs2 (And.intro hz2 hb2))
    have hlt2:b2'=true->sj+zj<=s2:=fun h=>by
     rw [hb2] at h
     have h:=of_decide_eq_true h
     have:=HG.out.at hj h (Nat.lt_succ_self j)
     rw [hsj,hzj,hs2,o1,o2,(obS_in h).1];omega
    have HLT:=hid hlt2
    rw [<-hsj,<-hzj] at hbj ⊢
    rw [<-hvj] at hbo ⊢
    have HVJ:=hid hvj
    have HSJ:=hid hsj
    by_cases hhi:sj<hi
    ·have hmj:min (sj+zj) hi<=1048576/\sj<=min (sj+zj) hi:=by omega
     have htk':overs (L.take (j+1)) lo hi=vj+(min (sj+zj) hi-sj):=by rw [htk];omega
     have hsum:0<=vj+(min (sj+zj) hi-sj)/\vj+(min (sj+zj) hi-sj)<=1048576:=by rw [<-htk'];exact hbo2
     have HTK:=hid htk'
     clear hsj hzj hvj hov htk htk' hbo2 hnx hs2 hz2 hb2 hlt2 o1 o2 hsz
     go_wp2_with (go_at_call 290;refine (ext_next HE.out HT.out _).mono ?_;rintro e w' ⟨rfl,rfl⟩;rw [HX.out])
     go_round
     case rel=>exact ⟨j+1,by omega,by omega,by rw [HTK.out],by rw [HX2.out.1],by rw [HX2.out.2.1],by rw [HX2.out.2.2]⟩
     case measure=>
      have e0:okV (Value.bool true)=true:=rfl
      rw [if_pos e0]
      by_cases h:b2'=true
      ·have:=HLT.out h
       rw [if_pos (show okV (Value.bool b2')=true from h)]
       simp only [intOf];omega
      ·rw [if_neg (show ¬ okV (Value.bool b2')=true from h)]
       simp only [intOf];omega
    ·have htl:=overs_tail HG.out (j:=j) (f:=lo) (t:=hi) (fun hl=>by
      have:=HSJ.out;rw [(obS_in hl).1] at this;omega)
     have hE:Hid (overs L lo hi=vj):=⟨by rw [overs_split L j,htl,<-HVJ.out];omega⟩
     clear hsj hzj hvj hov htk hbo2 hnx hs2 hz2 hb2 hlt2 o1 o2 hsz htl
     go_wp2
     go_ret
     exact ⟨ret_int hE.out.symm,rfl⟩
   ·rw [decide_eq_false hj]
    have htl:=overs_tail HG.out (j:=j) (f:=lo) (t:=hi) (fun hl=>absurd hl hj)
    have hE:Hid (overs L lo hi=overs (L.take j) lo hi):=⟨by rw [overs_split L j,htl];omega⟩
    obtain ⟨vj,hvj⟩:∃ v,v=overs (L.take j) lo hi:=⟨_,rfl⟩
    rw [<-hvj] at hbo ⊢ hE
    clear htl hvj
    go_wp2
    go_ret
    exact ⟨ret_int hE.out.symm,rfl⟩
end
end Go.Proofs.YthgdadohijgleaaGreatDoor
end
section
namespace Go.Proofs.YthgdadohijgleaaGreatDoor
open Go.RowKit Word
def mine (m b1 b2:Nat) (k:Nat):Prop:=k=m\/k=b1\/k=b2
section
variable {w:World} {m p1 b1 p2 b2 n:Nat} {L:List Ob}
theorem Ext.changed (hE:Ext w m p1 b1 p2 b2 n L) {w1 w2:World} {L':List Ob} (hg:Good n L') (t1:Touch (fun k=>k=b1) w w1) (v1:Vec w1 p1 b1 (startsL n L')) (t2:Touch (fun k=>k=b2) w1 w2) (v2:Vec w2 p2 b2 (endsL n L')) {z:Int} (hz:z=L'.length):
  Ext (w2.setCell ⟨m,2,none⟩ (.int .i64 z)) m p1 b1 p2 b2 n L'/\Touch (mine m b1 b2) w (w2.setCell ⟨m,2,none⟩ (.int .i64 z)):=by
 have t3:Touch (fun k=>k=m) w2 (w2.setCell ⟨m,2,none⟩ (.int .i64 z)):=(Touch.refl (fun k=>k=m) w2).setCell (a:=⟨m,2,none⟩) (fun _=>rfl) _
 obtain ⟨a1,a2,a3,a4⟩:=hE.am
 obtain ⟨a5,a6,a7⟩:=hE.ab
 have hm1:m<w1.heap.size:=Nat.lt_of_lt_of_le hE.hm t1.size
 have hm2:m<w2.heap.size:=Nat.lt_of_lt_of_le hm1 t2.size
 have e:∀ o,w2.cell? ⟨m,o,none⟩=w.cell? ⟨m,o,none⟩:=fun o=>(t2.cell hm1 (by omega) o).trans (t1.cell hE.hm (by omega) o)
 have o:∀ o,o≠2->(w2.setCell ⟨m,2,none⟩ (.int .i64 z)).cell? ⟨m,o,none⟩=w.cell? ⟨m,o,none⟩:=fun o ho=>by
  rw [World.cell?_setCell_other (h:=by intro e2;injection e2 with _ e3;omega),e o]
 refine ⟨⟨hg,(v1.touch t2 (by omega) (by omega)).touch t3 (by omega) (by omega),v2.touch t3 (by omega) (by omega),by simpa [World.setCell] using hm2,(o 0 (by omega)).trans hE.c0,(o 1 (by omega)).trans hE.c1,?_,?_,hE.am,hE.ab⟩,?_⟩
 ·rw [hz];exact World.cell?_setCell_same (h:=(e 2).trans hE.c2) ..
 ·rw [World.frozen?_setCell,t2.frozen hm1 (by omega),t1.frozen hE.hm (by omega)];exact hE.fr
 ·exact ((t1.mono (fun k _ h=>.inr (.inl h))).trans (t2.mono (fun k _ h=>.inr (.inr h)))).trans (t3.mono (fun k _ h=>.inl h))
def AddEnd (w:World) (m p1 b1 p2 b2 n:Nat) (L:List Ob) (s z:Int) (e:Ending) (w':World):Prop:=
 e=.returned (.int .i64 (addE L n s z))/\Touch (mine m b1 b2) w w'/\Ext w' m p1 b1 p2 b2 n (addL L n s z)
theorem addEnd_no (hE:Ext w m p1 b1 p2 b2 n L) {s z c:Int} (h:addE L n s z=c) (hc:c≠0):AddEnd w m p1 b1 p2 b2 n L s z (.returned (.int .i64 c)) w:=by
 refine ⟨by rw [h],Touch.refl _ _,?_⟩
 unfold addL
 rw [if_neg (by rw [h];exact hc)]
 exact hE
set_option maxRecDepth 100000 in
set_option maxHeartbeats 3200000 in
theorem ext_add (hE:Ext w m p1 b1 p2 b2 n L) (hT:TabAt w) (s z:Int):
  Calls Tryz.prog 293 #[.pointer (some ⟨m,0,none⟩),.int .i64 s,.int .i64 z] w (AddEnd w m p1 b1 p2 b2 n L s z):=by
 have hb:=hE.nb
 have HE:=hid hE
 have HT:=hid hT
 by_cases h0:z<1
 ·have d0:decide (z<1)=true:=by simp [h0]
  have HR:=hid (addEnd_no hE (s:=s) (z:=z) (c:=15) (by unfold addE;rw [if_pos h0]) (by decide))
  clear hE hT
  go_enter Tryz.func293,Tryz.ntmps293
  go_wp2_with (go_at_call 271;refine (ext_none HE.out).mono ?_;rintro e w' ⟨rfl,rfl⟩)
  go_ret
  exact HR.out
 ·have d0:decide (z<1)=false:=by simp;omega
  by_cases h1:s<0
  ·have d1:decide (s<0)=true:=by simp [h1]
   have HR:=hid (addEnd_no hE (s:=s) (z:=z) (c:=11) (by unfold addE;rw [if_neg h0,if_pos (.inl h1)]) (by decide))
   clear hE hT
   go_enter Tryz.func293,Tryz.ntmps293
   go_wp2_with (go_at_call 271;refine (ext_none HE.out).mono ?_;rintro e w' ⟨rfl,rfl⟩)
   go_ret
   exact HR.out
  ·have d1:decide (s<0)=false:=by simp;omega
   by_cases h2:(n:Int)<=s
   ·have d2:decide ((n:Int)<=s)=true:=by simp [h2]
    have HR:=hid (addEnd_no hE (s:=s) (z:=z) (c:=11) (by unfold addE;rw [if_neg h0,if_pos (.inr (.inl h2))]) (by decide))
    clear hE hT
    go_enter Tryz.func293,Tryz.ntmps293
    go_wp2_with (first
     | (go_at_call 271;refine (ext_none HE.out).mono ?_;rintro e w' ⟨rfl,rfl⟩)
     | (go_at_call 187;refine (ext_words HE.out).mono ?_;rintro e w' ⟨rfl,rfl⟩))
    go_ret
    exact HR.out
   ·have d2:decide ((n:Int)<=s)=false:=by simp;omega
    obtain ⟨sn,rfl⟩:∃ k:Nat,s=k:=⟨s.toNat,by omega⟩
    by_cases h3:(n:Int)-sn<z
    ·have d3:decide ((n:Int)-(sn:Int)<z)=true:=by simp;omega
     have HR:=hid (addEnd_no hE (s:=sn) (z:=z) (c:=11) (by unfold addE;rw [if_neg h0,if_pos (.inr (.inr h3))]) (by decide))
     clear hE hT
     go_enter Tryz.func293,Tryz.ntmps293
     go_wp2_with (first
      | (go_at_call 271;refine (ext_none HE.out).mono ?_;rintro e w' ⟨rfl,rfl⟩)
      | (go_at_call 187;refine (ext_words HE.out).mono ?_;rintro e w' ⟨rfl,rfl⟩))
     go_ret
     exact HR.out
    ·have d3:decide ((n:Int)-(sn:Int)<z)=false:=by simp;omega
     obtain ⟨zn,rfl⟩:∃ k:Nat,z=k:=⟨z.toNat,by omega⟩
     have hcl:=clash_find hE.good (s:=(sn:Int)) (z:=(zn:Int)) (by omega)
     have hbn:=obS_bd hE.good hb.2 (nextO L (sn:Int))
     have hsn:((L[nextO L (sn:Int)]?.getD (0,0)).1:Int)=obS L (nextO L (sn:Int)):=rfl
     rw [hsn] at hcl
     obtain ⟨s1,hs1⟩:∃ v,v=obS L (findO L (sn:Int)):=⟨_,rfl⟩
     obtain ⟨z1,hz1⟩:∃ v,v=obZ L (findO L (sn:Int)):=⟨_,rfl⟩
     obtain ⟨f1,hf1⟩:∃ v,v=decide (findO L (sn:Int)<L.length):=⟨_,rfl⟩
     obtain ⟨s2,hs2⟩:∃ v,v=obS L (nextO L (sn:Int)):=⟨_,rfl⟩
     obtain ⟨z2,hz2⟩:∃ v,v=obZ L (nextO L (sn:Int)):=⟨_,rfl⟩
     obtain ⟨f2,hf2⟩:∃ v,v=decide (nextO L (sn:Int)<L.length):=⟨_,rfl⟩
     have HF:Hid (tellO L (findO L (sn:Int))=.tuple #[.int .i64 s1,.int .i64 z1,.bool f1]):=⟨by rw [hs1,hz1,hf1];rfl⟩
     have HN:Hid (tellO L (nextO L (sn:Int))=.tuple #[.int .i64 s2,.int .i64 z2,.bool f2]):=⟨by rw [hs2,hz2,hf2];rfl⟩
     rw [<-hf1,<-hf2,<-hs2] at hcl
     rw [<-hs2,<-hz2] at hbn
     have hzb:zn<=1048576/\sn<=1048576/\sn+zn<=n:=by omega
     have hadd:∀ c,clashB L (sn:Int) (zn:Int)=c->addE L n (sn:Int) (zn:Int)=if c then 7 else 0:=fun c hc=>by
      unfold addE;rw [if_neg h0,if_neg (by omega),hc]
     clear hs1 hz1 hf1 hs2 hz2 hf2 hsn
     cases hc:clashB L (sn:Int) (zn:Int) with
     | true=>
      have HR:=hid (addEnd_no hE (s:=(sn:Int)) (z:=(zn:Int)) (c:=7) (hadd true hc) (by decide))
      rw [hc] at hcl
      clear hE hT hadd hc
      cases f1 with
      | true=>
       clear hcl
       go_enter Tryz.func293,Tryz.ntmps293
       go_wp2_with (first
        | (go_at_call 271;refine (ext_none HE.out).mono ?_;rintro e w' ⟨rfl,rfl⟩)
        | (go_at_call 187;refine (ext_words HE.out).mono ?_;rintro e w' ⟨rfl,rfl⟩)
        | (go_at_call 168;refine (ext_find HE.out HT.out _).mono ?_;rintro e w' ⟨rfl,rfl⟩;rw [HF.out])
        | (go_at_call 290;refine (ext_next HE.out HT.out _).mono ?_;rintro e w' ⟨rfl,rfl⟩;rw [HN.out]))
       go_ret
       exact HR.out
      | false=>
       have hf2:f2=true/\s2<(sn:Int)+zn:=by simpa using hcl.symm
       obtain ⟨rfl,hlt⟩:=hf2
       have d4:decide (s2<(sn:Int)+(zn:Int))=true:=by simp [hlt]
       clear hcl
       go_enter Tryz.func293,Tryz.ntmps293
       go_wp2_with (first
        | (go_at_call 271;refine (ext_none HE.out).mono ?_;rintro e w' ⟨rfl,rfl⟩)
        | (go_at_call 187;refine (ext_words HE.out).mono ?_;rintro e w' ⟨rfl,rfl⟩)
        | (go_at_call 168;refine (ext_find HE.out HT.out _).mono ?_;rintro e w' ⟨rfl,rfl⟩;rw [HF.out])
        | (go_at_call 290;refine (ext_next HE.out HT.out _).mono ?_;rintro e w' ⟨rfl,rfl⟩;rw [HN.out]))
       go_ret
       exact HR.out
     | false=>
      have hap:=add_apart (L:=L) (s:=(sn:Int)) (z:=(zn:Int)) (by omega) (by omega) hc
      simp only [Int.toNat_natCast] at hap
      have hz1:1<=zn:=by omega
      have hgood:=insO_good hE.good (o:=(sn,zn)) hz1 hzb.2.2 hap
      have hst:=starts_ins hE.good (o:=(sn,zn)) hz1 hzb.2.2 hap
      have hen:=ends_ins hE.good (o:=(sn,zn)) hz1 hzb.2.2 hap
      have hlen:=insO_len L (sn,zn)
      have hadd0:addE L n (sn:Int) (zn:Int)=0:=hadd false hc
      have hL:addL L n (sn:Int) (zn:Int)=insO L (sn,zn):=by unfold addL;rw [if_pos hadd0];rfl
      rw [hc] at hcl
      obtain ⟨rfl,hor⟩:f1=false/\(f2=false\/(f2=true/\(sn:Int)+zn<=s2)):=by
       cases f1 with
       | true=>rw [Bool.true_or] at hcl;cases hcl
       | false=>
        refine ⟨rfl,?_⟩
        cases f2 with
        | false=>exact .inl rfl
        | true=>
         right
         rw [Bool.false_or,Bool.true_and] at hcl
         have:=of_decide_eq_false hcl.symm
         exact ⟨rfl,by omega⟩
      obtain ⟨e,he⟩:∃ e,e=sn+zn-1:=⟨_,rfl⟩
      have HIE:Hid ((sn:Int)+(zn:Int)-1=(e:Int)):=⟨by omega⟩
      have hen':endsL n (insO L (sn,zn))=(endsL n L).set e true:=by rw [he];exact hen
      have hst':startsL n (insO L (sn,zn))=(startsL n L).set sn true:=hst
      have K1:Hid (sn<(startsL n L).length):=⟨by rw [startsL_len];omega⟩
      have K2:Hid (e<(endsL n L).length):=⟨by rw [endsL_len];omega⟩
      have KG:=hid hgood
      have KS:=hid hst'
      have KE:=hid hen'
      have KL:=hid (And.intro hlen (And.intro hadd0 hL))
      obtain ⟨a1,a2,a3,a4⟩:=hE.am
      obtain ⟨a5,a6,a7⟩:=hE.ab
      have hmw:=hE.hm
      have cc1:=hE.c1
      have cc2:=hE.c2
      have cfr:=hE.fr
      have cc0:=hE.c0
      have HA:Hid (m≠b1/\m≠b2/\p2≠b1/\b2≠b1):=⟨⟨a2,a4,a6,fun h=>a7 h.symm⟩⟩
      have hLn:=hE.good.len
      clear hE hT hadd hc hcl hap hgood hst hen hen' hst' hlen hadd0 hL he a1 a2 a3 a4 a5 a6 a7
      rcases hor with rfl | ⟨rfl,hge⟩
      all_goals try have d4:decide (s2<(sn:Int)+(zn:Int))=false:=by simp;omega
      all_goals
       go_enter Tryz.func293,Tryz.ntmps293
       go_wp2_with (first
        | (go_at_call 271;refine (ext_none HE.out).mono ?_;rintro e w' ⟨rfl,rfl⟩)
        | (go_at_call 187;refine (ext_words HE.out).mono ?_;rintro e w' ⟨rfl,rfl⟩)
        | (go_at_call 168;refine (ext_find HE.out HT.out _).mono ?_;rintro e w' ⟨rfl,rfl⟩;rw [HF.out])
        | (go_at_call 290;refine (ext_next HE.out HT.out _).mono ?_;rintro e w' ⟨rfl,rfl⟩;rw [HN.out])
        | (go_at_call 348;rw [HIE.out];refine (set_in (HE.out.v2.touch HT1.out HA.out.2.2.1 HA.out.2.2.2) e K2.out).mono ?_;rintro e' w2 ⟨rfl,ht2,hv2⟩;rw [<-KE.out] at hv2;have e2:=(ht2.cell HM1.out HA.out.2.1 2).trans e12;have ef:=(ht2.frozen HM1.out HA.out.2.1 2).trans ef1;have HT2:=hid ht2;have HV2:=hid hv2;clear ht2 hv2)
        | (go_at_call 348;refine (set_in HE.out.v1 sn K1.out).mono ?_;rintro e' w1 ⟨rfl,ht1,hv1⟩;rw [<-KS.out] at hv1;have e11:=(ht1.cell hmw HA.out.1 1).trans cc1;have e12:=(ht1.cell hmw HA.out.1 2).trans cc2;have ef1:=(ht1.frozen hmw HA.out.1 2).trans cfr;have HT1:=hid ht1;have HV1:=hid hv1;have HM1:=hid (Nat.lt_of_lt_of_le hmw ht1.size);clear ht1 hv1))
       go_ret
       have hch:=HE.out.changed KG.out HT1.out HV1.out HT2.out HV2.out (z:=((L.length:Int)+1)) (by rw [KL.out.1];push_cast;rfl)
       exact ⟨by rw [KL.out.2.1];rfl,hch.2,by rw [KL.out.2.2];exact hch.1⟩
theorem none_raw {w:World} {m p:Nat} (c0:w.cell? ⟨m,0,none⟩=some (.pointer (some ⟨p,0,none⟩))):Calls Tryz.prog 271 #[.pointer (some ⟨m,0,none⟩)] w fun e w'=>e=.returned (.bool false)/\w=w':=by
 go_enter Tryz.func271,Tryz.ntmps271
 go_wp2
 go_ret
 exact ⟨rfl,rfl⟩
theorem words_raw {w:World} {m p b n:Nat} {l:List Bool} (c0:w.cell? ⟨m,0,none⟩=some (.pointer (some ⟨p,0,none⟩))) (hV:Vec w p b l) (hl:l.length=n):
  Calls Tryz.prog 187 #[.pointer (some ⟨m,0,none⟩)] w fun e w'=>e=.returned (.int .i64 n)/\w=w':=by
 have HL:=hid hl
 have HV:=hid hV
 clear hl hV
 go_enter Tryz.func187,Tryz.ntmps187
 go_wp2_with (first
  | (go_at_call 271;refine (none_raw c0).mono ?_;rintro e w' ⟨rfl,rfl⟩)
  | (go_at_call 278;refine (len_vec HV.out).mono ?_;rintro e w' ⟨rfl,rfl⟩;rw [HL.out]))
 go_ret
 exact ⟨rfl,rfl⟩
theorem lay_all_off (l:List Bool) (n:Nat) (h:l.length=n):layL l 0 n false=List.replicate n false:=
 ext_at (by rw [layL_length,h];simp) (fun i hi=>by
  rw [layL_length] at hi
  rw [layL_at _ _ _ _ _ hi,if_pos (by omega)]
  simp [at_,List.getD_eq_getElem?_getD,List.getElem?_replicate];split <;> rfl)
def WipeEnd (w:World) (m p1 b1 p2 b2 n:Nat) (e:Ending) (w':World):Prop:=e=.returned (.tuple #[])/\Touch (mine m b1 b2) w w'/\Ext w' m p1 b1 p2 b2 n []
set_option maxRecDepth 100000 in
set_option maxHeartbeats 1600000 in
theorem ext_wipe (hE:Ext w m p1 b1 p2 b2 n L):
  Calls Tryz.prog 189 #[.pointer (some ⟨m,0,none⟩)] w (WipeEnd w m p1 b1 p2 b2 n):=by
 have hb:=hE.nb
 have HE:=hid hE
 have cc0:=hE.c0
 have cc1:=hE.c1
 have cc2:=hE.c2
 have cfr:=hE.fr
 obtain ⟨a1,a2,a3,a4⟩:=hE.am
 obtain ⟨a5,a6,a7⟩:=hE.ab
 have hmw:=hE.hm
 have HA:Hid (m≠b1/\m≠b2/\p2≠b1/\b2≠b1):=⟨⟨a2,a4,a6,fun h=>a7 h.symm⟩⟩
 have KS:Hid (layL (startsL n L) 0 (n:Int) false=startsL n []):=⟨by rw [lay_all_off _ n (startsL_len ..),starts_nil]⟩
 have KE:Hid (layL (endsL n L) 0 (n:Int) false=endsL n []):=⟨by rw [lay_all_off _ n (endsL_len ..),ends_nil]⟩
 clear hE a1 a2 a3 a4 a5 a6 a7
 go_enter Tryz.func189,Tryz.ntmps189
 go_upto_region 1 with (go_at_call 271;refine (ext_none HE.out).mono ?_;rintro e w' ⟨rfl,rfl⟩)
 obtain ⟨S,hS⟩:∃ S:World->Prop,S=fun W'=>W'.cell? ⟨m,0,none⟩=some (.pointer (some ⟨p1,0,none⟩)):=⟨_,rfl⟩
 have x0:∀ p:Held S,p.w.cell? ⟨m,0,none⟩=some (.pointer (some ⟨p1,0,none⟩)):=fun p=>Held.get hS p
 have hS0:S w.drew:=by rw [hS];exact cc0
 have inst:Inhabited (Held S):=⟨⟨_,hS0⟩⟩
 clear hS
 refine wp_region_mixS S 6 [([0,1,2,3,4],5),([],6)] [] (by kernel_rfl) (by kernel_rfl) hS0 ?_
 refine segs_step ?_
 simp only [opsAt,List.getElem?_cons_zero,List.getElem?_cons_succ]
 repeat (go_big_quiet_step (fail))
 refine wpQuiet_nil ?_
 go_wp2_with (go_at_call 187;refine (ext_words (HE.out.gr (Gr.refl w).drew)).mono ?_;rintro e w' ⟨rfl,rfl⟩)
 refine ⟨.inr (Held.of hS0),?_⟩
 refine segs_step ?_
 simp only [opsAt,List.getElem?_cons_zero,List.getElem?_cons_succ]
 refine wpQuiet_nil ?_
 go_wp2_with (go_at_call 279;refine (wipe_vec (HE.out.v1.gr (Gr.refl w).drew) 0 (n:Int) (by decide)).mono ?_;rintro e' w1 ⟨rfl,ht1,hv1⟩;rw [KS.out] at hv1;have hg0:=((Gr.refl w).drew.touch (fun k=>k=b1)).trans ht1;have e11:=(hg0.cell hmw HA.out.1 1).trans cc1;have e12:=(hg0.cell hmw HA.out.1 2).trans cc2;have e10:=(hg0.cell hmw HA.out.1 0).trans cc0;have ef1:=(hg0.frozen hmw HA.out.1 2).trans cfr;have HT1:=hid hg0;have HV1:=hid hv1;have HM1:=hid (Nat.lt_of_lt_of_le hmw hg0.size);clear ht1 hv1 hg0)
 refine ⟨.inl trivial,?_⟩
 refine segs_end ?_
 refine wpQuiet_nil ?_
 refine NoPanic.normal ?_
 clear x0 hS0 inst
 clear S
 go_upto_region 2 with (fail)
 obtain ⟨S,hS⟩:∃ S:World->Prop,S=fun W'=>W'.cell? ⟨m,1,none⟩=some (.pointer (some ⟨p2,0,none⟩)):=⟨_,rfl⟩
 have x0:∀ p:Held S,p.w.cell? ⟨m,1,none⟩=some (.pointer (some ⟨p2,0,none⟩)):=fun p=>Held.get hS p
 have hS0:S w1.drew:=by rw [hS];exact e11
 have inst:Inhabited (Held S):=⟨⟨_,hS0⟩⟩
 clear hS
 refine wp_region_mixS S 6 [([0,1,2,3,4],5),([],6)] [] (by kernel_rfl) (by kernel_rfl) hS0 ?_
 refine segs_step ?_
 simp only [opsAt,List.getElem?_cons_zero,List.getElem?_cons_succ]
 repeat (go_big_quiet_step (fail))
 refine wpQuiet_nil ?_
 go_wp2_with (go_at_call 187;refine (words_raw (w:=w1.drew) e10 (HV1.out.gr (Gr.refl w1).drew) (startsL_len n [])).mono ?_;rintro e w' ⟨rfl,rfl⟩)
 refine ⟨.inr (Held.of hS0),?_⟩
 refine segs_step ?_
 simp only [opsAt,List.getElem?_cons_zero,List.getElem?_cons_succ]
 refine wpQuiet_nil ?_
 go_wp2_with (go_at_call 279;refine (wipe_vec ((HE.out.v2.touch HT1.out HA.out.2.2.1 HA.out.2.2.2).gr (Gr.refl w1).drew) 0 (n:Int) (by decide)).mono ?_;rintro e' w2 ⟨rfl,ht2,hv2⟩;rw [KE.out] at hv2;have hg0:=((Gr.refl w1).drew.touch (fun k=>k=b2)).trans ht2;have e2:=(hg0.cell HM1.out HA.out.2.1 2).trans e12;have ef:=(hg0.frozen HM1.out HA.out.2.1 2).trans ef1;have HT2:=hid hg0;have HV2:=hid hv2;clear ht2 hv2 hg0)
 refine ⟨.inl trivial,?_⟩
 refine segs_end ?_
 refine wpQuiet_nil ?_
 refine NoPanic.normal ?_
 clear x0 hS0 inst
 clear S
 go_wp2
 refine bodyPost_end (results_none rfl _ _ _) rfl ?_
 have hch:=HE.out.changed (Good.nil n) HT1.out HV1.out HT2.out HV2.out (z:=0) rfl
 exact ⟨rfl,hch.2,hch.1⟩
def NewExt (w:World) (n:Nat) (e:Ending) (w':World):Prop:=
 ∃ m p1 b1 p2 b2,e=.returned (.tuple #[.pointer (some ⟨m,0,none⟩),.int .i64 0])/\Gr w w'/\Ext w' m p1 b1 p2 b2 n []/\w.heap.size<=m/\w.heap.size<=p1/\w.heap.size<=b1/\w.heap.size<=p2/\w.heap.size<=b2
set_option maxRecDepth 100000 in
set_option maxHeartbeats 800000 in
theorem ext_new (n:Nat) (h1:1<=n) (h2:n<=1048576) (w:World):Calls Tryz.prog 89 #[.int .i64 n] w (NewExt w n):=by
 have HN:=hid (And.intro h1 h2)
 clear h1 h2
 go_enter Tryz.func89,Tryz.ntmps89
 go_wp2_with (first
  | (go_at_call 186;refine (new_vec n HN.out.1 HN.out.2 w1).mono ?_;rintro e w2 ⟨p2,b2,rfl,hg2,hV2,hp2,hb2⟩)
  | (go_at_call 186;refine (new_vec n HN.out.1 HN.out.2 _).mono ?_;rintro e w1 ⟨p1,b1,rfl,hg1,hV1,hp1,hb1⟩))
 go_ret2
 have hV1':=hV1.gr hg2
 have s1:=hV1.hp
 have s2:=hV1.hb
 have s3:=hV2.hp
 have s4:=hV2.hb
 have sg1:=hg1.size
 have sg2:=hg2.size
 refine ⟨_,p1,b1,p2,b2,ret2 rfl rfl,(hg1.trans hg2).alloc _,⟨Good.nil n,?_,?_,by simp,World.cell?_alloc_new ..,World.cell?_alloc_new ..,World.cell?_alloc_new ..,World.frozen?_alloc_new ..,by omega,by omega⟩,by omega,by omega,by omega,by omega,by omega⟩
 ·rw [starts_nil];exact hV1'.gr ((Gr.refl _).alloc _)
 ·rw [ends_nil];exact hV2.gr ((Gr.refl _).alloc _)
end
end Go.Proofs.YthgdadohijgleaaGreatDoor
end
section
namespace Go.Proofs.YthgdadohijgleaaGreatDoor
open Go.RowKit Go.Shelf Word
attribute [local go_sem] Oper.semAt_some
def OnesInv (box p b N:Nat) (s:List Bool × Nat) (W:World):Prop:=
 Vec W p b s.1/\s.1.length=N/\TabAt W/\W.cell? ⟨box,0,none⟩=some (.pointer (some ⟨p,0,none⟩))/\s.2<=N
def OnesGives (s:List Bool × Nat) (x:Nat):Prop:=x=nextL s.1 s.2/\nextL s.1 s.2<s.1.length
def OnesNext (_:List Bool × Nat) (x:Nat) (s':List Bool × Nat):Prop:=s'.2=x+1
theorem next_at {l:List Bool} {a:Int} (h:nextL l a<l.length):at_ l (nextL l a)=true/\a<=(nextL l a:Nat):=by
 have:=first_at (fun i=>at_ l i&&decide (a<=(i:Nat))) l.length h
 simp only [Bool.and_eq_true,decide_eq_true_eq] at this
 exact this
theorem next_ge {l:List Bool} {a:Int} (h:nextL l a<l.length):a<=(nextL l a:Nat):=(next_at h).2
def okOf:Value->Bool
 | .bool b=>b
 | _=>false
def OnesFin (s:List Bool × Nat):Prop:=¬ nextL s.1 s.2<s.1.length
set_option maxRecDepth 100000 in
set_option maxHeartbeats 1600000 in
theorem ones_seq (n:Nat) (box p b N:Nat) (l0:List Bool) (w:World):
  SeqS Fence.wide n Tryz.prog 349 #[.pointer (some ⟨box,0,none⟩)] (fun x:Nat=>#[.int .i64 (x:Int)]) (OnesInv box p b N) OnesGives OnesNext OnesFin (l0,0) w:=by
 intro l J Jx W hg hJ hJx hI hY h0
 refine callsIn_of_wp Tryz.func349 rfl trivial ?_ rfl
 have hi0:=hI _ _ h0
 have c0:=hi0.2.2.2.1
 have HI0:=hid hi0
 clear hi0
 simp only [Tryz.ntmps349,List.size_toArray,List.length_cons,List.length_nil,Nat.reduceAdd,Nat.reduceSub,Array.replicate_succ,Array.replicate_zero,List.push_toArray,List.append_toArray,List.nil_append,List.cons_append]
 gi_wp2_with (refine ⟨trivial,fun h=>Bool.noConfusion h,?_⟩;gi_at_call 330;refine (callsIn_wide.2 (next_vec HI0.out.1 HI0.out.2.2.1 _)).mono ?_;rintro e w1 ⟨rfl,rfl⟩)
 gi_loopw [3,4] (fun x3 x4 wr=>∃ s:List Bool × Nat,J s wr/\x3=.int .i64 (valN s.1.length (nextL s.1 s.2))/\x4=.bool (decide (nextL s.1 s.2<s.1.length))) (fun x3 x4 _=>if okOf x4 then N-(intOf x3).toNat+1 else 0)
 case atStart=>exact ⟨(l0,0),h0,rfl,rfl⟩
 case round=>
  obtain ⟨s,hs,rfl,rfl⟩:=hrel
  have hi:=hI _ _ hs
  have c1:=hi.2.2.2.1
  have HI:=hid hi
  clear hi
  by_cases hlt:nextL s.1 s.2<s.1.length
  ·obtain ⟨x,hx⟩:∃ x,x=nextL s.1 s.2:=⟨_,rfl⟩
   obtain ⟨fn,tmps,assign,body,hy,hR⟩:=hY s x wr hs ⟨hx,hlt⟩
   have e1:valN s.1.length (nextL s.1 s.2)=(x:Int):=by rw [hx];exact valN_yes hlt
   have e2:decide (nextL s.1 s.2<s.1.length)=true:=by simp [hlt]
   rw [e1,e2]
   have hxN:x<N:=by rw [<-HI.out.2.1,hx];exact hlt
   have HN:=hid hI
   have HX:=hid hx
   clear hx e1 e2 hI
   gi_wp2
   refine ⟨fun h=>Bool.noConfusion h,hR.mono ?_⟩
   rintro e W3 (⟨rfl,s',hn',hJ'⟩ | ⟨rfl,hx'⟩)
   ·have hi':=HN.out _ _ hJ'
    have c3:=hi'.2.2.2.1
    have HI':=hid hi'
    have hn2:s'.2=x+1:=hn'
    have hN2:(N:Int)<=1048576:=by have:=hi'.1.n2;have:=hi'.2.1;omega
    have hx2:(x:Int)<N:=by omega
    have HS':=hid hn2
    clear hi' hn2 hn'
    gi_wp2_with (refine ⟨trivial,fun h=>Bool.noConfusion h,?_⟩;gi_at_call 330;refine (callsIn_wide.2 (next_vec HI'.out.1 HI'.out.2.2.1 ((x:Int)+1))).mono ?_;rintro e w1 ⟨rfl,rfl⟩)
    go_roundw
    case rel=>exact ⟨s',hJ',by rw [HS'.out];rfl,by rw [HS'.out];rfl⟩
    case measure=>
     have e0:okOf (Value.bool true)=true:=rfl
     rw [if_pos e0]
     by_cases h:nextL s'.1 ((x:Int)+1)<s'.1.length
     ·have hge:=next_ge h
      have h2:=HI'.out.2.1
      rw [valN_yes h,if_pos (by simp [okOf,h])]
      simp only [intOf]
      omega
     ·rw [if_neg (by simp [okOf];omega)]
      omega
   ·gi_wp2
    go_end0
    exact ⟨⟨_,rfl⟩,.inr hx'⟩
  ·have e1:valN s.1.length (nextL s.1 s.2)=0:=valN_no hlt
   have e2:decide (nextL s.1 s.2<s.1.length)=false:=by simp;omega
   rw [e1,e2]
   gi_wp2
   refine ⟨fun _ h=>(by cases h),?_⟩
   gi_wp2
   go_end0
   exact ⟨⟨_,rfl⟩,.inl ⟨s,hlt,hs⟩⟩
theorem ones_call {w:World} (q:Option Addr):
  Calls Tryz.prog 295 #[.pointer q] w fun e w'=>e=.returned (.func (.func 349) #[] #[.pointer (some ⟨w.heap.size,0,none⟩)])/\w'=w.alloc (.cells #[.pointer q] 259):=by
 have hmf:∀ (fn:Fn) (first cap:Array Value) (w:World),(Instr.makeFunc fn first cap).run Tryz.prog w=.ok (.func fn first cap) w:=fun _ _ _ _=>rfl
 go_enter Tryz.func295,Tryz.ntmps295
 go_wp2
 go_ret
 exact ⟨rfl,rfl⟩
end Go.Proofs.YthgdadohijgleaaGreatDoor
end
section
namespace Go.Proofs.YthgdadohijgleaaGreatDoor
open Go.RowKit Go.Shelf Word
attribute [local go_sem] Oper.semAt_some
def AllInv (box m p1 b1 p2 b2 n:Nat) (L:List Ob) (j:Nat) (W:World):Prop:=
 Ext W m p1 b1 p2 b2 n L/\TabAt W/\W.cell? ⟨box,0,none⟩=some (.pointer (some ⟨m,0,none⟩))/\j<=L.length
def AllGives (L:List Ob) (j:Nat) (x:Ob):Prop:=L[j]?=some x
def encO (x:Ob):Array Value:=#[.int .i64 (x.1:Nat),.int .i64 (x.2:Nat)]
theorem next_succ_ob {n:Nat} {L:List Ob} (h:Good n L) {j:Nat} (hj:j<L.length):nextO L ((L[j].1:Int)+1)=j+1:=by
 refine nextO_eq (by omega) (fun i hi hij=>?_) (fun h2=>?_)
 ·rcases Nat.lt_or_ge i j with h1 | h1
  ·have:=h.at hi hj h1;omega
  ·have:i=j:=by omega
   subst this;omega
 ·have:=h.at hj h2 (Nat.lt_succ_self j);have:=h.sz _ (List.getElem_mem hj);omega
theorem yieldAt_wide {m m' l l2:Nat} {P:Program} {args:Array Value} {W:World} {R:Ending->World->Prop} (h:YieldAt Fence.wide m P l args W R):YieldAt (Fence.wide.inRound l2) m' P l args W R:=by
 obtain ⟨fn,tmps,assign,body,hy,hR⟩:=h
 exact ⟨fn,tmps,assign,body,hy,hR.1,fun c cs _=>hR.2 c cs (room_wide _)⟩
structure InAll (n:Nat) (L:List Ob) (J:Nat->World->Prop) (B0 B1 p1:Nat) (y:Value) (s:List Bool × Nat) (A:World):Prop where
 st:s.1=startsL n L
 ps:s.2<=n
 j:∃ j,J j A/\nextO L (s.2:Int)=j
 y:A.cell? ⟨B0,0,none⟩=some y
 v:A.cell? ⟨B1,0,none⟩=some (.pointer (some ⟨p1,0,none⟩))
set_option maxRecDepth 100000 in
set_option maxHeartbeats 3200000 in
theorem all_seq (n':Nat) (box m p1 b1 p2 b2 n:Nat) (L:List Ob) (w:World):
  SeqT Fence.wide n' Tryz.prog 294 #[.pointer (some ⟨box,0,none⟩)] encO (AllInv box m p1 b1 p2 b2 n L) (AllGives L) (fun j _ j'=>j'=j+1) (fun j=>j=L.length) 0 w:=by
 intro l J Jx W hg hJ hJx hI hY h0
 refine callsIn_wide.2 ((callsIn_wide (n:=5)).1 ?_)
 refine callsIn_of_wp_marks Tryz.func294 rfl trivial ?_ rfl
 have hi0:=hI _ _ h0
 have c0:=hi0.2.2.1
 have k0:=hi0.1.c0
 have HI0:=hid hi0
 have HJ0:=hid h0
 have HII:=hid hI
 clear hi0 h0 hI
 simp only [Tryz.ntmps294,List.size_toArray,List.length_cons,List.length_nil,Nat.reduceAdd,Nat.reduceSub,Array.replicate_succ,Array.replicate_zero,List.push_toArray,List.append_toArray,List.nil_append,List.cons_append]
 have hbox:box<W.heap.size:=lt_cell c0
 have hmw:=HI0.out.1.hm
 gi_wp2_with (first
  | (refine ⟨trivial,?_⟩;gi_at_call 271;refine (callsIn_wide.2 (ext_none (HI0.out.1.gr ((Gr.refl W).alloc _)))).mono ?_;rintro e w1 ⟨rfl,rfl⟩)
  | (refine ⟨trivial,?_⟩;gi_at_call 295;refine (callsIn_wide.2 (ones_call (some ⟨p1,0,none⟩))).mono ?_;rintro e w1 ⟨rfl,rfl⟩))
 obtain ⟨W0,hW0⟩:∃ W0,W0=(W.alloc (.cells #[.func (.yield l) #[] #[]] 254)).alloc (.cells #[.pointer (some ⟨p1,0,none⟩)] 259):=⟨_,rfl⟩
 have hg0:Gr W W0:=by rw [hW0];exact ((Gr.refl W).alloc _).alloc _
 have hsz0:W0.heap.size=W.heap.size+2:=by rw [hW0];simp
 have bY:W0.cell? ⟨W.heap.size,0,none⟩=some (.func (.yield l) #[] #[]):=by rw [hW0];exact ((Boxed.new W _ _).alloc _).cell
 have bV:W0.cell? ⟨W.heap.size+1,0,none⟩=some (.pointer (some ⟨p1,0,none⟩)):=by
  rw [hW0]
  have:=Boxed.new (W.alloc (.cells #[.func (.yield l) #[] #[]] 254)) 259 (.pointer (some ⟨p1,0,none⟩))
  rw [World.size_alloc] at this
  exact this.cell
 rw [<-hW0]
 have hgood:=HI0.out.1.good
 have hnb:=HI0.out.1.nb
 have hJ00:J 0 W0:=hJ _ _ _ HJ0.out (hg0.touch _)
 have HH0:=hid hW0
 clear hW0 c0 k0
 have hn0:nextO L ((0:Nat):Int)=0:=nextO_eq (Nat.zero_le _) (fun i hi h=>by omega) (fun h=>by omega)
 have tI:∀ s A B,InAll n L J W.heap.size (W.heap.size+1) p1 (.func (.yield l) #[] #[]) s A->Touch (fun k=>W0.heap.size<=k) A B->InAll n L J W.heap.size (W.heap.size+1) p1 (.func (.yield l) #[] #[]) s B:=fun s A B h t=>
  ⟨h.st,h.ps,by obtain ⟨j,hj,e⟩:=h.j;exact ⟨j,hJ _ _ _ hj (t.mono (fun k _ h=>by omega)),e⟩,(t.cell (lt_cell h.y) (by show ¬ W0.heap.size<=W.heap.size;omega) 0).trans h.y,(t.cell (lt_cell h.v) (by show ¬ W0.heap.size<=W.heap.size+1;omega) 0).trans h.v⟩
 refine range_lawT (s0:=(startsL n L,0)) rfl (by omega) (gf:=349) (lb:=#[.pointer (some ⟨W.heap.size+1,0,none⟩)]) rfl trivial (enters_of Tryz.func349 (by kernel_rfl) rfl)
  (ones_seq _ (W.heap.size+1) p1 b1 n (startsL n L) _).toT (fun _=>rfl)
  (InAll n L J W.heap.size (W.heap.size+1) p1 (.func (.yield l) #[] #[])) (fun c A=>c=.ret/\Jx A) tI (fun c A B h t=>⟨h.1,hJx _ _ h.2 (t.mono (fun k _ h=>by omega))⟩)
  (fun s A h=>by
   obtain ⟨j,hj,-⟩:=h.j
   have hi:=HII.out _ _ hj
   exact ⟨by rw [h.st];exact hi.1.v1,by rw [h.st,startsL_len],hi.2.1,h.v,h.ps⟩)
  ⟨rfl,Nat.zero_le _,⟨0,hJ00,hn0⟩,bY,bV⟩ ?round ?done ?stop
 case round=>
  intro lp s x W3 hsz3 hI3 hgv
  gi_wp2
  refine ⟨Gr.refl _,fun W4 ht4 hI4=>?_⟩
  obtain ⟨hst,hps,⟨j,hj,hnx⟩,hy,hv⟩:=hI4
  obtain ⟨hx,hlt⟩:=hgv
  have hi4:=HII.out _ _ hj
  rw [hst] at hx hlt
  have hjl:j<L.length:=by
   rcases Nat.lt_or_ge j L.length with h | h
   ·exact h
   ·have:=next_start_no hgood (a:=(s.2:Int)) (by rw [hnx];omega)
    omega
  have hxj:x=L[j].1:=by
   have:=(next_start_yes hgood (a:=(s.2:Int)) (by rw [hnx];exact hjl)).1
   rw [hx,this];congr 2
  subst hxj
  have hJd:J j W4.drew:=hJ _ _ _ hj ((Gr.refl W4).drew.touch _)
  have hsz4:W.heap.size<=W4.drew.heap.size:=Nat.le_of_lt (lt_cell hy)
  obtain ⟨fn,tmps,assign,body,hyy,hR⟩:=yieldAt_wide (m':=2) (l2:=lp) (hY j L[j] W4.drew hJd hsz4 (List.getElem?_eq_getElem hjl))
  have HZ:=hid (ext_size (hi4.1.gr (Gr.refl W4).drew) ((Gr.refl W4).drew.tab hi4.2.1.lt hi4.2.1) hjl)
  have cbx:=hi4.2.2.1
  have hbxs:=hsz0
  have HS:=hid (And.intro hst (And.intro hnx hjl))
  clear hst hnx hj hi4 hx hlt hI3
  dsimp only [encO] at hyy
  have hR2:=hR.mono (R':=fun e W'=>∃ bb:Bool,e=.returned (.bool bb)/\((bb=true/\J (j+1) W')\/(bb=false/\Jx W'))/\Touch (fun k=>k<W.heap.size) W4.drew W') (by
   rintro e W' ⟨⟨he,s',rfl,hs'⟩ | ⟨he,hx⟩,ht⟩
   ·exact ⟨true,he,.inl ⟨rfl,hs'⟩,ht⟩
   ·exact ⟨false,he,.inr ⟨rfl,hx⟩,ht⟩)
  clear hR
  gi_wp2
  obtain ⟨Sx,hSx⟩:∃ S:World->Prop,S=fun A=>A.cell? ⟨W.heap.size,0,none⟩=some (.func (.yield l) #[] #[]):=⟨_,rfl⟩
  have x1:∀ p:Held Sx,p.w.cell? ⟨W.heap.size,0,none⟩=some (.func (.yield l) #[] #[]):=fun p=>Held.get hSx p
  have hS0:Sx W4.drew:=by rw [hSx];exact hy
  have HSx:=hid hSx
  clear hSx
  have inst:Inhabited (Held Sx):=⟨⟨_,hS0⟩⟩
  refine wpIn_region_mixS Sx 7 [([0,1,3],2),([],4),([],5)] [6] (fun _=>trivial) (by kernel_rfl) (by kernel_rfl) hS0 ?_
  refine segsIn_step ?_
  simp only [opsAt,List.getElem?_cons_zero,List.getElem?_cons_succ]
  repeat (go_big_quiet_step (fail))
  refine wpQuiet_nil ?_
  gi_wp2
  refine ⟨.inr (Held.of hS0),?_⟩
  refine segsIn_step ?_
  simp only [opsAt,List.getElem?_cons_zero,List.getElem?_cons_succ]
  refine wpQuiet_nil ?_
  gi_wp2_with (refine ⟨trivial,?_⟩;gi_at_call 273;refine (CallsIn.inRound lp (callsIn_wide.2 HZ.out)).mono ?_;rintro e w' ⟨rfl,rfl⟩)
  refine ⟨.inr (Held.of hS0),?_⟩
  refine segsIn_step ?_
  simp only [opsAt,List.getElem?_cons_zero,List.getElem?_cons_succ]
  refine wpQuiet_nil ?_
  gi_wp2
  refine hR2.mono ?_
  rintro e W5 ⟨bb,rfl,hor,ht5⟩
  have hy5:=(ht5.cell (lt_cell hy) (Nat.lt_irrefl _) 0).trans hy
  have hv5:=(ht5.cell (lt_cell hv) (by show ¬ W.heap.size+1<W.heap.size;omega) 0).trans hv
  gi_wp2
  refine ⟨.inr (Held.of (by rw [HSx.out];exact hy5)),?_⟩
  refine segsIn_end ?_
  simp only [opsAt,List.getElem?_cons_zero,List.getElem?_cons_succ]
  repeat (go_big_quiet_step (fail))
  refine wpQuiet_nil ?_
  refine NoPanic.normal ?_
  have T5:=hid (((Gr.refl W4).drew.touch (fun k=>k<W0.heap.size)).trans (ht5.mono (fun k _ h=>by omega)))
  have HSZ:=hid (hgood.sz _ (List.getElem_mem hjl))
  clear x1 hS0 HSx inst hR2 ht5
  clear Sx
  cases bb with
  | true=>
   have hJ5:J (j+1) W5:=by
    rcases hor with ⟨_,h⟩ | ⟨h,_⟩
    ·exact h
    ·cases h
   have HJ5:=hid hJ5
   clear hor hJ5
   gi_wp2
   exact ⟨T5.out,(startsL n L,L[j].1+1),rfl,rfl,by have:=HSZ.out;show L[j].1+1<=n;omega,⟨j+1,HJ5.out,by have:=next_succ_ob hgood hjl;push_cast;exact this⟩,hy5,hv5⟩
  | false=>
   have hJ5:Jx W5:=by
    rcases hor with ⟨h,_⟩ | ⟨_,h⟩
    ·cases h
    ·exact h
   have HJ5:=hid hJ5
   clear hor hJ5
   gi_wp2
   exact ⟨T5.out,rfl,HJ5.out⟩
 case done=>
  rintro D s W3 hD hfin hI3 hK
  obtain ⟨hst,hps,⟨j,hj,hnx⟩,hy,hv⟩:=hI3
  have hjl:¬ j<L.length:=fun h=>by
   have:=next_start_yes hgood (a:=(s.2:Int)) (by rw [hnx];exact h)
   unfold OnesFin at hfin
   rw [hst] at hfin
   exact hfin this.2
  have hje:j=L.length:=by have:=nextO_le L (s.2:Int);omega
  have HE:=hid (And.intro hje hj)
  have HK:=hid hK
  have HD:=hid hD
  clear hst hps hnx hy hv hfin hje hj hK hD hjl
  gi_wp2
  refine ⟨by simp,.inl ⟨_,_,rfl,run_takeDeferred HK.out,?_⟩⟩
  refine ⟨.tuple #[],results_none rfl _ _ _,⟨_,rfl⟩,.inl ⟨j,HE.out.1,hJ _ _ _ HE.out.2 ((touch_putObj W3 D _ (Nat.le_refl D)).mono (fun k _ h=>by have:=HD.out;omega))⟩⟩
 case stop=>
  rintro D c W3 hD ⟨rfl,hx⟩ hK
  have HE:=hid hx
  have HK:=hid hK
  have HD:=hid hD
  clear hx hK hD
  gi_wp2
  refine ⟨by simp,.inl ⟨_,_,rfl,run_takeDeferred HK.out,?_⟩⟩
  refine ⟨.tuple #[],results_none rfl _ _ _,⟨_,rfl⟩,.inr (hJx _ _ HE.out ((touch_putObj W3 D _ (Nat.le_refl D)).mono (fun k _ h=>by have:=HD.out;omega)))⟩
end Go.Proofs.YthgdadohijgleaaGreatDoor
end
section
namespace Go.Proofs.YthgdadohijgleaaGreatDoor
open Go.RowKit Go.Shelf Word
attribute [local go_sem] Oper.semAt_some
theorem all_call {w:World} (q:Option Addr):
  Calls Tryz.prog 203 #[.pointer q] w fun e w'=>e=.returned (.func (.func 294) #[] #[.pointer (some ⟨w.heap.size,0,none⟩)])/\w'=w.alloc (.cells #[.pointer q] 155):=by
 have hmf:∀ (fn:Fn) (first cap:Array Value) (w:World),(Instr.makeFunc fn first cap).run Tryz.prog w=.ok (.func fn first cap) w:=fun _ _ _ _=>rfl
 go_enter Tryz.func203,Tryz.ntmps203
 go_wp2
 go_ret
 exact ⟨rfl,rfl⟩
theorem TabAt.touch' {S:Nat->Prop} {w W:World} (ht:TabAt w) (h:Touch S w W) (hS:¬ S 1):TabAt W:=h.tab ht.lt hS ht
end Go.Proofs.YthgdadohijgleaaGreatDoor
end
section
namespace Go.Proofs.YthgdadohijgleaaGreatDoor
open Go.RowKit Go.Shelf Word
attribute [local go_sem] Oper.semAt_some
end Go.Proofs.YthgdadohijgleaaGreatDoor
end
end
section
section
namespace Go.Proofs.YthgdadohijgleaaGreatDoor
open Go.RowKit Word
def ObjsAt (w:World) (A:Option Addr) (L:List Ob):Prop:=∀ i (h:i<L.length),∃ g,A=some ⟨g,0,none⟩/\g<w.heap.size ∧
 w.cell? ⟨g,i*2,none⟩=some (.int .i64 (L[i].1:Nat))/\w.cell? ⟨g,i*2+1,none⟩=some (.int .i64 (L[i].2:Nat))
theorem ObjsAt.touch {S:Nat->Prop} {w w':World} {A:Option Addr} {L:List Ob} (h:ObjsAt w A L) (t:Touch S w w') (hS:∀ a,A=some a->¬ S a.block):ObjsAt w' A L:=fun i hi=>by
 obtain ⟨g,rfl,h1,h2,h3⟩:=h i hi
 have hn:=hS _ rfl
 exact ⟨g,rfl,Nat.lt_of_lt_of_le h1 t.size,(t.cell h1 hn _).trans h2,(t.cell h1 hn _).trans h3⟩
theorem ObjsAt.gr {w w':World} {A:Option Addr} {L:List Ob} (h:ObjsAt w A L) (t:Gr w w'):ObjsAt w' A L:=h.touch (t.touch (fun _=>False)) (fun _ _ h=>h)
def idxI (L:List Ob) (j:Nat):Int:=if j<L.length then j else -1
set_option maxRecDepth 100000 in
set_option maxHeartbeats 800000 in
theorem ref13_find {w:World} {A:Option Addr} {c:Nat} {L:List Ob} (hA:ObjsAt w A L) {n:Nat} (hg:Good n L) (hn:n<=1048576) (a:Int) (ha:a<=9223372036854775807):
  Gets Tryz.prog 359 #[.slice A L.length c,.int .i64 a] w (.int .i64 (idxI L (findO L a))):=by
 unfold Gets
 have HA:=hid hA
 have HG:=hid hg
 have hlen:=hg.len
 clear hA hg
 go_enter Tryz.func359,Tryz.ntmps359
 go_wp2
 go_loopw [5] (fun i wr=>∃ k:Nat,k<=L.length/\Hid (Gr w wr)/\Hid (∀ i (h:i<L.length),i<k->¬ ((L[i].1:Int)<=a/\a<L[i].1+L[i].2))/\i=.int .i64 k) (fun i _=>L.length-(intOf i).toNat)
 case atStart=>exact ⟨0,by omega,⟨Gr.refl w⟩,⟨fun i _ h=>by omega⟩,rfl⟩
 case round=>
  obtain ⟨k,hk,hgr,hno,rfl⟩:=hrel
  by_cases hlt:k<L.length
  ·obtain ⟨g,rfl,-,q1,q2⟩:=(HA.out.gr hgr.out) k hlt
   have hsz:=HG.out.sz _ (List.getElem_mem hlt)
   obtain ⟨s,hs⟩:∃ s,s=L[k].1:=⟨_,rfl⟩
   obtain ⟨z,hz⟩:∃ z,z=L[k].2:=⟨_,rfl⟩
   rw [<-hs] at q1
   rw [<-hz] at q2
   rw [<-hs,<-hz] at hsz
   by_cases h1:(s:Int)<=a
   ·have d1:decide ((s:Int)<=a)=true:=by simp [h1]
    by_cases h2:a-s<z
    ·have d2:decide (a-(s:Int)<(z:Int))=true:=by simp [h2]
     have E:Hid (findO L a=k):=⟨findO_eq HG.out hlt (by rw [<-hs];exact h1) (by rw [<-hs,<-hz];omega)⟩
     clear hs hz hno
     go_wp2
     go_quiet (fail)
     go_wp2
     go_ret
     exact ⟨ret_int (by rw [E.out];unfold idxI;rw [if_pos hlt]),hgr.out.drewN _⟩
    ·have d2:decide (a-(s:Int)<(z:Int))=false:=by simp;omega
     have HN:Hid (∀ i (h:i<L.length),i<k+1->¬ ((L[i].1:Int)<=a/\a<L[i].1+L[i].2)):=⟨fun i h hi=>by
      rcases Nat.lt_or_ge i k with h3 | h3
      ·exact hno.out i h h3
      ·obtain rfl:i=k:=by omega
       rw [<-hs,<-hz];omega⟩
     clear hs hz hno
     go_wp2
     go_quiet (fail)
     go_wp2
     go_roundw
     case rel=>exact ⟨k+1,by omega,⟨hgr.out.drewN _⟩,HN,by go_num⟩
     case measure=>simp [intOf];omega
   ·have d1:decide ((s:Int)<=a)=false:=by simp;omega
    have HN:Hid (∀ i (h:i<L.length),i<k+1->¬ ((L[i].1:Int)<=a/\a<L[i].1+L[i].2)):=⟨fun i h hi=>by
     rcases Nat.lt_or_ge i k with h3 | h3
     ·exact hno.out i h h3
     ·obtain rfl:i=k:=by omega
      rw [<-hs,<-hz];omega⟩
    clear hs hz hno
    go_wp2
    go_quiet (fail)
    go_wp2
    go_roundw
    case rel=>exact ⟨k+1,by omega,⟨hgr.out.drewN _⟩,HN,by go_num⟩
    case measure=>simp [intOf];omega
  ·have E:Hid (findO L a=L.length):=⟨findO_none (fun o ho=>by
    obtain ⟨i,hi,rfl⟩:=List.getElem_of_mem ho
    exact hno.out i hi (by omega))⟩
   clear hno
   go_wp2
   go_ret
   exact ⟨ret_int (by rw [E.out];unfold idxI;rw [if_neg (Nat.lt_irrefl _)]),hgr.out⟩
end Go.Proofs.YthgdadohijgleaaGreatDoor
end
section
namespace Go.Proofs.YthgdadohijgleaaGreatDoor
open Go.RowKit Word
def flatO (L:List Ob):List Value:=L.flatMap fun o=>[.int .i64 (o.1:Nat),.int .i64 (o.2:Nat)]
theorem flatO_append (L M:List Ob):flatO (L++M)=flatO L++flatO M:=by simp [flatO]
theorem flatO_at {L:List Ob} {i:Nat} (h:i<L.length):(flatO L)[i*2]?=some (.int .i64 (L[i].1:Nat))/\(flatO L)[i*2+1]?=some (.int .i64 (L[i].2:Nat)):=by
 induction L generalizing i with
 | nil=>exact absurd h (Nat.not_lt_zero _)
 | cons o r ih=>
  have e:flatO (o :: r)=.int .i64 (o.1:Nat) :: .int .i64 (o.2:Nat) :: flatO r:=rfl
  rw [e]
  cases i with
  | zero=>exact ⟨rfl,rfl⟩
  | succ i=>
   have:=ih (i:=i) (by simpa using h)
   rw [show (i+1)*2=i*2+1+1 by omega]
   simpa using this
def OwnO (w:World) (base:Nat) (v:Value) (L:List Ob):Prop:=w.ownsRow base 233 2 v L.length (flatO L)
theorem own_objs {w:World} {base:Nat} {v:Value} {L:List Ob} (h:OwnO w base v L):∃ A c,v=.slice A L.length c/\ObjsAt w A L/\∀ a,A=some a->base<=a.block:=by
 by_cases hn:L.length=0
 ·obtain ⟨_,⟨rfl,_⟩ | ⟨g,c,cur,rfl,e2,_⟩⟩:=h
  ·exact ⟨none,0,by rw [hn],fun i hi=>by omega,fun a e=>by cases e⟩
  ·exact ⟨some ⟨g,0,none⟩,c,rfl,fun i hi=>by omega,fun a e=>by cases e;exact e2⟩
 ·obtain ⟨g,c,rfl,h1,_,_,h4⟩:=own_form h hn
  exact ⟨_,c,rfl,fun i hi=>⟨g,rfl,h4,own_cell h (flatO_at hi).1,own_cell h (flatO_at hi).2⟩,fun a e=>by cases e;exact h1⟩
theorem insO_step {M:List Ob} {o x:Ob}:(∃ y∈M,o.1<y.1)->insO (M++[x]) o=insO M o++[x]:=by
 induction M with
 | nil=>rintro ⟨y,h,_⟩;cases h
 | cons q r ih=>
  rintro ⟨y,hy,hl⟩
  show insO (q :: (r++[x])) o=insO (q :: r) o++[x]
  unfold insO
  by_cases h:o.1<q.1
  ·rw [if_pos h,if_pos h];rfl
  ·rw [if_neg h,if_neg h]
   rcases List.mem_cons.1 hy with rfl | hy
   ·exact absurd hl h
   ·rw [ih ⟨y,hy,hl⟩];rfl
theorem insO_last {M:List Ob} {o:Ob} (h:∀ y∈M,¬ o.1<y.1):insO M o=M++[o]:=by
 induction M with
 | nil=>rfl
 | cons q r ih=>
  unfold insO
  rw [if_neg (h q (by simp)),ih (fun y hy=>h y (by simp [hy]))];rfl
theorem insO_here {M:List Ob} {o x:Ob} (h:∀ y∈M,¬ o.1<y.1) (hx:o.1<x.1):insO (M++[x]) o=M++[o]++[x]:=by
 induction M with
 | nil=>show insO [x] o=_;unfold insO;rw [if_pos hx];rfl
 | cons q r ih=>
  show insO (q :: (r++[x])) o=_
  unfold insO
  rw [if_neg (h q (by simp)),ih (fun y hy=>h y (by simp [hy]))];rfl
theorem infoOb:(Tryz.prog.info? 233).map (fun i=>(i.zero,i.size,i.bytes))=some (some (.agg #[.int .i64 0,.int .i64 0]),2,16):=by kernel_rfl
end Go.Proofs.YthgdadohijgleaaGreatDoor
end
section
namespace Go.Proofs.YthgdadohijgleaaGreatDoor
open Go.RowKit Word
theorem OwnO.push {w:World} {base:Nat} {v:Value} {M:List Ob} {o:Ob} (h:w.ownsRow base 233 2 v (M.length+1) (flatO M++[.int .i64 (o.1:Nat),.int .i64 (o.2:Nat)])):OwnO w base v (M++[o]):=by
 unfold OwnO
 rw [flatO_append,List.length_append]
 exact h
theorem OwnO.gr {w w':World} {base:Nat} {v:Value} {M:List Ob} (h:OwnO w base v M) (t:Gr w w'):OwnO w' base v M:=own_gr h t
theorem OwnO.nil (w:World) (base:Nat):OwnO w base (.slice none 0 0) []:=own_nil w base _ _
theorem push_touch {w wr w1:World} {o:Obj} {v:Value} {M:List Ob} (ht:Touch (fun k=>w.heap.size<=k) w wr) (ho:OwnO wr w.heap.size v M) (hg:(wr.alloc o).grownBy w1 v.ownBlock):Touch (fun k=>w.heap.size<=k) w w1:=
 (ht.alloc o).trans (grown_touch hg _ (fun _ e _=>(own_lt ho e).1))
theorem touch_old {w w':World} (h:Touch (fun k=>w.heap.size<=k) w w'):Gr w w':=(h.mono (T:=fun _=>False) (fun k hk h=>by omega)).gr
def BackO (w:World) (A:Option Addr) (L:List Ob) (v:Value) (w':World):Prop:=
 Gr w w'/\∃ A' c,v=.slice A' L.length c/\ObjsAt w' A' L/\∀ a,A'=some a->A=some a\/w.heap.size<=a.block
theorem backO_own {w w':World} {A:Option Addr} {L:List Ob} {v:Value} (ht:Touch (fun k=>w.heap.size<=k) w w') (h:OwnO w' w.heap.size v L):BackO w A L v w':=by
 obtain ⟨A',c,rfl,h1,h2⟩:=own_objs h
 exact ⟨touch_old ht,A',c,rfl,h1,fun a e=>.inr (h2 a e)⟩
end Go.Proofs.YthgdadohijgleaaGreatDoor
end
section
namespace Go.Proofs.YthgdadohijgleaaGreatDoor
open Go.RowKit Word
def addS (L:List Ob) (o:Ob) (k:Nat) (d:Bool) (M:List Ob):Prop:=
 (d=false/\M=L.take k/\∀ y∈L.take k,¬ o.1<y.1)\/(d=true/\M=insO (L.take k) o/\∃ y∈L.take k,o.1<y.1)
theorem addS_len {L:List Ob} {o:Ob} {k:Nat} {d:Bool} {M:List Ob} (h:addS L o k d M):M.length<=L.length+1:=by
 rcases h with ⟨_,rfl,_⟩ | ⟨_,rfl,_⟩
 ·rw [List.length_take];omega
 ·rw [insO_len,List.length_take];omega
theorem addS_here {L:List Ob} {o:Ob} {k:Nat} (hk:k<L.length) {M:List Ob} (h:addS L o k false M) (hl:o.1<L[k].1):addS L o (k+1) true (M++[o]++[L[k]]):=by
 rcases h with ⟨_,rfl,h⟩ | ⟨h,_⟩
 ·refine .inr ⟨rfl,?_,L[k],?_,hl⟩
  ·rw [List.take_succ_eq_append_getElem hk,insO_here h hl]
  ·rw [List.take_succ_eq_append_getElem hk];exact List.mem_append_right _ (List.mem_singleton.2 rfl)
 ·cases h
theorem addS_next {L:List Ob} {o:Ob} {k:Nat} (hk:k<L.length) {M:List Ob} (h:addS L o k false M) (hl:¬ o.1<L[k].1):addS L o (k+1) false (M++[L[k]]):=by
 rcases h with ⟨_,rfl,h⟩ | ⟨h,_⟩
 ·refine .inl ⟨rfl,(List.take_succ_eq_append_getElem hk).symm,fun y hy=>?_⟩
  rw [List.take_succ_eq_append_getElem hk] at hy
  rcases List.mem_append.1 hy with hy | hy
  ·exact h y hy
  ·rw [List.mem_singleton.1 hy];exact hl
 ·cases h
theorem addS_on {L:List Ob} {o:Ob} {k:Nat} (hk:k<L.length) {M:List Ob} (h:addS L o k true M):addS L o (k+1) true (M++[L[k]]):=by
 rcases h with ⟨h,_⟩ | ⟨_,rfl,y,hy,hl⟩
 ·cases h
 ·refine .inr ⟨rfl,?_,y,?_,hl⟩
  ·rw [List.take_succ_eq_append_getElem hk,insO_step ⟨y,hy,hl⟩]
  ·rw [List.take_succ_eq_append_getElem hk];exact List.mem_append_left _ hy
theorem addS_end {L:List Ob} {o:Ob} {M:List Ob} (h:addS L o L.length false M):M++[o]=insO L o:=by
 rcases h with ⟨_,rfl,h⟩ | ⟨h,_⟩
 ·rw [List.take_length] at h ⊢;rw [insO_last h]
 ·cases h
theorem addS_done {L:List Ob} {o:Ob} {M:List Ob} (h:addS L o L.length true M):M=insO L o:=by
 rcases h with ⟨h,_⟩ | ⟨_,rfl,_⟩
 ·cases h
 ·rw [List.take_length]
def AddBack (w:World) (A:Option Addr) (L:List Ob) (n:Nat) (s z:Int) (e:Ending) (w':World):Prop:=
 ∃ v,e=.returned (.tuple #[v,.int .i64 (addE L n s z)])/\BackO w A (addL L n s z) v w'
theorem addBack_no {w w':World} {A:Option Addr} {c:Nat} {L:List Ob} {n:Nat} {s z k:Int} (hA:ObjsAt w A L) (h:addE L n s z=k) (hk:k≠0) (hg:Gr w w'):AddBack w A L n s z (.returned (.tuple #[.slice A L.length c,.int .i64 k])) w':=by
 refine ⟨_,by rw [h],hg,A,c,?_,?_,fun a e=>.inl e⟩
 ·unfold addL;rw [if_neg (by rw [h];exact hk)]
 ·unfold addL;rw [if_neg (by rw [h];exact hk)];exact hA.gr hg
set_option maxRecDepth 100000 in
set_option maxHeartbeats 3200000 in
theorem ref13_add {w:World} {A:Option Addr} {c:Nat} {L:List Ob} (hA:ObjsAt w A L) {n:Nat} (hg:Good n L) (hn:n<=1048576) (s z:Int):
  Calls Tryz.prog 323 #[.slice A L.length c,.int .i64 n,.int .i64 s,.int .i64 z] w (AddBack w A L n s z):=by
 have HA:=hid hA
 have HG:=hid hg
 have hlen:=hg.len
 clear hA hg
 by_cases h0:z<1
 ·have E:Hid (addE L n s z=15):=⟨by unfold addE;rw [if_pos h0]⟩
  go_enter Tryz.func323,Tryz.ntmps323
  go_wp2
  go_ret2
  exact addBack_no HA.out E.out (by decide) (Gr.refl _)
 by_cases h1:s<0\/(n:Int)<=s\/(n:Int)-s<z
 ·have E:Hid (addE L n s z=11):=⟨by unfold addE;rw [if_neg h0,if_pos h1]⟩
  by_cases h2:s<0
  ·clear h1
   go_enter Tryz.func323,Tryz.ntmps323
   go_wp2
   go_ret2
   exact addBack_no HA.out E.out (by decide) (Gr.refl _)
  ·by_cases h3:(n:Int)<=s
   ·clear h1
    go_enter Tryz.func323,Tryz.ntmps323
    go_wp2
    go_ret2
    exact addBack_no HA.out E.out (by decide) (Gr.refl _)
   ·have h4:(n:Int)-s<z:=by omega
    clear h1
    go_enter Tryz.func323,Tryz.ntmps323
    go_wp2
    go_ret2
    exact addBack_no HA.out E.out (by decide) (Gr.refl _)
 ·obtain ⟨s,rfl⟩:∃ q:Nat,s=q:=⟨s.toNat,by omega⟩
  obtain ⟨z,rfl⟩:∃ q:Nat,z=q:=⟨z.toNat,by omega⟩
  have hs:s<n:=by omega
  have hz1:1<=z:=by omega
  have hz2:s+z<=n:=by omega
  have hz3:(z:Int)<=(n:Int)-(s:Int):=by omega
  have hd0:decide ((z:Int)<1)=false:=by simp;omega
  have hd1:decide ((n:Int)-(s:Int)<(z:Int))=false:=by simp;omega
  have hd2:decide ((s:Int)<0)=false:=by simp
  have hd3:decide (n<=s)=false:=by simp;omega
  have EE:Hid (∀ b,clashB L s z=b->addE L n s z=if b then 7 else 0):=⟨fun b hb=>by unfold addE;rw [if_neg h0,if_neg h1,hb]⟩
  clear h0 h1
  obtain ⟨i0,hi,hi0,hi1,hi2⟩:=info_parts infoOb
  go_enter Tryz.func323,Tryz.ntmps323
  go_wp2
  go_loopw [10] (fun s10 wr=>∃ k:Nat,k<=z/\Hid (Gr w wr)/\Hid (∀ o∈L,∀ a:Nat,s<=a->a<s+k->¬ (o.1<=a/\a<o.1+o.2))/\s10=.int .i64 ((s+k:Nat):Int)) (fun s10 _=>1048577-(intOf s10).toNat)
  case atStart=>exact ⟨0,by omega,⟨Gr.refl w⟩,⟨fun o _ a h1 h2=>by omega⟩,rfl⟩
  case round=>
   obtain ⟨k,hk,hgr,hno,rfl⟩:=hrel
   by_cases hlt:k<z
   ·obtain ⟨a,ha⟩:∃ a,a=s+k:=⟨_,rfl⟩
    have hak:a<s+z:=by omega
    rw [<-ha]
    by_cases hf:findO L a<L.length
    ·have E:Hid (addE L n s z=7):=⟨EE.out true (clash_iff.2 ⟨_,List.getElem_mem hf,by have:=findO_yes hf;omega,by have:=findO_yes hf;omega⟩)⟩
     have HD:Hid (idxI L (findO L a)=(findO L a:Nat)):=⟨if_pos hf⟩
     have HA2:=hid (HA.out.gr hgr.out)
     clear hno hf ha
     go_wp2_with (go_at_call 359;refine (ref13_find HA2.out HG.out hn _ (by omega)).mono ?_;rintro e w1 ⟨rfl,hg1⟩;rw [HD.out];have HG1:=hid (hgr.out.trans hg1);clear hg1)
     go_ret2
     exact addBack_no HA.out E.out (by decide) HG1.out
    ·have HD:Hid (idxI L (findO L a) = -1):=⟨if_neg hf⟩
     have HN:Hid (∀ o∈L,∀ a:Nat,s<=a->a<s+(k+1)->¬ (o.1<=a/\a<o.1+o.2)):=⟨fun o ho b h1 h2=>by
      rcases Nat.lt_or_ge b (s+k) with h3 | h3
      ·exact hno.out o ho b h1 h3
      ·obtain rfl:b=a:=by omega
       obtain ⟨i,hi,rfl⟩:=List.getElem_of_mem ho
       have:=findO_no (L:=L) (a:=b) (i:=i) (by have:=findO_le L b;omega) hi
       omega⟩
     have HA2:=hid (HA.out.gr hgr.out)
     have e1:Hid (a+1=s+(k+1)):=⟨by omega⟩
     clear hno hf ha
     go_wp2_with (go_at_call 359;refine (ref13_find HA2.out HG.out hn _ (by omega)).mono ?_;rintro e w1 ⟨rfl,hg1⟩;rw [HD.out];have HG1:=hid (hgr.out.trans hg1);clear hg1)
     go_roundw
     case rel=>exact ⟨k+1,by omega,HG1,HN,vint (by rw [<-e1.out];omega)⟩
     case measure=>simp [intOf];omega
   ·obtain rfl:k=z:=by omega
    have hcl:clashB L s k=false:=by
     cases hc:clashB L s k with
     | false=>rfl
     | true=>
      obtain ⟨o,ho,c1,c2⟩:=clash_iff.1 hc
      have hsz:=HG.out.sz _ ho
      exact absurd ⟨by omega,by omega⟩ (hno.out o ho (max o.1 s) (by omega) (by omega))
    have E:Hid (addE L n s k=0):=⟨EE.out false hcl⟩
    have EL:Hid (addL L n s k=insO L (s,k)):=⟨by unfold addL;rw [if_pos E.out,Int.toNat_natCast,Int.toNat_natCast]⟩
    have HG2:=hid (hgr.out.touch (fun k=>w.heap.size<=k))
    clear hno hcl hgr EE
    rename Nat=>z
    obtain ⟨ez,hez⟩:∃ e:Nat,e=s+z:=⟨_,rfl⟩
    have hd4:decide ((ez:Int)<(s:Int)+(z:Int))=false:=by simp;omega
    rw [<-hez]
    clear hez
    go_wp2
    go_loopw [11,12,13] (fun s11 s12 i w2=>∃ (k:Nat) (d:Bool) (M:List Ob),k<=L.length/\Hid (addS L (s,z) k d M)/\Hid (OwnO w2 w.heap.size s11 M)/\Hid (Touch (fun k=>w.heap.size<=k) w w2)/\s12=.bool d/\i=.int .i64 k) (fun _ _ i _=>L.length-(intOf i).toNat)
    case atStart=>exact ⟨0,false,[],by omega,⟨.inl ⟨rfl,rfl,fun y hy=>by cases hy⟩⟩,⟨OwnO.nil _ _⟩,HG2,rfl,rfl⟩
    case round=>
     obtain ⟨k,d,M,hk,hS,hO,ht,rfl,rfl⟩:=hrel
     have hMl:=addS_len hS.out
     have hws:=ht.out.size
     by_cases hlt:k<L.length
     ·obtain ⟨g,rfl,hgl,q1,q2⟩:=HA.out k hlt
      have q1:=(ht.out.cell hgl (by omega) _).trans q1
      have q2:=(ht.out.cell hgl (by omega) _).trans q2
      have HLT:=hid hlt
      cases d with
      | false=>
       by_cases hl:s<L[k].1
       ·have HS:=hid (addS_here hlt hS.out hl)
        have d1:decide ((s:Int)<(L[k].1:Int))=true:=by simp;omega
        obtain ⟨o,ho⟩:∃ o,o=L[k]:=⟨_,rfl⟩
        rw [<-ho] at q1 q2 hl d1 HS
        have HQ:=hid (And.intro hgl (And.intro q1 q2))
        clear ho hS
        go_upto_region 18 with (first
         | (at_builtin;refine wpList_append_own _ rfl _ _ 218 rfl w.heap.size 233 i0 _ 2 16 Tryz.underlying218 hi hi0 hi1 hi2 rfl (by decide) u11 _ (flatO M) rfl (hO.out.gr ((Gr.refl _).alloc _)) ⟨wr.heap.size,0,none⟩ 1 1 [.int .i64 (s:Nat),.int .i64 (z:Nat)] rfl rfl (World.news_of_block (cs:=#[.int .i64 (s:Nat),.int .i64 (z:Nat)]) (t:=233) (fr:=(0,0)) (heap_alloc_new wr _)) (by simp [Value.oneCell']) (by (try simp only [List.length_append,List.length_cons,List.length_nil]);unfold maxLen;omega) (by (try simp only [List.length_append,List.length_cons,List.length_nil]);omega) (by simp only [World.size_alloc];omega) ?_;intro v1 x1 hown1 hgrow1 _;have HO1:=hid (OwnO.push (o:=(s,z)) hown1);have HT1:=hid (push_touch ht.out hO.out hgrow1);have hws1:=HT1.out.size;clear hown1 hgrow1))
        have q1:=(HT1.out.cell HQ.out.1 (by omega) _).trans ((ht.out.cell HQ.out.1 (by omega) _).symm.trans HQ.out.2.1)
        have q2:=(HT1.out.cell HQ.out.1 (by omega) _).trans ((ht.out.cell HQ.out.1 (by omega) _).symm.trans HQ.out.2.2)
        go_wp2_with (first
         | (at_builtin;refine wpList_append_own _ rfl _ _ 218 rfl w.heap.size 233 i0 _ 2 16 Tryz.underlying218 hi hi0 hi1 hi2 rfl (by decide) v1 _ (flatO (M++[(s,z)])) rfl (HO1.out.gr ((Gr.refl _).alloc _)) ⟨x1.heap.size,0,none⟩ 1 1 [.int .i64 (o.1:Nat),.int .i64 (o.2:Nat)] rfl rfl (World.news_of_block (cs:=#[.int .i64 (o.1:Nat),.int .i64 (o.2:Nat)]) (t:=233) (fr:=(0,0)) (heap_alloc_new x1 _)) (by simp [Value.oneCell']) (by (try simp only [List.length_append,List.length_cons,List.length_nil]);unfold maxLen;omega) (by (try simp only [List.length_append,List.length_cons,List.length_nil]);omega) (by simp only [World.size_alloc];omega) ?_;intro v2 x2 hown2 hgrow2 _;have HO2:=hid (OwnO.push (o:=o) hown2);have HT2:=hid (push_touch HT1.out HO1.out hgrow2);clear hown2 hgrow2))
        go_roundw
        case rel=>exact ⟨k+1,_,_,by omega,HS,HO2,HT2,rfl,by go_num⟩
        case measure=>simp [intOf];omega
       ·have HS:=hid (addS_next hlt hS.out hl)
        have d1:decide ((s:Int)<(L[k].1:Int))=false:=by simp;omega
        obtain ⟨o,ho⟩:∃ o,o=L[k]:=⟨_,rfl⟩
        rw [<-ho] at q1 q2 hl d1 HS
        clear ho hS
        go_wp2_with (first
         | (at_builtin;refine wpList_append_own _ rfl _ _ 218 rfl w.heap.size 233 i0 _ 2 16 Tryz.underlying218 hi hi0 hi1 hi2 rfl (by decide) u11 _ (flatO M) rfl (hO.out.gr ((Gr.refl _).alloc _)) ⟨wr.heap.size,0,none⟩ 1 1 [.int .i64 (o.1:Nat),.int .i64 (o.2:Nat)] rfl rfl (World.news_of_block (cs:=#[.int .i64 (o.1:Nat),.int .i64 (o.2:Nat)]) (t:=233) (fr:=(0,0)) (heap_alloc_new wr _)) (by simp [Value.oneCell']) (by (try simp only [List.length_append,List.length_cons,List.length_nil]);unfold maxLen;omega) (by (try simp only [List.length_append,List.length_cons,List.length_nil]);omega) (by simp only [World.size_alloc];omega) ?_;intro v1 x1 hown1 hgrow1 _;have HO1:=hid (OwnO.push (o:=o) hown1);have HT1:=hid (push_touch ht.out hO.out hgrow1);clear hown1 hgrow1))
        go_roundw
        case rel=>exact ⟨k+1,_,_,by omega,HS,HO1,HT1,rfl,by go_num⟩
        case measure=>simp [intOf];omega
      | true=>
       have HS:=hid (addS_on hlt hS.out)
       obtain ⟨o,ho⟩:∃ o,o=L[k]:=⟨_,rfl⟩
       rw [<-ho] at q1 q2 HS
       clear ho hS
       go_wp2_with (first
        | (at_builtin;refine wpList_append_own _ rfl _ _ 218 rfl w.heap.size 233 i0 _ 2 16 Tryz.underlying218 hi hi0 hi1 hi2 rfl (by decide) u11 _ (flatO M) rfl (hO.out.gr ((Gr.refl _).alloc _)) ⟨wr.heap.size,0,none⟩ 1 1 [.int .i64 (o.1:Nat),.int .i64 (o.2:Nat)] rfl rfl (World.news_of_block (cs:=#[.int .i64 (o.1:Nat),.int .i64 (o.2:Nat)]) (t:=233) (fr:=(0,0)) (heap_alloc_new wr _)) (by simp [Value.oneCell']) (by (try simp only [List.length_append,List.length_cons,List.length_nil]);unfold maxLen;omega) (by (try simp only [List.length_append,List.length_cons,List.length_nil]);omega) (by simp only [World.size_alloc];omega) ?_;intro v1 x1 hown1 hgrow1 _;have HO1:=hid (OwnO.push (o:=o) hown1);have HT1:=hid (push_touch ht.out hO.out hgrow1);clear hown1 hgrow1))
       go_roundw
       case rel=>exact ⟨k+1,_,_,by omega,HS,HO1,HT1,rfl,by go_num⟩
       case measure=>simp [intOf];omega
     ·obtain rfl:k=L.length:=by omega
      cases d with
      | false=>
       have HS:=hid (addS_end hS.out)
       clear hS
       go_wp2_with (first
        | (at_builtin;refine wpList_append_own _ rfl _ _ 218 rfl w.heap.size 233 i0 _ 2 16 Tryz.underlying218 hi hi0 hi1 hi2 rfl (by decide) u11 _ (flatO M) rfl (hO.out.gr ((Gr.refl _).alloc _)) ⟨wr.heap.size,0,none⟩ 1 1 [.int .i64 (s:Nat),.int .i64 (z:Nat)] rfl rfl (World.news_of_block (cs:=#[.int .i64 (s:Nat),.int .i64 (z:Nat)]) (t:=233) (fr:=(0,0)) (heap_alloc_new wr _)) (by simp [Value.oneCell']) (by (try simp only [List.length_append,List.length_cons,List.length_nil]);unfold maxLen;omega) (by (try simp only [List.length_append,List.length_cons,List.length_nil]);omega) (by simp only [World.size_alloc];omega) ?_;intro v1 x1 hown1 hgrow1 _;have HO1:=hid (OwnO.push (o:=(s,z)) hown1);have HT1:=hid (push_touch ht.out hO.out hgrow1);have hws1:=HT1.out.size;clear hown1 hgrow1))
       go_ret2
       exact ⟨v1,by rw [E.out];rfl,backO_own HT1.out (by rw [EL.out,<-HS.out];exact HO1.out)⟩
      | true=>
       have HS:=hid (addS_done hS.out)
       clear hS
       go_wp2
       go_ret2
       exact ⟨u11,by rw [E.out];rfl,backO_own ht.out (by rw [EL.out,<-HS.out];exact hO.out)⟩
end Go.Proofs.YthgdadohijgleaaGreatDoor
end
end
section
namespace Go.Proofs.YthgdadohijgleaaGreatDoor
open Go.RowKit Word
def Points (v:Vm) (a b:Int):Prop:=v.rdE a=0/\∃ i:Nat,(i:Int)<(v.rdH a).p/\v.ptE a i=0/\v.ptV a i≠0/\b=(v.ptV a i:Nat)
def Rch (v:Vm) (rs:List Int) (a:Int):Prop:=∀ P:Int->Prop,(∀ r∈rs,r≠0->P r)->(∀ a b,P a->Points v a b->P b)->P a
theorem Rch.root {v:Vm} {rs:List Int} {r:Int} (h:r∈rs) (h0:r≠0):Rch v rs r:=fun _ h1 _=>h1 r h h0
theorem Rch.step {v:Vm} {rs:List Int} {a b:Int} (h:Rch v rs a) (hp:Points v a b):Rch v rs b:=fun P h1 h2=>h2 a b (h P h1 h2) hp
def Vm.osz (v:Vm) (a:Int):Int:=hdrN (v.rdH a)
structure Sound (v:Vm) (rs:List Int) (n:Nat):Prop where
 rd:∀ a,Rch v rs a->v.rdE a=0
 pt:∀ a,Rch v rs a->∀ i:Nat,(i:Int)<(v.rdH a).p->v.ptE a i=0
 rm:∀ a,Rch v rs a->a+v.osz a<=n
 dj:∀ a b,Rch v rs a->Rch v rs b->a=b\/a+v.osz a<=b\/b+v.osz b<=a
def Hs (L:List Ob) (a:Int):Prop:=∃ o∈L,(o.1:Int)=a
structure Mk (v:Vm) (rs:List Int) (n:Nat) (L:List Ob):Prop where
 good:Good n L
 ats:∀ o∈L,Rch v rs o.1/\v.rdE o.1=0/\(o.2:Int)=v.osz o.1
theorem Mk.nil (v:Vm) (rs:List Int) (n:Nat):Mk v rs n []:=⟨Good.nil n,fun _ h=>by cases h⟩
theorem osz_pos {v:Vm} {a:Int} (h:v.rdE a=0):0<a/\1<=v.osz a/\v.osz a<=256:=by
 obtain ⟨h0,-,p,f,k,e,hs⟩:=rdE_zero h
 refine ⟨h0,?_⟩
 unfold Vm.osz
 rw [e,show hdrN ⟨p,f,k⟩=1+(p:Int)+f+k from if_pos (hdrE_of hs)]
 omega
theorem Mk.hs {v:Vm} {rs:List Int} {n:Nat} {L:List Ob} (h:Mk v rs n L) {a:Int} (ha:Hs L a):Rch v rs a/\v.rdE a=0:=by
 obtain ⟨o,ho,rfl⟩:=ha
 exact ⟨(h.ats o ho).1,(h.ats o ho).2.1⟩
theorem hs_add {v:Vm} {n:Nat} {L:List Ob} {a b:Int} (hr:v.rdE a=0) (he:addE L n a (v.osz a)=0):Hs (addL L n a (v.osz a)) b↔b=a\/Hs L b:=by
 have h0:=(osz_pos hr).1
 unfold addL Hs
 rw [if_pos he]
 constructor
 ·rintro ⟨o,ho,rfl⟩
  rcases mem_insO.1 ho with rfl | ho
  ·left;show (a.toNat:Int)=a;omega
  ·exact .inr ⟨o,ho,rfl⟩
 ·rintro (rfl | ⟨o,ho,rfl⟩)
  ·exact ⟨_,mem_insO.2 (.inl rfl),by show (b.toNat:Int)=b;omega⟩
  ·exact ⟨o,mem_insO.2 (.inr ho),rfl⟩
theorem Mk.add {v:Vm} {rs:List Int} {n:Nat} {L:List Ob} (h:Mk v rs n L) {a:Int} (ha:Rch v rs a) (hr:v.rdE a=0) (he:addE L n a (v.osz a)=0):Mk v rs n (addL L n a (v.osz a)):=by
 refine ⟨addL_good h.good _ _,fun o ho=>?_⟩
 have hp:=osz_pos hr
 unfold addL at ho
 rw [if_pos he] at ho
 rcases mem_insO.1 ho with rfl | ho
 ·have e:((a.toNat:Nat):Int)=a:=by omega
  show Rch v rs (a.toNat:Nat)/\v.rdE (a.toNat:Nat)=0/\(((v.osz a).toNat:Nat):Int)=v.osz (a.toNat:Nat)
  rw [e]
  exact ⟨ha,hr,by omega⟩
 ·exact h.ats o ho
theorem add_len {L:List Ob} {n:Nat} {s z:Int} (he:addE L n s z=0):(addL L n s z).length=L.length+1:=by
 unfold addL;rw [if_pos he,insO_len]
theorem Mk.fail {v:Vm} {rs:List Int} {n:Nat} {L:List Ob} (h:Mk v rs n L) {a:Int} (ha:Rch v rs a) (hn:¬ Hs L a) (he:addE L n a (v.osz a)≠0):¬ Sound v rs n:=fun hS=>by
 have hr:=hS.rd a ha
 have hp:=osz_pos hr
 have hm:=hS.rm a ha
 unfold addE at he
 rw [if_neg (by omega),if_neg (by omega)] at he
 split at he
 ·rename_i hc
  obtain ⟨o,ho,h1,h2⟩:=clash_iff.1 hc
  obtain ⟨q1,q2,q3⟩:=h.ats o ho
  rcases hS.dj a o.1 ha q1 with e | e | e
  ·exact hn ⟨o,ho,e.symm⟩
  ·omega
  ·omega
 ·exact he rfl
def Cl (v:Vm) (L:List Ob) (a:Int):Prop:=∀ i:Nat,(i:Int)<(v.rdH a).p->v.ptE a i=0/\(v.ptV a i≠0->Hs L (v.ptV a i:Nat))
structure Marks (v:Vm) (rs:List Int) (n:Nat) (L:List Ob):Prop where
 mkd:Mk v rs n L
 all:∀ a,Rch v rs a->Hs L a
 cl:∀ o∈L,Cl v L o.1
theorem Marks.of {v:Vm} {rs:List Int} {n:Nat} {L:List Ob} (h:Mk v rs n L) (hr:∀ r∈rs,r≠0->Hs L r) (hc:∀ o∈L,Cl v L o.1):Marks v rs n L:=by
 refine ⟨h,fun a ha=>ha (Hs L) hr ?_,hc⟩
 rintro a b ⟨o,ho,rfl⟩ ⟨-,i,hi,h0,h1,rfl⟩
 exact (hc o ho i hi).2 h1
theorem Marks.sound {v:Vm} {rs:List Int} {n:Nat} {L:List Ob} (h:Marks v rs n L):Sound v rs n:=by
 refine ⟨fun a ha=>(h.mkd.hs (h.all a ha)).2,fun a ha i hi=>?_,fun a ha=>?_,fun a b ha hb=>?_⟩
 ·obtain ⟨o,ho,rfl⟩:=h.all a ha
  exact (h.cl o ho i hi).1
 ·obtain ⟨o,ho,rfl⟩:=h.all a ha
  have:=(h.mkd.good.sz o ho).2
  have:=(h.mkd.ats o ho).2.2
  omega
 ·obtain ⟨o,ho,rfl⟩:=h.all a ha
  obtain ⟨q,hq,rfl⟩:=h.all b hb
  have:=(h.mkd.ats o ho).2.2
  have:=(h.mkd.ats q hq).2.2
  rcases h.mkd.good.disj ho hq with e | e | e
  ·left;rw [e]
  ·right;left;omega
  ·right;right;omega
theorem pw_ext {L M:List Ob} (h1:L.Pairwise (fun o q=>o.1<q.1)) (h2:M.Pairwise (fun o q=>o.1<q.1)) (h:∀ x,x∈L↔x∈M):L=M:=by
 induction L generalizing M with
 | nil=>
  cases M with
  | nil=>rfl
  | cons m M=>exact absurd ((h m).2 (List.mem_cons_self ..)) (by simp)
 | cons l L ih=>
  cases M with
  | nil=>exact absurd ((h l).1 (List.mem_cons_self ..)) (by simp)
  | cons m M=>
   obtain ⟨a1,a2⟩:=List.pairwise_cons.1 h1
   obtain ⟨b1,b2⟩:=List.pairwise_cons.1 h2
   have e:l=m:=by
    rcases List.mem_cons.1 ((h l).1 (List.mem_cons_self ..)) with e | hm
    ·exact e
    ·rcases List.mem_cons.1 ((h m).2 (List.mem_cons_self ..)) with e | hl
     ·exact e.symm
     ·have:=b1 l hm;have:=a1 m hl;omega
   subst e
   congr 1
   refine ih a2 b2 fun x=>⟨fun hx=>?_,fun hx=>?_⟩
   ·rcases List.mem_cons.1 ((h x).1 (List.mem_cons_of_mem _ hx)) with e | hm
    ·subst e;have:=a1 _ hx;omega
    ·exact hm
   ·rcases List.mem_cons.1 ((h x).2 (List.mem_cons_of_mem _ hx)) with e | hm
    ·subst e;have:=b1 _ hx;omega
    ·exact hm
theorem Good.lt {n:Nat} {L:List Ob} (h:Good n L):L.Pairwise (fun o q=>o.1<q.1):=by
 refine List.pairwise_iff_getElem.2 fun i j hi hj hij=>?_
 have:=h.at hi hj hij
 have:=(h.sz _ (List.getElem_mem hi)).1
 omega
theorem Marks.unique {v:Vm} {rs:List Int} {n:Nat} {L M:List Ob} (h:Marks v rs n L) (h':Marks v rs n M):L=M:=by
 have key:∀ {L M:List Ob},Marks v rs n L->Marks v rs n M->∀ x∈L,x∈M:=fun {L M} h h' x hx=>by
  obtain ⟨q1,q2,q3⟩:=h.mkd.ats x hx
  obtain ⟨o,ho,e⟩:=h'.all _ q1
  obtain ⟨p1,p2,p3⟩:=h'.mkd.ats o ho
  rw [e] at p3
  have e1:o=x:=Prod.ext (by omega) (by omega)
  rw [<-e1];exact ho
 exact pw_ext h.mkd.good.lt h'.mkd.good.lt fun x=>⟨key h h' x,key h' h x⟩
structure MkS where
 L:List Ob
 st:List Int
 lost:Bool
def MkS.push (s:MkS) (R:Nat) (L':List Ob) (a:Int):MkS:=if s.st.length<R then ⟨L',s.st++[a],s.lost⟩ else ⟨L',s.st,true⟩
structure Later (s s':MkS):Prop where
 sub:∀ a,Hs s.L a->Hs s'.L a
 len:s.L.length<=s'.L.length
 los:s'.lost=true->s.lost=true\/s.L.length<s'.L.length
 mea:2*s.L.length+s'.st.length<=2*s'.L.length+s.st.length
theorem Later.refl (s:MkS):Later s s:=⟨fun _ h=>h,Nat.le_refl _,fun h=>.inl h,Nat.le_refl _⟩
theorem Later.trans {s t u:MkS} (h:Later s t) (k:Later t u):Later s u:=
 ⟨fun a ha=>k.sub a (h.sub a ha),Nat.le_trans h.len k.len,fun hl=>by
  rcases k.los hl with h1 | h1
  ·rcases h.los h1 with h2 | h2
   ·exact .inl h2
   ·exact .inr (Nat.lt_of_lt_of_le h2 k.len)
  ·exact .inr (Nat.lt_of_le_of_lt h.len h1),by have:=h.mea;have:=k.mea;omega⟩
theorem Cl.mono {v:Vm} {L M:List Ob} (hs:∀ a,Hs L a->Hs M a) {a:Int} (h:Cl v L a):Cl v M a:=fun i hi=>⟨(h i hi).1,fun h0=>hs _ ((h i hi).2 h0)⟩
structure MarkInv (v:Vm) (rs:List Int) (n R:Nat) (X:Int->Prop) (s:MkS):Prop where
 mkd:Mk v rs n s.L
 st:∀ a∈s.st,Hs s.L a
 r:s.st.length<=R
 cl:∀ a,Hs s.L a->Cl v s.L a\/a∈s.st\/s.lost=true\/X a
theorem MarkInv.weak {v:Vm} {rs:List Int} {n R:Nat} {X Y:Int->Prop} {s:MkS} (h:MarkInv v rs n R X s) (hX:∀ a,X a->Y a):MarkInv v rs n R Y s:=
 ⟨h.mkd,h.st,h.r,fun a ha=>(h.cl a ha).imp id (Or.imp id (Or.imp id (hX a)))⟩
theorem MarkInv.push {v:Vm} {rs:List Int} {n R:Nat} {X:Int->Prop} {s:MkS} (h:MarkInv v rs n R X s) {a:Int} (ha:Rch v rs a) (hr:v.rdE a=0) (he:addE s.L n a (v.osz a)=0):
  MarkInv v rs n R X (s.push R (addL s.L n a (v.osz a)) a)/\Later s (s.push R (addL s.L n a (v.osz a)) a)/\Hs (s.push R (addL s.L n a (v.osz a)) a).L a:=by
 have hm:=h.mkd.add ha hr he
 have hh:=fun b=>hs_add (b:=b) hr he
 have hl:=add_len he
 have hsub:∀ b,Hs s.L b->Hs (addL s.L n a (v.osz a)) b:=fun b hb=>(hh b).2 (.inr hb)
 unfold MkS.push
 split
 ·rename_i hR
  refine ⟨⟨hm,fun b hb=>?_,by show (s.st++[a]).length<=R;simp;omega,fun b hb=>?_⟩,⟨hsub,by show _<=(addL _ _ _ _).length;omega,fun h=>.inl h,by show 2*_+(s.st++[a]).length<=2*(addL _ _ _ _).length+_;simp;omega⟩,(hh a).2 (.inl rfl)⟩
  ·rcases List.mem_append.1 hb with hb | hb
   ·exact hsub b (h.st b hb)
   ·rw [List.mem_singleton.1 hb];exact (hh a).2 (.inl rfl)
  ·rcases (hh b).1 hb with rfl | hb
   ·exact .inr (.inl (List.mem_append.2 (.inr (List.mem_singleton.2 rfl))))
   ·rcases h.cl b hb with h1 | h1 | h1 | h1
    ·exact .inl (h1.mono hsub)
    ·exact .inr (.inl (List.mem_append.2 (.inl h1)))
    ·exact .inr (.inr (.inl h1))
    ·exact .inr (.inr (.inr h1))
 ·refine ⟨⟨hm,fun b hb=>hsub b (h.st b hb),h.r,fun b _=>.inr (.inr (.inl rfl))⟩,⟨hsub,by show _<=(addL _ _ _ _).length;omega,fun _=>.inr (by show _<(addL _ _ _ _).length;omega),by show 2*_+s.st.length<=2*(addL _ _ _ _).length+_;omega⟩,(hh a).2 (.inl rfl)⟩
theorem MarkInv.pop {v:Vm} {rs:List Int} {n R:Nat} {X:Int->Prop} {L:List Ob} {st:List Int} {lost:Bool} {a:Int} (h:MarkInv v rs n R X ⟨L,st++[a],lost⟩):MarkInv v rs n R (fun b=>X b\/b=a) ⟨L,st,lost⟩/\Hs L a:=by
 refine ⟨⟨h.mkd,fun b hb=>h.st b (List.mem_append.2 (.inl hb)),by have:=h.r;simp at this;show st.length<=R;omega,fun b hb=>?_⟩,h.st a (List.mem_append.2 (.inr (List.mem_singleton.2 rfl)))⟩
 rcases h.cl b hb with h1 | h1 | h1 | h1
 ·exact .inl h1
 ·rcases List.mem_append.1 h1 with h2 | h2
  ·exact .inr (.inl h2)
  ·exact .inr (.inr (.inr (.inr (List.mem_singleton.1 h2))))
 ·exact .inr (.inr (.inl h1))
 ·exact .inr (.inr (.inr (.inl h1)))
theorem MarkInv.done {v:Vm} {rs:List Int} {n R:Nat} {X Y:Int->Prop} {s:MkS} {a:Int} (h:MarkInv v rs n R X s) (hc:Cl v s.L a) (hX:∀ b,X b->Y b\/b=a):MarkInv v rs n R Y s:=
 ⟨h.mkd,h.st,h.r,fun b hb=>by
  rcases h.cl b hb with h1 | h1 | h1 | h1
  ·exact .inl h1
  ·exact .inr (.inl h1)
  ·exact .inr (.inr (.inl h1))
  ·rcases hX b h1 with h2 | rfl
   ·exact .inr (.inr (.inr h2))
   ·exact .inl hc⟩
def ClN (v:Vm) (L:List Ob) (a:Int) (k:Nat):Prop:=∀ i:Nat,i<k->v.ptE a i=0/\(v.ptV a i≠0->Hs L (v.ptV a i:Nat))
theorem ClN.mono {v:Vm} {L M:List Ob} (hs:∀ a,Hs L a->Hs M a) {a:Int} {k:Nat} (h:ClN v L a k):ClN v M a k:=fun i hi=>⟨(h i hi).1,fun h0=>hs _ ((h i hi).2 h0)⟩
theorem ClN.succ {v:Vm} {L:List Ob} {a:Int} {k:Nat} (h:ClN v L a k) (h0:v.ptE a k=0) (h1:v.ptV a k≠0->Hs L (v.ptV a k:Nat)):ClN v L a (k+1):=fun i hi=>by
 rcases Nat.lt_or_ge i k with h2 | h2
 ·exact h i h2
 ·have:i=k:=by omega
  subst this;exact ⟨h0,h1⟩
theorem ClN.cl {v:Vm} {L:List Ob} {a:Int} {k:Nat} (h:ClN v L a k) (hk:(v.rdH a).p<=k):Cl v L a:=fun i hi=>h i (by omega)
theorem MarkInv.marks {v:Vm} {rs:List Int} {n R:Nat} {X:Int->Prop} {s:MkS} (h:MarkInv v rs n R X s) (hX:∀ a,¬ X a) (hst:s.st=[]) (hlost:s.lost=false) (hr:∀ r∈rs,r≠0->Hs s.L r):Marks v rs n s.L:=by
 refine Marks.of h.mkd hr fun o ho=>?_
 rcases h.cl o.1 ⟨o,ho,rfl⟩ with h1 | h1 | h1 | h1
 ·exact h1
 ·rw [hst] at h1;cases h1
 ·rw [hlost] at h1;cases h1
 ·exact absurd h1 (hX _)
theorem not_sound_rd {v:Vm} {rs:List Int} {n:Nat} {a:Int} (ha:Rch v rs a) (h:v.rdE a≠0):¬ Sound v rs n:=fun hS=>h (hS.rd a ha)
theorem not_sound_pt {v:Vm} {rs:List Int} {n:Nat} {a:Int} (ha:Rch v rs a) {i:Nat} (hi:(i:Int)<(v.rdH a).p) (h:v.ptE a i≠0):¬ Sound v rs n:=fun hS=>h (hS.pt a ha i hi)
end Go.Proofs.YthgdadohijgleaaGreatDoor
end
section
section
namespace Go.Proofs.YthgdadohijgleaaGreatDoor
open Go.RowKit Word
structure SamePg (v v':Vm):Prop where
 n:v'.n=v.n
 pt:v'.pt=v.pt
 pg:v'.pl.pg=v.pl.pg
 rm:v'.pl.rm=v.pl.rm
theorem SamePg.refl (v:Vm):SamePg v v:=⟨rfl,rfl,rfl,rfl⟩
theorem SamePg.trans {a b c:Vm} (h:SamePg a b) (k:SamePg b c):SamePg a c:=⟨k.n.trans h.n,k.pt.trans h.pt,k.pg.trans h.pg,k.rm.trans h.rm⟩
theorem SamePg.st (v:Vm) (a:Int) (x:Nat):SamePg v (v.st a x):=by
 unfold Vm.st
 split
 ·exact ⟨rfl,rfl,rfl,rfl⟩
 ·exact SamePg.refl v
theorem SamePg.ldE {v v':Vm} (h:SamePg v v') (a:Int):v'.ldE a=v.ldE a:=by unfold Vm.ldE;rw [h.n,h.pt,h.pg]
theorem hdr_p {v:Vm} {a:Int} (h:v.rdE a=0):0<=(v.rdH a).p/\(v.rdH a).p<v.osz a:=by
 obtain ⟨-,-,p,f,k,e,hs⟩:=rdE_zero h
 unfold Vm.osz
 rw [e,show hdrN ⟨p,f,k⟩=1+(p:Int)+f+k from if_pos (hdrE_of hs)]
 show (0:Int)<=(p:Int)/\(p:Int)<_
 omega
end Go.Proofs.YthgdadohijgleaaGreatDoor
end
section
namespace Go.Proofs.YthgdadohijgleaaGreatDoor
open Go.RowKit Word
theorem ptV_of {v:Vm} {a i:Int} (h:v.ptE a i=0):v.ptV a i=v.ldV (a+1+i)/\v.ldV (a+1+i)<=2147483647/\v.ldE (a+1+i)=0/\v.plE a i 1=0:=by
 have e1:v.ptV a i=v.gtV a i 1:=if_pos h
 unfold Vm.ptE at h
 split at h
 ·rename_i hg;exact absurd h hg
 ·rename_i hg
  have hg:=Decidable.not_not.1 hg
  split at h
  ·cases h
  ·rename_i hm
   unfold Vm.gtE at hg
   split at hg
   ·rename_i hp;exact absurd hg hp
   ·rename_i hp
    have e2:v.gtV a i 1=v.ldV (a+1+i):=if_neg hp
    exact ⟨e1.trans e2,by omega,hg,Decidable.not_not.1 hp⟩
theorem kind_ptr {h:Hdr} {i:Int} (h0:0<=i) (h1:i<h.p) (h2:h.p<hdrN h):kindOf h i=1:=by
 unfold kindOf
 rw [if_pos (by omega),if_pos h1]
theorem ptE_of {v:Vm} {a:Int} {i:Nat} (hr:v.rdE a=0) (hi:(i:Int)<(v.rdH a).p) (hl:v.ldE (a+1+i)=0) (hv:v.ldV (a+1+i)<=2147483647):v.ptE a i=0/\v.plE a i 1=0:=by
 have hk:v.plE a i 1=0:=by
  unfold Vm.plE
  rw [if_neg (by omega),if_pos (kind_ptr (by omega) hi (hdr_p hr).2)]
 refine ⟨?_,hk⟩
 have hg:v.gtE a i 1=0:=by unfold Vm.gtE;rw [if_neg (by omega)];exact hl
 unfold Vm.ptE
 rw [if_neg (by omega)]
 have e2:v.gtV a i 1=v.ldV (a+1+i):=if_neg (by omega)
 rw [e2,if_neg (by omega)]
def FullOb (v:Vm) (L:List Ob):Prop:=∀ o∈L,∀ m:Nat,m<o.2->v.ldE (o.1+m)=0
section
variable {v v':Vm} {rs:List Int} {L:List Ob} {to:Nat} {O:List Int} {k i:Nat}
end
end Go.Proofs.YthgdadohijgleaaGreatDoor
end
section
namespace Go.Proofs.YthgdadohijgleaaGreatDoor
open Go.RowKit Word
structure Wider (v v':Vm):Prop where
 n:v'.n=v.n
 le:∀ a:Int,v.ldE a=0->v'.ldE a=0/\v'.ldV a=v.ldV a
theorem Wider.rd {v v':Vm} (h:Wider v v') {a:Int} (hr:v.rdE a=0):v'.rdE a=0/\v'.rdH a=v.rdH a:=by
 obtain ⟨h0,h1,-⟩:=rdE_zero hr
 obtain ⟨e1,e2⟩:=h.le a h1
 unfold Vm.rdE at hr ⊢
 rw [if_neg (by omega),if_neg (by omega),if_pos h1] at hr
 refine ⟨by rw [if_neg (by omega),if_neg (by omega),if_pos e1,e2];exact hr,?_⟩
 unfold Vm.rdH
 rw [if_pos ⟨h0,e1⟩,if_pos ⟨h0,h1⟩,e2]
theorem Wider.pt {v v':Vm} (h:Wider v v') {a:Int} {i:Nat} (hr:v.rdE a=0) (hi:(i:Int)<(v.rdH a).p) (hp:v.ptE a i=0):v'.ptE a i=0/\v'.ptV a i=v.ptV a i:=by
 obtain ⟨e1,e2⟩:=h.rd hr
 have hp':=ptV_of hp
 obtain ⟨e3,e4⟩:=h.le _ hp'.2.2.1
 have:=ptE_of (v:=v') (a:=a) (i:=i) e1 (by rw [e2];exact hi) e3 (by rw [e4];exact hp'.2.1)
 exact ⟨this.1,by rw [(ptV_of this.1).1,hp'.1,e4]⟩
theorem Wider.rch {v v':Vm} (h:Wider v v') {rs:List Int} {n:Nat} (hS:Sound v rs n) (a:Int):Rch v' rs a↔Rch v rs a:=by
 constructor
 ·intro ha
  refine ha (fun b=>Rch v rs b) (fun r hr h0=>Rch.root hr h0) ?_
  rintro b c hb ⟨-,i,hi,h0,h1,rfl⟩
  have hrd:=hS.rd b hb
  rw [(h.rd hrd).2] at hi
  have hp:=h.pt hrd hi (hS.pt b hb i hi)
  rw [hp.2] at h1 ⊢
  exact hb.step ⟨hrd,i,hi,hS.pt b hb i hi,h1,rfl⟩
 ·intro ha
  refine (ha (fun b=>Rch v' rs b/\Rch v rs b) (fun r hr h0=>⟨Rch.root hr h0,Rch.root hr h0⟩) ?_).1
  rintro b c ⟨hb,hb'⟩ hp
  refine ⟨?_,hb'.step hp⟩
  obtain ⟨hrd,i,hi,h0,h1,rfl⟩:=hp
  have hp:=h.pt hrd hi h0
  rw [<-hp.2]
  exact hb.step ⟨(h.rd hrd).1,i,by rw [(h.rd hrd).2];exact hi,hp.1,by rw [hp.2];exact h1,rfl⟩
theorem Wider.marks {v v':Vm} (h:Wider v v') {rs:List Int} {n:Nat} {L:List Ob} (hM:Marks v rs n L):Marks v' rs n L:=by
 have hS:=hM.sound
 refine ⟨⟨hM.mkd.good,fun o ho=>?_⟩,fun a ha=>hM.all a ((h.rch hS a).1 ha),fun o ho i hi=>?_⟩
 ·obtain ⟨h1,h2,h3⟩:=hM.mkd.ats o ho
  obtain ⟨e1,e2⟩:=h.rd h2
  exact ⟨(h.rch hS _).2 h1,e1,by rw [h3];unfold Vm.osz;rw [e2]⟩
 ·obtain ⟨h1,h2,-⟩:=hM.mkd.ats o ho
  rw [(h.rd h2).2] at hi
  obtain ⟨c1,c2⟩:=hM.cl o ho i hi
  have hp:=h.pt h2 hi c1
  exact ⟨hp.1,fun h0=>by rw [hp.2] at h0 ⊢;exact c2 h0⟩
theorem um_same (v:Vm) (p:Int):(v.um p).n=v.n/\(v.um p).pl.pg=v.pl.pg/\(v.um p).pl.rm=v.pl.rm/\(v.um p).pt.length=v.pt.length:=by
 unfold Vm.um
 split
 ·exact ⟨rfl,rfl,rfl,List.length_set⟩
 ·exact ⟨rfl,rfl,rfl,rfl⟩
end Go.Proofs.YthgdadohijgleaaGreatDoor
end
end
section
section
namespace Go.Proofs.YthgdadohijgleaaGreatDoor
open Go.RowKit Word
abbrev Lg:=List (Int × Nat)
def lgV (l:Lg):List Value:=l.flatMap fun x=>[.int .i64 x.1,.int .u64 (x.2:Nat)]
structure WkAt (w:World) (S:Nat->Prop) (k:Nat) (sp:Value) (l:Lg):Prop where
 sk:S k
 ll:l.length<=1048576
 lv:∀ x∈l,x.2<18446744073709551616
 row:∃ vl,Rec w k 362 [sp,vl]/\w.ownsRow 0 383 2 vl l.length (lgV l)/\∀ g,vl.ownBlock=some g->S g
theorem WkAt.touch {S T:Nat->Prop} {w w':World} {k:Nat} {sp:Value} {l:Lg} (h:WkAt w S k sp l) (t:Touch T w w') (hS:∀ k,S k->k<w.heap.size->¬ T k):WkAt w' S k sp l:=by
 obtain ⟨h1,h2,h3,vl,hr,ho,hs⟩:=h
 exact ⟨h1,h2,h3,vl,hr.touch t (hS _ h1 hr.lt),own_touch ho t (fun g hg=>hS g (hs g hg) (own_lt ho hg).2),hs⟩
theorem WkAt.gr {S:Nat->Prop} {w w':World} {k:Nat} {sp:Value} {l:Lg} (h:WkAt w S k sp l) (t:Gr w w'):WkAt w' S k sp l:=h.touch (t.touch (fun _=>False)) (fun _ _ _ h=>h)
theorem WkAt.mono {S T:Nat->Prop} {w:World} {k:Nat} {sp:Value} {l:Lg} (h:WkAt w S k sp l) (hT:∀ k,S k->T k):WkAt w T k sp l:=by
 obtain ⟨h1,h2,h3,vl,hr,ho,hs⟩:=h
 exact ⟨hT _ h1,h2,h3,vl,hr,ho,fun g hg=>hT g (hs g hg)⟩
def thrV (why at':Int):Value:=.iface 414 (.agg #[.int .i64 why,.int .i64 at'])
theorem sp_nil (a:Addr) (w:World):(binOp BinOp.eql 180 (.iface 107 (.pointer (some a))) .nilIface).run Tryz.prog w=.ok (.bool false) w:=by kernel_rfl
section
variable {w:World} {S:Nat->Prop} {k q:Nat} {v:Vm} {l:Lg}
set_option maxRecDepth 100000 in
set_option maxHeartbeats 800000 in
theorem wk_fail {T:TypeId} {rv:Value} (n0:∀ w,(binOp BinOp.eql 180 (.iface T rv) .nilIface).run Tryz.prog w=.ok (.bool false) w) (hW:WkAt w S k (.iface T rv) l) (why a:Int):Calls Tryz.prog 308 #[.pointer (some ⟨k,0,none⟩),.int .i64 why,.int .i64 a] w fun e w'=>e=.panicked [{ v:=thrV why a,recovered:=false }]/\w=w':=by
 obtain ⟨vl,hr,-⟩:=hW.row
 have c0:=hr.cell (j:=0) rfl
 clear hr hW
 go_enter Tryz.func308,Tryz.ntmps308
 go_wp2
 exact ⟨rfl,rfl,rfl⟩
theorem nil_store (n:Nat) (a:Addr) (w:World):(nilAhead (n+1) 107 (.pointer (some a)) "Store").run Tryz.prog w=.ok (some false) w:=by kernel_rfl
theorem method_store (n:Nat) (a:Addr) (w:World):(method (n+1) 107 (.pointer (some a)) "Store").run Tryz.prog w=.ok (147,.pointer (some a)) w:=by kernel_rfl
def WLoadEnd (w:World) (v:Vm) (a:Int) (e:Ending) (w':World):Prop:=Gr w w'/\(v.ldE a=0->e=.returned (.int .u64 (v.ldV a:Nat)))/\(v.ldE a≠0->e=.panicked [{ v:=thrV (v.ldE a) a,recovered:=false }])
set_option maxRecDepth 100000 in
set_option maxHeartbeats 800000 in
theorem wk_load {S2:Nat->Prop} (hW:WkAt w S k (spV q) l) (hV:VmAt w S2 q v) (a:Int):Calls Tryz.prog 307 #[.pointer (some ⟨k,0,none⟩),.int .i64 a] w (WLoadEnd w v a):=by
 have HW:=hid hW
 have HL:=hid (fun (w':World) (g:Gr w w')=>vm_load (hV.gr g) a)
 obtain ⟨vl,hr,-⟩:=hW.row
 have c0:=hr.cell (j:=0) rfl
 unfold spV at c0
 have n0:=sp_nil
 have n1:=nil_load
 have n2:=method_load
 clear hr hW hV
 by_cases h0:v.ldE a=0
 ·have HE:=hid h0
  rw [h0] at HL
  clear h0
  go_enter Tryz.func307,Tryz.ntmps307
  go_wp2_with (go_at_call 150;refine (HL.out _ (Gr.refl w)).mono ?_;rintro e w1 ⟨rfl,hg1⟩;have HG1:=hid hg1;clear hg1)
  go_ret
  exact ⟨HG1.out,fun _=>rfl,fun h=>absurd HE.out h⟩
 ·have HE:=hid h0
  obtain ⟨y,hy⟩:∃ y,y=v.ldE a:=⟨_,rfl⟩
  have d2:(y==0)=false:=by rw [hy];simpa using h0
  rw [<-hy] at HL
  have HY:=hid hy
  clear h0 hy
  go_enter Tryz.func307,Tryz.ntmps307
  go_wp2_with (first
   | (go_at_call 150;refine (HL.out _ (Gr.refl w)).mono ?_;rintro e w1 ⟨rfl,hg1⟩;have HG1:=hid hg1;clear hg1)
   | (go_at_call 308;refine (wk_fail (sp_nil _) (HW.out.gr HG1.out) y a).mono ?_;rintro e w2 ⟨rfl,rfl⟩))
  exact ⟨rfl,HG1.out,fun h=>absurd h HE.out,fun _=>by rw [<-HY.out]⟩
def undoL (v:Vm) (l:Lg):Vm:=l.foldr (fun x v=>v.st x.1 x.2) v
theorem undoL_snoc (v:Vm) (l:Lg) (x:Int × Nat):undoL v (l++[x])=undoL (v.st x.1 x.2) l:=by
 unfold undoL;rw [List.foldr_append];rfl
theorem st_back {v:Vm} (h:VmOk v) {a:Int} (ha:v.ldE a=0) (x:Nat):(v.st a x).st a (v.ldV a)=v:=by
 have e1:v.st a x={ v with pl:={ v.pl with wd:=v.pl.wd.set (v.at a) x } }:=if_pos ha
 have e2:(v.st a x).ldE a=0:=by rw [st_ldE];exact ha
 have e3:(v.st a x).st a (v.ldV a)={ v with pl:={ v.pl with wd:=(v.pl.wd.set (v.at a) x).set (v.at a) (v.ldV a) } }:=by
  rw [e1] at e2 ⊢
  exact if_pos e2
 have e4:v.ldV a=v.pl.wd.getD (v.at a) 0:=if_pos ha
 have hl:=h.place_lt ha
 rw [e3,List.set_set,e4]
 have e5:v.pl.wd.set (v.at a) (v.pl.wd.getD (v.at a) 0)=v.pl.wd:=by
  rw [List.getD_eq_getElem?_getD,List.getElem?_eq_getElem hl,Option.getD_some,List.set_getElem_self]
 rw [e5]
def WStoreEnd (w:World) (S S2:Nat->Prop) (k q:Nat) (v:Vm) (l:Lg) (a:Int) (x:Nat) (e:Ending) (w':World):Prop:=
 (v.ldE a≠0/\Gr w w'/\e=.panicked [{ v:=thrV (v.ldE a) a,recovered:=false }]) ∨
 (v.ldE a=0/\e=.returned (.tuple #[])/\Touch (fun i=>S i\/S2 i) w w'/\VmAt w' (cutS S2 w) q (v.st a x)/\WkAt w' (plus S w) k (spV q) (l++[(a,v.ldV a)]))
theorem infoOld:(Tryz.prog.info? 383).map (fun i=>(i.zero,i.size,i.bytes))=some (some (.agg #[.int .i64 0,.int .u64 0]),2,16):=by kernel_rfl
set_option maxRecDepth 100000 in
set_option maxHeartbeats 1600000 in
theorem wk_store {S2:Nat->Prop} (hW:WkAt w S k (spV q) l) (hV:VmAt w S2 q v) (hd:∀ i,S i->¬ S2 i) (hl:l.length<1048576) (a:Int) {x:Nat} (hx:x<18446744073709551616):
  Calls Tryz.prog 224 #[.pointer (some ⟨k,0,none⟩),.int .i64 a,.int .u64 x] w (WStoreEnd w S S2 k q v l a x):=by
 have HW:=hid hW
 have HV:=hid hV
 have HX:=hid hx
 have HD:=hid hd
 obtain ⟨vl,hr,ho,hs⟩:=hW.row
 have c0:=hr.cell (j:=0) rfl
 unfold spV at c0
 have n0:=sp_nil
 have n1:=nil_store
 have n2:=method_store
 by_cases h0:v.ldE a=0
 ·have HE:=hid h0
  obtain ⟨A,c,rfl,hc1,hc2⟩:=own_shape ho
  unfold maxLen at hc2
  have HR:=hid hr
  have HO:=hid ho
  have HS:=hid hs
  obtain ⟨N,hN⟩:∃ N,N=l.length:=⟨_,rfl⟩
  have HN:=hid hN
  rw [<-hN] at hl hc1
  obtain ⟨ii,hii,hi0,hi1,hi2⟩:=info_parts infoOld
  have hkl:=hr.lt
  have hSk:=hW.sk
  clear hr hW hV h0 ho hs hN hd
  go_enter Tryz.func224,Tryz.ntmps224
  go_wp2_with (first
   | (go_at_call 307;refine (wk_load HW.out HV.out a).mono ?_;rintro e w1 ⟨hg1,he,-⟩;obtain rfl:=he HE.out;have k0:=(hg1.cell hkl 0).trans c0;have HG1:=hid hg1;clear hg1 he)
   | (go_at_call 147;refine (vm_store (HV.out.cut.gr HG1.out) a HX.out).mono ?_;rintro e w2 ⟨rfl,ht2,hv2⟩;rw [HE.out];have HR2:=hid ((HR.out.gr HG1.out).touch ht2 (fun h=>HD.out _ hSk h.1));have d1:=HR2.out.cell (j:=1) rfl;have df:=HR2.out.free 1;have HO2:=hid (own_touch (own_gr HO.out HG1.out) ht2 (fun g hg h=>HD.out _ (HS.out g hg) h.1));rw [<-HN.out] at d1 HO2;have HT2:=hid ht2;have HV2:=hid hv2;clear ht2 hv2)
   | (at_builtin;refine wpList_append_lies _ rfl _ _ 360 rfl 0 383 ii _ 2 16 Tryz.underlying360 hii hi0 hi1 hi2 rfl (by decide) (.slice A N c) N (lgV l) rfl (HO2.out.alloc _) ⟨w2.heap.size,0,none⟩ 1 1 [.int .i64 a,.int .u64 (v.ldV a:Nat)] rfl rfl (World.news_of_block (cs:=#[.int .i64 a,.int .u64 (v.ldV a:Nat)]) (t:=383) (fr:=(0,0)) (heap_alloc_new w2 (.cells #[.int .i64 a,.int .u64 (v.ldV a:Nat)] 383))) (by simp [Value.oneCell']) (by omega) (by unfold maxLen;omega) (by omega) (Nat.zero_le _) (w2.heap.size+1) (by simp) ?_;intro g3 c3 w3 hown3 hgrow3 hat3 hlt3;have t3:Touch (fun k=>(Value.slice A N c).ownBlock=some k) w2 w3:=(((Gr.refl _).alloc _).touch _).trans (grown_touch hgrow3 _ (fun k e _=>e));have HR3:=hid (HR2.out.touch t3 (fun e=>own_ne HO2.out HR2.out (by decide) e rfl rfl));have d3:=HR3.out.cell (j:=1) rfl;have df3:=HR3.out.free 1;have HT3:=hid t3;have HO3:=hid hown3;have HA3:=hid (And.intro hat3 hlt3);clear hown3 hgrow3 hat3 hlt3 t3))
  refine bodyPost_end (results_none rfl _ _ _) rfl ?_
  have hsz1:=HG1.out.size
  have hsz2:=HT2.out.size
  have hA3:=HA3.out
  have hT:Touch (fun i=>S i\/S2 i) w w3:=((HG1.out.touch _).trans (HT2.out.mono (fun i _ hi=>.inr hi.1))).trans (HT3.out.mono (fun i _ hi=>.inl (HS.out i (by rw [<-HN.out];exact hi))))
  have hdk:∀ i,cutS S2 w i->¬ (Value.slice A N c).ownBlock=some i:=fun i hi e=>HD.out i (HS.out i (by rw [<-HN.out];exact e)) hi.1
  refine .inr ⟨HE.out,rfl,hT.setCell (a:=⟨k,1,none⟩) (fun _=>.inl hSk) _,?_,.inl hSk,by rw [List.length_append,<-HN.out];simp;omega,fun y hy=>(List.mem_append.1 hy).elim (HW.out.lv y) (fun h=>by simp at h;subst h;exact HV.out.ok.ldV_lt a),.slice (some ⟨g3,0,none⟩) (N+1) c3,Rec.set HR3.out 1 _,?_,fun g hg=>?_⟩
  ·exact (HV2.out.touch HT3.out (fun i hi _=>hdk i hi)).touch ((Touch.refl (fun i=>i=k) w3).setCell (a:=⟨k,1,none⟩) (fun _=>rfl) _) (fun i hi _ e=>by subst e;exact HD.out i hSk hi.1)
  ·rw [List.length_append,<-HN.out,show lgV (l++[(a,v.ldV a)])=lgV l++[.int .i64 a,.int .u64 (v.ldV a:Nat)] by unfold lgV;rw [List.flatMap_append];rfl]
   exact own_set_other HO3.out _ (fun g hg=>own_ne HO3.out HR3.out (by decide) hg rfl)
  ·cases hg
   rcases hA3.1 with h | h
   ·exact .inl (HS.out _ (by rw [<-HN.out];exact h))
   ·right
    show w.heap.size<=g3
    omega
 ·have HE:=hid h0
  clear hr hW hV h0 ho hs hd
  go_enter Tryz.func224,Tryz.ntmps224
  go_wp2_with (go_at_call 307;refine (wk_load HW.out HV.out a).mono ?_;rintro e w1 ⟨hg1,-,he⟩;obtain rfl:=he HE.out;have HG1:=hid hg1;clear hg1 he)
  exact ⟨rfl,.inl ⟨HE.out,HG1.out,rfl⟩⟩
theorem undoL_drop (v:Vm) {l:Lg} {j:Nat} (h:j<l.length):undoL v (l.drop j)=(undoL v (l.drop (j+1))).st l[j].1 l[j].2:=by
 rw [List.drop_eq_getElem_cons h];rfl
theorem lgV_at {l:Lg} {j:Nat} (h:j<l.length):(lgV l)[j*2]?=some (.int .i64 l[j].1)/\(lgV l)[j*2+1]?=some (.int .u64 (l[j].2:Nat)):=by
 induction l generalizing j with
 | nil=>exact absurd h (by simp)
 | cons x l ih=>
  have e:lgV (x :: l)=.int .i64 x.1 :: .int .u64 (x.2:Nat) :: lgV l:=rfl
  cases j with
  | zero=>rw [e];exact ⟨rfl,rfl⟩
  | succ j=>
   have:=ih (j:=j) (by simpa using h)
   rw [e,show (j+1)*2=j*2+1+1 by omega,show j*2+1+1+1=(j*2+1)+1+1 by omega]
   exact this
theorem own_clip0 {w:World} {E size:Nat} {A:Option Addr} {n c:Nat} {xs:List Value} (h:w.ownsRow 0 E size (.slice A n c) n xs):w.ownsRow 0 E size (.slice A 0 c) 0 []:=by
 obtain ⟨h1,⟨h,_⟩ | ⟨g,cap,cur,e1,e2,e3,e4,e5,e6,e7⟩⟩:=h
 ·cases h;exact ⟨by simp,.inl ⟨rfl,rfl⟩⟩
 ·simp only [Value.slice.injEq] at e1
  obtain ⟨rfl,-,rfl⟩:=e1
  exact ⟨by simp,.inr ⟨g,c,cur,rfl,e2,e3,Nat.zero_le _,e5,e6,by simp⟩⟩
def UndoEnd (w:World) (S S2:Nat->Prop) (k q:Nat) (v:Vm) (l:Lg) (e:Ending) (w':World):Prop:=
 e=.returned (.tuple #[])/\Touch (fun i=>S i\/S2 i) w w'/\VmAt w' S2 q (undoL v l)/\WkAt w' S k (spV q) []
set_option maxRecDepth 100000 in
set_option maxHeartbeats 1600000 in
theorem wk_undo {S2:Nat->Prop} (hW:WkAt w S k (spV q) l) (hV:VmAt w S2 q v) (hd:∀ i,S i->¬ S2 i):Calls Tryz.prog 339 #[.pointer (some ⟨k,0,none⟩),.int .i64 0] w (UndoEnd w S S2 k q v l):=by
 have HW:=hid hW
 have HV:=hid hV
 have HD:=hid hd
 obtain ⟨vl,hr,ho,hs⟩:=hW.row
 obtain ⟨A,c,rfl,hc1,hc2⟩:=own_shape ho
 unfold maxLen at hc2
 have c1:=hr.cell (j:=1) rfl
 have HR:=hid hr
 have HO:=hid ho
 have HS:=hid hs
 have hll:=hW.ll
 obtain ⟨N,hN⟩:∃ N,N=l.length:=⟨_,rfl⟩
 have HN:=hid hN
 rw [<-hN] at c1 hc1 hll
 have hkl:=hr.lt
 have hSk:=hid hW.sk
 clear hr ho hs hW hV hd hN
 go_enter Tryz.func339,Tryz.ntmps339
 go_wp2
 go_loopw [4] (fun i wr=>∃ m:Nat,m<=N/\Hid (Touch S2 w wr)/\Hid (VmAt wr S2 q (undoL v (l.drop m)))/\i=.int .i64 ((m:Int)-1)) (fun i _=>(intOf i+1).toNat)
 case atStart=>exact ⟨N,Nat.le_refl _,⟨Touch.refl S2 w⟩,⟨by rw [HN.out,List.drop_length];exact HV.out⟩,by go_num⟩
 case round=>
  obtain ⟨m,hm,HT,HK,rfl⟩:=hrel
  have HR1:=hid (HR.out.touch HT.out (HD.out _ hSk.out))
  have HO1:=hid (own_touch HO.out HT.out (fun g hg h=>HD.out _ (HS.out g hg) h))
  have e1:=HR1.out.cell (j:=1) rfl
  have ef:=HR1.out.free 1
  rw [<-HN.out] at e1
  clear c1
  by_cases hm0:m=0
  ·subst hm0
   go_wp2
   refine bodyPost_end (results_none rfl _ _ _) rfl ?_
   have hdd:∀ i,S2 i->i≠k:=fun i hi e=>HD.out k hSk.out (by rw [<-e];exact hi)
   refine ⟨rfl,(HT.out.mono (fun i _ hi=>.inr hi)).setCell (a:=⟨k,1,none⟩) (fun _=>.inl hSk.out) _,?_,hSk.out,Nat.zero_le _,(fun x hx=>by cases hx),.slice A 0 c,Rec.set HR1.out 1 _,?_,fun g hg=>HS.out g (by cases A with | none=>cases hg | some a=>exact hg)⟩
   ·have:=HK.out.touch ((Touch.refl (fun i=>i=k) wr).setCell (a:=⟨k,1,none⟩) (fun _=>rfl) (.slice A 0 c)) (fun i hi _=>hdd i hi)
    rw [List.drop_zero] at this
    exact this
   ·exact own_set_other (own_clip0 HO1.out) _ (fun g hg=>own_ne (own_clip0 HO1.out) HR1.out (by decide) hg rfl)
  ·obtain ⟨j,rfl⟩:∃ j,m=j+1:=⟨m-1,by omega⟩
   have hjl:j<l.length:=by have:=HN.out;omega
   have hUD:=undoL_drop v hjl
   obtain ⟨g,c',e2,-,-,-,-⟩:=own_form HO1.out (by omega)
   simp only [Value.slice.injEq] at e2
   obtain ⟨rfl,-,rfl⟩:=e2
   have r1:=own_cell HO1.out (lgV_at hjl).1
   have r2:=own_cell HO1.out (lgV_at hjl).2
   have hxl:=HW.out.lv _ (List.getElem_mem hjl)
   obtain ⟨⟨xa,xw⟩,hxe⟩:∃ x,x=l[j]:=⟨_,rfl⟩
   rw [<-hxe] at r1 r2 hxl hUD
   have HXL:=hid hxl
   have HUD:=hid hUD
   have hgl:=(own_lt HO1.out (g:=g) rfl).2
   have n1:=nil_store
   have n2:=method_store
   have e0:=HR1.out.cell (j:=0) rfl
   unfold spV at e0
   have hkl1:=HR1.out.lt
   have KS:Hid (∀ W',Gr wr W'->W'.cell? ⟨k,0,none⟩=some (.iface 107 (.pointer (some ⟨q,0,none⟩)))/\W'.cell? ⟨k,1,none⟩=some (.slice (some ⟨g,0,none⟩) N c)/\W'.cell? ⟨g,j*2,none⟩=some (.int .i64 xa)/\W'.cell? ⟨g,j*2+1,none⟩=some (.int .u64 (xw:Nat))):=
    ⟨fun W' h=>⟨(h.cell hkl1 0).trans e0,(h.cell hkl1 1).trans e1,(h.cell hgl _).trans r1,(h.cell hgl _).trans r2⟩⟩
   have hjN:(j:Int)<(N:Int):=by have:=HN.out;omega
   clear hjl hUD r1 r2 hxl hxe hgl e0 e1 ef hkl1
   go_upto_region 3 with (fail)
   obtain ⟨Sx,hSx⟩:∃ Sx:World->Prop,Sx=fun W'=>Gr wr W':=⟨_,rfl⟩
   have x1:∀ p:Held Sx,p.w.cell? ⟨k,0,none⟩=some (.iface 107 (.pointer (some ⟨q,0,none⟩))):=fun p=>(KS.out _ (Held.get hSx p)).1
   have x2:∀ p:Held Sx,p.w.cell? ⟨k,1,none⟩=some (.slice (some ⟨g,0,none⟩) N c):=fun p=>(KS.out _ (Held.get hSx p)).2.1
   have x3:∀ p:Held Sx,p.w.cell? ⟨g,j*2,none⟩=some (.int .i64 xa):=fun p=>(KS.out _ (Held.get hSx p)).2.2.1
   have x4:∀ p:Held Sx,p.w.cell? ⟨g,j*2+1,none⟩=some (.int .u64 (xw:Nat)):=fun p=>(KS.out _ (Held.get hSx p)).2.2.2
   have hS0:Sx wr.drew:=by rw [hSx];exact (Gr.refl wr).drew
   have inst:Inhabited (Held Sx):=⟨⟨_,hS0⟩⟩
   clear hSx
   refine wp_region_mixS Sx 22 [([0,1,2,3,4,5,6,7,8,9,10,11,12,13,14,15,16,17,18,19,20,21],22)] [] (by kernel_rfl) (by kernel_rfl) hS0 ?_
   refine segs_step ?_
   simp only [opsAt,List.getElem?_cons_zero,List.getElem?_cons_succ]
   repeat (go_big_quiet_step (fail))
   refine wpQuiet_nil ?_
   go_wp2_with (go_at_call 147;refine (vm_store (HK.out.gr (Gr.refl wr).drew) xa HXL.out).mono ?_;rintro e w1 ⟨rfl,ht1,hv1⟩;have HT1:=hid ht1;have HV1:=hid hv1;clear ht1 hv1)
   refine ⟨.inl trivial,?_⟩
   refine segs_end ?_
   refine wpQuiet_nil ?_
   refine NoPanic.normal ?_
   clear x1 x2 x3 x4 hS0 inst
   clear Sx
   go_wp2
   go_round
   case rel=>
    refine ⟨j,by omega,⟨HT.out.trans (((Gr.refl wr).drew.touch _).trans HT1.out)⟩,⟨?_⟩,by go_num⟩
    rw [HUD.out]
    exact HV1.out
   case measure=>simp [intOf]
end
end Go.Proofs.YthgdadohijgleaaGreatDoor
end
section
namespace Go.Proofs.YthgdadohijgleaaGreatDoor
open Go.RowKit Word
section
variable {w:World} {S:Nat->Prop} {k q:Nat} {v:Vm} {l:Lg}
theorem tmps22 (x y z r:Value):#[x,y,z]++((Array.replicate 19 undef).setIfInBounds 3 r).setIfInBounds 0 r =
  #[x, y, z, r, undef, undef, r, undef, undef, undef, undef, undef, undef, undef, undef, undef, undef, undef, undef, undef, undef, undef] := by kernel_rfl
theorem part_idle (p2 p5 p4:Addr) (w:World):CallsD Tryz.prog 338 #[.pointer (some p2),.pointer (some p5),.pointer (some p4)] .returning w fun e u' w'=>e=.returned (.tuple #[])/\u'=.returning/\w'=w:=by
 have hnil:∀ w:World,(binOp BinOp.eql 20 .nilIface .nilIface).run Tryz.prog w=.ok (.bool true) w:=fun _=>by kernel_rfl
 refine callsD_of_wpS Tryz.func338 rfl fun c₀ cs hu=>?_
 apply wpS_seq
 apply wpS_region
 simp [wpOpsS,go_sem,recoverD,hu,Tryz.ntmps338,Exit.thenS]
 rw [tmps22]
 refine wpS_of_wp ?_
 go_wp2
 refine ⟨rfl,.returning,?_,_,results_none rfl _ _ _,rfl,rfl,rfl⟩
 cases c₀
 simp_all
def CaughtEnd (w:World) (S S2:Nat->Prop) (b4 k q:Nat) (v:Vm) (l:Lg) (why a:Int) (w':World):Prop:=
 Touch (fun i=>S i\/S2 i\/i=b4) w w'/\VmAt w' S2 q (undoL v l)/\WkAt w' S k (spV q) []/\Rec w' b4 272 [.int .i64 why,.int .i64 a]
set_option maxRecDepth 100000 in
set_option maxHeartbeats 1600000 in
theorem part_caught {S2:Nat->Prop} {b2 b5 b4:Nat} (hW:WkAt w S k (spV q) l) (hV:VmAt w S2 q v) (hd:∀ i,S i->¬ S2 i) (why a:Int) (older:List PanicEntry)
  (r2:w.cell? ⟨b2,0,none⟩=some (.pointer (some ⟨k,0,none⟩))) (r5:w.cell? ⟨b5,0,none⟩=some (.int .i64 0)) (r4:Rec w b4 272 [.int .i64 0,.int .i64 0]) (n4:¬ S b4) (m4:¬ S2 b4):
  CallsD Tryz.prog 338 #[.pointer (some ⟨b2,0,none⟩),.pointer (some ⟨b5,0,none⟩),.pointer (some ⟨b4,0,none⟩)] (.panicking ({ v:=thrV why a,recovered:=false } :: older)) w fun e u' w'=>
   e=.returned (.tuple #[])/\u'=.panicking ({ v:=thrV why a,recovered:=true } :: older)/\CaughtEnd w S S2 b4 k q v l why a w':=by
 have hta:∀ (x y:Int) (w:World),(Instr.typeAssert (.iface 414 (.agg #[.int .i64 x,.int .i64 y])) 20 414 true).run Tryz.prog w=.ok (.tuple #[.agg #[.int .i64 x,.int .i64 y],.bool true]) w:=fun _ _ _=>by kernel_rfl
 have hnn:∀ (x:Value) (w:World),(binOp BinOp.eql 20 (.iface 414 x) .nilIface).run Tryz.prog w=.ok (.bool false) w:=fun _ _=>by kernel_rfl
 have HW:=hid hW
 have HV:=hid hV
 have HD:=hid hd
 clear hW hV hd
 refine callsD_of_wpS Tryz.func338 rfl fun c₀ cs hu=>?_
 apply wpS_seq
 apply wpS_region
 unfold thrV at hu ⊢
 simp [wpOpsS,go_sem,recoverD,hu,Tryz.ntmps338,Exit.thenS]
 rw [tmps22]
 refine wpS_of_wp ?_
 go_wp2_with (go_at_call 339;refine (wk_undo HW.out HV.out HD.out).mono ?_;rintro e w1 ⟨rfl,ht1,hv1,hw1⟩;have HR1:=hid (r4.touch ht1 (fun h=>h.elim n4 m4));have d0:=HR1.out.cell (j:=0) rfl;have d1:=HR1.out.cell (j:=1) rfl;have df:=HR1.out.free;have hb4:=HR1.out.lt;have HT1:=hid ht1;have HV1:=hid hv1;have HW1:=hid hw1;clear ht1 hv1 hw1)
 have hbl:=HR1.out.lt
 have hdk:∀ i,S2 i->i≠b4:=fun i hi e=>m4 (by rw [<-e];exact hi)
 have hds:∀ i,S i->i≠b4:=fun i hi e=>n4 (by rw [<-e];exact hi)
 have hT:=((Touch.refl (fun i=>i=b4) w1).setCell (a:=⟨b4,0,none⟩) (fun _=>rfl) (.int .i64 why)).setCell (a:=⟨b4,1,none⟩) (fun _=>rfl) (.int .i64 a)
 have hTA:Touch (fun i=>S i\/S2 i\/i=b4) w _:=(HT1.out.mono (fun i _ hi=>hi.elim Or.inl (fun h=>Or.inr (Or.inl h)))).trans (hT.mono (fun i _ hi=>Or.inr (Or.inr hi)))
 refine ⟨rfl,_,rfl,_,results_none rfl _ _ _,rfl,rfl,?_⟩
 exact ⟨hTA.alloc _,(HV1.out.touch hT (fun i hi _=>hdk i hi)).gr ((Gr.refl _).alloc _),(HW1.out.touch hT (fun i hi _=>hds i hi)).gr ((Gr.refl _).alloc _),Rec.gr (Rec.set (Rec.set HR1.out 0 _) 1 _) ((Gr.refl _).alloc _)⟩
end
end Go.Proofs.YthgdadohijgleaaGreatDoor
end
section
namespace Go.Proofs.YthgdadohijgleaaGreatDoor
open Go.RowKit Word
def BodyEnd (q k b4:Nat) (Sx:Nat->Prop) (w0:World) (G:World->Prop) (H:Int->Int->Vm->Lg->(Nat->Prop)->(Nat->Prop)->World->Prop) (e:Ending) (w1:World):Prop:=
 Touch Sx w0 w1/\((e=.returned (.tuple #[])/\G w1) ∨
  ∃ why a v l S S2,e=.panicked [{ v:=thrV why a,recovered:=false }]/\WkAt w1 S k (spV q) l/\VmAt w1 S2 q v/\(∀ i,S i->¬ S2 i)/\¬ S b4/\¬ S2 b4/\H why a v l S S2 w1)
section
variable {w:World} {S:Nat->Prop} {k q:Nat} {v:Vm} {l:Lg}
def partW (w:World) (k:Nat):World:=((w.alloc (.cells #[.pointer (some ⟨k,0,none⟩)] 268)).alloc (.cells #[.int .i64 0,.int .i64 0] 272)).alloc (.cells #[.int .i64 0] 3)
def PartEnd (w:World) (k q:Nat) (Sx:Nat->Prop) (G:World->Prop) (H:Int->Int->Vm->Lg->(Nat->Prop)->(Nat->Prop)->World->Prop) (e:Ending) (w':World):Prop:=
 ∃ w1,Touch Sx (partW w k) w1/\((G w1/\e=.returned (.agg #[.int .i64 0,.int .i64 0])/\w'=(w1.setCell ⟨w.heap.size+1,0,none⟩ (.int .i64 0)).setCell ⟨w.heap.size+1,1,none⟩ (.int .i64 0)) ∨
  ∃ why a v l S S2,H why a v l S S2 w1/\e=.returned (.agg #[.int .i64 why,.int .i64 a])/\CaughtEnd w1 S S2 (w.heap.size+1) k q v l why a w')
theorem load_fault (W:World) (blk:Nat) (p q:Value) (h0:W.cell? ⟨blk,0,none⟩=some p) (h1:W.cell? ⟨blk,1,none⟩=some q):(loadVar 272 ⟨blk,0,none⟩).run Tryz.prog W=.ok (.agg #[p,q]) W:=by
 have a1:(isAgg 272).run Tryz.prog W=.ok true W:=by kernel_rfl
 have a2:(sizeOf 272).run Tryz.prog W=.ok 2 W:=by kernel_rfl
 simp [loadVar,Sem.run_bind,a1,a2,Result.andThen,loadCells,go_sem,h0,h1]
set_option maxRecDepth 100000 in
set_option maxHeartbeats 1600000 in
theorem wk_part {F:Nat} {caps:Array Value} {Sx:Nat->Prop} {G:World->Prop} {H:Int->Int->Vm->Lg->(Nat->Prop)->(Nat->Prop)->World->Prop}
  (hcf:∀ args w,(callFunc F args).run Tryz.prog w=.ok (.enter F args) w) {sp:Value} (hW:WkAt w S k sp []) (hF:Calls Tryz.prog F (#[.pointer (some ⟨k,0,none⟩)]++caps) (partW w k) (BodyEnd q k (w.heap.size+1) Sx (partW w k) G H)) (hx:∀ i,w.heap.size<=i->i<=w.heap.size+2->¬ Sx i):
  Calls Tryz.prog 280 #[.pointer (some ⟨k,0,none⟩),.func (.func F) #[] caps] w (PartEnd w k q Sx G H):=by
 have hmf:∀ (fn:Fn) (first cap:Array Value) (w:World),(Instr.makeFunc fn first cap).run Tryz.prog w=.ok (.func fn first cap) w:=fun _ _ _ _=>rfl
 obtain ⟨vl,hr,ho,-⟩:=hW.row
 obtain ⟨A,c,rfl,hc1,hc2⟩:=own_shape ho
 have c1:=hr.cell (j:=1) rfl
 have hkl:=hr.lt
 clear hr ho
 go_enter_defers Tryz.func280,Tryz.ntmps280
 have r2:Rec (partW w k) w.heap.size 268 [.pointer (some ⟨k,0,none⟩)]:=Rec.gr (Rec.gr (Rec.new w _ _) ((Gr.refl _).alloc _)) ((Gr.refl _).alloc _)
 have r4:Rec (partW w k) (w.heap.size+1) 272 [.int .i64 0,.int .i64 0]:=by
  have:=Rec.gr (Rec.new (w.alloc (.cells #[.pointer (some ⟨k,0,none⟩)] 268)) 272 [.int .i64 0,.int .i64 0]) ((Gr.refl _).alloc (.cells #[.int .i64 0] 3))
  rw [World.size_alloc] at this
  exact this
 have r5:Rec (partW w k) (w.heap.size+1+1) 3 [.int .i64 0]:=by
  have:=Rec.new ((w.alloc (.cells #[.pointer (some ⟨k,0,none⟩)] 268)).alloc (.cells #[.int .i64 0,.int .i64 0] 272)) 3 [.int .i64 0]
  rw [World.size_alloc,World.size_alloc] at this
  exact this
 have HR2:=hid r2
 have HR4:=hid r4
 have HR5:=hid r5
 clear r2 r4 r5
 go_wp2
 refine hF.mono ?_
 rintro e w1 ⟨ht1,he⟩
 have q2:=HR2.out.touch ht1 (hx _ (Nat.le_refl _) (by omega))
 have q4:=HR4.out.touch ht1 (hx _ (by omega) (by omega))
 have q5:=HR5.out.touch ht1 (hx _ (by omega) (by omega))
 have hT1:=hid ht1
 rcases he with ⟨rfl,hg1⟩ | ⟨why,a,v,l,S',S2,rfl,hw1,hv1,hd1,n4,m4,hh1⟩
 ·have HG:=hid hg1
  have k0:=q4.cell (j:=0) rfl
  have k1:=q4.cell (j:=1) rfl
  have kf:=q4.free
  have HQ4:=hid q4
  clear q2 q4 q5 ht1 hF hx hg1
  go_wp2
  have R6:=Rec.set (Rec.set HQ4.out 0 (.int .i64 0)) 1 (.int .i64 0)
  refine leaves_cons (f:=338) (args:=#[.pointer (some ⟨w.heap.size,0,none⟩),.pointer (some ⟨w.heap.size+1+1,0,none⟩),.pointer (some ⟨w.heap.size+1,0,none⟩)]) (by simp) (by simp [go_sem]) ?_
  refine (part_idle _ _ _ _).mono ?_
  rintro e u' w2 ⟨rfl,rfl,rfl⟩
  have hl:=load_fault _ (w.heap.size+1) _ _ (R6.cell (j:=0) rfl) (R6.cell (j:=1) rfl)
  simp only [Leaves,settle]
  refine ⟨_,?_,w1,hT1.out,.inl ⟨HG.out,rfl,rfl⟩⟩
  simp [results,Tryz.results280,asAddr,hl]
 ·have HW1:=hid hw1
  have HV1:=hid hv1
  have HD1:=hid hd1
  have HH:=hid hh1
  have HN:=hid (And.intro n4 m4)
  have k2:=q2.cell (j:=0) rfl
  have k5:=q5.cell (j:=0) rfl
  have HQ4:=hid q4
  clear q2 q4 q5 ht1 hF hx hw1 hv1 hd1 hh1 n4 m4
  go_wp2
  refine leaves_cons (f:=338) (args:=#[.pointer (some ⟨w.heap.size,0,none⟩),.pointer (some ⟨w.heap.size+1+1,0,none⟩),.pointer (some ⟨w.heap.size+1,0,none⟩)]) (by simp) (by simp [go_sem]) ?_
  refine (part_caught HW1.out HV1.out HD1.out why a [] k2 k5 HQ4.out HN.out.1 HN.out.2).mono ?_
  rintro e u' w2 ⟨rfl,rfl,hc⟩
  have hl:=load_fault _ (w.heap.size+1) _ _ (hc.2.2.2.cell (j:=0) rfl) (hc.2.2.2.cell (j:=1) rfl)
  simp only [settle,List.dropWhile_nil,Leaves]
  refine ⟨_,?_,w1,hT1.out,.inr ⟨why,a,v,l,S',S2,HH.out,rfl,hc⟩⟩
  simp [results,Tryz.results280,asAddr,hl]
def runW (w:World) (sp:Value):World:=(w.alloc (.cells #[.int .i64 0,.int .i64 0] 272)).alloc (.cells #[sp,.slice none 0 0] 362)
theorem wk_new (w:World) (sp:Value):WkAt (runW w sp) (fun i=>i=w.heap.size+1) (w.heap.size+1) sp []:=by
 have:=Rec.new (w.alloc (.cells #[.int .i64 0,.int .i64 0] 272)) 362 [sp,.slice none 0 0]
 rw [World.size_alloc] at this
 exact ⟨rfl,Nat.zero_le _,(fun x hx=>by cases hx),.slice none 0 0,this,own_nil _ _ _ _,(fun g hg=>by cases hg)⟩
def TRunEnd (w:World) (sp:Value) (q:Nat) (Sx:Nat->Prop) (G:World->Prop) (H:Int->Int->Vm->Lg->(Nat->Prop)->(Nat->Prop)->World->Prop) (e:Ending) (w':World):Prop:=
 ∃ w2,∃ x y,PartEnd (runW w sp) (w.heap.size+1) q Sx G H (.returned (.agg #[.int .i64 x,.int .i64 y])) w2/\e=.returned (.agg #[.int .i64 x,.int .i64 y])/\w'=(w2.setCell ⟨w.heap.size,0,none⟩ (.int .i64 x)).setCell ⟨w.heap.size,1,none⟩ (.int .i64 y)
set_option maxRecDepth 100000 in
set_option maxHeartbeats 1600000 in
theorem trap_run {sp:Value} {F:Nat} {caps:Array Value} {Sx:Nat->Prop} {G:World->Prop} {H:Int->Int->Vm->Lg->(Nat->Prop)->(Nat->Prop)->World->Prop}
  (hsp:∃ T rv,sp=.iface T rv) (hcf:∀ args w,(callFunc F args).run Tryz.prog w=.ok (.enter F args) w)
  (hF:Calls Tryz.prog F (#[.pointer (some ⟨w.heap.size+1,0,none⟩)]++caps) (partW (runW w sp) (w.heap.size+1)) (BodyEnd q (w.heap.size+1) (w.heap.size+3) Sx (partW (runW w sp) (w.heap.size+1)) G H))
  (hx:∀ i,w.heap.size+2<=i->i<=w.heap.size+4->¬ Sx i) (hx0:¬ Sx w.heap.size) (hH:∀ why a v l S S2 w1,H why a v l S S2 w1->¬ S w.heap.size/\¬ S2 w.heap.size):
  Calls Tryz.prog 190 #[sp,.func (.func F) #[] caps] w (TRunEnd w sp q Sx G H):=by
 obtain ⟨T,rv,rfl⟩:=hsp
 have hsz:(runW w (.iface T rv)).heap.size=w.heap.size+2:=by unfold runW;rw [World.size_alloc,World.size_alloc]
 have HP:=hid (wk_part (k:=w.heap.size+1) (w:=runW w (.iface T rv)) (Sx:=Sx) (G:=G) (H:=H) hcf (wk_new w _) (by rw [hsz];exact hF) (by rw [hsz];exact fun i h1 h2=>hx i h1 (by omega)))
 have HR0:=hid (Rec.gr (Rec.new w 272 [.int .i64 0,.int .i64 0]) ((Gr.refl _).alloc (.cells #[.iface T rv,.slice none 0 0] 362)))
 have HPE:Hid (∀ e w',PartEnd (runW w (.iface T rv)) (w.heap.size+1) q Sx G H e w'->∃ x y,e=.returned (.agg #[.int .i64 x,.int .i64 y])/\Rec w' w.heap.size 272 [.int .i64 0,.int .i64 0]):=⟨by
  rintro e w' ⟨w1,t1,h⟩
  have r0:Rec (partW (runW w (.iface T rv)) (w.heap.size+1)) w.heap.size 272 [.int .i64 0,.int .i64 0]:=HR0.out.gr (((((Gr.refl _).alloc _).alloc _).alloc _))
  have r1:=r0.touch t1 hx0
  rw [hsz] at h
  rcases h with ⟨-,rfl,rfl⟩ | ⟨why,a,v,l,S,S2,hh,rfl,hc⟩
  ·exact ⟨0,0,rfl,own_set_other (own_set_other r1 _ (fun g hg=>by cases hg;show w.heap.size≠w.heap.size+2+1;omega)) _ (fun g hg=>by cases hg;show w.heap.size≠w.heap.size+2+1;omega)⟩
  ·obtain ⟨n1,n2⟩:=hH _ _ _ _ _ _ _ hh
   exact ⟨why,a,rfl,r1.touch hc.1 (fun h=>by rcases h with h | h | h;exact n1 h;exact n2 h;omega)⟩⟩
 clear hF hx hx0 hH hcf hsz
 go_enter Tryz.func190,Tryz.ntmps190
 go_wp2_with (go_at_call 280;refine HP.out.mono ?_;intro e w2 hpe;obtain ⟨x,y,rfl,hr2⟩:=HPE.out _ _ hpe;have k0:=hr2.cell (j:=0) rfl;have k1:=hr2.cell (j:=1) rfl;have kf:=hr2.free;have HR2:=hid hr2;have HQ:=hid hpe;clear hpe hr2)
 have R3:=Rec.set (Rec.set HR2.out 0 (.int .i64 x)) 1 (.int .i64 y)
 have hl:=load_fault _ w.heap.size _ _ (R3.cell (j:=0) rfl) (R3.cell (j:=1) rfl)
 refine bodyPost_ret (v:=.agg #[.int .i64 x,.int .i64 y]) ?_ rfl ⟨w2,x,y,HQ.out,rfl,rfl⟩
 simp [results,Tryz.results190,asAddr,hl]
end
end Go.Proofs.YthgdadohijgleaaGreatDoor
end
end
section
section
namespace Go.Proofs.YthgdadohijgleaaGreatDoor
open Go.RowKit Word
def mkV (v:Vm) (a:Int) (x:Nat):Nat->Vm
 | 0=>v.st a x
 | m+1=>(mkV v a x m).st (a+1+m) 0
def mkE (v:Vm) (a:Int):Nat->Int
 | 0=>v.ldE a
 | m+1=>if mkE v a m≠0 then mkE v a m else v.ldE (a+1+m)
theorem mkV_ldE (v:Vm) (a:Int) (x:Nat) (m:Nat) (b:Int):(mkV v a x m).ldE b=v.ldE b:=by
 induction m with
 | zero=>exact st_ldE ..
 | succ m ih=>unfold mkV;rw [st_ldE,ih]
theorem mkE_stop {v:Vm} {a:Int} {m:Nat} (h:mkE v a m≠0) {n:Nat} (hn:m<=n):mkE v a n=mkE v a m:=by
 induction n with
 | zero=>rw [Nat.le_zero.1 hn]
 | succ n ih=>
  rcases Nat.lt_or_ge n m with h' | h'
  ·rw [show m=n+1 by omega]
  ·have:=ih h'
   show (if mkE v a n≠0 then mkE v a n else _)=_
   rw [if_pos (by rw [this];exact h),this]
section
variable {w:World} {S2:Nat->Prop} {k q b4:Nat} {v:Vm}
def wkS (w:World) (k i:Nat):Prop:=i=k\/w.heap.size<=i
def mkG (q:Nat) (S2:Nat->Prop) (v:Vm) (a:Int) (x n:Nat) (w1:World):Prop:=mkE v a n=0/\VmAt w1 S2 q (mkV v a x n)
def mkH (w:World) (k:Nat) (S2:Nat->Prop) (v:Vm) (a:Int) (n:Nat) (why _a:Int) (v':Vm) (l:Lg) (S S2':Nat->Prop) (_w1:World):Prop:=
 why=mkE v a n/\mkE v a n≠0/\undoL v' l=v/\S=wkS w k/\S2'=S2
structure MkInv (w wr:World) (S2:Nat->Prop) (k q:Nat) (v:Vm) (a:Int) (x m:Nat) (l:Lg):Prop where
 e:mkE v a m=0
 wk:WkAt wr (wkS w k) k (spV q) l
 vm:VmAt wr S2 q (mkV v a x m)
 un:undoL (mkV v a x m) l=v
 ll:l.length=m+1
 t:Touch (fun i=>wkS w k i\/S2 i) w wr
set_option maxRecDepth 100000 in
set_option maxHeartbeats 1600000 in
theorem make_body {bA bW bH p f c:Nat} {a:Int} {x:Nat} (hs:p+f+c<=255) (hx:x<18446744073709551616) (hW:WkAt w (fun i=>i=k) k (spV q) []) (hV:VmAt w S2 q v) (hS:∀ i,S2 i->i<w.heap.size) (hk:¬ S2 k)
  (cA:Rec w bA 3 [.int .i64 a]) (cW:Rec w bW 49 [.int .u64 x]) (cH:Rec w bH 48 [.int .i64 p,.int .i64 f,.int .i64 c]) (nA:¬ S2 bA) (nH:¬ S2 bH) (n4:¬ S2 b4) (m4:b4<w.heap.size) (d4:b4≠k):
  Calls Tryz.prog 223 #[.pointer (some ⟨k,0,none⟩),.pointer (some ⟨bA,0,none⟩),.pointer (some ⟨bW,0,none⟩),.pointer (some ⟨bH,0,none⟩)] w
   (BodyEnd q k b4 (fun i=>wkS w k i\/S2 i) w (mkG q S2 v a x (p+f+c)) (mkH w k S2 v a (p+f+c))):=by
 have kA:=cA.cell (j:=0) rfl
 have kW:=cW.cell (j:=0) rfl
 obtain ⟨vl,hr,-⟩:=hW.row
 have hkA:bA≠k:=own_ne cA hr (by decide) rfl rfl
 have hkH:bH≠k:=own_ne cH hr (by decide) rfl rfl
 have hkl:=hr.lt
 have hd:∀ i,wkS w k i->¬ S2 i:=fun i hi h=>by
  rcases hi with rfl | hi
  ·exact hk h
  ·have:=hS i h;omega
 have hW':WkAt w (wkS w k) k (spV q) []:=hW.mono (fun i hi=>.inl hi)
 have HD:=hid hd
 have HWK:=hid hW'
 have HST:=hid (wk_store hW' hV hd (by simp) a hx)
 have hN:hdrN ⟨p,f,c⟩=1+(p:Int)+f+c:=if_pos (hdrE_of hs)
 have HSZ:=hid (fun W=>hdr_size ⟨p,f,c⟩ W)
 rw [hN] at HSZ
 unfold hdrV at HSZ
 have HV:=hid hV
 have HCA:=hid cA
 have HCH:=hid cH
 have HNN:=hid (And.intro nA (And.intro nH (And.intro n4 (And.intro hkA hkH))))
 have HB4:=hid (show ¬ wkS w k b4 from fun h=>by rcases h with h | h;exact d4 h;omega)
 clear hr hW hV hd hW' hk nA nH n4 hN cA cW cH
 by_cases h0:v.ldE a=0
 ·have HE:=hid h0
  have har:=ldE_in h0
  have hn2:=HV.out.ok.n2
  clear h0
  go_enter Tryz.func223,Tryz.ntmps223
  go_wp2_with (first
   | (go_at_call 224;refine HST.out.mono ?_;rintro e w1 (⟨h,-⟩ | ⟨-,rfl,ht1,hv1,hk1⟩);(exact absurd HE.out h);have hH1:=HCH.out.touch ht1 (fun h=>h.elim (fun h=>h.elim HNN.out.2.2.2.2 (fun h=>absurd HCH.out.lt (Nat.not_lt_of_le h))) HNN.out.2.1);have j0:=hH1.cell (j:=0) rfl;have j1:=hH1.cell (j:=1) rfl;have j2:=hH1.cell (j:=2) rfl;have HH1:=hid hH1;have HT1:=hid ht1;have HV1:=hid hv1;have HK1:=hid hk1;clear ht1 hv1 hk1 hH1)
   | (go_at_call 111;refine (HSZ.out _).mono ?_;rintro e w2 ⟨rfl,hg2⟩;have HG2:=hid hg2;clear hg2))
  have HI0:Hid (MkInv w w2 S2 k q v a x 0 [(a,v.ldV a)]):=⟨⟨HE.out,(HK1.out.gr HG2.out).mono (fun i hi=>hi.elim id .inr),(HV1.out.gr HG2.out).mono (fun i hi=>hi.1),st_back HV.out.ok HE.out x,rfl,HT1.out.trans (HG2.out.touch _)⟩⟩
  go_loopw [13] (fun i wr=>∃ (m:Nat) (l:Lg),m<=p+f+c/\Hid (MkInv w wr S2 k q v a x m l)/\i=.int .i64 m) (fun i _=>p+f+c-(intOf i).toNat)
  case atStart=>exact ⟨0,_,by omega,HI0,rfl⟩
  case round=>
   obtain ⟨m,l,hm,HI,rfl⟩:=hrel
   have cA1:=HCA.out.touch HI.out.t (fun h=>h.elim (fun h=>h.elim HNN.out.2.2.2.1 (fun h=>absurd HCA.out.lt (Nat.not_lt_of_le h))) HNN.out.1)
   have kA1:=cA1.cell (j:=0) rfl
   clear HI0 kA kW j0 j1 j2
   by_cases hlast:m=p+f+c
   ·have d0:decide ((m:Int)<1+(p:Int)+f+c-1)=false:=decide_eq_false (by omega)
    have HM:=hid hlast
    clear hlast
    go_wp2
    refine bodyPost_end (results_none rfl _ _ _) rfl ?_
    refine ⟨HI.out.t,.inl ⟨rfl,?_⟩⟩
    rw [<-HM.out]
    exact ⟨HI.out.e,HI.out.vm⟩
   ·have d0:decide ((m:Int)<1+(p:Int)+f+c-1)=true:=decide_eq_true (by omega)
    have hll:=HI.out.ll
    have HST2:=hid (wk_store HI.out.wk HI.out.vm HD.out (by omega) (a+1+m) (x:=0) (by omega))
    have hEE:mkE v a (m+1)=v.ldE (a+1+m):=by
     show (if mkE v a m≠0 then mkE v a m else _)=_
     rw [if_neg (fun h=>h HI.out.e)]
    have hLE:=mkV_ldE v a x m (a+1+m)
    by_cases h1:v.ldE (a+1+m)=0
    ·have H1:=hid (hLE.trans h1)
     have HE1:=hid (hEE.trans h1)
     have HML:=hid hlast
     clear hLE h1 hEE hlast hll
     go_wp2_with (go_at_call 224;refine HST2.out.mono ?_;rintro e w3 (⟨h,-⟩ | ⟨-,rfl,ht3,hv3,hk3⟩);(exact absurd H1.out h);have HT3:=hid ht3;have HV3:=hid hv3;have HK3:=hid hk3;clear ht3 hv3 hk3)
     go_round
     case rel=>
      refine ⟨m+1,l++[(a+1+m,(mkV v a x m).ldV (a+1+m))],by have:=HML.out;omega,⟨HE1.out,HK3.out.mono (fun i hi=>hi.elim id (fun h=>.inr (Nat.le_trans HI.out.t.size h))),HV3.out.mono (fun i hi=>hi.1),?_,by rw [List.length_append,HI.out.ll];rfl,HI.out.t.trans HT3.out⟩,by go_num⟩
      rw [undoL_snoc]
      show undoL (((mkV v a x m).st (a+1+m) 0).st _ _) l=v
      rw [st_back HI.out.vm.ok H1.out]
      exact HI.out.un
     case measure=>have:=HML.out;simp [intOf];omega
    ·have H1:Hid ((mkV v a x m).ldE (a+1+m)≠0):=⟨by rw [hLE];exact h1⟩
     have HE1:Hid (mkE v a (p+f+c)=(mkV v a x m).ldE (a+1+m)):=⟨by rw [hLE,<-hEE];exact mkE_stop (by rw [hEE];exact h1) (by omega)⟩
     clear hLE h1 hEE hlast hll
     go_wp2_with (go_at_call 224;refine HST2.out.mono ?_;rintro e w3 (⟨-,hg3,rfl⟩ | ⟨h,-⟩);rotate_left;(exact absurd h H1.out);have HG3:=hid hg3;clear hg3)
     exact ⟨rfl,HI.out.t.trans (HG3.out.touch _),.inr ⟨_,_,_,l,wkS w k,S2,rfl,HI.out.wk.gr HG3.out,HI.out.vm.gr HG3.out,HD.out,HB4.out,HNN.out.2.2.1,HE1.out.symm,by rw [HE1.out];exact H1.out,HI.out.un,rfl,rfl⟩⟩
 ·have HE:=hid h0
  clear h0
  go_enter Tryz.func223,Tryz.ntmps223
  go_wp2_with (go_at_call 224;refine HST.out.mono ?_;rintro e w1 (⟨-,hg1,rfl⟩ | ⟨h,-⟩);rotate_left;(exact absurd h HE.out);have HG1:=hid hg1;clear hg1)
  have he:mkE v a (p+f+c)=v.ldE a:=mkE_stop (m:=0) HE.out (Nat.zero_le _)
  exact ⟨rfl,HG1.out.touch _,.inr ⟨v.ldE a,a,v,[],wkS w k,S2,rfl,HWK.out.gr HG1.out,HV.out.gr HG1.out,HD.out,HB4.out,HNN.out.2.2.1,he.symm,by rw [he];exact HE.out,rfl,rfl,rfl⟩⟩
end
end Go.Proofs.YthgdadohijgleaaGreatDoor
end
section
namespace Go.Proofs.YthgdadohijgleaaGreatDoor
open Go.RowKit Word
theorem call_make (args:Array Value) (w:World):(callFunc 223 args).run Tryz.prog w=.ok (.enter 223 args) w:=by kernel_rfl
theorem field_fault (x y:Value) (w:World):(Instr.field 272 (.agg #[x,y]) 0).run Tryz.prog w=.ok x w:=by kernel_rfl
section
variable {w:World} {S:Nat->Prop} {q:Nat} {v:Vm}
set_option maxRecDepth 100000 in
set_option maxHeartbeats 1600000 in
theorem hdr_put_bad {h:Hdr} (he:hdrE h≠0) (w:World):Calls Tryz.prog 222 #[hdrV h] w fun e w'=>e=.returned (.tuple #[.int .u64 0,.int .i64 15])/\Gr w w':=by
 have HC:=hid (fun W=>hdr_check h W)
 have h15:hdrE h=15:=(hdrE_two h).resolve_left he
 rw [h15] at HC
 clear h15 he
 unfold hdrV at HC ⊢
 go_enter Tryz.func222,Tryz.ntmps222
 go_wp2_with (go_at_call 128;refine (HC.out _).mono ?_;rintro e w1 ⟨rfl,hg1⟩;have HG1:=hid (((Gr.refl w).alloc _).trans hg1);clear hg1)
 go_ret2
 exact ⟨rfl,HG1.out⟩
def MakeEnd (w:World) (S:Nat->Prop) (q:Nat) (v:Vm) (a:Int) (x n:Nat) (e:Ending) (w':World):Prop:=
 ∃ b:Int,e=.returned (.agg #[.int .i64 (mkE v a n),.int .i64 b])/\Touch S w w'/\VmAt w' S q (if mkE v a n=0 then mkV v a x n else v)
theorem run_make (hV:VmAt w S q v) {bA bW bH p f c:Nat} {a:Int} {x:Nat} (hs:p+f+c<=255) (hx:x<18446744073709551616)
  (cA:Rec w bA 3 [.int .i64 a]) (cW:Rec w bW 49 [.int .u64 x]) (cH:Rec w bH 48 [.int .i64 p,.int .i64 f,.int .i64 c]) (nA:¬ S bA) (nH:¬ S bH):
  Calls Tryz.prog 190 #[spV q,.func (.func 223) #[] #[.pointer (some ⟨bA,0,none⟩),.pointer (some ⟨bW,0,none⟩),.pointer (some ⟨bH,0,none⟩)]] w (MakeEnd w S q v a x (p+f+c)):=by
 have hsz:(runW w (spV q)).heap.size=w.heap.size+2:=by unfold runW;rw [World.size_alloc,World.size_alloc]
 obtain ⟨W0,hW0⟩:∃ W0,W0=partW (runW w (spV q)) (w.heap.size+1):=⟨_,rfl⟩
 have hsz0:W0.heap.size=w.heap.size+5:=by rw [hW0];unfold partW;rw [World.size_alloc,World.size_alloc,World.size_alloc,hsz]
 have g1:Gr w (runW w (spV q)):=((Gr.refl w).alloc _).alloc _
 have g2:Gr (runW w (spV q)) W0:=by rw [hW0];exact (((Gr.refl _).alloc _).alloc _).alloc _
 have g:Gr w W0:=g1.trans g2
 have hS2:∀ i,cutS S w i->i<w.heap.size:=fun i hi=>hi.2
 have hbody:=make_body (b4:=w.heap.size+3) (S2:=cutS S w) hs hx ((wk_new w (spV q)).gr g2) (hV.cut.gr g) (fun i hi=>by have:=hS2 i hi;omega) (fun h=>by have:=hS2 _ h;omega) (cA.gr g) (cW.gr g) (cH.gr g) (fun h=>nA h.1) (fun h=>nH h.1) (fun h=>by have:=hS2 _ h;omega) (by omega) (by omega)
 have hrun:=trap_run (w:=w) (sp:=spV q) (q:=q) (F:=223) (caps:=#[.pointer (some ⟨bA,0,none⟩),.pointer (some ⟨bW,0,none⟩),.pointer (some ⟨bH,0,none⟩)]) ⟨_,_,rfl⟩ (Sx:=fun i=>wkS W0 (w.heap.size+1) i\/cutS S w i)
  (G:=mkG q (cutS S w) v a x (p+f+c)) (H:=mkH W0 (w.heap.size+1) (cutS S w) v a (p+f+c)) call_make (by rw [<-hW0];exact hbody)
  (fun i h1 h2 h=>by
   rcases h with (h | h) | h
   ·omega
   ·omega
   ·have:=h.2;omega)
  (fun h=>by
   rcases h with (h | h) | h
   ·omega
   ·omega
   ·exact absurd h.2 (Nat.lt_irrefl _))
  (fun why a' v' l S' S2 w1 h=>by
   obtain ⟨-,-,-,rfl,rfl⟩:=h
   refine ⟨fun h=>?_,fun h=>absurd h.2 (Nat.lt_irrefl _)⟩
   rcases h with h | h <;> omega)
 refine hrun.mono ?_
 rintro e w' ⟨w2,fx,fy,⟨w1,ht1,hp⟩,rfl,rfl⟩
 rw [<-hW0] at ht1
 rw [hsz] at hp
 have hTw:∀ (X:World) (T:Touch (fun i=>w.heap.size<=i\/S i) w X),Touch S w X:=fun X T=>T.mono (fun i hi h=>h.resolve_left (by omega))
 have T1:Touch (fun i=>w.heap.size<=i\/S i) w w1:=(g.touch _).trans' ht1 (fun i hi h=>by
  rcases h with (h | h) | h
  ·left;omega
  ·left;omega
  ·exact .inr h.1)
 rcases hp with ⟨⟨e0,hv1⟩,he,rfl⟩ | ⟨why,a',v',l,S',S2,⟨rfl,e0,hu,rfl,rfl⟩,he,hc⟩
 ·simp only [Ending.returned.injEq,Value.agg.injEq] at he
  have hfx:fx=0/\fy=0:=by simpa using he
  obtain ⟨rfl,rfl⟩:=hfx
  have hT:=(((Touch.refl (fun i=>w.heap.size<=i) w1).setCell (a:=⟨w.heap.size+2+1,0,none⟩) (fun _=>by show w.heap.size<=w.heap.size+2+1;omega) (.int .i64 0)).setCell (a:=⟨w.heap.size+2+1,1,none⟩) (fun _=>by show w.heap.size<=w.heap.size+2+1;omega) (.int .i64 0)).setCell (a:=⟨w.heap.size,0,none⟩) (fun _=>Nat.le_refl _) (.int .i64 0) |>.setCell (a:=⟨w.heap.size,1,none⟩) (fun _=>Nat.le_refl _) (.int .i64 0)
  refine ⟨0,by rw [e0],hTw _ (T1.trans (hT.mono (fun i _ h=>.inl h))),?_⟩
  rw [if_pos e0]
  exact (hv1.touch hT (fun i hi _ h=>by have:=hi.2;omega)).mono (fun i hi=>hi.1)
 ·simp only [Ending.returned.injEq,Value.agg.injEq] at he
  have hfx:fx=mkE v a (p+f+c)/\fy=a':=by simpa using he
  obtain ⟨rfl,rfl⟩:=hfx
  have hT:=fun z1 z2=>((Touch.refl (fun i=>w.heap.size<=i) w2).setCell (a:=⟨w.heap.size,0,none⟩) (fun _=>Nat.le_refl _) z1).setCell (a:=⟨w.heap.size,1,none⟩) (fun _=>Nat.le_refl _) z2
  refine ⟨fy,rfl,hTw _ ((T1.trans' hc.1 (fun i hi h=>?_)).trans ((hT _ _).mono (fun i _ h=>.inl h))),?_⟩
  ·rcases h with (h | h) | h | h
   ·left;omega
   ·left;omega
   ·exact .inr h.1
   ·left;omega
  ·rw [if_neg e0]
   have:=(hc.2.1.touch (hT (.int .i64 (mkE v a (p+f+c))) (.int .i64 fy)) (fun i hi _ h=>by have:=hi.2;omega)).mono (fun i hi=>hi.1)
   rw [hu] at this
   exact this
def mkRes (v:Vm) (a:Int) (h:Hdr):Int:=if a<=0 then 5 else if hdrE h≠0 then 15 else mkE v a (h.p+h.f+h.k).toNat
def mkVm (v:Vm) (a:Int) (h:Hdr):Vm:=if mkRes v a h=0 then mkV v a (hdrW h.p.toNat h.f.toNat h.k.toNat) (h.p+h.f+h.k).toNat else v
theorem hdrW_lt {a b c:Nat} (hs:a+b+c<=255):hdrW a b c<18446744073709551616:=by
 have:=hdrL_lt hs
 unfold hdrW
 omega
set_option maxRecDepth 100000 in
set_option maxHeartbeats 1600000 in
theorem obj_make (hV:VmAt w S q v) (a:Int) (h:Hdr):Calls Tryz.prog 130 #[spV q,.int .i64 a,hdrV h] w fun e w'=>e=.returned (.int .i64 (mkRes v a h))/\Touch S w w'/\VmAt w' (plus S w) q (mkVm v a h):=by
 have HV:=hid hV
 have hmf:∀ (fn:Fn) (first cap:Array Value) (w:World),(Instr.makeFunc fn first cap).run Tryz.prog w=.ok (.func fn first cap) w:=fun _ _ _ _=>rfl
 have HSAME:Hid (mkRes v a h≠0->∀ w',Gr w w'->Touch S w w'/\VmAt w' (plus S w) q (mkVm v a h)):=⟨fun hn w' g=>⟨g.touch S,by unfold mkVm;rw [if_neg hn];exact (hV.gr g).mono (fun k hk=>.inl hk)⟩⟩
 by_cases h0:a<=0
 ·have HR:Hid (mkRes v a h=5):=⟨if_pos h0⟩
  have d0:decide (a<=0)=true:=decide_eq_true h0
  unfold spV hdrV
  clear h0 hV
  go_enter Tryz.func130,Tryz.ntmps130
  go_wp2
  go_ret
  exact ⟨ret_int HR.out.symm,HSAME.out (by rw [HR.out];decide) _ (((Gr.refl w).alloc _).alloc _)⟩
 ·have d0:decide (a<=0)=false:=decide_eq_false h0
  by_cases h1:hdrE h=0
  ·obtain ⟨p,f,c,rfl,hs⟩:=hdrE_zero h1
   have hR:mkRes v a ⟨p,f,c⟩=mkE v a (p+f+c):=by
    unfold mkRes
    rw [if_neg h0,if_neg (fun h=>h h1)]
    congr 1
   have HR:=hid hR
   have HM:Hid (mkVm v a ⟨p,f,c⟩=if mkE v a (p+f+c)=0 then mkV v a (hdrW p f c) (p+f+c) else v):=⟨by
    unfold mkVm
    rw [hR]
    congr 1⟩
   have HP:=hid (fun W=>hdr_put_ok hs W)
   have HRUN:=hid (fun (W:World) (g:Gr w W) (bW:Nat) (cA:Rec W w.heap.size 3 [.int .i64 a]) (cW:Rec W bW 49 [.int .u64 (hdrW p f c:Nat)]) (cH:Rec W (w.heap.size+1) 48 [.int .i64 p,.int .i64 f,.int .i64 c])=>
    run_make (hV.cut.gr g) hs (hdrW_lt hs) cA cW cH (fun h=>absurd h.2 (Nat.lt_irrefl _)) (fun h=>by have:=h.2;omega))
   unfold hdrV at HP
   unfold spV hdrV
   unfold spV at HRUN
   have hfl:=field_fault
   clear hV h0 h1 hR
   go_enter Tryz.func130,Tryz.ntmps130
   go_wp2_with (first
    | (go_at_call 222;refine (HP.out _).mono ?_;rintro e w1 ⟨rfl,hg1⟩;have HG1:=hid hg1;clear hg1)
    | (go_at_call 190;have cA:=(((Rec.new w 3 [.int .i64 a]).gr ((Gr.refl _).alloc _)).gr HG1.out).gr ((Gr.refl w1).alloc (.cells #[.int .u64 (hdrW p f c:Nat)] 49));have cH:=((Rec.new (w.alloc (.cells #[.int .i64 a] 3)) 48 [.int .i64 p,.int .i64 f,.int .i64 c]).gr HG1.out).gr ((Gr.refl w1).alloc (.cells #[.int .u64 (hdrW p f c:Nat)] 49));rw [World.size_alloc] at cH;have cW:=Rec.new w1 49 [.int .u64 (hdrW p f c:Nat)];refine (HRUN.out _ (((((Gr.refl w).alloc _).alloc _).trans HG1.out).alloc _) _ cA cW cH).mono ?_;rintro e w2 ⟨b,rfl,ht2,hv2⟩;have HT2:=hid ht2;have HV2:=hid hv2;clear ht2 hv2 cA cH cW))
   go_ret
   refine ⟨ret_int HR.out.symm,((((((Gr.refl w).alloc _).alloc _).trans HG1.out).alloc _).touch S).trans (HT2.out.mono (fun i _ hi=>hi.1)),?_⟩
   rw [HM.out]
   exact HV2.out.mono (fun i hi=>.inl hi.1)
  ·have HR:Hid (mkRes v a h=15):=⟨by unfold mkRes;rw [if_neg h0,if_pos h1]⟩
   have HP:=hid (fun W=>hdr_put_bad h1 W)
   unfold hdrV at HP
   unfold spV hdrV
   clear hV h0 h1
   go_enter Tryz.func130,Tryz.ntmps130
   go_wp2_with (go_at_call 222;refine (HP.out _).mono ?_;rintro e w1 ⟨rfl,hg1⟩;have HG1:=hid ((((Gr.refl w).alloc _).alloc _).trans hg1);clear hg1)
   go_ret
   exact ⟨ret_int HR.out.symm,HSAME.out (by rw [HR.out];decide) _ (HG1.out.alloc _)⟩
end
end Go.Proofs.YthgdadohijgleaaGreatDoor
end
section
namespace Go.Proofs.YthgdadohijgleaaGreatDoor
open Go.RowKit Word
section
variable {w:World} {S S2:Nat->Prop} {k q b4:Nat} {v:Vm}
end
end Go.Proofs.YthgdadohijgleaaGreatDoor
end
end
section
namespace Go.Proofs.YthgdadohijgleaaGreatDoor
open Go.RowKit Word
structure LaidC where
 pg:Nat
 H:List Hdr
 P:List Nat
 R:List Nat
 bk:Nat
 st:Nat
 ah:Nat
def hdC (H:List Hdr) (k:Nat):Hdr:=H.getD k ⟨0,0,0⟩
def szC (H:List Hdr):Nat->Nat
 | 0=>0
 | k+1=>szC H k+(hdrN (hdC H k)).toNat
def fitC (H:List Hdr) (k:Nat):Bool:=decide (hdrE (hdC H k)=0)&&decide (szC H (k+1)<=512)
def kC (H:List Hdr):Nat:=first (fun k=>!fitC H k) H.length
def LaidC.page (x:LaidC):Nat:=2 ^ (x.pg%6)
def LaidC.k (x:LaidC):Nat:=kC x.H
def LaidC.top (x:LaidC):Nat:=x.page+szC x.H x.k
def LaidC.cf (x:LaidC):Cf:=⟨x.page,x.top,x.page+512,x.page+1024,2 ^ (x.bk%8),x.st%20+1,x.ah%5⟩
def LaidC.n (x:LaidC):Nat:=x.page+1024
def LaidC.room (x:LaidC):Nat:=(x.top-x.page+x.page-1)/x.page+(x.ah%5+1)*max 1 (2 ^ (x.bk%8)/x.page)+1
theorem pow6 (k:Nat):2 ^ (k%6)=1\/2 ^ (k%6)=2\/2 ^ (k%6)=4\/2 ^ (k%6)=8\/2 ^ (k%6)=16\/2 ^ (k%6)=32:=by
 have h:k%6<6:=Nat.mod_lt _ (by decide)
 rcases (by omega:k%6=0\/k%6=1\/k%6=2\/k%6=3\/k%6=4\/k%6=5) with e | e | e | e | e | e <;> rw [e] <;> decide
theorem pow8 (k:Nat):2 ^ (k%8)=1\/2 ^ (k%8)=2\/2 ^ (k%8)=4\/2 ^ (k%8)=8\/2 ^ (k%8)=16\/2 ^ (k%8)=32\/2 ^ (k%8)=64\/2 ^ (k%8)=128:=by
 have h:k%8<8:=Nat.mod_lt _ (by decide)
 rcases (by omega:k%8=0\/k%8=1\/k%8=2\/k%8=3\/k%8=4\/k%8=5\/k%8=6\/k%8=7) with e | e | e | e | e | e | e | e <;> rw [e] <;> decide
theorem fitC_iff {H:List Hdr} {k:Nat}:fitC H k=true↔hdrE (hdC H k)=0/\szC H (k+1)<=512:=by unfold fitC;simp
theorem kC_fit {H:List Hdr} {j:Nat} (h:j<kC H):fitC H j=true:=by
 have:=first_not _ _ j h
 simpa using this
theorem kC_le (H:List Hdr):kC H<=H.length:=first_le _ _
theorem kC_end {H:List Hdr} {k:Nat} (hk:k<=H.length) (hn:∀ j,j<k->fitC H j=true) (ha:k<H.length->fitC H k=false):kC H=k:=
 first_eq hk (fun i hi=>by rw [hn i hi];rfl) (fun h=>by rw [ha h];rfl)
theorem szC_mono (H:List Hdr) {i j:Nat} (h:i<=j):szC H i<=szC H j:=by
 induction j with
 | zero=>rw [Nat.le_zero.1 h];exact Nat.le_refl _
 | succ j ih=>
  rcases Nat.lt_or_ge j i with h' | h'
  ·rw [show i=j+1 by omega];exact Nat.le_refl _
  ·exact Nat.le_trans (ih h') (Nat.le_add_right _ _)
theorem szC_le (H:List Hdr):szC H (kC H)<=512:=by
 rcases Nat.eq_zero_or_pos (kC H) with h | h
 ·rw [h];exact Nat.zero_le _
 ·have:=(fitC_iff.1 (kC_fit (H:=H) (j:=kC H-1) (by omega))).2
  rwa [show kC H-1+1=kC H by omega] at this
theorem kC_hd {H:List Hdr} {j:Nat} (h:j<kC H):∃ p f c:Nat,hdC H j=⟨p,f,c⟩/\p+f+c<=255/\hdrN (hdC H j)=((1+p+f+c:Nat):Int)/\szC H (j+1)=szC H j+(1+p+f+c)/\szC H (j+1)<=szC H (kC H):=by
 obtain ⟨p,f,c,e,hs⟩:=hdrE_zero (fitC_iff.1 (kC_fit h)).1
 have hN:hdrN (hdC H j)=((1+p+f+c:Nat):Int):=by rw [e,show hdrN ⟨p,f,c⟩=1+(p:Int)+f+c from if_pos (hdrE_of hs)];push_cast;rfl
 refine ⟨p,f,c,e,hs,hN,?_,szC_mono H h⟩
 show szC H j+(hdrN (hdC H j)).toNat=_
 rw [hN];omega
theorem szC_len {H:List Hdr}:kC H<=szC H (kC H):=by
 have:∀ j,j<=kC H->j<=szC H j:=fun j=>by
  induction j with
  | zero=>intro _;exact Nat.zero_le _
  | succ j ih=>
   intro h
   obtain ⟨p,f,c,-,-,-,h1,-⟩:=kC_hd (H:=H) (j:=j) h
   have:=ih (by omega)
   omega
 exact this _ (Nat.le_refl _)
section
variable (x:LaidC)
theorem LaidC.page_cases:x.page=1\/x.page=2\/x.page=4\/x.page=8\/x.page=16\/x.page=32:=pow6 _
theorem LaidC.page_pos:1<=x.page/\x.page<=32:=by have:=x.page_cases;omega
theorem LaidC.top_le:x.page<=x.top/\x.top<=x.page+512:=by
 have:=szC_le x.H
 unfold LaidC.top LaidC.k
 omega
theorem LaidC.cfok:CfOk x.page x.n x.cf:=by
 have h1:=x.page_cases
 have h2:=x.top_le
 have h3:=pow8 x.bk
 have h4:x.st%20<20:=Nat.mod_lt _ (by decide)
 have h5:x.ah%5<5:=Nat.mod_lt _ (by decide)
 refine ⟨?_,?_,?_,?_,?_,?_,?_,?_,?_,?_,?_,?_,?_⟩
 ·show blockOk ((2 ^ (x.bk%8):Nat):Int)=true
  rcases h3 with e | e | e | e | e | e | e | e <;> rw [e] <;> decide
 ·show 1<=x.st%20+1/\x.st%20+1<=4096
  omega
 ·show x.ah%5<=16
  omega
 ·exact Nat.le_refl _
 ·exact h2.1
 ·show x.top<=x.page+1024
  omega
 ·show x.page<=x.page+512
  omega
 ·show x.page+512<=x.page+1024
  omega
 ·exact Nat.le_refl _
 ·exact Nat.mod_self _
 ·show (x.page+512)%x.page=0
  rcases h1 with e | e | e | e | e | e <;> rw [e]
 ·show (x.page+1024)%x.page=0
  rcases h1 with e | e | e | e | e | e <;> rw [e]
 ·rintro ⟨-,-,-,h⟩
  have h:x.page+512<(x.top+x.page-1)/x.page*x.page:=h
  rcases h1 with e | e | e | e | e | e <;> rw [e] at h h2 <;> omega
theorem LaidC.room_le:1<=x.room/\x.room<=1200:=by
 have h1:=x.page_cases
 have h2:=x.top_le
 have h3:=pow8 x.bk
 have h5:x.ah%5<5:=Nat.mod_lt _ (by decide)
 have h6:(x.ah%5+1)*max 1 (2 ^ (x.bk%8)/x.page)<=5*128:=Nat.mul_le_mul (by omega) (by
  have:=Nat.div_le_self (2 ^ (x.bk%8)) x.page
  omega)
 have h7:(x.top-x.page+x.page-1)/x.page<=x.top-x.page+x.page-1:=Nat.div_le_self _ _
 unfold LaidC.room
 generalize (x.ah%5+1)*max 1 (2 ^ (x.bk%8)/x.page)=c at *
 generalize (x.top-x.page+x.page-1)/x.page=d at *
 omega
def LaidC.put (i:Nat):Nat:=if i%8=7\/x.k=0 then 0 else x.page+szC x.H (i%x.k)
theorem LaidC.put_le (i:Nat):x.put i<=x.top:=by
 unfold LaidC.put
 split
 ·exact Nat.zero_le _
 ·rename_i h
  have:=szC_mono x.H (Nat.le_of_lt (Nat.mod_lt i (by omega:0<x.k)))
  unfold LaidC.top
  omega
end
def wrdC (n:Nat):Nat:=n*11400714819323198485%18446744073709551616
def fldC (a p:Nat) (s:Vm × Nat × List Int):Nat->Vm × Nat × List Int
 | 0=>s
 | m+1=>if m<p then ((fldC a p s m).1,(fldC a p s m).2.1,(fldC a p s m).2.2++[((a+1+m:Nat):Int)]) else ((fldC a p s m).1.st ((a+1+m:Nat):Int) (wrdC ((fldC a p s m).2.1+1)),(fldC a p s m).2.1+1,(fldC a p s m).2.2)
def objC (page:Nat) (H:List Hdr) (v:Vm):Nat->Vm × Nat × List Int
 | 0=>(v,0,[])
 | k+1=>fldC (page+szC H k) (hdC H k).p.toNat (mkVm (objC page H v k).1 ((page+szC H k:Nat):Int) (hdC H k),(objC page H v k).2) ((hdrN (hdC H k)).toNat-1)
def ptrC (x:LaidC) (F:List Int) (v:Vm):Nat->Vm
 | 0=>v
 | k+1=>(ptrC x F v k).st (F.getD ((x.P.getD (2*k) 0+2*k)%F.length) 0) (x.put (x.P.getD (2*k+1) 0))
def LaidC.fields (x:LaidC) (v0:Vm):List Int:=(objC x.page x.H v0 x.k).2.2
def layC (x:LaidC) (v0:Vm):Vm:=if x.fields v0=[] then (objC x.page x.H v0 x.k).1 else ptrC x (x.fields v0) (objC x.page x.H v0 x.k).1 (x.P.length/2)
def LaidC.nr (x:LaidC):Nat:=max 1 (min x.R.length 64)
def LaidC.rsN (x:LaidC) (i:Nat):List Int:=(List.range x.nr).map fun j=>if j<i/\j<x.R.length then ((x.put (x.R.getD j 0):Nat):Int) else 0
def LaidC.rs (x:LaidC):List Int:=x.rsN x.nr
theorem LaidC.rsN_len (x:LaidC) (i:Nat):(x.rsN i).length=x.nr:=by simp [LaidC.rsN]
theorem LaidC.rsN_zero (x:LaidC):x.rsN 0=List.replicate x.nr 0:=by
 unfold LaidC.rsN
 apply List.ext_getElem
 ·simp
 ·intro i h1 h2;simp
theorem LaidC.rsN_skip (x:LaidC) {i:Nat} (h:¬ i<x.R.length):x.rsN (i+1)=x.rsN i:=by
 unfold LaidC.rsN
 apply List.map_congr_left
 intro j _
 by_cases hj:j<x.R.length
 ·by_cases hi:j<i
  ·rw [if_pos ⟨by omega,hj⟩,if_pos ⟨hi,hj⟩]
  ·omega
 ·rw [if_neg (fun h=>hj h.2),if_neg (fun h=>hj h.2)]
theorem LaidC.rsN_set (x:LaidC) {i:Nat} (h:i<x.R.length):(x.rsN i).set i ((x.put (x.R.getD i 0):Nat):Int)=x.rsN (i+1):=by
 apply List.ext_getElem
 ·simp [LaidC.rsN]
 ·intro j h1 h2
  rw [List.getElem_set]
  simp only [LaidC.rsN,List.getElem_map,List.getElem_range]
  by_cases e:i=j
  ·subst e
   rw [if_pos rfl,if_pos ⟨by omega,h⟩]
  ·rw [if_neg e]
   by_cases hj:j<x.R.length
   ·by_cases hi:j<i
    ·rw [if_pos ⟨hi,hj⟩,if_pos ⟨by omega,hj⟩]
    ·rw [if_neg (by omega),if_neg (by omega)]
   ·rw [if_neg (fun h=>hj h.2),if_neg (fun h=>hj h.2)]
theorem LaidC.nr_le (x:LaidC):1<=x.nr/\x.nr<=64:=by unfold LaidC.nr;omega
theorem wrdC_lt (n:Nat):wrdC n<18446744073709551616:=Nat.mod_lt _ (by decide)
structure Stays (v v':Vm):Prop where
 ok:VmOk v'
 sm:SamePg v v'
theorem Stays.refl {v:Vm} (h:VmOk v):Stays v v:=⟨h,SamePg.refl v⟩
theorem Stays.st {v v':Vm} (h:Stays v v') (a:Int) {x:Nat} (hx:x<18446744073709551616):Stays v (v'.st a x):=⟨h.ok.st a hx,h.sm.trans (SamePg.st _ _ _)⟩
theorem Stays.mkV {v v':Vm} (h:Stays v v') (a:Int) {x:Nat} (hx:x<18446744073709551616) (m:Nat):Stays v (mkV v' a x m):=by
 induction m with
 | zero=>exact h.st a hx
 | succ m ih=>exact ih.st _ (by decide)
theorem Stays.mkVm {v v':Vm} (h:Stays v v') (a:Int) (hd:Hdr):Stays v (mkVm v' a hd):=by
 unfold Go.Proofs.YthgdadohijgleaaGreatDoor.mkVm
 split
 ·rename_i h0
  unfold mkRes at h0
  split at h0
  ·cases h0
  ·split at h0
   ·cases h0
   ·rename_i h1
    obtain ⟨p,f,c,rfl,hs⟩:=hdrE_zero (Decidable.not_not.1 h1)
    exact h.mkV a (hdrW_lt (by simpa using hs)) _
 ·exact h
theorem Stays.fldC {v:Vm} (a p:Nat) {s:Vm × Nat × List Int} (h:Stays v s.1) (m:Nat):Stays v (fldC a p s m).1/\(fldC a p s m).2.1+(fldC a p s m).2.2.length=s.2.1+s.2.2.length+m:=by
 induction m with
 | zero=>exact ⟨h,rfl⟩
 | succ m ih=>
  unfold Go.Proofs.YthgdadohijgleaaGreatDoor.fldC
  split
  ·exact ⟨ih.1,by simp only [List.length_append,List.length_singleton];omega⟩
  ·exact ⟨ih.1.st _ (wrdC_lt _),by dsimp only;omega⟩
theorem Stays.objC {v:Vm} (h:VmOk v) (page:Nat) (H:List Hdr) (k:Nat):Stays v (objC page H v k).1/\(objC page H v k).2.1+(objC page H v k).2.2.length<=szC H k:=by
 induction k with
 | zero=>exact ⟨Stays.refl h,Nat.le_refl _⟩
 | succ k ih=>
  have e1:Go.Proofs.YthgdadohijgleaaGreatDoor.objC page H v (k+1)=Go.Proofs.YthgdadohijgleaaGreatDoor.fldC (page+szC H k) (hdC H k).p.toNat (Go.Proofs.YthgdadohijgleaaGreatDoor.mkVm (Go.Proofs.YthgdadohijgleaaGreatDoor.objC page H v k).1 ((page+szC H k:Nat):Int) (hdC H k),(Go.Proofs.YthgdadohijgleaaGreatDoor.objC page H v k).2) ((hdrN (hdC H k)).toNat-1):=rfl
  have e2:szC H (k+1)=szC H k+(hdrN (hdC H k)).toNat:=rfl
  rw [e1,e2]
  have:=Stays.fldC (v:=v) (page+szC H k) (hdC H k).p.toNat (s:=(Go.Proofs.YthgdadohijgleaaGreatDoor.mkVm (Go.Proofs.YthgdadohijgleaaGreatDoor.objC page H v k).1 ((page+szC H k:Nat):Int) (hdC H k),(Go.Proofs.YthgdadohijgleaaGreatDoor.objC page H v k).2)) (ih.1.mkVm _ _) ((hdrN (hdC H k)).toNat-1)
  refine ⟨this.1,?_⟩
  have h2:=this.2
  have h3:=ih.2
  dsimp only at h2
  omega
theorem put_lt (x:LaidC) (i:Nat):x.put i<18446744073709551616:=by have:=x.put_le i;have:=x.top_le;have:=x.page_pos;omega
theorem Stays.ptrC {v v':Vm} (h:Stays v v') (x:LaidC) (F:List Int) (k:Nat):Stays v (ptrC x F v' k):=by
 induction k with
 | zero=>exact h
 | succ k ih=>exact ih.st _ (put_lt x _)
theorem Stays.layC {v:Vm} (h:VmOk v) (x:LaidC):Stays v (layC x v):=by
 unfold Go.Proofs.YthgdadohijgleaaGreatDoor.layC
 split
 ·exact (Stays.objC h _ _ _).1
 ·exact (Stays.objC h _ _ _).1.ptrC _ _ _
structure Run24 (x:LaidC) (rm:Nat) (v:Vm):Prop where
 ok:VmOk v
 n:v.n=x.n
 pg:v.pl.pg=x.page
 rm:v.pl.rm=rm
 us:v.pl.used=(x.top-1)/x.page
 le:∀ a:Nat,a<x.n->v.ldE a=if x.page<=a/\a<upN x.top x.page then 0 else 12
theorem Run24.stays {x:LaidC} {rm:Nat} {v v':Vm} (h:Run24 x rm v) (s:Stays v v'):Run24 x rm v':=
 ⟨s.ok,s.sm.n.trans h.n,s.sm.pg.trans h.pg,s.sm.rm.trans h.rm,by rw [s.ok.us,s.sm.pt,<-h.ok.us];exact h.us,fun a ha=>by rw [s.sm.ldE];exact h.le a ha⟩
theorem new24_ok {x:LaidC} {rm:Nat} (h1:1<=rm) (h2:rm<=4096):roomOk rm=true/\pageOk x.page=true/\x.n%x.page=0/\x.n<=524288/\VmOk (Vm.new x.n x.page rm):=by
 have hp:=x.page_cases
 have a1:roomOk rm=true:=by unfold roomOk;simp;omega
 have a2:pageOk x.page=true:=by rcases hp with e | e | e | e | e | e <;> rw [e] <;> decide
 have a3:x.n%x.page=0:=by unfold LaidC.n;rcases hp with e | e | e | e | e | e <;> rw [e]
 have a4:x.n<=524288:=by unfold LaidC.n;omega
 exact ⟨a1,a2,a3,a4,VmOk.new a1 a2 (by unfold LaidC.n;omega) a4 a3⟩
theorem unm_new (n pg rm p0 k:Nat):unmL (Vm.new n pg rm) p0 k=List.range' p0 k:=by
 unfold unmL
 rw [List.filter_eq_self]
 intro p _
 show ((List.replicate (n/pg) 0).getD p 0==0)=true
 rw [rep_getD];rfl
theorem need24 {x:LaidC} {rm:Nat} (hrm:x.room<=rm) (ht:x.page<x.top):needE (Vm.new x.n x.page rm) x.page x.top=0/\needF (Vm.new x.n x.page rm) x.page x.top=List.range' 1 ((x.top-1)/x.page):=by
 have hp:=x.page_pos
 have h2:=x.top_le
 have hu:(Vm.new x.n x.page rm).pl.used=0:=rfl
 have e1:pgsN (Vm.new x.n x.page rm) x.page x.top=(x.top-1)/x.page:=by
  unfold pgsN
  show (((x.top:Int)-1)/(x.page:Int)-(x.page:Int)/(x.page:Int)+1).toNat=_
  rw [show (x.top:Int)-1=((x.top-1:Nat):Int) by omega,<-Int.natCast_ediv,Int.ediv_self (by omega)]
  generalize (x.top-1)/x.page=d
  omega
 have e2:(((x.page:Nat):Int)/((Vm.new x.n x.page rm).pl.pg:Int)).toNat=1:=by
  show (((x.page:Nat):Int)/(x.page:Int)).toNat=1
  rw [Int.ediv_self (by omega)];rfl
 have e3:unmL (Vm.new x.n x.page rm) 1 ((x.top-1)/x.page)=List.range' 1 ((x.top-1)/x.page):=unm_new _ _ _ _ _
 have hE:needE (Vm.new x.n x.page rm) x.page x.top=0:=by
  unfold needE
  rw [if_neg (by show ¬ ((x.page:Int)<0\/((x.n:Nat):Int)<(x.top:Int));unfold LaidC.n;omega),if_neg (by omega),e1,e2,e3,List.length_range',hu]
  refine if_pos ?_
  show 0+(x.top-1)/x.page<=rm
  have:(x.top-1)/x.page<=x.room:=by
   unfold LaidC.room
   rw [show x.top-x.page+x.page-1=x.top-1 by omega]
   exact Nat.le_trans (Nat.le_add_right _ _) (Nat.le_add_right _ _)
  rw [Nat.zero_add]
  exact Nat.le_trans this hrm
 refine ⟨hE,?_⟩
 unfold needF
 rw [if_pos ⟨hE,by omega⟩,e1,e2,e3]
theorem pages24 {x:LaidC} {a:Nat} (h:x.page<x.top):(x.page<=a/\a<upN x.top x.page)↔a/x.page∈List.range' 1 ((x.top-1)/x.page):=by
 have hp:=x.page_pos
 rw [List.mem_range'_1]
 have e1:upN x.top x.page=((x.top-1)/x.page+1)*x.page:=by
  unfold upN
  rw [show x.top+x.page-1=x.top-1+x.page by omega,Nat.add_div_right _ (by omega)]
 rw [e1]
 have h1:x.page<=a↔1<=a/x.page:=by rw [Nat.le_div_iff_mul_le (by omega)];omega
 have h2:a<((x.top-1)/x.page+1)*x.page↔a/x.page<(x.top-1)/x.page+1:=by rw [Nat.div_lt_iff_lt_mul (by omega)]
 rw [h1,h2]
 omega
theorem run24_grown {x:LaidC} {rm:Nat} (h1:1<=rm) (h2:rm<=4096) (hrm:x.room<=rm) (ht:x.page<x.top) {v:Vm} (h:Grown (Vm.new x.n x.page rm) v (needF (Vm.new x.n x.page rm) x.page x.top)):Run24 x rm v/\∀ a:Nat,a<x.n->v.ldV a=0:=by
 obtain ⟨-,-,-,-,hok⟩:=new24_ok (x:=x) h1 h2
 rw [(need24 hrm ht).2] at h
 have hz:∀ a:Nat,a<x.n->(Vm.new x.n x.page rm).ldE a=12:=fun a ha=>by
  rw [hok.ldE_of ha]
  refine if_pos ?_
  show (List.replicate (x.n/x.page) 0).getD (a/x.page) 0=0
  exact rep_getD _ _
 refine ⟨⟨h.ok,h.n,h.pg,h.rm,by rw [h.us,List.length_range'];show 0+_=_;omega,fun a ha=>?_⟩,fun a ha=>?_⟩
 ·rw [h.ldE hok ha,hz a ha]
  by_cases hh:a/x.page∈List.range' 1 ((x.top-1)/x.page)
  ·rw [if_pos (show a/(Vm.new x.n x.page rm).pl.pg∈_ from hh),if_pos ((pages24 ht).2 hh)]
  ·rw [if_neg (show ¬ a/(Vm.new x.n x.page rm).pl.pg∈_ from hh),if_neg (fun h=>hh ((pages24 ht).1 h))]
 ·rw [h.vl a ha]
  split
  ·rfl
  ·unfold Vm.ldV
   rw [hz a ha];rfl
theorem run24_none {x:LaidC} {rm:Nat} (h1:1<=rm) (h2:rm<=4096) (ht:¬ x.page<x.top):Run24 x rm (Vm.new x.n x.page rm)/\∀ a:Nat,a<x.n->(Vm.new x.n x.page rm).ldV a=0:=by
 obtain ⟨-,-,-,-,hok⟩:=new24_ok (x:=x) h1 h2
 have hp:=x.page_pos
 have h3:=x.top_le
 have e:x.top=x.page:=by omega
 have hz:∀ a:Nat,a<x.n->(Vm.new x.n x.page rm).ldE a=12:=fun a ha=>by
  rw [hok.ldE_of ha]
  refine if_pos ?_
  show (List.replicate (x.n/x.page) 0).getD (a/x.page) 0=0
  exact rep_getD _ _
 refine ⟨⟨hok,rfl,rfl,rfl,?_,fun a ha=>?_⟩,fun a ha=>?_⟩
 ·rw [e,Nat.div_eq_of_lt (by omega)];rfl
 ·rw [hz a ha,if_neg]
  rintro ⟨h1,h2⟩
  rw [e] at h2
  unfold upN at h2
  rw [show x.page+x.page-1=(x.page-1)+x.page by omega,Nat.add_div_right _ (by omega),Nat.div_eq_of_lt (by omega)] at h2
  omega
 ·unfold Vm.ldV
  rw [hz a ha];rfl
end Go.Proofs.YthgdadohijgleaaGreatDoor
end
