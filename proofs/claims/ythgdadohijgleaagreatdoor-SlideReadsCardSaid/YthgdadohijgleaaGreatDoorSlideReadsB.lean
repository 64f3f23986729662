/- Part 2 of what SlideReads leans on: my own lemmas, merged by shake.py. -/
import Derived.Test.YthgdadohijgleaaGreatDoorSlideReadsA
import Derived.Deep.RegionWith
import Derived.WalkSpells
import Derived.Laws.OwnMore
section
section
namespace Go.Proofs.YthgdadohijgleaaGreatDoor
open Go.RowKit Word
theorem nextL_at {l:List Bool} {a:Int} {k:Nat} (hn:∀ i,i<k->¬ (at_ l i=true/\a<=i)) (h:at_ l k=true) (ha:a<=k):nextL l a=k/\nextL l a<l.length:=by
 have hl:=at_lt h
 have e:nextL l a=k:=first_eq (by omega) (fun i hi=>by
  have:=hn i hi
  cases h1:at_ l i with
  | false=>rfl
  | true=>simp [h1] at this;simp;omega) (fun _=>by simp [h];omega)
 exact ⟨e,by omega⟩
theorem nextL_end {l:List Bool} {a:Int} (hn:∀ i,i<l.length->¬ (at_ l i=true/\a<=i)):nextL l a=l.length:=
 first_eq (by omega) (fun i hi=>by
  have:=hn i hi
  cases h1:at_ l i with
  | false=>rfl
  | true=>simp [h1] at this;simp;omega) (fun h=>by omega)
theorem lastL_at {l:List Bool} {b:Int} {k:Nat} (hn:∀ i:Nat,k<i->¬ (at_ l i=true/\(i:Int)<b)) (h:at_ l k=true) (hb:(k:Int)<b):lastL l b=k:=by
 have hl:=at_lt h
 refine last_eq (by omega) (by omega) (fun i hi _=>?_) (fun _=>by simp [h];omega)
 have:=hn i (by omega)
 cases h1:at_ l i with
 | false=>rfl
 | true=>simp [h1] at this;simp;omega
theorem lastL_end {l:List Bool} {b:Int} (hn:∀ i:Nat,¬ (at_ l i=true/\(i:Int)<b)):lastL l b = -1:=by
 refine last_eq (by omega) (by omega) (fun i hi _=>?_) (fun h=>by omega)
 have:=hn i
 cases h1:at_ l i with
 | false=>rfl
 | true=>simp [h1] at this;simp;omega
def pickV (l:List Bool) (q:Int):Int:=if q<0 then 0 else valN l.length (pickL l q.toNat)
def pickB (l:List Bool) (q:Int):Bool:=decide (0<=q)&&decide (pickL l q.toNat<l.length)
theorem pickL_at {l:List Bool} {k q:Nat} (h:at_ l k=true) (hc:cnt (at_ l) k=q):pickL l q=k/\pickL l q<l.length:=by
 have e:pickL l q=k:=pickF_eq (at_lt h) h hc
 exact ⟨e,by rw [e];exact at_lt h⟩
end Go.Proofs.YthgdadohijgleaaGreatDoor
end
section
namespace Go.Proofs.YthgdadohijgleaaGreatDoor
open Go.RowKit Word
structure Vec (w:World) (p b:Nat) (l:List Bool):Prop where
 ne:p≠b
 hp:p<w.heap.size
 hb:b<w.heap.size
 n1:1<=l.length
 n2:l.length<=1048576
 c0:∃ cap,nw l<=cap/\cap<=maxLen/\w.cell? ⟨p,0,none⟩=some (.slice (some ⟨b,0,none⟩) (nw l) cap)
 c1:w.cell? ⟨p,1,none⟩=some (.int .i64 l.length)
 cw:∀ i,i<nw l->w.cell? ⟨b,i,none⟩=some (.int .u64 (wordOf l i:Nat))
 fw:∀ i,w.frozen? ⟨b,i,none⟩=false
theorem Vec.touch {S:Nat->Prop} {w w':World} {p b:Nat} {l:List Bool} (h:Vec w p b l) (t:Touch S w w') (h1:¬ S p) (h2:¬ S b):Vec w' p b l:=by
 obtain ⟨cap,a1,a2,a3⟩:=h.c0
 exact ⟨h.ne,Nat.lt_of_lt_of_le h.hp t.size,Nat.lt_of_lt_of_le h.hb t.size,h.n1,h.n2,⟨cap,a1,a2,by rw [t.cell h.hp h1];exact a3⟩,by rw [t.cell h.hp h1];exact h.c1,
  fun i hi=>by rw [t.cell h.hb h2];exact h.cw i hi,fun i=>by rw [t.frozen h.hb h2];exact h.fw i⟩
theorem Vec.gr {w w':World} {p b:Nat} {l:List Bool} (h:Vec w p b l) (t:Gr w w'):Vec w' p b l:=h.touch (t.touch (fun _=>False)) (fun h=>h) (fun h=>h)
def codeOf (l:List Bool) (i:Int):Int:=if i<0\/(l.length:Int)<=i then 11 else 0
theorem nw_bd {l:List Bool} (h1:1<=l.length) (h2:l.length<=1048576):1<=nw l/\nw l<=16384:=by unfold nw;omega
theorem div_nw {l:List Bool} {i:Nat} (h:i<l.length):i/64<nw l:=by unfold nw;omega
set_option maxHeartbeats 400000 in
theorem check_any {w:World} {p b:Nat} {l:List Bool} (hV:Vec w p b l) (i:Int):
  Calls Tryz.prog 373 #[.pointer (some ⟨p,0,none⟩),.int .i64 i] w fun e w'=>e=.returned (.int .i64 (codeOf l i))/\w=w':=by
 have c1:=hV.c1
 have n2:=hV.n2
 by_cases h0:i<0
 ·go_enter Tryz.func373,Tryz.ntmps373
  go_wp2
  go_ret
  exact ⟨ret_int (by unfold codeOf;rw [if_pos (by omega)]),rfl⟩
 ·by_cases h1:(l.length:Int)<=i
  ·go_enter Tryz.func373,Tryz.ntmps373
   go_wp2
   go_ret
   exact ⟨ret_int (by unfold codeOf;rw [if_pos (by omega)]),rfl⟩
  ·go_enter Tryz.func373,Tryz.ntmps373
   go_wp2
   go_ret
   exact ⟨ret_int (by unfold codeOf;rw [if_neg (by omega)]),rfl⟩
theorem len_vec {w:World} {p b:Nat} {l:List Bool} (hV:Vec w p b l):
  Calls Tryz.prog 278 #[.pointer (some ⟨p,0,none⟩)] w fun e w'=>e=.returned (.int .i64 l.length)/\w=w':=by
 have c1:=hV.c1
 go_enter Tryz.func278,Tryz.ntmps278
 go_wp2
 go_ret
 exact ⟨rfl,rfl⟩
theorem testBit_code (x j:Nat) (hx:x<18446744073709551616):(bits .and .u64 ((x:Int)/2 ^ j) 1==1)=x.testBit j:=by
 have e:((x:Int)/2 ^ j)=((x/2 ^ j:Nat):Int):=by simp
 have h:=and64 (x/2 ^ j) 1 (Nat.lt_of_le_of_lt (Nat.div_le_self _ _) hx) (by decide)
 rw [e,show (1:Int)=((1:Nat):Int) from rfl,h,Nat.and_one_is_mod,Nat.testBit_eq_decide_div_mod_eq]
 by_cases h1:x/2 ^ j%2=1
 ·simp [h1]
 ·have:x/2 ^ j%2=0:=by omega
  simp [this]
set_option maxHeartbeats 400000 in
theorem test_any {w:World} {p b:Nat} {l:List Bool} (hV:Vec w p b l) (i:Int):
  Calls Tryz.prog 350 #[.pointer (some ⟨p,0,none⟩),.int .i64 i] w fun e w'=>e=.returned (.bool (decide (0<=i)&&at_ l i.toNat))/\w=w':=by
 by_cases hin:0<=i/\i<l.length
 ·obtain ⟨k,rfl⟩:∃ k:Nat,i=k:=⟨i.toNat,by omega⟩
  have hk:k<l.length:=by omega
  have hc:=hV.cw _ (div_nw hk)
  obtain ⟨cap,a1,a2,c0⟩:=hV.c0
  have e0:codeOf l (k:Int)=0:=by unfold codeOf;rw [if_neg (by omega)]
  have n2:=hV.n2
  have hd:=div_nw hk
  have hnb:=nw_bd hV.n1 hV.n2
  have HV:=hid hV
  clear hin
  go_enter Tryz.func350,Tryz.ntmps350
  go_wp2_with (go_at_call 373;refine (check_any HV.out _).mono ?_;rintro e w' ⟨rfl,rfl⟩)
  go_ret
  refine ⟨ret_bool ?_,rfl⟩
  rw [testBit_code _ _ (wordOf_lt l _),testBit_wordOf,decide_eq_true (show k%64<64 by omega),decide_eq_true (show (0:Int)<=k by omega),Int.toNat_natCast]
  simp only [Bool.true_and,at_]
  rw [show 64*(k/64)+k%64=k by omega]
 ·have e0:(decide (0<=i)&&at_ l i.toNat)=false:=by
   by_cases h:0<=i
   ·rw [at_out (by omega)];simp
   ·simp [h]
  rw [e0]
  have e1:codeOf l i=11:=by unfold codeOf;rw [if_pos (by omega)]
  have HV:=hid hV
  clear hin e0
  go_enter Tryz.func350,Tryz.ntmps350
  go_wp2_with (go_at_call 373;refine (check_any HV.out _).mono ?_;rintro e w' ⟨rfl,rfl⟩)
  go_ret
  exact ⟨rfl,rfl⟩
theorem pow_code (j:Nat):IntKind.u64.wrap (2 ^ (j%64))=((2 ^ (j%64):Nat):Int):=by
 have:=wrap_u64_nat (2 ^ (j%64)) (two_pow_lt64 j)
 rw [<-this];simp
theorem andNot64 (a b:Nat) (ha:a<18446744073709551616):bits .andNot .u64 (a:Int) (b:Int)=((andN a b:Nat):Int):=by
 have h1:(BitVec.ofInt 64 (a:Int)).toNat=a:=by
  rw [BitVec.ofInt_natCast,BitVec.toNat_ofNat];exact Nat.mod_eq_of_lt (by omega)
 have h2:(BitVec.ofInt 64 (b:Int)).toNat=b%18446744073709551616:=by
  rw [BitVec.ofInt_natCast,BitVec.toNat_ofNat]
 show IntKind.u64.wrap ((BitVec.ofInt 64 (a:Int) &&& ~~~ BitVec.ofInt 64 (b:Int)).toNat:Int)=_
 rw [BitVec.toNat_and,BitVec.toNat_not,h1,h2]
 have:2 ^ 64-1-b%18446744073709551616=18446744073709551615-b%18446744073709551616:=rfl
 rw [this]
 exact wrap_u64_nat _ (andN_lt a b ha)
theorem Vec.set {w:World} {p b:Nat} {l:List Bool} (h:Vec w p b l) (k:Nat) (x:Bool) (hk:k<l.length) {y:Nat} (hy:y=wordOf (l.set k x) (k/64)):
  Vec (w.setCell ⟨b,k/64,none⟩ (.int .u64 (y:Nat))) p b (l.set k x)/\Touch (fun i=>i=b) w (w.setCell ⟨b,k/64,none⟩ (.int .u64 (y:Nat))):=by
 have t:Touch (fun i=>i=b) w (w.setCell ⟨b,k/64,none⟩ (.int .u64 (y:Nat))):=(Touch.refl (fun i=>i=b) w).setCell (a:=⟨b,k/64,none⟩) (fun _=>rfl) _
 refine ⟨⟨h.ne,Nat.lt_of_lt_of_le h.hp t.size,Nat.lt_of_lt_of_le h.hb t.size,by simp [h.n1],by simp [h.n2],?_,?_,?_,?_⟩,t⟩
 ·obtain ⟨cap,a1,a2,a3⟩:=h.c0
  exact ⟨cap,by rw [nw_set];exact a1,a2,by rw [t.cell h.hp h.ne,a3,nw_set]⟩
 ·rw [t.cell h.hp h.ne,h.c1,List.length_set]
 ·intro i hi
  rw [nw_set] at hi
  by_cases e:i=k/64
  ·subst e
   rw [hy]
   exact World.cell?_setCell_same (h:=h.cw _ hi) ..
  ·rw [World.cell?_setCell_other (h:=by intro e2;injection e2 with _ e3;omega),h.cw i hi,wordOf_set_other l k i x hk e]
 ·intro i;rw [World.frozen?_setCell];exact h.fw i
set_option maxHeartbeats 400000 in
theorem set_in {w:World} {p b:Nat} {l:List Bool} (hV:Vec w p b l) (k:Nat) (hk:k<l.length):
  Calls Tryz.prog 348 #[.pointer (some ⟨p,0,none⟩),.int .i64 k] w fun e w'=>e=.returned (.int .i64 0)/\Touch (fun i=>i=b) w w'/\Vec w' p b (l.set k true):=by
 have hc:=hV.cw _ (div_nw hk)
 have hf:=hV.fw (k/64)
 obtain ⟨cap,a1,a2,c0⟩:=hV.c0
 have e0:codeOf l (k:Int)=0:=by unfold codeOf;rw [if_neg (by omega)]
 have n2:=hV.n2
 have hd:=div_nw hk
 have hnb:=nw_bd hV.n1 hV.n2
 have HV:=hid hV
 go_enter Tryz.func348,Tryz.ntmps348
 go_wp2_with (go_at_call 373;refine (check_any HV.out _).mono ?_;rintro e w' ⟨rfl,rfl⟩)
 go_region
 have hv:bits BinOp.or IntKind.u64 (wordOf l (k/64)) (IntKind.u64.wrap (2 ^ (k%64)))=((wordOf l (k/64) ||| 2 ^ (k%64):Nat):Int):=by
  rw [pow_code];exact bits_or_u64_nat _ _ (wordOf_lt _ _) (two_pow_lt64 k)
 rw [hv]
 have HV2:=hV.set k true hk (wordOf_set_on l k hk).symm
 clear hv
 go_wp2
 go_ret
 exact ⟨rfl,HV2.2.drew,HV2.1.gr ((Gr.refl _).drew)⟩
end Go.Proofs.YthgdadohijgleaaGreatDoor
end
section
namespace Go.Proofs.YthgdadohijgleaaGreatDoor
open Go.RowKit Word
theorem ret2 {a b c d:Value} (h:a=c) (h2:b=d):Ending.returned (.tuple #[a,b])=.returned (.tuple #[c,d]):=by rw [h,h2]
theorem vint {k:IntKind} {a b:Int} (h:a=b):Value.int k a=.int k b:=by rw [h]
theorem vbool {a b:Bool} (h:a=b):Value.bool a=.bool b:=by rw [h]
set_option maxRecDepth 100000 in
set_option maxHeartbeats 800000 in
theorem next_vec {w:World} {p b:Nat} {l:List Bool} (hV:Vec w p b l) (hT:TabAt w) (i:Int):
  Calls Tryz.prog 330 #[.pointer (some ⟨p,0,none⟩),.int .i64 i] w fun e w'=>
   e=.returned (.tuple #[.int .i64 (valN l.length (nextL l i)),.bool (decide (nextL l i<l.length))])/\w=w':=by
 have c1:=hV.c1
 have n2:=hV.n2
 by_cases hout:(l.length:Int)<=i
 ·have e:=hid (next_out hout)
  go_enter Tryz.func330,Tryz.ntmps330
  go_wp2
  go_ret2
  exact ⟨ret2 (vint (by rw [e.out,valN_no (by omega)])) (vbool (by rw [e.out];simp)),rfl⟩
 ·obtain ⟨a,ha⟩:∃ a:Nat,a=i.toNat:=⟨_,rfl⟩
  rw [next_toNat l i,<-ha]
  have hal:a<l.length:=by have:=hV.n1;omega
  obtain ⟨cap,a1,a2,c0⟩:=hV.c0
  have hnb:=nw_bd hV.n1 hV.n2
  have hcw:=hV.cw
  have HC:=hid hcw
  have HT:=hid hT
  clear hT hV hcw
  go_enter Tryz.func330,Tryz.ntmps330
  go_upto_region 3 with (fail)
  go_cut [1] from 9 (fun v w'=>w'=w/\v=.int .i64 a)
  case first=>
   by_cases hneg:i<0
   ·go_wp2
    all_goals (go_meet;case rel=>exact ⟨rfl,vint (by omega)⟩)
   ·go_wp2
    all_goals (go_meet;case rel=>exact ⟨rfl,vint (by omega)⟩)
  case rest=>
   obtain ⟨rfl,rfl⟩:=hcut
   have hal':=div_nw hal
   have HN:=hid (fun k (h:nw l<=k)=>fun fr (h2:noneTo l a (64*k+fr))=>next_none h2 h)
   clear hout ha c1 n2 a1 a2
   generalize nw l=m at *
   have hm:m<=16384:=hnb.2
   clear hnb
   go_wp2
   go_loop [6,7] (fun k fr=>∃ k' fr':Nat,k'<=m/\fr' < 64/\a<=64*k' + fr'/\Hid (noneTo l a (64*k' + fr'))/\k=.int .i64 k'/\fr=.int .i64 fr') (fun k _=>m-(intOf k).toNat)
   case atStart=>exact ⟨a/64,a%64,by omega,by omega,by omega,⟨next_start l a⟩,by go_num,by go_num⟩
   case round=>
    obtain ⟨k,fr,hk,hfr,hak,hno,rfl,rfl⟩:=hrel
    by_cases hlt:k<m
    ·have hc:=HC.out k hlt
     have HI:=hid (next_hit hno.out hak)
     have MI:=hid (next_miss hno.out (by omega))
     have hw:=hid (wordOf_lt l k)
     have ht64:=tz_le (wordOf l k &&& runW fr 64)
     generalize hq:tz (wordOf l k &&& runW fr 64)=q at *
     have HQ:=hid hq
     clear hq hno
     go_wp2_with (go_at_call 364;refine (next_any _ hw.out _ _ HT.out).mono ?_;rintro e w' ⟨rfl,rfl⟩;rw [HQ.out])
     ·have h:q<64:=by omega
      go_ret2
      obtain ⟨h1,h2⟩:=HI.out h
      exact ⟨ret2 (vint (by rw [valN_yes h2,h1];omega)) (vbool (by simp [h2])),rfl⟩
     ·go_round
      case rel=>exact ⟨k+1,0,by omega,by omega,by omega,⟨MI.out (by omega)⟩,by go_num,by go_num⟩
      case measure=>simp [intOf];omega
    ·have NO:=hid (HN.out k (by omega) fr hno.out)
     have hlt':m<=k:=by omega
     clear hno hlt
     go_wp2
     go_ret2
     exact ⟨ret2 (vint (by rw [NO.out,valN_no (by omega)])) (vbool (by rw [NO.out];simp)),rfl⟩
set_option maxRecDepth 100000 in
set_option maxHeartbeats 800000 in
theorem last_vec {w:World} {p b:Nat} {l:List Bool} (hV:Vec w p b l) (i:Int):
  Calls Tryz.prog 272 #[.pointer (some ⟨p,0,none⟩),.int .i64 i] w fun e w'=>
   e=.returned (.tuple #[.int .i64 (valI (lastL l i)),.bool (decide (0<=lastL l i))])/\w=w':=by
 have c1:=hV.c1
 have n2:=hV.n2
 by_cases hout:i<=0
 ·have e:=hid (last_low (l:=l) hout)
  go_enter Tryz.func272,Tryz.ntmps272
  go_wp2
  go_ret2
  exact ⟨ret2 (vint (by rw [e.out];rfl)) (vbool (by rw [e.out];simp)),rfl⟩
 ·obtain ⟨a,ha⟩:∃ a:Nat,(a:Int)=min i l.length:=⟨(min i l.length).toNat,by omega⟩
  rw [last_min l i,<-ha]
  have h1:1<=a:=by have:=hV.n1;omega
  have hal:a<=l.length:=by omega
  obtain ⟨cap,a1,a2,c0⟩:=hV.c0
  have hnb:=nw_bd hV.n1 hV.n2
  have hcw:=hV.cw
  have HC:=hid hcw
  clear hV hcw
  go_enter Tryz.func272,Tryz.ntmps272
  go_upto_region 3 with (fail)
  go_cut [1] from 8 (fun v w'=>w'=w/\v=.int .i64 a)
  case first=>
   by_cases hneg:i<l.length
   ·go_wp2
    all_goals (go_meet;case rel=>exact ⟨rfl,vint (by omega)⟩)
   ·go_wp2
    all_goals (go_meet;case rel=>exact ⟨rfl,vint (by omega)⟩)
  case rest=>
   obtain ⟨rfl,rfl⟩:=hcut
   have hal':(a-1)/64<nw l:=div_nw (by omega)
   have hst:noneFrom l (a:Int) (64*(((a-1)/64:Nat):Int)+64):=fun i h1 h2=>by omega
   have HS:=hid hst
   have a64:a<=1048576:=by omega
   clear hout ha c1 n2 a1 a2 hst
   generalize nw l=m at *
   have hm:(m:Int)<=16384:=by have:=hnb.2;omega
   clear hnb
   go_wp2
   go_loop [6] (fun k=>∃ k':Nat,k'<=m/\Hid (noneFrom l a (64*((k':Int)-1)+64))/\k=.int .i64 ((k':Int)-1)) (fun k=>(intOf k+1).toNat)
   case atStart=>exact ⟨(a-1)/64+1,by omega,⟨by have:=HS.out;rwa [show 64*((((a-1)/64+1:Nat):Int)-1)+64=64*(((a-1)/64:Nat):Int)+64 by omega]⟩,by go_num⟩
   case round=>
    obtain ⟨k',hk,hno,rfl⟩:=hrel
    cases k' with
    | zero=>
     have NO:=hid (last_none hno.out (by omega))
     clear hno
     go_wp2
     go_ret2
     exact ⟨ret2 (vint (by rw [NO.out];rfl)) (vbool (by rw [NO.out];simp)),rfl⟩
    | succ k=>
     have hc:=HC.out k (by omega)
     have hno2:noneFrom l a (64*(k:Int)+64):=by have:=hno.out;rwa [show ((k+1:Nat):Int)-1=k by omega] at this
     rw [show ((k+1:Nat):Int)-1=k by omega]
     have HI:=hid (last_hit hno2)
     have MI:=hid (last_miss hno2)
     have hw:=hid (wordOf_lt l k)
     have ht64:=len_bd (wordOf l k &&& runW 0 ((a:Int)-64*k))
     generalize hq:len (wordOf l k &&& runW 0 ((a:Int)-64*k))=q at *
     have HQ:=hid hq
     clear hq hno hno2
     go_wp2_with (go_at_call 329;refine (last_any _ hw.out _ _).mono ?_;rintro e w' ⟨rfl,rfl⟩;rw [HQ.out])
     ·have h:0<=q-1:=by omega
      go_ret2
      have h1:=HI.out h
      exact ⟨ret2 (vint (by rw [h1];unfold valI;rw [if_pos (by omega)])) (vbool (by rw [h1];simp;omega)),rfl⟩
     ·go_round
      case rel=>exact ⟨k,by omega,⟨by have:=MI.out (by omega);rwa [show 64*((k:Int)-1)+64=64*(k:Int) by omega]⟩,by go_num⟩
      case measure=>simp [intOf]
end Go.Proofs.YthgdadohijgleaaGreatDoor
end
section
namespace Go.Proofs.YthgdadohijgleaaGreatDoor
open Go.RowKit Word
def EachEnd (I:Nat->World->Prop) (lo:Nat) (hi:Int) (W:World):Prop:=∃ k,lo/64<=k/\((lo:Int)<hi->hi<=64*k)/\I k W
set_option maxRecDepth 100000 in
set_option maxHeartbeats 1600000 in
theorem each_any (g:FuncId) (bx:Addr) (p b n m c:Nat) (I:Nat->World->Prop)
  (hg:∀ args W,(callFunc g args).run Tryz.prog W=.ok (.enter g args) W)
  (hI:∀ k W,I k W->W.cell? ⟨p,0,none⟩=some (.slice (some ⟨b,0,none⟩) m c)/\W.cell? ⟨p,1,none⟩=some (.int .i64 n))
  (hD:∀ k W d,I k W->I k (W.drewN d))
  (hm:n<=64*m) (hn:(n:Int)<=1048576) (f t:Int) (hf64:f<=9223372036854775807) (lo:Nat) (hlo:(lo:Int)=max f 0) (hi:Int) (hhi:hi=min t n)
  (hstep:∀ k W,lo/64<=k->(64*k:Int)<hi->(lo:Int)<hi->I k W →
   Calls Tryz.prog g #[.pointer (some ⟨b,k,none⟩),.int .u64 (runW ((lo:Int)-64*k) (hi-64*k):Nat),.pointer (some bx)] W (fun e W'=>e=.returned (.tuple #[])/\I (k+1) W'))
  (w:World) (h0:I (lo/64) w):
  Calls Tryz.prog 335 #[.pointer (some ⟨p,0,none⟩),.int .i64 f,.int .i64 t,.func (.func g) #[] #[.pointer (some bx)]] w fun e W'=>
   e=.returned (.tuple #[])/\EachEnd I lo hi W':=by
 obtain ⟨c0,c1⟩:=hI _ _ h0
 have HI:=hid hI
 have HD:=hid hD
 have HS:=hid hstep
 have H0:=hid h0
 clear hI hD hstep h0
 go_enter Tryz.func335,Tryz.ntmps335
 go_upto_region 1 with (fail)
 go_cut [1,2] from 9 (fun u v w'=>u=.int .i64 lo/\v=.int .i64 hi/\∃ d,w'=w.drewN d)
 case first=>
  have hc1:f<0\/0<=f:=by omega
  have hc2:t<n\/(n:Int)<=t:=by omega
  rcases hc1 with hf | hf <;> rcases hc2 with ht | ht
  all_goals
   go_wp2
   go_region
  all_goals go_wp2
  all_goals (go_meet;case rel=>exact ⟨vint (by omega),vint (by omega),1,rfl⟩)
 case rest=>
  obtain ⟨rfl,rfl,d,rfl⟩:=hcut
  have H1:=hid (HD.out _ _ d H0.out)
  have hhi2:hi<=n:=by omega
  have hlo2:(0:Int)<=lo:=by omega
  have hlo3:(lo:Int)<=9223372036854775807:=by omega
  clear hhi hlo c0 c1 H0
  by_cases hlt:(lo:Int)<hi
  ·have hln:(lo:Int)<1048576:=by omega
   have hin:hi<=1048576:=by omega
   have hpos:1<=hi:=by omega
   have hm2:hi<=64*m:=by omega
   clear hm hn hhi2
   go_upto_region 2 with (fail)
   go_wp2
   go_loopw [8] (fun i W=>∃ k:Nat,lo/64<=k/\Hid (I k W)/\i=.int .i64 k) (fun i _=>(hi+64-64*intOf i).toNat)
   case atStart=>exact ⟨lo/64,by omega,H1,by go_num⟩
   case round=>
    obtain ⟨k,hk,hIk,rfl⟩:=hrel
    by_cases hkk:(64*k:Int)<hi
    ·have hle:(k:Int)<=(hi-1)/64:=by omega
     have hkm:k<m:=by omega
     obtain ⟨c0,c1⟩:=HI.out _ _ hIk.out
     have HC:=hid (HS.out k wr.drew hk hkk hlt (HD.out _ _ 1 hIk.out))
     go_upto_region 5 with (fail)
     have S1:=hid (IntWalk.i64_in (64*(k:Int)) (by omega))
     have S2:=hid (IntWalk.i64_in ((lo:Int)-64*(k:Int)) (by omega))
     have S3:=hid (IntWalk.i64_in (hi-64*(k:Int)) (by omega))
     go_region_with (first
      | (go_at_call 363;rw [S1.out,S2.out,S3.out];refine (run_any _ _ _).mono ?_;rintro e w' ⟨rfl,rfl⟩)
      | (refine HC.out.mono ?_;rintro e W2 ⟨rfl,h2⟩))
     all_goals
      go_wp2
      go_roundw
      case rel=>exact ⟨k+1,by omega,⟨h2⟩,by go_num⟩
      case measure=>simp [intOf];omega
    ·have hle:¬ (k:Int)<=(hi-1)/64:=by omega
     go_wp2
     go_end0
     exact ⟨rfl,k,hk,fun _=>by omega,hIk.out⟩
  ·have hlw:(lo:Int)<=9223372036854775807:=hlo3
   have hlw2:¬ (lo:Int)<hi:=hlt
   have HLT:=hid hlt
   clear hm hn
   go_wp2
   go_loopw [8] (fun i W=>W=w.drewN d/\i=.int .i64 (lo/64:Nat)) (fun _ _=>0)
   case atStart=>exact ⟨rfl,by go_num⟩
   case round=>
    obtain ⟨rfl,rfl⟩:=hrel
    go_wp2
    go_end0
    exact ⟨rfl,lo/64,Nat.le_refl _,fun h=>absurd h (by have:=HLT.out;omega),H1.out⟩
end Go.Proofs.YthgdadohijgleaaGreatDoor
end
section
namespace Go.Proofs.YthgdadohijgleaaGreatDoor
open Go.RowKit Word
set_option maxRecDepth 100000 in
set_option maxHeartbeats 1600000 in
theorem fill1_any (w:World) (b k x m:Nat) (bx:Nat) (n:Int) (hx:x<18446744073709551616) (hm:m<18446744073709551616)
  (hc:w.cell? ⟨b,k,none⟩=some (.int .u64 x)) (hf:w.frozen? ⟨b,k,none⟩=false) (hb:w.cell? ⟨bx,0,none⟩=some (.int .i64 n)) (hfb:w.frozen? ⟨bx,0,none⟩=false) (hne:b≠bx) (hn0:0<=n) (hn:n<=1048576):
  Calls Tryz.prog 370 #[.pointer (some ⟨b,k,none⟩),.int .u64 m,.pointer (some ⟨bx,0,none⟩)] w fun e w'=>
   e=.returned (.tuple #[])/\∃ d,w'=((w.setCell ⟨bx,0,none⟩ (.int .i64 (n+pc (andN m x):Int))).setCell ⟨b,k,none⟩ (.int .u64 (x ||| m:Nat))).drewN d:=by
 have KA:=hid (andNot64 m x hm)
 have KO:=hid (bits_or_u64_nat x m hx hm)
 have HL:=hid (andN_lt m x hm)
 have HX:=hid (and_all (andN m x) (andN_lt m x hm))
 have hp:=pc_le (andN m x)
 have HW:=hid (IntWalk.i64_in (n+pc (andN m x)) (by omega))
 clear hx hm
 go_enter Tryz.func370,Tryz.ntmps370
 go_upto_region 0 with (fail)
 go_region_with (go_at_call 337;rw [KA.out];refine (count_any _ HL.out _ _ _).mono ?_;rintro e w' ⟨rfl,rfl⟩;rw [HX.out])
 all_goals
  rw [HW.out]
  go_wp2
  rw [KO.out]
  go_end0
  exact ⟨rfl,1,rfl⟩
set_option maxRecDepth 100000 in
set_option maxHeartbeats 1600000 in
theorem wipe1_any (w:World) (b k x m:Nat) (bx:Nat) (n:Int) (hx:x<18446744073709551616) (hm:m<18446744073709551616)
  (hc:w.cell? ⟨b,k,none⟩=some (.int .u64 x)) (hf:w.frozen? ⟨b,k,none⟩=false) (hb:w.cell? ⟨bx,0,none⟩=some (.int .i64 n)) (hfb:w.frozen? ⟨bx,0,none⟩=false) (hne:b≠bx) (hn0:0<=n) (hn:n<=1048576):
  Calls Tryz.prog 336 #[.pointer (some ⟨b,k,none⟩),.int .u64 m,.pointer (some ⟨bx,0,none⟩)] w fun e w'=>
   e=.returned (.tuple #[])/\∃ d,w'=((w.setCell ⟨bx,0,none⟩ (.int .i64 (n+pc (m &&& x):Int))).setCell ⟨b,k,none⟩ (.int .u64 (andN x m:Nat))).drewN d:=by
 have KA:=hid (and64 m x hm hx)
 have KO:=hid (andNot64 x m hx)
 have HL:=hid (and_lt m x hm)
 have HX:=hid (and_all (m &&& x) (and_lt m x hm))
 have hp:=pc_le (m &&& x)
 have HW:=hid (IntWalk.i64_in (n+pc (m &&& x)) (by omega))
 clear hx hm
 go_enter Tryz.func336,Tryz.ntmps336
 go_upto_region 0 with (fail)
 go_region_with (go_at_call 337;rw [KA.out];refine (count_any _ HL.out _ _ _).mono ?_;rintro e w' ⟨rfl,rfl⟩;rw [HX.out])
 all_goals
  rw [HW.out]
  go_wp2
  rw [KO.out]
  go_end0
  exact ⟨rfl,1,rfl⟩
set_option maxRecDepth 100000 in
set_option maxHeartbeats 1600000 in
theorem count1_any (w:World) (b k x m:Nat) (bx:Nat) (n:Int) (hx:x<18446744073709551616) (hm:m<18446744073709551616)
  (hc:w.cell? ⟨b,k,none⟩=some (.int .u64 x)) (hb:w.cell? ⟨bx,0,none⟩=some (.int .i64 n)) (hfb:w.frozen? ⟨bx,0,none⟩=false) (hn0:0<=n) (hn:n<=1048576):
  Calls Tryz.prog 377 #[.pointer (some ⟨b,k,none⟩),.int .u64 m,.pointer (some ⟨bx,0,none⟩)] w fun e w'=>
   e=.returned (.tuple #[])/\∃ d,w'=(w.setCell ⟨bx,0,none⟩ (.int .i64 (n+pc (m &&& x):Int))).drewN d:=by
 have KA:=hid (and64 m x hm hx)
 have HL:=hid (and_lt m x hm)
 have HX:=hid (and_all (m &&& x) (and_lt m x hm))
 have hp:=pc_le (m &&& x)
 have HW:=hid (IntWalk.i64_in (n+pc (m &&& x)) (by omega))
 clear hx hm
 go_enter Tryz.func377,Tryz.ntmps377
 go_upto_region 0 with (fail)
 go_region_with (go_at_call 337;rw [KA.out];refine (count_any _ HL.out _ _ _).mono ?_;rintro e w' ⟨rfl,rfl⟩;rw [HX.out])
 all_goals
  rw [HW.out]
  go_wp2
  go_end0
  exact ⟨rfl,1,rfl⟩
end Go.Proofs.YthgdadohijgleaaGreatDoor
end
section
namespace Go.Proofs.YthgdadohijgleaaGreatDoor
open Go.RowKit Word
theorem Vec.write {w:World} {p b bx:Nat} {l m:List Bool} (h:Vec w p b l) (k:Nat) (hk:k<nw l) (hl:m.length=l.length) (hw:∀ i,i≠k->wordOf l i=wordOf m i) {y:Nat} (hy:y=wordOf m k) (hbp:bx≠p) (hbb:bx≠b) (v:Value) (d:Nat):
  Vec (((w.setCell ⟨bx,0,none⟩ v).setCell ⟨b,k,none⟩ (.int .u64 (y:Nat))).drewN d) p b m:=by
 have t0:Touch (fun i=>i=bx) w (w.setCell ⟨bx,0,none⟩ v):=(Touch.refl (fun i=>i=bx) w).setCell (a:=⟨bx,0,none⟩) (fun _=>rfl) _
 have h0:=h.touch t0 (fun e=>hbp e.symm) (fun e=>hbb e.symm)
 generalize w.setCell ⟨bx,0,none⟩ v=w1 at *
 have hnw:nw m=nw l:=by unfold nw;rw [hl]
 have t:Touch (fun i=>i=b) w1 (w1.setCell ⟨b,k,none⟩ (.int .u64 (y:Nat))):=(Touch.refl (fun i=>i=b) w1).setCell (a:=⟨b,k,none⟩) (fun _=>rfl) _
 refine Vec.gr ⟨h.ne,Nat.lt_of_lt_of_le h0.hp t.size,Nat.lt_of_lt_of_le h0.hb t.size,by rw [hl];exact h.n1,by rw [hl];exact h.n2,?_,?_,?_,?_⟩ ((Gr.refl _).drewN d)
 ·obtain ⟨cap,a1,a2,a3⟩:=h0.c0
  exact ⟨cap,by rw [hnw];exact a1,a2,by rw [t.cell h0.hp h.ne,a3,hnw]⟩
 ·rw [t.cell h0.hp h.ne,h0.c1,hl]
 ·intro i hi
  rw [hnw] at hi
  by_cases e:i=k
  ·subst e
   rw [hy]
   exact World.cell?_setCell_same (h:=h0.cw _ hi) ..
  ·rw [World.cell?_setCell_other (h:=by intro e2;injection e2 with _ e3;omega),h0.cw i hi,hw i e]
 ·intro i;rw [World.frozen?_setCell];exact h0.fw i
structure LayAt (w0:World) (p b bx:Nat) (c:Nat->Nat) (m:Nat->List Bool) (k:Nat) (W:World):Prop where
 vec:Vec W p b (m k)
 box:W.cell? ⟨bx,0,none⟩=some (.int .i64 (c k:Nat))
 free:W.frozen? ⟨bx,0,none⟩=false
 ne:b≠bx
 np:bx≠p
 lt:bx<W.heap.size
 touch:Touch (fun i=>i=b\/i=bx) w0 W
theorem LayAt.drewN {w0:World} {p b bx:Nat} {c:Nat->Nat} {m:Nat->List Bool} {k:Nat} {W:World} (h:LayAt w0 p b bx c m k W) (d:Nat):LayAt w0 p b bx c m k (W.drewN d):=
 ⟨h.vec.gr ((Gr.refl W).drewN d),h.box,h.free,h.ne,h.np,h.lt,h.touch.drewN d⟩
theorem call_fill1 (args:Array Value) (W:World):(callFunc 370 args).run Tryz.prog W=.ok (.enter 370 args) W:=by kernel_rfl
theorem call_wipe1 (args:Array Value) (W:World):(callFunc 336 args).run Tryz.prog W=.ok (.enter 336 args) W:=by kernel_rfl
theorem call_count1 (args:Array Value) (W:World):(callFunc 377 args).run Tryz.prog W=.ok (.enter 377 args) W:=by kernel_rfl
theorem box_start {w:World} {p b:Nat} {l:List Bool} (hV:Vec w p b l) (m:Nat->List Bool) (c:Nat->Nat) (k:Nat) (hm:m k=l) (hc:c k=0) (T:TypeId):
  LayAt (w.alloc (.cells #[.int .i64 0] T)) p b w.heap.size c m k (w.alloc (.cells #[.int .i64 0] T)):=by
 have hs:=hV.hp
 have hs2:=hV.hb
 exact ⟨by rw [hm];exact hV.gr ((Gr.refl w).alloc _),by rw [hc];exact World.cell?_alloc_new ..,World.frozen?_alloc_new ..,by omega,by omega,by simp,Touch.refl _ _⟩
theorem LayAt.step {w0:World} {p b bx:Nat} {c:Nat->Nat} {m:Nat->List Bool} {k:Nat} {W:World} (h:LayAt w0 p b bx c m k W) (hk:k<nw (m k)) (hl:(m (k+1)).length=(m k).length)
  (hw:∀ i,i≠k->wordOf (m k) i=wordOf (m (k+1)) i) {y:Nat} (hy:y=wordOf (m (k+1)) k) {z:Int} (hz:z=(c (k+1):Nat)) (d:Nat):
  LayAt w0 p b bx c m (k+1) (((W.setCell ⟨bx,0,none⟩ (.int .i64 z)).setCell ⟨b,k,none⟩ (.int .u64 (y:Nat))).drewN d):=by
 refine ⟨h.vec.write k hk hl hw hy h.np (fun e=>h.ne e.symm) _ d,?_,?_,h.ne,h.np,?_,?_⟩
 ·show World.cell? (World.setCell _ _ _) _=_
  rw [World.cell?_setCell_other (h:=by intro e;injection e with e1 _;exact h.ne e1),hz]
  exact World.cell?_setCell_same (h:=h.box) ..
 ·show World.frozen? (World.setCell (World.setCell _ _ _) _ _) _=_
  rw [World.frozen?_setCell,World.frozen?_setCell];exact h.free
 ·have:=h.lt;simpa [World.setCell] using this
 ·exact ((h.touch.setCell (fun _=>.inr rfl) _).setCell (fun _=>.inl rfl) _).drewN d
theorem LayAt.head {w:World} {p b:Nat} {l:List Bool} (hV:Vec w p b l) {T:TypeId} {c:Nat->Nat} {m:Nat->List Bool} {k:Nat} {W:World} (h:LayAt (w.alloc (.cells #[.int .i64 0] T)) p b w.heap.size c m k W):
  W.cell? ⟨p,0,none⟩=w.cell? ⟨p,0,none⟩/\W.cell? ⟨p,1,none⟩=w.cell? ⟨p,1,none⟩:=by
 have hp:=hV.hp
 have e:=fun o=>h.touch.cell (b:=p) (by simp;omega) (by intro h;rcases h with h | h;exact hV.ne h;omega) o
 have g:=fun o=>((Gr.refl w).alloc (.cells #[.int .i64 0] T)).cell (b:=p) hp o
 exact ⟨(e 0).trans (g 0),(e 1).trans (g 1)⟩
def layK (l:List Bool) (lo hi:Int) (x:Bool) (k:Nat):List Bool:=layL l lo (min hi (64*k)) x
def chgK (l:List Bool) (lo hi:Int) (x:Bool) (k:Nat):Nat:=chgL l lo (min hi (64*k)) x
theorem layK_end {l:List Bool} {lo hi:Int} {x:Bool} {k:Nat} (hk:lo<hi->hi<=64*k):layK l lo hi x k=layL l lo hi x/\chgK l lo hi x k=chgL l lo hi x:=by
 unfold layK chgK
 by_cases h:lo<hi
 ·rw [Int.min_eq_left (hk h)];exact ⟨rfl,rfl⟩
 ·rw [layL_empty x (show min hi (64*k)<=lo by omega),layL_empty x (show hi<=lo by omega),chgL_eq,chgL_eq,cntI_empty _ _ (show min hi (64*k)<=lo by omega),cntI_empty _ _ (show hi<=lo by omega)];exact ⟨rfl,rfl⟩
set_option maxRecDepth 100000 in
set_option maxHeartbeats 800000 in
theorem fill_vec {w:World} {p b:Nat} {l:List Bool} (hV:Vec w p b l) (f t:Int) (hf64:f<=9223372036854775807):
  Calls Tryz.prog 346 #[.pointer (some ⟨p,0,none⟩),.int .i64 f,.int .i64 t] w fun e w'=>
   e=.returned (.int .i64 (chgL l f t true:Nat))/\Touch (fun i=>i=b) w w'/\Vec w' p b (layL l f t true):=by
 obtain ⟨lo,hlo⟩:∃ lo:Nat,(lo:Int)=max f 0:=⟨(max f 0).toNat,by omega⟩
 obtain ⟨hi,hhi⟩:∃ hi:Int,hi=min t l.length:=⟨_,rfl⟩
 have hh:hi<=l.length:=by omega
 have hn:=hV.n2
 obtain ⟨cap,a1,a2,c0⟩:=hV.c0
 have hm0:layK l lo hi true (lo/64)=l:=layL_empty _ (by omega)
 have hc0:chgK l lo hi true (lo/64)=0:=by unfold chgK;rw [chgL_eq];exact cntI_empty _ _ (by omega)
 have H0:=fun T=>box_start hV (layK l lo hi true) (chgK l lo hi true) (lo/64) hm0 hc0 T
 have HE:=fun T=>each_any 370 ⟨w.heap.size,0,none⟩ p b l.length (nw l) cap (LayAt (w.alloc (.cells #[.int .i64 0] T)) p b w.heap.size (chgK l lo hi true) (layK l lo hi true))
  call_fill1 (fun k W h=>⟨(LayAt.head hV h).1.trans c0,(LayAt.head hV h).2.trans hV.c1⟩) (fun k W d h=>h.drewN d) (by unfold nw;omega) (by omega) f t hf64 lo hlo hi hhi
  (fun k W hk1 hk2 hlt h=>by
   have hkw:k<nw (layK l lo hi true k):=by unfold layK;rw [nw_layL];unfold nw;omega
   have hcb:chgK l lo hi true k<=l.length:=cntI_le _ _ _ _
   refine (fill1_any W b k (wordOf (layK l lo hi true k) k) _ w.heap.size (chgK l lo hi true k:Nat) (wordOf_lt _ _) (runW_lt _ _) (h.vec.cw k hkw) (h.vec.fw k) h.box h.free h.ne (by omega) (by omega)).mono ?_
   rintro e W' ⟨rfl,d,rfl⟩
   refine ⟨rfl,h.step hkw ?_ ?_ ?_ ?_ d⟩
   ·unfold layK;rw [layL_length,layL_length]
   ·intro i hi';exact word_other hk2 hh true hi'
   ·exact word_on hk2 hh
   ·have:=chg_on hk2 hh (lo:=(lo:Int));unfold chgK layK;omega)
  _ (H0 T)
 have HE:=hid HE
 have HV:=hid hV
 have HLO:=hid hlo
 have HHI:=hid hhi
 clear hV hm0 hc0 H0 hh a1 a2 c0 hhi hlo hn hf64
 have hmf:∀ (fn:Fn) (first cap:Array Value) (w:World),(Instr.makeFunc fn first cap).run Tryz.prog w=.ok (.func fn first cap) w:=fun _ _ _ _=>rfl
 go_enter Tryz.func346,Tryz.ntmps346
 go_wp2_with (go_at_call 335;refine (HE.out _).mono ?_;rintro e W2 ⟨rfl,k,hk1,hk2,hL⟩;have hbox:=hL.box)
 go_ret
 obtain ⟨e1,e2⟩:=layK_end (l:=l) (x:=true) hk2
 refine ⟨ret_int (by rw [e2,HLO.out,HHI.out,chgL_eq,chgL_eq,cntI_clip]),?_,?_⟩
 ·refine (((Gr.refl w).alloc _).touch _).trans' hL.touch ?_
  rintro i hi (h | h)
  ·exact h
  ·omega
 ·have:=hL.vec
  rw [e1,HLO.out,HHI.out,layL_clip] at this
  exact this
set_option maxRecDepth 100000 in
set_option maxHeartbeats 800000 in
theorem wipe_vec {w:World} {p b:Nat} {l:List Bool} (hV:Vec w p b l) (f t:Int) (hf64:f<=9223372036854775807):
  Calls Tryz.prog 279 #[.pointer (some ⟨p,0,none⟩),.int .i64 f,.int .i64 t] w fun e w'=>
   e=.returned (.int .i64 (chgL l f t false:Nat))/\Touch (fun i=>i=b) w w'/\Vec w' p b (layL l f t false):=by
 obtain ⟨lo,hlo⟩:∃ lo:Nat,(lo:Int)=max f 0:=⟨(max f 0).toNat,by omega⟩
 obtain ⟨hi,hhi⟩:∃ hi:Int,hi=min t l.length:=⟨_,rfl⟩
 have hh:hi<=l.length:=by omega
 have hn:=hV.n2
 obtain ⟨cap,a1,a2,c0⟩:=hV.c0
 have hm0:layK l lo hi false (lo/64)=l:=layL_empty _ (by omega)
 have hc0:chgK l lo hi false (lo/64)=0:=by unfold chgK;rw [chgL_eq];exact cntI_empty _ _ (by omega)
 have H0:=fun T=>box_start hV (layK l lo hi false) (chgK l lo hi false) (lo/64) hm0 hc0 T
 have HE:=fun T=>each_any 336 ⟨w.heap.size,0,none⟩ p b l.length (nw l) cap (LayAt (w.alloc (.cells #[.int .i64 0] T)) p b w.heap.size (chgK l lo hi false) (layK l lo hi false))
  call_wipe1 (fun k W h=>⟨(LayAt.head hV h).1.trans c0,(LayAt.head hV h).2.trans hV.c1⟩) (fun k W d h=>h.drewN d) (by unfold nw;omega) (by omega) f t hf64 lo hlo hi hhi
  (fun k W hk1 hk2 hlt h=>by
   have hkw:k<nw (layK l lo hi false k):=by unfold layK;rw [nw_layL];unfold nw;omega
   have hcb:chgK l lo hi false k<=l.length:=cntI_le _ _ _ _
   refine (wipe1_any W b k (wordOf (layK l lo hi false k) k) _ w.heap.size (chgK l lo hi false k:Nat) (wordOf_lt _ _) (runW_lt _ _) (h.vec.cw k hkw) (h.vec.fw k) h.box h.free h.ne (by omega) (by omega)).mono ?_
   rintro e W' ⟨rfl,d,rfl⟩
   refine ⟨rfl,h.step hkw ?_ ?_ ?_ ?_ d⟩
   ·unfold layK;rw [layL_length,layL_length]
   ·intro i hi';exact word_other hk2 hh false hi'
   ·exact word_off hk2 hh
   ·have:=chg_off hk2 hh (lo:=(lo:Int));unfold chgK layK;omega)
  _ (H0 T)
 have HE:=hid HE
 have HV:=hid hV
 have HLO:=hid hlo
 have HHI:=hid hhi
 clear hV hm0 hc0 H0 hh a1 a2 c0 hhi hlo hn hf64
 have hmf:∀ (fn:Fn) (first cap:Array Value) (w:World),(Instr.makeFunc fn first cap).run Tryz.prog w=.ok (.func fn first cap) w:=fun _ _ _ _=>rfl
 go_enter Tryz.func279,Tryz.ntmps279
 go_wp2_with (go_at_call 335;refine (HE.out _).mono ?_;rintro e W2 ⟨rfl,k,hk1,hk2,hL⟩;have hbox:=hL.box)
 go_ret
 obtain ⟨e1,e2⟩:=layK_end (l:=l) (x:=false) hk2
 refine ⟨ret_int (by rw [e2,HLO.out,HHI.out,chgL_eq,chgL_eq,cntI_clip]),?_,?_⟩
 ·refine (((Gr.refl w).alloc _).touch _).trans' hL.touch ?_
  rintro i hi (h | h)
  ·exact h
  ·omega
 ·have:=hL.vec
  rw [e1,HLO.out,HHI.out,layL_clip] at this
  exact this
structure CountAt (w0:World) (bx:Nat) (c:Nat->Nat) (k:Nat) (W:World):Prop where
 box:W.cell? ⟨bx,0,none⟩=some (.int .i64 (c k:Nat))
 free:W.frozen? ⟨bx,0,none⟩=false
 touch:Touch (fun i=>i=bx) w0 W
set_option maxRecDepth 100000 in
set_option maxHeartbeats 800000 in
theorem count_vec {w:World} {p b:Nat} {l:List Bool} (hV:Vec w p b l) (f t:Int) (hf64:f<=9223372036854775807):
  Gets Tryz.prog 372 #[.pointer (some ⟨p,0,none⟩),.int .i64 f,.int .i64 t] w (.int .i64 (countL l f t:Nat)):=by
 obtain ⟨lo,hlo⟩:∃ lo:Nat,(lo:Int)=max f 0:=⟨(max f 0).toNat,by omega⟩
 obtain ⟨hi,hhi⟩:∃ hi:Int,hi=min t l.length:=⟨_,rfl⟩
 have hh:hi<=l.length:=by omega
 have hn:=hV.n2
 have hp:=hV.hp
 have hb:=hV.hb
 obtain ⟨cap,a1,a2,c0⟩:=hV.c0
 obtain ⟨c,hc⟩:∃ c:Nat->Nat,c=fun k=>cntI (at_ l) lo (min hi (64*(k:Nat))) l.length:=⟨_,rfl⟩
 have hc0:c (lo/64)=0:=by rw [hc];exact cntI_empty _ _ (by omega)
 have H0:∀ T,CountAt (w.alloc (.cells #[.int .i64 0] T)) w.heap.size c (lo/64) (w.alloc (.cells #[.int .i64 0] T)):=fun T=>⟨by rw [hc0];exact World.cell?_alloc_new ..,World.frozen?_alloc_new ..,Touch.refl _ _⟩
 have HR:∀ T k W,CountAt (w.alloc (.cells #[.int .i64 0] T)) w.heap.size c k W->∀ q o,q<w.heap.size->W.cell? ⟨q,o,none⟩=w.cell? ⟨q,o,none⟩:=fun T k W h q o hq=>by
  rw [h.touch.cell (by simp;omega) (by omega),((Gr.refl w).alloc _).cell hq]
 have HE:=fun T=>each_any 377 ⟨w.heap.size,0,none⟩ p b l.length (nw l) cap (CountAt (w.alloc (.cells #[.int .i64 0] T)) w.heap.size c)
  call_count1 (fun k W h=>⟨(HR T k W h p 0 hp).trans c0,(HR T k W h p 1 hp).trans hV.c1⟩) (fun k W d h=>⟨h.box,h.free,h.touch.drewN d⟩) (by unfold nw;omega) (by omega) f t hf64 lo hlo hi hhi
  (fun k W hk1 hk2 hlt h=>by
   have hkw:k<nw l:=by unfold nw;omega
   have hcb:c k<=l.length:=by rw [hc];exact cntI_le _ _ _ _
   refine (count1_any W b k (wordOf l k) _ w.heap.size (c k:Nat) (wordOf_lt _ _) (runW_lt _ _) ((HR T k W h b k hb).trans (hV.cw k hkw)) h.box h.free (by omega) (by omega)).mono ?_
   rintro e W' ⟨rfl,d,rfl⟩
   refine ⟨rfl,?_,?_,(h.touch.setCell (fun _=>rfl) _).drewN d⟩
   ·have:=count_on hk2 hh (lo:=(lo:Int))
    have e:((c k:Nat):Int)+(pc (runW ((lo:Int)-64*k) (hi-64*k) &&& wordOf l k):Nat)=(c (k+1):Nat):=by rw [hc];simp only [];omega
    rw [e]
    exact World.cell?_setCell_same (h:=h.box) ..
   ·show World.frozen? (World.setCell _ _ _) _=_
    rw [World.frozen?_setCell];exact h.free)
  _ (H0 T)
 have HE:=hid HE
 have HLO:=hid hlo
 have HHI:=hid hhi
 have HC:=hid hc
 clear hV hc0 H0 hh a1 a2 c0 hhi hlo hn hf64 HR hc
 have hmf:∀ (fn:Fn) (first cap:Array Value) (w:World),(Instr.makeFunc fn first cap).run Tryz.prog w=.ok (.func fn first cap) w:=fun _ _ _ _=>rfl
 unfold Gets
 go_enter Tryz.func372,Tryz.ntmps372
 go_wp2_with (go_at_call 335;refine (HE.out _).mono ?_;rintro e W2 ⟨rfl,k,hk1,hk2,hL⟩;have hbox:=hL.box)
 go_ret
 refine ⟨ret_int ?_,Touch.gr ?_⟩
 ·rw [HC.out,countL_eq,<-cntI_clip (at_ l) f t,<-HLO.out,<-HHI.out]
  simp only []
  by_cases h:(lo:Int)<hi
  ·rw [Int.min_eq_left (hk2 h)]
  ·rw [cntI_empty _ _ (show min hi (64*k)<=lo by omega),cntI_empty _ _ (show hi<=lo by omega)]
 ·refine (((Gr.refl w).alloc _).touch _).trans' hL.touch ?_
  rintro i hi rfl;omega
end Go.Proofs.YthgdadohijgleaaGreatDoor
end
section
namespace Go.Proofs.YthgdadohijgleaaGreatDoor
open Go.RowKit Word
def NewVec (w:World) (l:List Bool) (e:Ending) (w':World):Prop:=
 ∃ p b,e=.returned (.tuple #[.pointer (some ⟨p,0,none⟩),.int .i64 0])/\Gr w w'/\Vec w' p b l/\w.heap.size<=p/\w.heap.size<=b
theorem infoU64:(Tryz.prog.info? 49).map (fun i=>(i.zero,i.size,i.bytes))=some (some (.int .u64 0),1,8):=by kernel_rfl
theorem grownBy_touch {w w':World} {row:Option Nat} (h:w.grownBy w' row) (S:Nat->Prop) (hS:∀ k,row=some k->k<w.heap.size->S k):Touch S w w':=
 ⟨h.os,h.tape,h.output,h.size,fun k hk hn=>h.block k hk (fun e=>hn (hS k e.symm hk))⟩
theorem wordOf_none (n i:Nat):wordOf (List.replicate n false) i=0:=
 (wordOf_eq (by decide) (fun j _=>by rw [Nat.zero_testBit];simp [List.getD_eq_getElem?_getD,List.getElem?_replicate];split <;> rfl)).symm
theorem made_words (n:Nat):(madeCells #[.int .u64 0] n).toList=(List.range n).map fun _=>Value.int .u64 ((0:Nat):Int):=by
 unfold madeCells;simp [Nat.mod_one]
theorem vec_made {w1:World} {l:List Bool} (n1:1<=l.length) (n2:l.length<=1048576) {base T b k cap:Nat} {xs:List Value} {E:TypeId}
  (hown:w1.ownsRow base E 1 (.slice (some ⟨b,0,none⟩) k cap) k xs) (hk:k=nw l) (hcap:cap<=maxLen) (hx:xs=(List.range (nw l)).map fun i=>Value.int .u64 ((wordOf l i:Nat):Int)):
  Vec (w1.alloc (.cells #[.slice (some ⟨b,0,none⟩) k cap,.int .i64 l.length] T)) w1.heap.size b l/\b<w1.heap.size:=by
 obtain ⟨hlen,h | ⟨g,c,cur,e1,e2,e3,e4,e5,e6,e7⟩⟩:=hown
 ·simp at h
 ·simp only [Value.slice.injEq,Option.some.injEq,Addr.mk.injEq,and_true,true_and] at e1
  obtain ⟨rfl,rfl⟩:=e1
  have hb:b<w1.heap.size:=by
   rcases Nat.lt_or_ge b w1.heap.size with h | h
   ·exact h
   ·rw [Array.getElem?_eq_none h] at e3;cases e3
  subst hk
  refine ⟨⟨by omega,by simp,by simp;omega,n1,n2,⟨cap,e4,hcap,?_⟩,?_,?_,?_⟩,hb⟩
  ·exact World.cell?_alloc_new ..
  ·exact World.cell?_alloc_new ..
  ·intro i hi
   rw [World.cell?_alloc_lt (h:=hb)]
   unfold World.cell?
   simp only [e3]
   have:cur[i]?=xs[i]?:=by
    rw [<-e7,Nat.mul_one,List.getElem?_take,if_pos hi,Array.getElem?_toList]
   rw [if_neg (by simp),this,hx]
   simp [hi]
  ·intro i
   rw [World.frozen?_alloc_old (h:=by show b≠_;omega)]
   unfold World.frozen?
   simp only [e3]
   simp
set_option maxRecDepth 100000 in
set_option maxHeartbeats 800000 in
theorem new_vec (n:Nat) (h1:1<=n) (h2:n<=1048576) (w:World):
  Calls Tryz.prog 186 #[.int .i64 n] w (NewVec w (List.replicate n false)):=by
 obtain ⟨i0,hi,hz0,hz1,hz2⟩:=info_parts infoU64
 have d1:decide ((n:Int)<1)=false:=by simp;omega
 have d2:decide ((1048576:Int)<(n:Int))=false:=by simp;omega
 have hb:i0.bytes*((n+63)/64)<=281474976710656:=by rw [hz2];omega
 have hm:(n+63)/64<=maxLen:=by unfold maxLen;omega
 have HB:=hid hb
 have HM:=hid hm
 clear hb hm
 go_enter Tryz.func186,Tryz.ntmps186
 go_wp2_with (at_make;refine wpList_make_full _ rfl _ _ 109 rfl w.heap.size 49 i0 (.int .u64 0) 1 Tryz.underlying109 hi hz0 hz1 .i64 .i64 _ _ ((n+63)/64) rfl rfl ?h1 ?h2 HB.out HM.out (Nat.le_refl _) ?h3)
 case h1=>omega
 case h2=>omega
 case h3=>
  intro w1 hown hgrow
  have hg1:Gr w w1:=(grownBy_touch hgrow (fun _=>False) (fun k e _=>by cases e)).gr
  have HV:=hid (fun T=>vec_made (l:=List.replicate n false) (by simp;omega) (by simp;omega) (T:=T) (show w1.ownsRow w.heap.size 49 1 (.slice (some ⟨w.heap.size,0,none⟩) ((n+63)/64) ((n+63)/64)) ((n+63)/64) _ from hown) (by simp [nw]) (by unfold maxLen;omega) (by
   rw [made_words,nw,List.length_replicate]
   exact List.map_congr_left (fun i _=>by rw [wordOf_none])))
  clear hown hgrow
  go_wp2
  go_ret2
  obtain ⟨hV,hlt⟩:=HV.out 356
  exact ⟨_,_,ret2 rfl rfl,hg1.alloc _,by simpa using hV,hg1.size,Nat.le_refl _⟩
theorem slice_of_own {w:World} {base:Nat} {e:TypeId} {size:Nat} {v:Value} {n:Nat} {xs:List Value} (h:w.ownsRow base e size v n xs) (hn:n≠0):
  ∃ g c,v=.slice (some ⟨g,0,none⟩) n c/\base<=g/\n<=c/\c<=maxLen:=by
 obtain ⟨_,⟨_,h⟩ | ⟨g,c,cur,e1,e2,_,e4,e5,_⟩⟩:=h
 ·exact absurd h hn
 ·exact ⟨g,c,e1,e2,e4,e5⟩
def NewRow (w:World) (l:List Bool) (e:Ending) (w':World):Prop:=
 ∃ g c,e=.returned (.slice (some ⟨g,0,none⟩) (nw l) c)/\Gr w w'/\w.heap.size<=g/\c<=maxLen ∧
  w'.ownsRow w.heap.size 49 1 (.slice (some ⟨g,0,none⟩) (nw l) c) (nw l) ((List.range (nw l)).map fun i=>Value.int .u64 ((wordOf l i:Nat):Int))
set_option maxRecDepth 100000 in
set_option maxHeartbeats 800000 in
theorem clone_words {w:World} {p b:Nat} {l:List Bool} (hV:Vec w p b l) (cap:Nat):
  Calls Tryz.prog 241 #[.slice (some ⟨b,0,none⟩) (nw l) cap] w (NewRow w l):=by
 obtain ⟨i0,hi,hz0,hz1,hz2⟩:=info_parts infoU64
 have hnb:=nw_bd hV.n1 hV.n2
 have hsn:=Lib.run_eql_slice_nil (P:=Tryz.prog) w 109 49 (some ⟨b,0,none⟩) (nw l) cap 0 0 Tryz.underlying109
 have hown:(w.alloc (.cells #[] 49)).ownsRow w.heap.size 49 1 (.slice (some ⟨w.heap.size,0,none⟩) 0 0) 0 []:=
  ⟨rfl,.inr ⟨w.heap.size,0,#[],rfl,Nat.le_refl _,heap_alloc_new w _,Nat.le_refl _,by unfold maxLen;omega,rfl,rfl⟩⟩
 have hcell:∀ (j:Nat) (u:Value),((List.range (nw l)).map fun i=>Value.int .u64 ((wordOf l i:Nat):Int))[j]?=some u->(w.alloc (.cells #[] 49)).cell? (Addr.add ⟨b,0,none⟩ j)=some u:=fun j u hj=>by
  rw [List.getElem?_map] at hj
  have hjl:j<nw l:=by
   rcases Nat.lt_or_ge j (nw l) with h | h
   ·exact h
   ·rw [List.getElem?_eq_none (by simpa using h)] at hj;cases hj
  rw [List.getElem?_range hjl] at hj
  simp only [Option.map_some,Option.some.injEq] at hj
  have e:Addr.add ⟨b,0,none⟩ j=⟨b,j,none⟩:=by unfold Addr.add;split <;> simp_all
  rw [e,World.cell?_alloc_lt (h:=hV.hb),hV.cw j hjl,hj]
 have h1c:∀ u∈(List.range (nw l)).map fun i=>Value.int .u64 ((wordOf l i:Nat):Int),u.oneCell'=true:=fun u hu=>by
  obtain ⟨i,_,rfl⟩:=List.mem_map.1 hu;rfl
 have HO:=hid hown
 have HC:=hid hcell
 have H1:=hid h1c
 have HN:=hid hnb
 clear hnb hV hown hcell h1c
 go_enter Tryz.func241,Tryz.ntmps241
 go_wp2_with (at_builtin;refine wpList_append_own _ rfl _ _ 109 rfl w.heap.size 49 i0 (.int .u64 0) 1 8 Tryz.underlying109 hi hz0 hz1 hz2 rfl (by decide) _ _ _ rfl HO.out ⟨b,0,none⟩ (nw l) cap ((List.range (nw l)).map fun i=>Value.int .u64 ((wordOf l i:Nat):Int)) rfl (by simp) HC.out H1.out (by have:=HN.out;unfold maxLen;omega) (by have:=HN.out;omega) (by simp) ?_;intro v' w1 hown1 hgrow _;obtain ⟨g,c,hv,hg1,hg2,hg3⟩:=slice_of_own hown1 (by have:=HN.out;omega);subst hv)
 go_ret
 have hgrow':(w.alloc (.cells #[] 49)).grownBy w1 (some w.heap.size):=hgrow
 refine ⟨g,c,rfl,?_,hg1,hg3,by simpa using hown1⟩
 refine Touch.gr ((((Gr.refl w).alloc _).touch _).trans' (grownBy_touch hgrow' (fun k=>k=w.heap.size) (fun k e _=>by cases e;rfl)) ?_)
 rintro i hi rfl;omega
def NewCopy (w:World) (l:List Bool) (e:Ending) (w':World):Prop:=
 ∃ p b,e=.returned (.pointer (some ⟨p,0,none⟩))/\Gr w w'/\Vec w' p b l/\w.heap.size<=p/\w.heap.size<=b
set_option maxRecDepth 100000 in
set_option maxHeartbeats 800000 in
theorem copy_vec {w:World} {p b:Nat} {l:List Bool} (hV:Vec w p b l):
  Calls Tryz.prog 371 #[.pointer (some ⟨p,0,none⟩)] w (NewCopy w l):=by
 obtain ⟨cap,a1,a2,c0⟩:=hV.c0
 have c1:=hV.c1
 have hpw:=hV.hp
 have HV:=hid hV
 clear hV a1 a2
 go_enter Tryz.func371,Tryz.ntmps371
 go_upto_region 3 with (fail)
 go_region_with (go_at_call 241;refine (clone_words (HV.out.gr ((Gr.refl w).drew)) _).mono ?_;rintro e w1 ⟨g,c,rfl,hg1,hg2,hg3,hown⟩;have c1':=(hg1.cell (b:=p) (by simpa using hpw) 1).trans c1)
 all_goals
  have HF:=hid (fun T=>vec_made HV.out.n1 HV.out.n2 (T:=T) hown rfl hg3 rfl)
  have hgr:=(Gr.refl w).drew.trans hg1
  have hs:w.heap.size<=g:=hg2
  clear hown hg1 hg2 hg3 c0 c1 c1'
  go_wp2
  go_ret
  obtain ⟨hF,hlt⟩:=HF.out 356
  exact ⟨_,_,rfl,hgr.alloc _,hF,hgr.size,hs⟩
end Go.Proofs.YthgdadohijgleaaGreatDoor
end
section
namespace Go.Proofs.YthgdadohijgleaaGreatDoor
open Go.RowKit Word
theorem Gr.tab {w W:World} (h:Gr w W) (hz:1<w.heap.size) (ht:TabAt w):TabAt W:=fun i hi=>by rw [h.cell hz];exact ht i hi
theorem Touch.tab {S:Nat->Prop} {w W:World} (h:Touch S w W) (hz:1<w.heap.size) (hS:¬ S 1) (ht:TabAt w):TabAt W:=fun i hi=>by rw [h.cell hz hS];exact ht i hi
theorem TabAt.lt {w:World} (h:TabAt w):1<w.heap.size:=by
 have:=h 0 (by decide)
 unfold World.cell? at this
 rcases Nat.lt_or_ge 1 w.heap.size with h | h
 ·exact h
 ·rw [Array.getElem?_eq_none h] at this;cases this
end Go.Proofs.YthgdadohijgleaaGreatDoor
end
section
namespace Go.Proofs.YthgdadohijgleaaGreatDoor
open Go.RowKit Word
theorem run_minB2 (P:Program) (ts:Array TypeId) (t:TypeId) (k:IntKind) (x y:Int) (w:World):(Builtin.min_ ts t #[.int k x,.int k y]).run P w=.ok (.int k (min x y)) w:=by
 simp only [Builtin.min_,List.foldlM];simp [run_min2]
theorem run_maxB2 (P:Program) (ts:Array TypeId) (t:TypeId) (k:IntKind) (x y:Int) (w:World):(Builtin.max_ ts t #[.int k x,.int k y]).run P w=.ok (.int k (max x y)) w:=by
 simp only [Builtin.max_,List.foldlM];simp [run_max2]
theorem countL_add (l:List Bool) {a b c:Int} (h1:a<=b) (h2:b<=c):((countL l a b:Nat):Int)+(countL l b c:Nat)=(countL l a c:Nat):=by
 rw [countL_eq,countL_eq,countL_eq]
 have:=cnt_or (f:=fun i=>decide (a<=(i:Nat)/\((i:Nat):Int)<b)&&at_ l i) (g:=fun i=>decide (b<=(i:Nat)/\((i:Nat):Int)<c)&&at_ l i) (fun i=>by
  by_cases h:((i:Nat):Int)<b
  ·rw [decide_eq_false (p:=b<=(i:Nat)/\((i:Nat):Int)<c) (by omega)];simp
  ·rw [decide_eq_false (p:=a<=(i:Nat)/\((i:Nat):Int)<b) (by omega)];simp) l.length
 unfold cntI
 rw [<-Int.natCast_add,<-this]
 congr 1
 refine cnt_congr (fun i _=>?_)
 by_cases h:((i:Nat):Int)<b
 ·rw [decide_eq_false (p:=b<=(i:Nat)/\((i:Nat):Int)<c) (by omega),show decide (a<=(i:Nat)/\((i:Nat):Int)<b)=decide (a<=(i:Nat)/\((i:Nat):Int)<c) from decide_eq_decide.2 (by omega)];simp
 ·rw [decide_eq_false (p:=a<=(i:Nat)/\((i:Nat):Int)<b) (by omega),show decide (b<=(i:Nat)/\((i:Nat):Int)<c)=decide (a<=(i:Nat)/\((i:Nat):Int)<c) from decide_eq_decide.2 (by omega)];simp
theorem countL_all (l:List Bool) {b:Int} (h:l.length<=b):countL l 0 b=cnt (at_ l) l.length:=by
 rw [countL_eq];exact cnt_congr (fun i hi=>by rw [decide_eq_true (by omega)];simp)
theorem countL_upto (l:List Bool) {r:Nat} (h:r<=l.length):countL l 0 (r:Int)=cnt (at_ l) r:=by
 rw [countL_eq]
 unfold cntI
 rw [cnt_ext h (fun i h1 _=>by rw [decide_eq_false (by omega)];rfl)]
 exact cnt_congr (fun i hi=>by rw [decide_eq_true (by omega)];simp)
theorem pick_lt_all {l:List Bool} {q:Nat} (h:q<cnt (at_ l) l.length):pickL l q<l.length/\at_ l (pickL l q)=true/\cnt (at_ l) (pickL l q)=q:=pickF_lt h
theorem pick_all_none {l:List Bool} {q:Nat} (h:cnt (at_ l) l.length<=q):pickL l q=l.length:=pickF_none h
end Go.Proofs.YthgdadohijgleaaGreatDoor
end
section
namespace Go.Proofs.YthgdadohijgleaaGreatDoor
open Go.ChangeShapes Go.WideShapes Go.ChangeAt Go.RowKit Word
theorem cellsInt:Tryz.prog.cellsOf 3=1:=by kernel_rfl
theorem bd_u8 {n:Int} (h:(Lit.int .u8 n).wf=true):0<=n/\n<=255:=by
 simpa [Lit.wf,IntKind.min,IntKind.max,IntKind.signed,IntKind.bits] using h
theorem add_add_ (a:Addr) (i j:Nat):(a.add i).add j=a.add (i+j):=by
 obtain ⟨b,o,s⟩:=a
 unfold Addr.add
 by_cases h1:i=0
 ·subst h1;simp
 ·by_cases h2:j=0
  ·subst h2;simp
  ·have:i+j≠0:=by omega
   simp [h1,h2,Nat.add_assoc]
end Go.Proofs.YthgdadohijgleaaGreatDoor
end
end
section
namespace Go.Proofs.YthgdadohijgleaaGreatDoor
open Go.ChangeShapes Go.WideShapes Go.ChangeAt Go.RowKit
namespace slideReads
theorem named:Tryz.pinned.checked.prog.funcNamed Rows.slideReadsRow.func=some 13:=by kernel_rfl
set_option maxHeartbeats 0 in
theorem closed:joinedFacts Tryz.pinned.checked.prog 13 Tryz.f13 (OpenSpec.ofChange Rows.slideReadsSpec).bare Rows.slideReadsRow=true:=by
 unfold joinedFacts
 repeat' (with_reducible refine Bool.and_eq_true_iff.2 ⟨?_,?_⟩)
 all_goals (as_aux_lemma=>kernel_rfl)
end slideReads
end Go.Proofs.YthgdadohijgleaaGreatDoor
end
section
namespace Go.Proofs.YthgdadohijgleaaGreatDoor
open Go.ChangeShapes Go.WideShapes Go.ChangeAt Go.RowKit Word
theorem array7 (T:Array Value) (h:T.size=7):∃ v0 v1 v2 v3 v4 v5 v6:Value,T=#[v0,v1,v2,v3,v4,v5,v6]:=by
 obtain ⟨l⟩:=T
 match l,h with
 | [v0,v1,v2,v3,v4,v5,v6],_=>exact ⟨v0,v1,v2,v3,v4,v5,v6,rfl⟩
section
variable {P:Program} {H:Type} {enc:TypeId × Value->H} {w:World} {base:Nat} {spare:Nat->Bool} {held:Bool}
theorem trod_struct7 {t:TypeId} {f0 f1 f2 f3 f4 f5 f6:Field} {fuel:Nat} {cs:List Value} {x:DataW H × List MemPlace} (ht:P.underlying t=some (.struct #[f0,f1,f2,f3,f4,f5,f6])) (h:DataW.trod enc P w base spare held fuel t cs=some x):
  ∃ y0 y1 y2 y3 y4 y5 y6 n,DataW.trod enc P w base spare held n f0.type ((cs.drop f0.offset).take (P.cellsOf f0.type))=some y0/\DataW.trod enc P w base spare held n f1.type ((cs.drop f1.offset).take (P.cellsOf f1.type))=some y1 ∧
   DataW.trod enc P w base spare held n f2.type ((cs.drop f2.offset).take (P.cellsOf f2.type))=some y2/\DataW.trod enc P w base spare held n f3.type ((cs.drop f3.offset).take (P.cellsOf f3.type))=some y3 ∧
   DataW.trod enc P w base spare held n f4.type ((cs.drop f4.offset).take (P.cellsOf f4.type))=some y4/\DataW.trod enc P w base spare held n f5.type ((cs.drop f5.offset).take (P.cellsOf f5.type))=some y5 ∧
   DataW.trod enc P w base spare held n f6.type ((cs.drop f6.offset).take (P.cellsOf f6.type))=some y6/\x.1=.agg [y0.1,y1.1,y2.1,y3.1,y4.1,y5.1,y6.1]:=by
 obtain ⟨xs,n,_,rfl,hl,hlen,hf⟩:=DataW.trod_struct ht h
 match xs,hlen with
 | [y0,y1,y2,y3,y4,y5,y6],_=>exact ⟨y0,y1,y2,y3,y4,y5,y6,n,by simpa using hf 0 f0 rfl,by simpa using hf 1 f1 rfl,by simpa using hf 2 f2 rfl,by simpa using hf 3 f3 rfl,by simpa using hf 4 f4 rfl,by simpa using hf 5 f5 rfl,by simpa using hf 6 f6 rfl,by simp⟩
end
end Go.Proofs.YthgdadohijgleaaGreatDoor
end
section
section
namespace Go.Proofs.YthgdadohijgleaaGreatDoor
open Go.RowKit Word
def Rec (w:World) (q T:Nat) (xs:List Value):Prop:=w.ownsRow 0 T xs.length (.slice (some ⟨q,0,none⟩) 1 1) 1 xs
theorem Rec.cell {w:World} {q T:Nat} {xs:List Value} (h:Rec w q T xs) {j:Nat} {u:Value} (hj:xs[j]?=some u):w.cell? ⟨q,j,none⟩=some u:=own_cell h hj
theorem Rec.free {w:World} {q T:Nat} {xs:List Value} (h:Rec w q T xs) (j:Nat):w.frozen? ⟨q,j,none⟩=false:=own_free h j
theorem Rec.lt {w:World} {q T:Nat} {xs:List Value} (h:Rec w q T xs):q<w.heap.size:=(own_lt h rfl).2
theorem Rec.new (w:World) (T:Nat) (xs:List Value):Rec (w.alloc (.cells xs.toArray T)) w.heap.size T xs:=by
 have:=World.ownsRow_lit (base:=0) (e:=T) (size:=xs.length) w xs.toArray 1 (Nat.zero_le _) (by unfold maxLen;omega) (by simp)
 exact this
theorem Rec.set {w:World} {q T:Nat} {xs:List Value} (h:Rec w q T xs) (j:Nat) (u:Value):Rec (w.setCell ⟨q,j,none⟩ u) q T (xs.set j u):=by
 have:=(World.ownsRow.stored h j u).1
 unfold Rec
 rw [List.length_set]
 exact this
theorem Rec.touch {S:Nat->Prop} {w w':World} {q T:Nat} {xs:List Value} (h:Rec w q T xs) (t:Touch S w w') (hS:¬ S q):Rec w' q T xs:=own_touch h t (fun g hg=>by cases hg;exact hS)
theorem Rec.gr {w w':World} {q T:Nat} {xs:List Value} (h:Rec w q T xs) (t:Gr w w'):Rec w' q T xs:=own_gr h t
theorem own_type {w:World} {base E size:Nat} {v:Value} {n:Nat} {xs:List Value} (h:w.ownsRow base E size v n xs) {g:Nat} (hg:v.ownBlock=some g):∃ cur,w.heap[g]?=some (.cells cur E (0,0)):=by
 obtain ⟨_,⟨rfl,_⟩ | ⟨g',cap,cur,rfl,_,h3,_⟩⟩:=h
 ·cases hg
 ·cases hg;exact ⟨cur,h3⟩
theorem own_ne {w:World} {b1 b2 E1 E2 s1 s2:Nat} {v1 v2:Value} {n1 n2:Nat} {xs1 xs2:List Value} (h1:w.ownsRow b1 E1 s1 v1 n1 xs1) (h2:w.ownsRow b2 E2 s2 v2 n2 xs2) (he:E1≠E2) {g1 g2:Nat} (hg1:v1.ownBlock=some g1) (hg2:v2.ownBlock=some g2):g1≠g2:=by
 intro e
 subst e
 obtain ⟨c1,e1⟩:=own_type h1 hg1
 obtain ⟨c2,e2⟩:=own_type h2 hg2
 rw [e1] at e2
 simp only [Option.some.injEq,Obj.cells.injEq] at e2
 exact he e2.2.1
theorem own_shape {w:World} {base E size:Nat} {v:Value} {n:Nat} {xs:List Value} (h:w.ownsRow base E size v n xs):∃ A c,v=.slice A n c/\n<=c/\c<=maxLen:=by
 obtain ⟨_,⟨rfl,rfl⟩ | ⟨g',cap,cur,rfl,_,_,h4,h5,_⟩⟩:=h
 ·exact ⟨none,0,rfl,Nat.le_refl _,Nat.zero_le _⟩
 ·exact ⟨_,_,rfl,h4,h5⟩
theorem own_set_other {w:World} {base E size:Nat} {v:Value} {n:Nat} {xs:List Value} (h:w.ownsRow base E size v n xs) {q j:Nat} (u:Value) (hq:∀ g,v.ownBlock=some g->g≠q):(w.setCell ⟨q,j,none⟩ u).ownsRow base E size v n xs:=
 own_keep h (fun g hg=>Below.heap_setCell _ _ _ _ (hq g hg))
theorem own_pop {w:World} {base E:Nat} {g n c:Nat} {xs:List Value} {x:Value} (h:w.ownsRow base E 1 (.slice (some ⟨g,0,none⟩) (n+1) c) (n+1) (xs++[x])):w.ownsRow base E 1 (.slice (some ⟨g,0,none⟩) n c) n xs:=by
 obtain ⟨h1,⟨h,_⟩ | ⟨g',cap,cur,e1,e2,e3,e4,e5,e6,e7⟩⟩:=h
 ·cases h
 ·simp only [Value.slice.injEq,Option.some.injEq,Addr.mk.injEq,and_true,true_and] at e1
  obtain ⟨rfl,rfl⟩:=e1
  have hl:xs.length=n:=by simp at h1;omega
  refine ⟨by rw [hl,Nat.mul_one],.inr ⟨g,c,cur,rfl,e2,e3,by omega,e5,e6,?_⟩⟩
  rw [Nat.mul_one] at e7 ⊢
  have:cur.toList.take n=(cur.toList.take (n+1)).take n:=by rw [List.take_take];congr 1;omega
  rw [this,e7,<-hl,List.take_left]
end Go.Proofs.YthgdadohijgleaaGreatDoor
end
section
namespace Go.Proofs.YthgdadohijgleaaGreatDoor
open Go.RowKit
theorem zeroCells_one (z:Value) (n:Nat):(Builtin.zeroCells #[z] n).toList=List.replicate n z:=by
 unfold Builtin.zeroCells
 apply List.ext_getElem
 ·simp
 ·intro j h1 h2
  simp [Nat.mod_one]
section
variable {P:Program} (w:World)
theorem run_append_zeros (t it ty e:TypeId) (k:IntKind) (base:Nat) (i:TypeInfo) (z:Value) (ht:P.underlying t=some (.slice e)) (hit:P.underlying it=some (.int k)) (hi:P.info? e=some i) (hz:i.zero=some z)
  (hsize:i.size=1) (hzs:z.cells=#[z]) (hz1:z.oneCell'=true)
  (v:Value) (n:Nat) (xs:List Value) (hown:w.ownsRow base e 1 v n xs) (m:Nat) (hm:0<m) (h63:n+m<=maxLen) (hbytes:(n+m)*i.bytes<=140737488355328) (hbase:base<=w.heap.size):
  ∃ g cap w',(Builtin.append_ #[t,it] ty #[v,.int .i64 m]).run P w=.ok (.slice (some ⟨g,0,none⟩) (n+m) cap) w' ∧
   w'.ownsRow base e 1 (.slice (some ⟨g,0,none⟩) (n+m) cap) (n+m) (xs++List.replicate m z)/\w.grownBy w' v.ownBlock/\(v.ownBlock=some g\/g=w.heap.size)/\g<w'.heap.size:=by
 have hsmall:n+m<=9223372036854775807:=by simp only [maxLen] at h63;omega
 have hmb:(m:Int)*(i.bytes:Int)<=281474976710656:=by
  have h1:m*i.bytes<=(n+m)*i.bytes:=Nat.mul_le_mul_right _ (by omega)
  have h2:((m*i.bytes:Nat):Int)=(m:Int)*(i.bytes:Int):=by push_cast;rfl
  omega
 have hw:IntKind.i64.wrap (m:Int)=(m:Int):=IntWalk.i64_in _ (by omega)
 have hm0:¬ (m:Int)<0:=by omega
 have hmb':¬ (281474976710656:Int)<(m:Int)*(i.bytes:Int):=by omega
 have hai:∀ (w:World),(asInt (Value.int .i64 (m:Int))).run P w=.ok (m:Int) w:=fun _=>by simp [asInt,asIntOf]
 have hmle:¬ (m:Int)<=0:=by omega
 have hmm:max (m:Int) 0=(m:Int):=by omega
 have hmn:¬ m=0:=by omega
 have hne:¬ m*i.size=0:=by rw [hsize];omega
 have hl:xs.length=n:=by have:=hown.1;omega
 have hxl:(xs++List.replicate m z).length=n+m:=by simp [hl]
 have grown:∀ (old:Nat) (row:Option Nat),
   (w.drew.alloc (.cells ((xs++List.replicate m z).toArray++Builtin.zeroCells z.cells (grownCap w (n+m) old e-(n+m))) e)).ownsRow base e 1
    (.slice (some ⟨w.heap.size,0,none⟩) (n+m) (grownCap w (n+m) old e)) (n+m) (xs++List.replicate m z) ∧
   w.grownBy (w.drew.alloc (.cells ((xs++List.replicate m z).toArray++Builtin.zeroCells z.cells (grownCap w (n+m) old e-(n+m))) e)) row:=by
  intro old row
  have hge:=grownCap_ge w (n+m) old e
  have hcm:grownCap w (n+m) old e<=maxLen:=grownCap_le_maxLen w (n+m) old e h63
  refine ⟨⟨by omega,.inr ⟨w.heap.size,_,_,rfl,hbase,heap_alloc_new w.drew _,hge,hcm,?_,?_⟩⟩,⟨rfl,rfl,rfl,by simp,fun k hk _=>Below.heap_alloc w.drew _ k hk⟩⟩
  ·rw [Array.size_append,size_zeroCells,hzs,List.size_toArray,hxl]
   simp;omega
  ·rw [Array.toList_append,List.toList_toArray,Nat.mul_one,<-hxl]
   exact List.take_left
 have hzc:Builtin.zeroCells z.cells m=(List.replicate m z).toArray:=by rw [hzs];apply Array.ext';rw [zeroCells_one]
 rcases hown.2 with ⟨rfl,rfl⟩ | ⟨g,cap,cur,rfl,hbg,hg,hnc,hcm,hcs,htake⟩
 ·obtain rfl:xs=[]:=List.eq_nil_of_length_eq_zero hl
  have h48':¬ (281474976710656<Builtin.nextslicecap m 0*i.bytes):=by rw [nextslicecap_zero hm];have:=hbytes;simp only [Nat.zero_add] at this;omega
  have h63':¬ (9223372036854775807<(m:Int)):=by omega
  have hgr:=grown 0 none
  simp only [Nat.zero_add,List.nil_append] at hgr ⊢
  refine ⟨_,_,_,?_,hgr.1,?_,.inr rfl,by simp⟩
  ·simp [Builtin.append_,run_underlying ht,run_underlying hit,sizeOf,typeInfo,zeroValue,hi,hz,hw,hm0,hmb',h63',h48',Question.forced,run_firstCells_none,newRow,grownCap,hsize,hai,hmm,hmn]
   rw [hzc];simp
  ·exact hgr.2
 ·by_cases hroom:n+m<=cap
  ·have hfit:n*i.size+0+(List.replicate m z).length<=cur.size:=by rw [hsize,hcs];simp;omega
   have hst:=run_storeCells_at P g (n*i.size) e (List.replicate m z) 0 cur w hg (by simpa using hfit) (fun u hu=>by rw [List.eq_of_mem_replicate hu];exact hz1)
   simp only [Nat.add_zero,hsize,Nat.mul_one] at hst
   refine ⟨g,cap,w.setRow g (cur.toList.take n++List.replicate m z++cur.toList.drop (n+(List.replicate m z).length)).toArray,?_,⟨by omega,.inr ⟨g,cap,_,rfl,hbg,setRow_heap w g cur _ e _ hg,hroom,hcm,?_,?_⟩⟩,⟨rfl,rfl,rfl,by simp,fun k _ hk=>setRow_other w g k _ (fun e=>hk (by simp [Value.ownBlock,e]))⟩,.inl rfl,?_⟩
   ·simp [Builtin.append_,run_underlying ht,run_underlying hit,sizeOf,typeInfo,zeroValue,hi,hz,hw,hm0,hmb',hsize,hai,hmn,hroom,hzc,Addr.add_lit]
    simp at hst
    simp [hst]
   ·rw [Nat.mul_one] at hcs
    simp;omega
   ·rw [Nat.mul_one] at htake hcs
    rw [Nat.mul_one,List.toList_toArray,htake,List.append_assoc,<-List.append_assoc,<-hxl]
    exact List.take_left
   ·simp;exact (Array.getElem?_eq_some_iff.1 hg).1
  ·have h48':¬ (281474976710656<Builtin.nextslicecap (n+m) cap*i.bytes):=by have:=growslice_fits (show cap<n+m by omega) hbytes;omega
   have h63':¬ (9223372036854775807<((n:Int)+(m:Int))):=by omega
   have holds:∀ j u,xs[j]?=some u->w.cell? ((⟨g,0,none⟩:Addr).add j)=some u:=hown.cells (g:=g) rfl
   have hfo:=run_firstCells_some (P:=P) w.drew i.size n ⟨g,0,none⟩ n cap xs (by rw [hsize,hl];omega) (by simpa using holds)
   rw [hsize] at hfo
   have hgr:=grown cap (Value.ownBlock (.slice (some ⟨g,0,none⟩) n cap))
   refine ⟨_,_,_,?_,hgr.1,hgr.2,.inr rfl,by simp⟩
   simp [Builtin.append_,run_underlying ht,run_underlying hit,sizeOf,typeInfo,zeroValue,hi,hz,hw,hm0,hmb',h63',h48',Question.forced,hfo,newRow,grownCap,hsize,hai,hmm,hmn,hroom,hzc]
   congr 2
   apply Array.ext'
   simp
theorem wp_append_zeros {o:Oper} {a:Act} {K:Act->World->Prop} {Q:Exit->Act->World->Prop} (s x:Operand) (t it:TypeId)
  (ho:o.op=.call { callee:=.builtin .append,args:=#[s,x],argTypes:=#[t,it] }) (e:TypeId) (k:IntKind) (base:Nat) (i:TypeInfo) (z:Value) (ht:P.underlying t=some (.slice e)) (hit:P.underlying it=some (.int k)) (hi:P.info? e=some i) (hz:i.zero=some z)
  (hsize:i.size=1) (hzs:z.cells=#[z]) (hz1:z.oneCell'=true)
  (v:Value) (n:Nat) (xs:List Value) (hs:a.eval s=v) (hown:w.ownsRow base e 1 v n xs) (m:Nat) (hx:a.eval x=.int .i64 m) (hm:0<m) (h63:n+m<=maxLen) (hbytes:(n+m)*i.bytes<=140737488355328) (hbase:base<=w.heap.size)
  (h:∀ g cap w',w'.ownsRow base e 1 (.slice (some ⟨g,0,none⟩) (n+m) cap) (n+m) (xs++List.replicate m z)->w.grownBy w' v.ownBlock->(v.ownBlock=some g\/g=w.heap.size)->g<w'.heap.size->K (a.put o.dst (.slice (some ⟨g,0,none⟩) (n+m) cap)) w'):o.wp P a w K Q:=by
 obtain ⟨g,cap,w',hr,h2,h3,h4,h5⟩:=run_append_zeros (P:=P) w t it o.type e k base i z ht hit hi hz hsize hzs hz1 v n xs hown m hm h63 hbytes hbase
 unfold Oper.wp execOp
 simp only [ho,resolve,invoke,builtin,Sem.run_bind,Sem.run_pure,Result.andThen_ok,List.map_toArray,List.map_cons,List.map_nil,hs,hx,hr]
 exact h g cap w' h2 h3 h4 h5
theorem wpList_append_zeros {ops:Array Oper} {rest:List Oper} {o:Oper} {a:Act} {Q:Exit->Act->World->Prop} (hgd:o.guard=none) (s x:Operand) (t it:TypeId)
  (ho:o.op=.call { callee:=.builtin .append,args:=#[s,x],argTypes:=#[t,it] }) (e:TypeId) (k:IntKind) (base:Nat) (i:TypeInfo) (z:Value) (ht:P.underlying t=some (.slice e)) (hit:P.underlying it=some (.int k)) (hi:P.info? e=some i) (hz:i.zero=some z)
  (hsize:i.size=1) (hzs:z.cells=#[z]) (hz1:z.oneCell'=true)
  (v:Value) (n:Nat) (xs:List Value) (hs:a.eval s=v) (hown:w.ownsRow base e 1 v n xs) (m:Nat) (hx:a.eval x=.int .i64 m) (hm:0<m) (h63:n+m<=maxLen) (hbytes:(n+m)*i.bytes<=140737488355328) (hbase:base<=w.heap.size)
  (h:∀ g cap w',w'.ownsRow base e 1 (.slice (some ⟨g,0,none⟩) (n+m) cap) (n+m) (xs++List.replicate m z)->w.grownBy w' v.ownBlock->(v.ownBlock=some g\/g=w.heap.size)->g<w'.heap.size->wpList P ops Q rest (a.put o.dst (.slice (some ⟨g,0,none⟩) (n+m) cap)) w'):wpList P ops Q (o :: rest) a w:=
 wpList_plain hgd fun _ hK=>wp_append_zeros w s x t it ho e k base i z ht hit hi hz hsize hzs hz1 v n xs hs hown m hx hm h63 hbytes hbase fun g cap w' h2 h3 h4 h5=>hK _ _ (h g cap w' h2 h3 h4 h5)
theorem run_clear_own (t e:TypeId) (base:Nat) (i:TypeInfo) (z:Value) (ht:P.underlying t=some (.slice e)) (hi:P.info? e=some i) (hz:i.zero=some z)
  (hzs:z.cells=#[z]) (hz1:z.oneCell'=true) {g cap N:Nat} {xs:List Value} (hown:w.ownsRow base e 1 (.slice (some ⟨g,0,none⟩) N cap) N xs) (o n c:Nat) (hn:0<n) (hon:o+n<=N):
  ∃ w',(∀ ty,(Builtin.clear_ #[t] ty #[.slice (some ⟨g,o,none⟩) n c]).run P w=.ok (.tuple #[]) w')/\w'.ownsRow base e 1 (.slice (some ⟨g,0,none⟩) N cap) N (xs.take o++List.replicate n z++xs.drop (o+n))/\w.grownBy w' (some g):=by
 have hzc:Builtin.zeroCells z.cells n=(List.replicate n z).toArray:=by rw [hzs];apply Array.ext';rw [zeroCells_one]
 obtain ⟨hl,⟨h',_⟩ | ⟨g',cap',cur,h',hb,hg,hnc,hcm,hcs,htake⟩⟩:=hown
 ·simp at h'
 ·simp only [Value.slice.injEq,Option.some.injEq,Addr.mk.injEq,and_true,true_and] at h'
  obtain ⟨rfl,rfl⟩:=h'
  rw [Nat.mul_one] at hl hcs htake
  have hst:=run_storeCells_at P g o e (List.replicate n z) 0 cur w hg (by simp;omega) (fun u hu=>by rw [List.eq_of_mem_replicate hu];exact hz1)
  simp only [Nat.add_zero,List.length_replicate] at hst
  have hn0:n≠0:=by omega
  have hlen:xs.length=N:=hl
  refine ⟨_,fun ty=>?_,⟨by simp;omega,.inr ⟨g,cap,(cur.toList.take o++List.replicate n z++cur.toList.drop (o+n)).toArray,rfl,hb,setRow_heap w g cur _ e _ hg,hnc,hcm,by simp;omega,?_⟩⟩,⟨rfl,rfl,rfl,by simp,fun k _ hk=>setRow_other w g k _ (fun e=>hk (by simp [e]))⟩⟩
  ·simp [Builtin.clear_,run_underlying ht,zeroValue,typeInfo,hi,hz,hzc,hn0]
   simp at hst
   simp [hst]
  ·rw [Nat.mul_one,List.toList_toArray,<-htake]
   apply List.ext_getElem?
   intro j
   rw [List.getElem?_take]
   by_cases hj:j<N
   ·rw [if_pos hj]
    by_cases h1:j<o
    ·rw [List.append_assoc,List.append_assoc,List.getElem?_append_left (by simp;omega),List.getElem?_append_left (by simp;omega),List.getElem?_take,List.getElem?_take,if_pos h1,if_pos h1,List.getElem?_take,if_pos hj]
    ·by_cases h2:j<o+n
     ·rw [List.append_assoc,List.append_assoc,List.getElem?_append_right (by simp;omega),List.getElem?_append_left (by simp;omega),List.getElem?_append_right (by simp;omega),List.getElem?_append_left (by simp;omega)]
      congr 1;simp;omega
     ·rw [List.getElem?_append_right (by simp;omega),List.getElem?_append_right (by simp;omega),List.getElem?_drop,List.getElem?_drop,List.getElem?_take,if_pos (by simp;omega)]
      congr 1;simp;omega
   ·rw [if_neg hj,List.getElem?_eq_none (by simp;omega)]
end
end Go.Proofs.YthgdadohijgleaaGreatDoor
end
section
namespace Go.Proofs.YthgdadohijgleaaGreatDoor
open Go.RowKit Word
structure Pl where
 pg:Nat
 rm:Nat
 tk:List Bool
 bk:List Nat
 wd:List Nat
def Pl.used (p:Pl):Nat:=cnt (at_ p.tk) p.tk.length
structure PlOk (p:Pl):Prop where
 pg:blockOk p.pg=true
 pg2:p.pg<=256
 rm:1<=p.rm/\p.rm<=4096
 wl:p.wd.length=p.tk.length*p.pg
 w64:∀ x∈p.wd,x<18446744073709551616
 nd:p.bk.Nodup
 bl:∀ f∈p.bk,f<p.tk.length/\at_ p.tk f=false
 us:p.used+p.bk.length=p.tk.length
 le:p.tk.length<=p.rm
def u64s (l:List Nat):List Value:=l.map fun x=>.int .u64 (x:Nat)
def i64s (l:List Nat):List Value:=l.map fun x=>.int .i64 (x:Nat)
def PoolRow (w:World) (S:Nat->Prop) (q:Nat) (p:Pl):Prop:=
 ∃ vw vt vb hi ts,Rec w q 346 [vw,vt,vb,.int .i64 p.rm,.int .i64 p.pg,.int .i64 p.used,.int .i64 hi,.int .i64 ts] ∧
  w.ownsRow 0 49 1 vw p.wd.length (u64s p.wd)/\w.ownsRow 0 4 1 vt p.tk.length (p.tk.map Value.bool)/\w.ownsRow 0 3 1 vb p.bk.length (i64s p.bk) ∧
  (∀ g,vw.ownBlock=some g->S g)/\(∀ g,vt.ownBlock=some g->S g)/\(∀ g,vb.ownBlock=some g->S g)
def plus (S:Nat->Prop) (w:World) (k:Nat):Prop:=S k\/w.heap.size<=k
structure PoolAt (w:World) (S:Nat->Prop) (q:Nat) (p:Pl):Prop where
 ok:PlOk p
 sq:S q
 row:PoolRow w S q p
theorem PoolAt.touch {S T:Nat->Prop} {w w':World} {q:Nat} {p:Pl} (h:PoolAt w S q p) (t:Touch T w w') (hS:∀ k,S k->k<w.heap.size->¬ T k):PoolAt w' S q p:=by
 obtain ⟨h1,h2,vw,vt,vb,hi,ts,hr,o1,o2,o3,s1,s2,s3⟩:=h
 exact ⟨h1,h2,vw,vt,vb,hi,ts,hr.touch t (hS _ h2 hr.lt),own_touch o1 t (fun g hg=>hS g (s1 g hg) (own_lt o1 hg).2),own_touch o2 t (fun g hg=>hS g (s2 g hg) (own_lt o2 hg).2),own_touch o3 t (fun g hg=>hS g (s3 g hg) (own_lt o3 hg).2),s1,s2,s3⟩
theorem PoolAt.gr {S:Nat->Prop} {w w':World} {q:Nat} {p:Pl} (h:PoolAt w S q p) (t:Gr w w'):PoolAt w' S q p:=h.touch (t.touch (fun _=>False)) (fun _ _ _ h=>h)
theorem u64s_at {l:List Nat} {i:Nat} (h:i<l.length):(u64s l)[i]?=some (.int .u64 (l[i]:Nat)):=by simp [u64s,h]
theorem i64s_at {l:List Nat} {i:Nat} (h:i<l.length):(i64s l)[i]?=some (.int .i64 (l[i]:Nat)):=by simp [i64s,h]
theorem bools_at {l:List Bool} {i:Nat} (h:i<l.length):(l.map Value.bool)[i]?=some (.bool (at_ l i)):=by simp [at_,h]
section
variable {w:World} {S:Nat->Prop} {q:Nat} {p:Pl}
theorem pool_page (hP:PoolAt w S q p):Calls Tryz.prog 244 #[.pointer (some ⟨q,0,none⟩)] w fun e w'=>e=.returned (.int .i64 p.pg)/\w=w':=by
 obtain ⟨vw,vt,vb,hi,ts,hr,-⟩:=hP.row
 have c4:=hr.cell (j:=4) rfl
 clear hr hP
 go_enter Tryz.func244,Tryz.ntmps244
 go_wp2
 go_ret
 exact ⟨rfl,rfl⟩
def chkE (p:Pl) (f:Int):Int:=if decide (0<=f)&&at_ p.tk f.toNat then 0 else 6
set_option maxHeartbeats 800000 in
theorem pool_check (hP:PoolAt w S q p) (f:Int):Calls Tryz.prog 345 #[.pointer (some ⟨q,0,none⟩),.int .i64 f] w fun e w'=>e=.returned (.int .i64 (chkE p f))/\w=w':=by
 obtain ⟨vw,vt,vb,hi,ts,hr,-,ot,-⟩:=hP.row
 have c1:=hr.cell (j:=1) rfl
 obtain ⟨A,c,rfl,hc1,hc2⟩:=own_shape ot
 unfold maxLen at hc2
 have hlr:=hP.ok.le
 have hrm:=hP.ok.rm.2
 by_cases h0:f<0
 ·have E:chkE p f=6:=by unfold chkE;rw [decide_eq_false (by omega)];rfl
  rw [E]
  have d0:decide (f<0)=true:=decide_eq_true h0
  clear hr hP ot E
  go_enter Tryz.func345,Tryz.ntmps345
  go_wp2
  go_ret
  exact ⟨rfl,rfl⟩
 ·obtain ⟨j,rfl⟩:∃ j:Nat,f=j:=⟨f.toNat,by omega⟩
  have d0:decide ((j:Int)<0)=false:=decide_eq_false h0
  by_cases h1:p.tk.length<=j
  ·have E:chkE p j=6:=by unfold chkE;rw [Int.toNat_natCast,at_out h1,Bool.and_false];rfl
   rw [E]
   have d1:decide (p.tk.length<=j)=true:=decide_eq_true h1
   clear hr hP ot E
   go_enter Tryz.func345,Tryz.ntmps345
   go_wp2
   go_ret
   exact ⟨rfl,rfl⟩
  ·have d1:decide (p.tk.length<=j)=false:=decide_eq_false h1
   obtain ⟨g,c',e1,-,-,-,-⟩:=own_form ot (by omega)
   simp only [Value.slice.injEq,true_and] at e1
   obtain ⟨rfl,rfl⟩:=e1
   have k:=own_cell ot (bools_at (i:=j) (by omega))
   have hj:(j:Int)<(p.tk.length:Int):=by omega
   cases hb:at_ p.tk j with
   | true=>
    have E:chkE p j=0:=by unfold chkE;rw [Int.toNat_natCast,hb,decide_eq_true (by omega)];rfl
    rw [E]
    rw [hb] at k
    clear hr hP ot E hb
    go_enter Tryz.func345,Tryz.ntmps345
    go_wp2
    go_ret
    exact ⟨rfl,rfl⟩
   | false=>
    have E:chkE p j=6:=by unfold chkE;rw [Int.toNat_natCast,hb,Bool.and_false];rfl
    rw [E]
    rw [hb] at k
    clear hr hP ot E hb
    go_enter Tryz.func345,Tryz.ntmps345
    go_wp2
    go_ret
    exact ⟨rfl,rfl⟩
theorem frame_in (hP:PoolAt w S q p) {f:Nat} (hf:f<p.tk.length):f*p.pg+p.pg<=p.wd.length/\p.wd.length<=1048576:=by
 have h1:=hP.ok.wl
 have h2:=hP.ok.le
 have h3:=hP.ok.rm.2
 have h4:=hP.ok.pg2
 constructor
 ·rw [h1,<-Nat.succ_mul];exact Nat.mul_le_mul_right _ hf
 ·rw [h1];exact Nat.le_trans (Nat.mul_le_mul (Nat.le_trans h2 h3) h4) (by decide)
theorem pool_words (hP:PoolAt w S q p) {f:Nat} (hf:f<p.tk.length):∃ g c hi ts vt vb,Rec w q 346 [.slice (some ⟨g,0,none⟩) p.wd.length c,vt,vb,.int .i64 p.rm,.int .i64 p.pg,.int .i64 p.used,.int .i64 hi,.int .i64 ts] ∧
  w.ownsRow 0 49 1 (.slice (some ⟨g,0,none⟩) p.wd.length c) p.wd.length (u64s p.wd)/\w.ownsRow 0 4 1 vt p.tk.length (p.tk.map Value.bool)/\w.ownsRow 0 3 1 vb p.bk.length (i64s p.bk) ∧
  S g/\(∀ g,vt.ownBlock=some g->S g)/\(∀ g,vb.ownBlock=some g->S g)/\p.wd.length<=c/\c<=9223372036854775807:=by
 obtain ⟨h1,h2,vw,vt,vb,hi,ts,hr,o1,o2,o3,s1,s2,s3⟩:=hP
 have hpg:=blockOk_pos h1.pg
 have hne:p.wd.length≠0:=by
  rw [h1.wl]
  have:1<=p.tk.length*p.pg:=Nat.mul_pos (by omega) (by omega)
  omega
 obtain ⟨g,c,rfl,-,h3,h4,-⟩:=own_form o1 hne
 unfold maxLen at h4
 exact ⟨g,c,hi,ts,vt,vb,hr,o1,o2,o3,s1 g rfl,s2,s3,h3,by omega⟩
set_option maxHeartbeats 800000 in
theorem pool_frame {g c n pg:Nat} {vt vb v3 v5 v6 v7:Value} (hr:Rec w q 346 [.slice (some ⟨g,0,none⟩) n c,vt,vb,v3,.int .i64 pg,v5,v6,v7]) (hc:n<=c) (hc2:c<=9223372036854775807)
  {f:Nat} (hp:1<=pg) (h1:f*pg+pg<=n) (h2:n<=1048576):Calls Tryz.prog 357 #[.pointer (some ⟨q,0,none⟩),.int .i64 f] w fun e w'=>e=.returned (.slice (some ⟨g,f*pg,none⟩) pg pg)/\w=w':=by
 have c0:=hr.cell (j:=0) rfl
 have c4:=hr.cell (j:=4) rfl
 obtain ⟨t,ht⟩:∃ t,t=f*pg:=⟨_,rfl⟩
 rw [<-ht] at h1 ⊢
 have hmul:(f:Int)*(pg:Int)=(t:Int):=by rw [ht];push_cast;rfl
 have hw:IntKind.i64.wrap ((f:Int)*(pg:Int))=(t:Int):=by rw [hmul];exact IntWalk.i64_in _ (by omega)
 have b1:(t:Int)+(pg:Int)<=(c:Int):=by omega
 have n0:¬ pg=0:=by omega
 have n1:¬ t+pg=t:=by omega
 clear hr ht
 go_enter Tryz.func357,Tryz.ntmps357
 go_wp2
 go_ret
 refine ⟨?_,rfl⟩
 show Ending.returned (.slice (some ⟨g,t,none⟩) (t+pg-t) (t+pg-t))=_
 rw [Nat.add_sub_cancel_left]
def wrdE (p:Pl) (f a:Int):Int:=if chkE p f=0 then (if 0<=a/\a<p.pg then 0 else 11) else 6
theorem chk_in {p:Pl} {f:Int} (h:chkE p f=0):∃ j:Nat,f=j/\j<p.tk.length/\at_ p.tk j=true:=by
 unfold chkE at h
 cases hb:(decide (0<=f)&&at_ p.tk f.toNat) with
 | false=>rw [hb] at h;cases h
 | true=>
  simp at hb
  exact ⟨f.toNat,by omega,at_lt hb.2,hb.2⟩
theorem chk_or (p:Pl) (f:Int):chkE p f=0\/chkE p f=6:=by unfold chkE;split <;> simp
def WordEnd (w:World) (S:Nat->Prop) (q:Nat) (p:Pl) (f a:Int) (e:Ending) (w':World):Prop:=w=w' ∧
 ((wrdE p f a≠0/\e=.returned (.tuple #[.pointer none,.int .i64 (wrdE p f a)])) ∨
  (wrdE p f a=0/\∃ g:Nat,S g/\e=.returned (.tuple #[.pointer (some ⟨g,f.toNat*p.pg+a.toNat,none⟩),.int .i64 0])/\w.cell? ⟨g,f.toNat*p.pg+a.toNat,none⟩=some (.int .u64 (p.wd.getD (f.toNat*p.pg+a.toNat) 0:Nat))/\w.frozen? ⟨g,f.toNat*p.pg+a.toNat,none⟩=false ∧
   ∀ x:Nat,x<18446744073709551616->PoolAt (w.setCell ⟨g,f.toNat*p.pg+a.toNat,none⟩ (.int .u64 x)) S q { p with wd:=p.wd.set (f.toNat*p.pg+a.toNat) x }))
theorem u64s_set (l:List Nat) (i x:Nat):(u64s l).set i (.int .u64 (x:Nat))=u64s (l.set i x):=by unfold u64s;rw [List.map_set]
theorem plOk_store {p:Pl} (h:PlOk p) (i x:Nat) (hx:x<18446744073709551616):PlOk { p with wd:=p.wd.set i x }:=
 ⟨h.pg,h.pg2,h.rm,by simp [h.wl],fun y hy=>by rcases List.mem_or_eq_of_mem_set hy with h1 | h1;exact h.w64 y h1;exact h1 ▸ hx,h.nd,h.bl,h.us,h.le⟩
set_option maxRecDepth 100000 in
set_option maxHeartbeats 800000 in
theorem pool_word (hP:PoolAt w S q p) (f a:Int):Calls Tryz.prog 317 #[.pointer (some ⟨q,0,none⟩),.int .i64 f,.int .i64 a] w (WordEnd w S q p f a):=by
 have HP:=hid hP
 rcases chk_or p f with hc | hc
 ·obtain ⟨j,rfl,hj,hat⟩:=chk_in hc
  obtain ⟨g,c,hi,ts,vt,vb,hr,o1,o2,o3,sg,s2,s3,hc1,hc2⟩:=pool_words hP hj
  obtain ⟨hf1,hf2⟩:=frame_in hP hj
  have c4:=hr.cell (j:=4) rfl
  have hpg:=blockOk_pos hP.ok.pg
  have HR:=hid hr
  have HC:=hid hc
  have HO1:=hid o1
  have HS:=hid (And.intro sg (And.intro s2 s3))
  have HO2:=hid o2
  have HO3:=hid o3
  have hp2:=hP.ok.pg2
  clear hr o1 o2 o3 sg s2 s3 hP
  by_cases ha0:a<0
  ·have E:wrdE p j a=11:=by unfold wrdE;rw [if_pos hc,if_neg (by omega)]
   have HE:=hid E
   have d0:decide (a<0)=true:=decide_eq_true ha0
   clear hc E
   go_enter Tryz.func317,Tryz.ntmps317
   go_wp2_with (go_at_call 345;refine (pool_check HP.out j).mono ?_;rintro e w1 ⟨rfl,rfl⟩;rw [HC.out])
   go_ret2
   exact ⟨rfl,.inl ⟨by rw [HE.out];decide,by rw [HE.out];rfl⟩⟩
  ·obtain ⟨b,rfl⟩:∃ b:Nat,a=b:=⟨a.toNat,by omega⟩
   have d0:decide ((b:Int)<0)=false:=decide_eq_false ha0
   by_cases ha1:p.pg<=b
   ·have E:wrdE p j b=11:=by unfold wrdE;rw [if_pos hc,if_neg (by omega)]
    have HE:=hid E
    have d1:decide (p.pg<=b)=true:=decide_eq_true ha1
    clear hc E
    go_enter Tryz.func317,Tryz.ntmps317
    go_wp2_with (go_at_call 345;refine (pool_check HP.out j).mono ?_;rintro e w1 ⟨rfl,rfl⟩;rw [HC.out])
    go_ret2
    exact ⟨rfl,.inl ⟨by rw [HE.out];decide,by rw [HE.out];rfl⟩⟩
   ·have E:wrdE p j b=0:=by unfold wrdE;rw [if_pos hc,if_pos (by omega)]
    have HE:=hid E
    have d1:decide (p.pg<=b)=false:=decide_eq_false ha1
    have hlt:(b:Int)<(p.pg:Int):=by omega
    clear hc E
    go_enter Tryz.func317,Tryz.ntmps317
    go_wp2_with (first
     | (go_at_call 345;refine (pool_check HP.out j).mono ?_;rintro e w1 ⟨rfl,rfl⟩;rw [HC.out])
     | (go_at_call 357;refine (pool_frame HR.out hc1 hc2 (by omega) hf1 hf2).mono ?_;rintro e w1 ⟨rfl,rfl⟩))
    go_ret2
    obtain ⟨i,hi'⟩:∃ i,i=j*p.pg+b:=⟨_,rfl⟩
    have hil:i<p.wd.length:=by omega
    have k:=own_cell HO1.out (u64s_at hil)
    refine ⟨rfl,.inr ⟨HE.out,g,HS.out.1,by rw [Int.toNat_natCast,Int.toNat_natCast];rfl,?_,own_free HO1.out _,fun x hx=>?_⟩⟩
    ·rw [Int.toNat_natCast,Int.toNat_natCast,<-hi',k,List.getD_eq_getElem?_getD,List.getElem?_eq_getElem hil];rfl
    ·rw [Int.toNat_natCast,Int.toNat_natCast,<-hi']
     have hst:=(World.ownsRow.stored HO1.out i (.int .u64 (x:Nat))).1
     rw [u64s_set] at hst
     refine ⟨plOk_store HP.out.ok i x hx,HP.out.sq,_,vt,vb,hi,ts,own_set_other HR.out _ (fun g' hg'=>?_),by simpa using hst,own_set_other HO2.out _ (fun g' hg'=>?_),own_set_other HO3.out _ (fun g' hg'=>?_),fun g' hg'=>by cases hg';exact HS.out.1,HS.out.2.1,HS.out.2.2⟩
     ·exact own_ne HR.out HO1.out (by decide) hg' rfl
     ·exact own_ne HO2.out HO1.out (by decide) hg' rfl
     ·exact own_ne HO3.out HO1.out (by decide) hg' rfl
 ·have E:wrdE p f a=6:=by unfold wrdE;rw [if_neg (by omega)]
  have HE:=hid E
  have HC:=hid hc
  clear hP hc E
  go_enter Tryz.func317,Tryz.ntmps317
  go_wp2_with (go_at_call 345;refine (pool_check HP.out f).mono ?_;rintro e w1 ⟨rfl,rfl⟩;rw [HC.out])
  go_ret2
  exact ⟨rfl,.inl ⟨by rw [HE.out];decide,by rw [HE.out];rfl⟩⟩
def wrdV (p:Pl) (f a:Int):Nat:=if wrdE p f a=0 then p.wd.getD (f.toNat*p.pg+a.toNat) 0 else 0
def wrdSet (p:Pl) (f a:Int) (x:Nat):Pl:=if wrdE p f a=0 then { p with wd:=p.wd.set (f.toNat*p.pg+a.toNat) x } else p
theorem pool_load (hP:PoolAt w S q p) (f a:Int):Calls Tryz.prog 248 #[.pointer (some ⟨q,0,none⟩),.int .i64 f,.int .i64 a] w fun e w'=>e=.returned (.tuple #[.int .u64 (wrdV p f a:Nat),.int .i64 (wrdE p f a)])/\w=w':=by
 have HP:=hid hP
 clear hP
 by_cases hc:wrdE p f a=0
 ·have HC:=hid hc
  have HV:Hid (wrdV p f a=p.wd.getD (f.toNat*p.pg+a.toNat) 0):=⟨by unfold wrdV;rw [if_pos hc]⟩
  clear hc
  go_enter Tryz.func248,Tryz.ntmps248
  go_wp2_with (go_at_call 317;refine (pool_word HP.out f a).mono ?_;rintro e w1 ⟨rfl,⟨h,-⟩ | ⟨-,g,-,rfl,k,-,-⟩⟩;(exact absurd HC.out h))
  go_ret2
  exact ⟨ret2 (by rw [HV.out,List.getD_eq_getElem?_getD];rfl) (vint HC.out.symm),rfl⟩
 ·have HC:=hid hc
  obtain ⟨c,hce⟩:∃ c,c=wrdE p f a:=⟨_,rfl⟩
  have hc0:(c !=0)=true:=by rw [hce];simpa using hc
  have HCE:=hid hce.symm
  have HV:Hid (wrdV p f a=0):=⟨by unfold wrdV;rw [if_neg hc]⟩
  clear hc hce
  go_enter Tryz.func248,Tryz.ntmps248
  go_wp2_with (go_at_call 317;refine (pool_word HP.out f a).mono ?_;rintro e w1 ⟨rfl,⟨-,rfl⟩ | ⟨h,-⟩⟩;rotate_left;(exact absurd h HC.out);rw [HCE.out])
  go_ret2
  exact ⟨ret2 (by rw [HV.out];rfl) (vint HCE.out.symm),rfl⟩
def StoreEnd (w:World) (S:Nat->Prop) (q:Nat) (p:Pl) (f a:Int) (x:Nat) (e:Ending) (w':World):Prop:=e=.returned (.int .i64 (wrdE p f a))/\Touch S w w'/\PoolAt w' S q (wrdSet p f a x)
theorem pool_store (hP:PoolAt w S q p) (f a:Int) (x:Nat) (hx:x<18446744073709551616):Calls Tryz.prog 247 #[.pointer (some ⟨q,0,none⟩),.int .i64 f,.int .i64 a,.int .u64 x] w (StoreEnd w S q p f a x):=by
 have HP:=hid hP
 clear hP
 by_cases hc:wrdE p f a=0
 ·have HC:=hid hc
  have HV:Hid (wrdSet p f a x={ p with wd:=p.wd.set (f.toNat*p.pg+a.toNat) x }):=⟨by unfold wrdSet;rw [if_pos hc]⟩
  clear hc
  go_enter Tryz.func247,Tryz.ntmps247
  go_wp2_with (go_at_call 317;refine (pool_word HP.out f a).mono ?_;rintro e w1 ⟨rfl,⟨h,-⟩ | ⟨-,g,sg,rfl,k,kf,hs⟩⟩;(exact absurd HC.out h);have HSG:=hid (And.intro sg hs);clear sg hs)
  go_ret
  exact ⟨ret_int HC.out.symm,(Touch.refl S w).setCell (fun _=>HSG.out.1) _,by rw [HV.out];exact HSG.out.2 x hx⟩
 ·have HC:=hid hc
  obtain ⟨c,hce⟩:∃ c,c=wrdE p f a:=⟨_,rfl⟩
  have hc0:(c==0)=false:=by rw [hce];simpa using hc
  have HCE:=hid hce.symm
  have HV:Hid (wrdSet p f a x=p):=⟨by unfold wrdSet;rw [if_neg hc]⟩
  clear hc hce
  go_enter Tryz.func247,Tryz.ntmps247
  go_wp2_with (go_at_call 317;refine (pool_word HP.out f a).mono ?_;rintro e w1 ⟨rfl,⟨-,rfl⟩ | ⟨h,-⟩⟩;rotate_left;(exact absurd h HC.out);rw [HCE.out])
  go_ret
  exact ⟨ret_int HCE.out.symm,Touch.refl S w,by rw [HV.out];exact HP.out⟩
end
end Go.Proofs.YthgdadohijgleaaGreatDoor
end
section
namespace Go.Proofs.YthgdadohijgleaaGreatDoor
open Go.RowKit Word
def roomOk (n:Int):Bool:=decide (1<=n)&&decide (n<=4096)
def pageOk (n:Int):Bool:=blockOk n&&decide (n<=256)
def Pl.none (pg rm:Nat):Pl:=⟨pg,rm,[],[],[]⟩
theorem pl_none {pg rm:Nat} (h1:roomOk rm=true) (h2:pageOk pg=true):PlOk (Pl.none pg rm):=by
 unfold roomOk at h1
 unfold pageOk at h2
 simp at h1 h2
 exact ⟨h2.1,by show pg<=256;omega,by show 1<=rm/\rm<=4096;omega,by simp [Pl.none],fun x h=>(by cases h),List.nodup_nil,fun f h=>(by cases h),rfl,Nat.zero_le _⟩
def NewPool (w:World) (n k:Int) (e:Ending) (w':World):Prop:=
 ((roomOk n&&pageOk k)=false/\e=.returned (.tuple #[.pointer none,.int .i64 5])/\w=w') ∨
 ((roomOk n&&pageOk k)=true/\e=.returned (.tuple #[.pointer (some ⟨w.heap.size,0,none⟩),.int .i64 0])/\Gr w w'/\PoolAt w' (fun b=>w.heap.size<=b) w.heap.size (Pl.none k.toNat n.toNat))
set_option maxHeartbeats 1600000 in
theorem pool_new (n k:Int) (hk:k<=9223372036854775807) (w:World):Calls Tryz.prog 170 #[.int .i64 n,.int .i64 k] w (NewPool w n k):=by
 have hpart:((roomOk n&&pageOk k)=false/\(decide (n<1)=true\/(decide (n<1)=false/\decide (4096<n)=true)\/(decide (n<1)=false/\decide (4096<n)=false/\powB k=false)\/(decide (n<1)=false/\decide (4096<n)=false/\powB k=true/\decide (256<k)=true))) ∨
   ((roomOk n&&pageOk k)=true/\decide (n<1)=false/\decide (4096<n)=false/\powB k=true/\decide (256<k)=false):=by
  have hb:=blockOk_eq k
  unfold roomOk pageOk
  rw [hb]
  by_cases h1:n<1
  ·exact .inl ⟨by rw [decide_eq_false (show ¬ 1<=n by omega)];rfl,.inl (decide_eq_true h1)⟩
  ·by_cases h2:4096<n
   ·exact .inl ⟨by rw [decide_eq_false (show ¬ n<=4096 by omega)];simp,.inr (.inl ⟨decide_eq_false h1,decide_eq_true h2⟩)⟩
   ·rw [decide_eq_true (show 1<=n by omega),decide_eq_true (show n<=4096 by omega)]
    cases hp:powB k with
    | false=>exact .inl ⟨rfl,.inr (.inr (.inl ⟨decide_eq_false h1,decide_eq_false h2,rfl⟩))⟩
    | true=>
     by_cases h3:256<k
     ·exact .inl ⟨by rw [decide_eq_false (show ¬ k<=256 by omega)];simp,.inr (.inr (.inr ⟨decide_eq_false h1,decide_eq_false h2,rfl,decide_eq_true h3⟩))⟩
     ·exact .inr ⟨by rw [decide_eq_true (show k<=1024 by omega),decide_eq_true (show k<=256 by omega)];rfl,decide_eq_false h1,decide_eq_false h2,rfl,decide_eq_false h3⟩
 rcases hpart with ⟨hf,hw⟩ | ⟨ht,h1,h2,h3,h4⟩
 ·have HF:=hid hf
  obtain ⟨b,hb⟩:∃ b,b=powB k:=⟨_,rfl⟩
  have HB:=hid hb.symm
  rw [<-hb] at hw
  clear hf hb
  rcases hw with h1 | ⟨h1,h2⟩ | ⟨h1,h2,rfl⟩ | ⟨h1,h2,rfl,h3⟩
  all_goals
   go_enter Tryz.func170,Tryz.ntmps170
   go_wp2_with (go_at_call 173;refine (power_any k hk _).mono ?_;rintro e w1 ⟨rfl,rfl⟩;rw [HB.out])
   go_ret2
   exact .inl ⟨HF.out,rfl,rfl⟩
 ·have HF:=hid ht
  have HB:=hid h3
  have hn:=of_decide_eq_false h1
  obtain ⟨m,rfl⟩:∃ m:Nat,n=m:=⟨n.toNat,by omega⟩
  have hk1:=(Bool.and_eq_true_iff.1 (Bool.and_eq_true_iff.1 ht).2).1
  have hkb:=blockOk_pos hk1
  obtain ⟨g,rfl⟩:∃ g:Nat,k=g:=⟨k.toNat,by omega⟩
  clear ht h3 hn hk1
  go_enter Tryz.func170,Tryz.ntmps170
  go_wp2_with (go_at_call 173;refine (power_any _ hk _).mono ?_;rintro e w1 ⟨rfl,rfl⟩;rw [HB.out])
  go_ret2
  obtain ⟨hr,hp⟩:=Bool.and_eq_true_iff.1 HF.out
  refine .inr ⟨HF.out,rfl,(Gr.refl _).alloc _,?_⟩
  rw [Int.toNat_natCast,Int.toNat_natCast]
  refine ⟨pl_none hr hp,Nat.le_refl _,.slice none 0 0,.slice none 0 0,.slice none 0 0,0,0,Rec.new _ _ _,own_nil _ _ _ _,own_nil _ _ _ _,own_nil _ _ _ _,(fun g h=>by cases h),(fun g h=>by cases h),(fun g h=>by cases h)⟩
def Pl.next (p:Pl):Nat:=if p.bk=[] then p.tk.length else p.bk.getLastD 0
def zeroAt (l:List Nat) (i n:Nat):List Nat:=l.take i++List.replicate n 0++l.drop (i+n)
def Pl.fresh (p:Pl):Pl:=if p.bk=[] then { p with tk:=p.tk++[false],wd:=p.wd++List.replicate p.pg 0 } else { p with bk:=p.bk.dropLast }
def Pl.take (p:Pl):Pl:={ p.fresh with tk:=p.fresh.tk.set p.next true,wd:=zeroAt p.fresh.wd (p.next*p.pg) p.pg }
theorem zeroAt_len {l:List Nat} {i n:Nat} (h:i+n<=l.length):(zeroAt l i n).length=l.length:=by unfold zeroAt;simp;omega
theorem zeroAt_get {l:List Nat} {i n:Nat} (h:i+n<=l.length) (j:Nat):(zeroAt l i n).getD j 0=if i<=j/\j<i+n then 0 else l.getD j 0:=by
 unfold zeroAt
 simp only [List.getD_eq_getElem?_getD]
 by_cases h1:j<i
 ·rw [if_neg (by omega),List.append_assoc,List.getElem?_append_left (by simp;omega),List.getElem?_take,if_pos h1]
 ·by_cases h2:j<i+n
  ·rw [if_pos (by omega),List.append_assoc,List.getElem?_append_right (by simp;omega),List.getElem?_append_left (by simp;omega),List.getElem?_replicate]
   split <;> rfl
  ·rw [if_neg (by omega),List.getElem?_append_right (by simp;omega),List.getElem?_drop]
   congr 2
   simp;omega
theorem infoInt':(Tryz.prog.info? 3).map (fun i=>(i.zero,i.size,i.bytes))=some (some (.int .i64 0),1,8):=by kernel_rfl
theorem infoBoolP:(Tryz.prog.info? 4).map (fun i=>(i.zero,i.size,i.bytes))=some (some (.bool false),1,1):=by kernel_rfl
theorem cnt_snoc (l:List Bool):cnt (at_ (l++[false])) (l++[false]).length=cnt (at_ l) l.length:=by
 have h1:(l++[false]).length=l.length+1:=by simp
 rw [h1,cnt_succ]
 have h2:at_ (l++[false]) l.length=false:=by simp [at_]
 have h3:cnt (at_ (l++[false])) l.length=cnt (at_ l) l.length:=cnt_congr (fun i hi=>by simp [at_,List.getD_eq_getElem?_getD,List.getElem?_append_left hi])
 rw [h2,h3];rfl
def FreshEnd (w:World) (S:Nat->Prop) (q:Nat) (p:Pl) (e:Ending) (w':World):Prop:=e=.returned (.int .i64 (p.next:Nat))/\Touch S w w'/\PoolRow w' (plus S w) q p.fresh
section
variable {w:World} {S:Nat->Prop} {q:Nat} {p:Pl}
set_option maxRecDepth 100000 in
set_option maxHeartbeats 1600000 in
theorem pool_fresh_back (hP:PoolAt w S q p) (hb:p.bk≠[]):Calls Tryz.prog 356 #[.pointer (some ⟨q,0,none⟩)] w (FreshEnd w S q p):=by
 obtain ⟨ok,sq,vw,vt,vb,hi,ts,hr,o1,o2,o3,s1,s2,s3⟩:=hP
 obtain ⟨bi,f,hbf⟩:∃ bi f,p.bk=bi++[f]:=⟨p.bk.dropLast,p.bk.getLast hb,(List.dropLast_concat_getLast hb).symm⟩
 have hN:p.next=f:=by unfold Pl.next;rw [if_neg hb,hbf];simp
 have hF:p.fresh={ p with bk:=bi }:=by unfold Pl.fresh;rw [if_neg hb,hbf];simp
 have hbl:p.bk.length<=4096:=by have:=ok.us;have:=ok.le;have:=ok.rm.2;omega
 have hlen:p.bk.length=bi.length+1:=by rw [hbf];simp
 obtain ⟨gb,cb,rfl,-,hc1,hc2,hgl⟩:=own_form o3 (by omega)
 have k:=own_cell o3 (i64s_at (i:=bi.length) (by omega))
 have hfk:p.bk[bi.length]'(by omega)=f:=by simp [hbf]
 rw [hfk] at k
 have o3':=o3
 rw [hbf] at o3'
 have e1:(bi++[f]).length=bi.length+1:=by simp
 have e2:i64s (bi++[f])=i64s bi++[.int .i64 (f:Nat)]:=by simp [i64s]
 rw [e1,e2] at o3'
 have hpop:=own_pop o3'
 have c2:=hr.cell (j:=2) rfl
 rw [hlen] at c2 hc1
 have cf:=hr.free 2
 have HF:=hid hF
 have HN:=hid hN
 have HR:=hid hr
 have H1:=hid o1
 have H2:=hid o2
 have H3:=hid hpop
 have HO3:=hid o3
 unfold maxLen at hc2
 obtain ⟨N,hN'⟩:∃ N,N=bi.length:=⟨_,rfl⟩
 rw [<-hN'] at c2 hlen k hc1
 have HNN:=hid hN'
 clear hr o1 o2 o3 o3' hbf hF hN e1 e2 hpop hb hfk hN'
 go_enter Tryz.func356,Tryz.ntmps356
 go_wp2
 go_ret
 refine ⟨by rw [HN.out];rfl,(Touch.refl S w).setCell (fun _=>sq) _,?_⟩
 rw [HF.out]
 refine ⟨vw,vt,.slice (some ⟨gb,0,none⟩) N cb,hi,ts,HR.out.set 2 _,own_set_other H1.out _ (fun g hg=>?_),own_set_other H2.out _ (fun g hg=>?_),?_,fun g hg=>.inl (s1 g hg),fun g hg=>.inl (s2 g hg),fun g hg=>.inl (s3 g hg)⟩
 ·exact own_ne H1.out HR.out (by decide) hg rfl
 ·exact own_ne H2.out HR.out (by decide) hg rfl
 ·have:=H3.out
  rw [<-HNN.out] at this
  show World.ownsRow _ 0 _ 1 _ bi.length _
  rw [<-HNN.out]
  exact own_set_other this _ (fun g hg=>own_ne this HR.out (by decide) hg rfl)
set_option maxRecDepth 100000 in
set_option maxHeartbeats 3200000 in
theorem pool_fresh_new (hP:PoolAt w S q p) (hb:p.bk=[]):Calls Tryz.prog 356 #[.pointer (some ⟨q,0,none⟩)] w (FreshEnd w S q p):=by
 obtain ⟨ok,sq,vw,vt,vb,hi,ts,hr,o1,o2,o3,s1,s2,s3⟩:=hP
 obtain ⟨iu,hiu,hu0,hu1,hu2⟩:=info_parts infoU64
 obtain ⟨ib,hib,hb0,hb1,hb2⟩:=info_parts infoBoolP
 have hN:p.next=p.tk.length:=by unfold Pl.next;rw [if_pos hb]
 have hF:p.fresh={ p with tk:=p.tk++[false],wd:=p.wd++List.replicate p.pg 0 }:=by unfold Pl.fresh;rw [if_pos hb]
 obtain ⟨Ab,cb,rfl,hcb1,hcb2⟩:=own_shape o3
 obtain ⟨At,ct,rfl,hct1,hct2⟩:=own_shape o2
 obtain ⟨Aw,cw,rfl,hcw1,hcw2⟩:=own_shape o1
 have hbl:p.bk.length=0:=by rw [hb];rfl
 have htl:p.tk.length<=4096:=Nat.le_trans ok.le ok.rm.2
 have hpg:=blockOk_pos ok.pg
 have hpg2:=ok.pg2
 have hwl:p.wd.length<=1048576:=by rw [ok.wl];exact Nat.le_trans (Nat.mul_le_mul htl hpg2) (by decide)
 have c0:=hr.cell (j:=0) rfl
 have c1:=hr.cell (j:=1) rfl
 have c2:=hr.cell (j:=2) rfl
 have c4:=hr.cell (j:=4) rfl
 have cf:=fun j=>hr.free j
 rw [hbl] at c2
 have hql:=hr.lt
 have HF:=hid hF
 have HN:=hid hN
 have HR:=hid hr
 have H1:=hid o1
 have H2:=hid o2
 have H3:=hid o3
 have HB:=hid (And.intro hb hbl)
 unfold maxLen at hcb2 hct2 hcw2
 obtain ⟨N,hN'⟩:∃ N,N=p.tk.length:=⟨_,rfl⟩
 have HNN:=hid hN'
 rw [<-hN'] at c1 htl
 obtain ⟨M,hM'⟩:∃ M,M=p.wd.length:=⟨_,rfl⟩
 have HMM:=hid hM'
 rw [<-hM'] at c0 hwl
 have hcf1:=cf 1
 have hcf0:=cf 0
 have HS:=hid (And.intro s1 (And.intro s2 s3))
 have h0t:∀ g,(Value.slice At N ct).ownBlock=some g->g≠q:=fun g hg=>by
  have:=own_ne o2 hr (by decide) (g1:=g) (g2:=q) (by cases At <;> simp [Value.ownBlock] at hg ⊢;exact hg) rfl
  exact this
 clear hr o1 o2 o3 hF hN hb hN' hM' s1 s2 s3 cf
 go_enter Tryz.func356,Tryz.ntmps356
 go_wp2_with (at_builtin;refine wpList_append_lies _ rfl _ _ 219 rfl 0 4 ib _ 1 1 Tryz.underlying219 hib hb0 hb1 hb2 rfl (by decide) (.slice At N ct) N (p.tk.map Value.bool) rfl (by rw [HNN.out];exact H2.out.alloc _) ⟨w.heap.size,0,none⟩ 1 1 [.bool false] rfl rfl (World.news_of_block (cs:=#[.bool false]) (t:=4) (fr:=(0,0)) (heap_alloc_new w _)) (by simp [Value.oneCell']) (by omega) (by unfold maxLen;omega) (by omega) (Nat.zero_le _) (w.heap.size+1) (by simp) ?_;intro g2 ct2 w2 hown2 hgrow2 hat2 hlt2;have t2:Touch (fun k=>(Value.slice At N ct).ownBlock=some k) w w2:=(((Gr.refl w).alloc _).touch _).trans (grown_touch hgrow2 _ (fun k e _=>e));have HR2:=hid (HR.out.touch t2 (fun e=>h0t q e rfl));have d1:=HR2.out.cell (j:=1) rfl;have df1:=HR2.out.free 1;have HT2:=hid t2;have HO2:=hid hown2;have HA2:=hid (And.intro hat2 hlt2);clear hown2 hgrow2 hat2 hlt2 t2)
 obtain ⟨W3,hW3⟩:∃ W3,W3=w2.setCell ⟨q,1,none⟩ (.slice (some ⟨g2,0,none⟩) (N+1) ct2):=⟨_,rfl⟩
 rw [<-hW3]
 have R3:=HR2.out.set 1 (.slice (some ⟨g2,0,none⟩) (N+1) ct2)
 rw [<-hW3] at R3
 have T3:W3.ownsRow 0 4 1 (.slice (some ⟨g2,0,none⟩) (N+1) ct2) (N+1) (p.tk.map Value.bool++[.bool false]):=by
  rw [hW3];exact own_set_other HO2.out _ (fun g hg=>own_ne HO2.out HR2.out (by decide) hg rfl)
 have hne1:∀ g,(Value.slice Aw p.wd.length cw).ownBlock=some g->¬ (Value.slice At N ct).ownBlock=some g:=fun g hg e=>own_ne H1.out (by rw [HNN.out] at e;exact H2.out) (by decide) hg (by rw [HNN.out] at e;exact e) rfl
 have hne3:∀ g,(Value.slice Ab p.bk.length cb).ownBlock=some g->¬ (Value.slice At N ct).ownBlock=some g:=fun g hg e=>own_ne H3.out (by rw [HNN.out] at e;exact H2.out) (by decide) hg (by rw [HNN.out] at e;exact e) rfl
 have U2:=own_touch H1.out HT2.out hne1
 have U3:W3.ownsRow 0 49 1 (.slice Aw p.wd.length cw) p.wd.length (u64s p.wd):=by
  rw [hW3];exact own_set_other U2 _ (fun g hg=>own_ne U2 HR2.out (by decide) hg rfl)
 have B2:=own_touch H3.out HT2.out hne3
 have B3:W3.ownsRow 0 3 1 (.slice Ab p.bk.length cb) p.bk.length (i64s p.bk):=by
  rw [hW3];exact own_set_other B2 _ (fun g hg=>own_ne B2 HR2.out (by decide) hg rfl)
 have tt3:Touch S w W3:=by
  rw [hW3]
  refine (HT2.out.mono (T:=S) (fun k _ h=>?_)).setCell (fun _=>sq) _
  rw [HNN.out] at h
  exact HS.out.2.1 k h
 have HW:=hid (And.intro R3 (And.intro T3 (And.intro U3 (And.intro B3 tt3))))
 have y0:=R3.cell (j:=0) rfl
 have y4:=R3.cell (j:=4) rfl
 have yf:=R3.free 0
 rw [<-HMM.out] at y0 U3
 have HU:=hid U3
 clear hW3 R3 T3 U3 U2 B2 B3 tt3 hne1 hne3 c0 c1 c2 c4 hcf0 hcf1 d1 df1 h0t
 obtain ⟨Sx,hSx⟩:∃ Sx:World->Prop,Sx=fun W'=>W'.cell? ⟨q,0,none⟩=some (.slice Aw M cw)/\W'.cell? ⟨q,4,none⟩=some (.int .i64 p.pg):=⟨_,rfl⟩
 have x0:∀ p':Held Sx,p'.w.cell? ⟨q,0,none⟩=some (.slice Aw M cw):=fun p'=>(Held.get hSx p').1
 have x4:∀ p':Held Sx,p'.w.cell? ⟨q,4,none⟩=some (.int .i64 p.pg):=fun p'=>(Held.get hSx p').2
 have hS0:Sx W3.drew:=by rw [hSx];exact ⟨y0,y4⟩
 have HSX:=hid hSx
 clear hSx
 have inst:Inhabited (Held Sx):=⟨⟨_,hS0⟩⟩
 refine wp_region_mixS Sx 12 [([0,1,2,3,4,5,6,7,8],9),([10,11],12)] [] (by kernel_rfl) (by kernel_rfl) hS0 ?_
 refine segs_step ?_
 simp only [opsAt,List.getElem?_cons_zero,List.getElem?_cons_succ]
 repeat (go_big_quiet_step (fail))
 refine wpQuiet_nil ?_
 go_wp2_with (at_builtin;refine wpList_append_zeros _ rfl _ _ 109 3 rfl 49 .i64 0 iu _ Tryz.underlying109 Tryz.underlying3 hiu hu0 hu1 rfl (by decide) (.slice Aw M cw) M (u64s p.wd) rfl (own_gr HU.out (Gr.refl W3).drew) p.pg rfl (by omega) (by unfold maxLen;omega) (by rw [hu2];omega) (Nat.zero_le _) ?_;intro g4 c4 w4 hown4 hgrow4 hat4 hlt4)
 go_frame
 have t4:Touch (fun k=>(Value.slice Aw M cw).ownBlock=some k) W3 w4:=((Gr.refl W3).drew.touch _).trans (grown_touch hgrow4 _ (fun k e _=>e))
 have hq4:¬ (Value.slice Aw M cw).ownBlock=some q:=fun e=>own_ne HU.out HW.out.1 (by decide) e rfl rfl
 have R4:=HW.out.1.touch t4 hq4
 have HR4:=hid R4
 have z0:=R4.cell (j:=0) rfl
 have z4:=R4.cell (j:=4) rfl
 have zf:=R4.free 0
 have HT4:=hid t4
 have HO4:=hid hown4
 have HA4:=hid hat4
 rw [<-HMM.out] at z0
 clear R4 t4 hown4 hgrow4 hat4 hq4
 refine ⟨.inr (Held.of (by rw [HSX.out];exact ⟨z0,z4⟩)),?_⟩
 refine segs_step ?_
 simp only [opsAt,List.getElem?_cons_zero,List.getElem?_cons_succ]
 repeat (go_big_quiet_step (fail))
 refine wpQuiet_nil ?_
 go_wp2
 refine ⟨.inl trivial,?_⟩
 refine segs_end ?_
 refine wpQuiet_nil ?_
 refine NoPanic.normal ?_
 go_wp2
 go_ret
 obtain ⟨R3,T3,U3,B3,tt3⟩:=HW.out
 have hs3:=tt3.size
 have T4:=own_touch T3 HT4.out (fun g hg e=>own_ne T3 HU.out (by decide) hg e rfl)
 have B4:=own_touch B3 HT4.out (fun g hg e=>own_ne B3 HU.out (by decide) hg e rfl)
 have hat2:=HA2.out
 have hat4:=HA4.out
 refine ⟨by rw [HN.out,<-HNN.out];rfl,(tt3.trans' HT4.out (fun k hk h=>?_)).setCell (fun _=>sq) _,?_⟩
 ·rw [HMM.out] at h;exact HS.out.1 k h
 ·rw [HF.out]
  have hu:({ p with tk:=p.tk++[false],wd:=p.wd++List.replicate p.pg 0 }:Pl).used=p.used:=cnt_snoc p.tk
  refine ⟨.slice (some ⟨g4,0,none⟩) (M+p.pg) c4,.slice (some ⟨g2,0,none⟩) (N+1) ct2,.slice Ab p.bk.length cb,hi,ts,?_,?_,?_,own_set_other B4 _ (fun g hg=>own_ne B4 HR4.out (by decide) hg rfl),fun g hg=>?_,fun g hg=>?_,fun g hg=>.inl (HS.out.2.2 g hg)⟩
  ·rw [hu];exact HR4.out.set 0 _
  ·have:=own_set_other (q:=q) (j:=0) HO4.out (.slice (some ⟨g4,0,none⟩) (M+p.pg) c4) (fun g hg=>own_ne HO4.out HR4.out (by decide) hg rfl)
   have e1:(p.wd++List.replicate p.pg 0).length=M+p.pg:=by rw [HMM.out];simp
   have e2:u64s (p.wd++List.replicate p.pg 0)=u64s p.wd++List.replicate p.pg (.int .u64 0):=by unfold u64s;rw [List.map_append,List.map_replicate];rfl
   show World.ownsRow _ 0 _ 1 _ (p.wd++List.replicate p.pg 0).length (u64s (p.wd++List.replicate p.pg 0))
   rw [e1,e2]
   exact this
  ·have:=own_set_other (q:=q) (j:=0) T4 (.slice (some ⟨g4,0,none⟩) (M+p.pg) c4) (fun g hg=>own_ne T4 HR4.out (by decide) hg rfl)
   show World.ownsRow _ 0 _ 1 _ (p.tk++[false]).length ((p.tk++[false]).map Value.bool)
   rw [List.map_append,show (p.tk++[false]).length=N+1 by rw [HNN.out];simp]
   exact this
  ·cases hg
   rcases hat4 with h | h
   ·rw [HMM.out] at h;exact .inl (HS.out.1 _ h)
   ·right;show w.heap.size<=g4;have:W3.drew.heap.size=W3.heap.size:=rfl;omega
  ·cases hg
   rcases hat2.1 with h | h
   ·rw [HNN.out] at h;exact .inl (HS.out.2.1 _ h)
   ·right;show w.heap.size<=g2;omega
theorem pool_fresh (hP:PoolAt w S q p):Calls Tryz.prog 356 #[.pointer (some ⟨q,0,none⟩)] w (FreshEnd w S q p):=by
 by_cases hb:p.bk=[]
 ·exact pool_fresh_new hP hb
 ·exact pool_fresh_back hP hb
theorem next_lt (hP:PlOk p):p.next<p.fresh.tk.length/\p.fresh.wd.length=p.fresh.tk.length*p.pg/\at_ p.fresh.tk p.next=false:=by
 unfold Pl.next Pl.fresh
 by_cases hb:p.bk=[]
 ·rw [if_pos hb,if_pos hb]
  refine ⟨by simp,by simp [hP.wl,Nat.succ_mul],by simp [at_]⟩
 ·rw [if_neg hb,if_neg hb]
  have hm:p.bk.getLastD 0∈p.bk:=by
   obtain ⟨bi,x,hbx⟩:∃ bi x,p.bk=bi++[x]:=⟨p.bk.dropLast,p.bk.getLast hb,(List.dropLast_concat_getLast hb).symm⟩
   rw [hbx];simp
  have:=hP.bl _ hm
  exact ⟨this.1,hP.wl,this.2⟩
theorem at_set2 {l:List Bool} {k i:Nat} {x:Bool} (hk:k<l.length):at_ (l.set k x) i=if i=k then x else at_ l i:=getD_set l k i x hk
theorem cnt_set_true {l:List Bool} {i:Nat} (hi:i<l.length) (h:at_ l i=false):cnt (at_ (l.set i true)) l.length=cnt (at_ l) l.length+1:=by
 have key:∀ k,k<=l.length->cnt (at_ (l.set i true)) k=cnt (at_ l) k+if i<k then 1 else 0:=by
  intro k
  induction k with
  | zero=>intro _;rfl
  | succ k ih=>
   intro hk
   rw [cnt_succ,cnt_succ,ih (by omega),at_set2 hi]
   by_cases e:k=i
   ·subst e;rw [if_pos rfl,h,if_neg (Nat.lt_irrefl _),if_pos (Nat.lt_succ_self _)];simp
   ·rw [if_neg e]
    by_cases h1:i<k
    ·rw [if_pos h1,if_pos (by omega)];omega
    ·rw [if_neg h1,if_neg (by omega)];omega
 rw [key _ (Nat.le_refl _),if_pos hi]
theorem cnt_set_false {l:List Bool} {i:Nat} (hi:i<l.length) (h:at_ l i=true):cnt (at_ (l.set i false)) l.length+1=cnt (at_ l) l.length:=by
 have h2:=cnt_set_true (l:=l.set i false) (i:=i) (by simpa using hi) (by rw [at_set2 hi,if_pos rfl])
 rw [List.set_set,List.length_set] at h2
 have:l.set i true=l:=by
  apply List.ext_getElem (by simp)
  intro j h1 h3
  rw [List.getElem_set]
  split
  ·rename_i e;subst e;simpa [at_,hi] using h.symm
  ·rfl
 rw [this] at h2
 exact h2.symm
theorem take_ok (h:PlOk p) (hroom:p.used<p.rm):PlOk p.take:=by
 obtain ⟨h1,h2,h3⟩:=next_lt h
 have hul:p.fresh.used=p.used:=by
  unfold Pl.used Pl.fresh
  split
  ·exact cnt_snoc p.tk
  ·rfl
 have hf:(p.next*p.pg)+p.pg<=p.fresh.wd.length:=by rw [h2,<-Nat.succ_mul];exact Nat.mul_le_mul_right _ h1
 have e0:p.take.pg=p.pg/\p.take.rm=p.rm/\p.take.bk=p.fresh.bk:=by unfold Pl.take Pl.fresh;split <;> exact ⟨rfl,rfl,rfl⟩
 have e1:p.take.tk=p.fresh.tk.set p.next true:=rfl
 have e2:p.take.wd=zeroAt p.fresh.wd (p.next*p.pg) p.pg:=rfl
 have eu:p.take.used=p.used+1:=by
  rw [<-hul];unfold Pl.used;rw [e1,List.length_set];exact cnt_set_true h1 h3
 refine ⟨by rw [e0.1];exact h.pg,by rw [e0.1];exact h.pg2,by rw [e0.2.1];exact h.rm,by rw [e0.1,e2,zeroAt_len hf,h2,e1,List.length_set],fun x hx=>?_,?_,fun f hf'=>?_,?_,?_⟩
 ·rw [e2] at hx
  unfold zeroAt at hx
  have hold:∀ y∈p.fresh.wd,y<18446744073709551616:=fun y hy=>by
   unfold Pl.fresh at hy
   split at hy
   ·rcases List.mem_append.1 hy with hy | hy
    ·exact h.w64 y hy
    ·rw [List.eq_of_mem_replicate hy];decide
   ·exact h.w64 y hy
  rcases List.mem_append.1 hx with hx | hx
  ·rcases List.mem_append.1 hx with hx | hx
   ·exact hold x (List.mem_of_mem_take hx)
   ·rw [List.eq_of_mem_replicate hx];decide
  ·exact hold x (List.mem_of_mem_drop hx)
 ·rw [e0.2.2];unfold Pl.fresh
  split
  ·exact h.nd
  ·exact h.nd.sublist (List.dropLast_sublist _)
 ·rw [e0.2.2] at hf'
  rw [e1,List.length_set]
  unfold Pl.fresh at hf' h1 ⊢
  unfold Pl.next at h1 ⊢
  by_cases hb:p.bk=[]
  ·rw [if_pos hb] at hf';rw [hb] at hf';cases hf'
  ·rw [if_neg hb] at hf' h1 ⊢
   rw [if_neg hb] at h1 ⊢
   have hm:=(List.dropLast_sublist _).subset hf'
   have hb2:=h.bl f hm
   refine ⟨hb2.1,?_⟩
   rw [at_set2 h1,if_neg,hb2.2]
   intro e
   obtain ⟨bi,x,hbx⟩:∃ bi x,p.bk=bi++[x]:=⟨p.bk.dropLast,p.bk.getLast hb,(List.dropLast_concat_getLast hb).symm⟩
   have hnd:=h.nd
   rw [hbx] at hf' e hnd
   simp at hf' e
   subst e
   rw [List.nodup_append] at hnd
   exact hnd.2.2 f hf' f (by simp) rfl
 ·rw [eu,e0.2.2,e1,List.length_set]
  unfold Pl.fresh
  have:=h.us
  split
  ·rename_i hb;rw [hb] at this;simp [hb] at this ⊢;omega
  ·rename_i hb;have:=List.length_pos_iff.2 hb;simp;omega
 ·rw [e0.2.1,e1,List.length_set]
  unfold Pl.fresh
  have:=h.us
  split
  ·rename_i hb;rw [hb] at this;simp at this ⊢;omega
  ·exact h.le
theorem fresh_same (p:Pl):p.fresh.pg=p.pg/\p.fresh.rm=p.rm/\p.fresh.used=p.used:=by
 unfold Pl.fresh
 split
 ·exact ⟨rfl,rfl,cnt_snoc p.tk⟩
 ·exact ⟨rfl,rfl,rfl⟩
theorem take_used (h:PlOk p):p.take.used=p.used+1:=by
 obtain ⟨h1,h2,h3⟩:=next_lt h
 have hul:p.fresh.used=p.used:=by
  unfold Pl.used Pl.fresh
  split
  ·exact cnt_snoc p.tk
  ·rfl
 have e1:p.take.tk=p.fresh.tk.set p.next true:=rfl
 rw [<-hul];unfold Pl.used;rw [e1,List.length_set];exact cnt_set_true h1 h3
def TakeEnd (w:World) (S:Nat->Prop) (q:Nat) (p:Pl) (e:Ending) (w':World):Prop:=
 (p.used=p.rm/\e=.returned (.tuple #[.int .i64 0,.int .i64 14])/\Gr w w') ∨
 (p.used<p.rm/\e=.returned (.tuple #[.int .i64 (p.next:Nat),.int .i64 0])/\Touch S w w'/\PoolAt w' (plus S w) q p.take)
theorem used_le (h:PlOk p):p.used<=p.rm:=by have:=h.us;have:=h.le;omega
set_option maxRecDepth 100000 in
set_option maxHeartbeats 3200000 in
theorem pool_take (hP:PoolAt w S q p):Calls Tryz.prog 315 #[.pointer (some ⟨q,0,none⟩)] w (TakeEnd w S q p):=by
 have HP:=hid hP
 have hok:=hP.ok
 have hul:=used_le hok
 have hrm:=hok.rm
 obtain ⟨vw,vt,vb,hi,ts,hr,-⟩:=hP.row
 have c3:=hr.cell (j:=3) rfl
 have c5:=hr.cell (j:=5) rfl
 have hql:=hr.lt
 obtain ⟨u,hu⟩:∃ u,u=p.used:=⟨_,rfl⟩
 have HU:=hid hu
 rw [<-hu] at c5 hul
 obtain ⟨R,hR⟩:∃ R,R=p.rm:=⟨_,rfl⟩
 have HRM:=hid hR
 rw [<-hR] at c3 hul hrm
 have hr0:((R:Int)==0)=false:=beq_eq_false_iff_ne.2 (by omega)
 have z3:∀ m,(w.drewN m).cell? ⟨q,3,none⟩=some (.int .i64 R):=fun m=>((Gr.refl w).drewN m |>.cell hql _).trans c3
 have z5:∀ m,(w.drewN m).cell? ⟨q,5,none⟩=some (.int .i64 u):=fun m=>((Gr.refl w).drewN m |>.cell hql _).trans c5
 have hpg:=blockOk_pos hok.pg
 have hok':=hid hok
 clear hr hP hu hR hok
 by_cases hfull:u=R
 ·have d1:((u:Int)==(R:Int))=true:=by rw [hfull];simp
  have HFL:=hid hfull
  clear hfull
  go_enter Tryz.func315,Tryz.ntmps315
  go_wp2
  go_quiet (fail)
  go_wp2
  go_ret2
  exact .inl ⟨by rw [<-HU.out,<-HRM.out];exact HFL.out,rfl,(Gr.refl w).drewN _⟩
 ·have d1:((u:Int)==(R:Int))=false:=beq_eq_false_iff_ne.2 (by omega)
  go_enter Tryz.func315,Tryz.ntmps315
  go_wp2
  go_quiet (fail)
  go_wp2_with (go_at_call 356;refine (pool_fresh (HP.out.gr ((Gr.refl w).drewN nq))).mono ?_;rintro e w2 ⟨rfl,ht2,hr2⟩;have HT2:=hid ht2;have HR2:=hid hr2;clear ht2 hr2)
  obtain ⟨vw2,vt2,vb2,hi2,ts2,R2,o1,o2,o3,s1,s2,s3⟩:=HR2.out
  obtain ⟨n1,n2,n3⟩:=next_lt hok'.out
  obtain ⟨f1,f2,f3⟩:=fresh_same p
  have hf:p.next*p.pg+p.pg<=p.fresh.wd.length:=by rw [n2,<-Nat.succ_mul];exact Nat.mul_le_mul_right _ n1
  have htl:p.fresh.tk.length<=4096:=by
   have h1:=(take_ok hok'.out (by rw [<-HU.out,<-HRM.out];omega)).le
   have h2:p.take.tk.length=p.fresh.tk.length:=List.length_set ..
   have h3:p.take.rm=p.rm:=f2
   rw [h2,h3,<-HRM.out] at h1
   omega
  have hwl:p.fresh.wd.length<=1048576:=by rw [n2];exact Nat.le_trans (Nat.mul_le_mul htl hok'.out.pg2) (by decide)
  obtain ⟨g2,cw,rfl,-,hc1,hc2,-⟩:=own_form o1 (by omega)
  obtain ⟨gt,ct,rfl,-,hd1,hd2,-⟩:=own_form o2 (by omega)
  unfold maxLen at hc2 hd2
  obtain ⟨iu,hiu,hu0,hu1,hu2⟩:=info_parts infoU64
  obtain ⟨w3,hcl,o1',hg3⟩:=run_clear_own (P:=Tryz.prog) w2 109 49 0 iu _ Tryz.underlying109 hiu hu0 rfl (by decide) o1 (p.next*p.pg) p.pg p.pg (by omega) hf
  rw [f1,f2,f3,<-HU.out,<-HRM.out] at R2
  have t3:=grown_touch hg3 (fun k=>k=g2) (fun k e _=>(Option.some.inj e).symm)
  have R3:=R2.touch t3 (own_ne R2 o1 (by decide) rfl rfl)
  have T3:=own_touch o2 t3 (fun g hg=>own_ne o2 o1 (by decide) hg rfl)
  have B3:=own_touch o3 t3 (fun g hg=>own_ne o3 o1 (by decide) hg rfl)
  have hqg:q≠gt:=own_ne R2 o2 (by decide) rfl rfl
  have hgq:gt≠q:=fun e=>hqg e.symm
  have HR2':=hid R2
  have k1:=R3.cell (j:=1) rfl
  have k5:=R3.cell (j:=5) rfl
  have k6:=R3.cell (j:=6) rfl
  have k7:=R3.cell (j:=7) rfl
  have kf:=fun j=>R3.free j
  have kf5:=kf 5
  have kf6:=kf 6
  have kf7:=kf 7
  have kt:=own_cell T3 (bools_at n1)
  have ktf:=own_free T3 p.next
  have hnl:(p.next:Int)<(p.fresh.tk.length:Int):=by omega
  have HW3:=hid (And.intro R3 (And.intro o1' (And.intro T3 (And.intro B3 t3))))
  have HS2:=hid (And.intro s1 (And.intro s2 s3))
  have HNL:=hid (And.intro n1 (And.intro n2 n3))
  have HFS:=hid (And.intro f1 (And.intro f2 f3))
  clear R2 o1 o2 o3 s1 s2 s3 o1' hg3 R3 T3 B3 t3 n1 n2 n3 f1 f2 f3 kf c3 c5 z3 z5 HR2
  generalize hnx:p.next=f at *
  have HNX:=hid hnx
  clear hnx
  have hmax:=run_maxB2 Tryz.prog
  go_wp2_with (go_at_call 357;refine (pool_frame HR2'.out hc1 (by omega) (by omega) hf hwl).mono ?_;rintro e w1 ⟨rfl,rfl⟩)
  obtain ⟨W5,hW5⟩:∃ W5,W5=((w3.setCell ⟨gt,f,none⟩ (.bool true)).setCell ⟨q,5,none⟩ (.int .i64 ((u:Int)+1))).setCell ⟨q,7,none⟩ (.int .i64 (wrap64 (ts2+1))):=⟨_,rfl⟩
  rw [<-hW5]
  obtain ⟨R3,U3,T3,B3,t3⟩:=HW3.out
  have R4:=own_set_other (q:=gt) (j:=f) R3 (.bool true) (fun g hg=>by cases hg;exact hqg)
  have R5:Rec W5 q 346 [.slice (some ⟨g2,0,none⟩) p.fresh.wd.length cw,.slice (some ⟨gt,0,none⟩) p.fresh.tk.length ct,vb2,.int .i64 R,.int .i64 p.pg,.int .i64 ((u:Int)+1),.int .i64 hi2,.int .i64 (wrap64 (ts2+1))]:=by
   rw [hW5];exact (Rec.set R4 5 _).set 7 _
  have U4:=own_set_other (q:=gt) (j:=f) U3 (.bool true) (fun g hg=>own_ne U3 T3 (by decide) hg rfl)
  have U5:=own_set_other (q:=q) (j:=7) (own_set_other (q:=q) (j:=5) U4 (.int .i64 ((u:Int)+1)) (fun g hg=>own_ne U4 R4 (by decide) hg rfl)) (.int .i64 (wrap64 (ts2+1))) (fun g hg=>own_ne U4 R4 (by decide) hg rfl)
  have T4:=(World.ownsRow.stored T3 f (.bool true)).1
  have T5:=own_set_other (q:=q) (j:=7) (own_set_other (q:=q) (j:=5) T4 (.int .i64 ((u:Int)+1)) (fun g hg=>own_ne T4 R4 (by decide) hg rfl)) (.int .i64 (wrap64 (ts2+1))) (fun g hg=>own_ne T4 R4 (by decide) hg rfl)
  have B4:=own_set_other (q:=gt) (j:=f) B3 (.bool true) (fun g hg=>own_ne B3 T3 (by decide) hg rfl)
  have B5:=own_set_other (q:=q) (j:=7) (own_set_other (q:=q) (j:=5) B4 (.int .i64 ((u:Int)+1)) (fun g hg=>own_ne B4 R4 (by decide) hg rfl)) (.int .i64 (wrap64 (ts2+1))) (fun g hg=>own_ne B4 R4 (by decide) hg rfl)
  rw [<-hW5] at U5 T5 B5
  have sq:=HP.out.sq
  have tt5:Touch (plus S (w.drewN nq)) w2 W5:=by
   rw [hW5]
   exact (((t3.mono (fun k _ h=>by rw [show k=g2 from h];exact HS2.out.1 g2 rfl)).setCell (fun _=>HS2.out.2.1 gt rfl) _).setCell (fun _=>.inl sq) _).setCell (fun _=>.inl sq) _
  have HW5:=hid (And.intro R5 (And.intro U5 (And.intro T5 (And.intro B5 tt5))))
  have y5:=R5.cell (j:=5) rfl
  have y6:=R5.cell (j:=6) rfl
  have yf:=R5.free 6
  clear hW5 R3 U3 T3 B3 t3 R4 R5 U4 U5 T4 T5 B4 B5 tt5 k1 k5 k6 k7 kf5 kf6 kf7 kt ktf hcl HW3
  obtain ⟨Sx,hSx⟩:∃ Sx:World->Prop,Sx=fun W'=>W'.cell? ⟨q,5,none⟩=some (.int .i64 ((u:Int)+1))/\W'.cell? ⟨q,6,none⟩=some (.int .i64 hi2):=⟨_,rfl⟩
  have x5:∀ p':Held Sx,p'.w.cell? ⟨q,5,none⟩=some (.int .i64 ((u:Int)+1)):=fun p'=>(Held.get hSx p').1
  have x6:∀ p':Held Sx,p'.w.cell? ⟨q,6,none⟩=some (.int .i64 hi2):=fun p'=>(Held.get hSx p').2
  have hS0:Sx W5.drew:=by rw [hSx];exact ⟨y5,y6⟩
  clear hSx
  have inst:Inhabited (Held Sx):=⟨⟨_,hS0⟩⟩
  refine wp_region_mixS Sx 12 [([0,1,2,3,4,5,6,7,8,9,10,11],12)] [] (by kernel_rfl) (by kernel_rfl) hS0 ?_
  refine segs_step ?_
  simp only [opsAt,List.getElem?_cons_zero,List.getElem?_cons_succ]
  repeat (go_big_quiet_step (fail))
  refine wpQuiet_nil ?_
  go_wp2
  refine ⟨.inl trivial,?_⟩
  refine segs_end ?_
  refine wpQuiet_nil ?_
  refine NoPanic.normal ?_
  go_wp2
  go_ret2
  obtain ⟨R5,U5,T5,B5,tt5⟩:=HW5.out
  obtain ⟨n1,n2,n3⟩:=HNL.out
  have hur:p.used<p.rm:=by rw [<-HU.out,<-HRM.out];omega
  refine .inr ⟨hur,by rw [HNX.out];rfl,?_,take_ok hok'.out hur,.inl sq,?_⟩
  ·refine (Touch.setCell (a:=⟨q,6,none⟩) ((((Gr.refl w).drewN nq).touch S).trans' (HT2.out.trans' tt5 (fun k hk h=>?_)) (fun k _ h=>h)) (fun _=>sq) _).drew
   rcases h with h | h
   ·exact h
   ·exact absurd hk (Nat.not_lt_of_le h)
  ·have U6:=fun v=>own_gr (own_set_other (q:=q) (j:=6) U5 v (fun g hg=>own_ne U5 R5 (by decide) hg rfl)) (Gr.refl _).drew
   have T6:=fun v=>own_gr (own_set_other (q:=q) (j:=6) T5 v (fun g hg=>own_ne T5 R5 (by decide) hg rfl)) (Gr.refl _).drew
   have B6:=fun v=>own_gr (own_set_other (q:=q) (j:=6) B5 v (fun g hg=>own_ne B5 R5 (by decide) hg rfl)) (Gr.refl _).drew
   have eu:p.take.used=u+1:=by rw [take_used hok'.out,<-HU.out]
   have ew:p.take.wd=zeroAt p.fresh.wd (f*p.pg) p.pg:=by rw [<-HNX.out];rfl
   have et:p.take.tk=p.fresh.tk.set f true:=by rw [<-HNX.out];rfl
   have ewl:p.take.wd.length=p.fresh.wd.length:=by rw [ew,zeroAt_len hf]
   have eul:u64s (zeroAt p.fresh.wd (f*p.pg) p.pg)=List.take (f*p.pg) (u64s p.fresh.wd)++List.replicate p.pg (Value.int IntKind.u64 0)++List.drop (f*p.pg+p.pg) (u64s p.fresh.wd):=by
    unfold zeroAt u64s
    rw [List.map_append,List.map_append,List.map_replicate,List.map_take,List.map_drop];rfl
   have er:p.take.rm=R:=by rw [HRM.out];exact HFS.out.2.1
   have ep:p.take.pg=p.pg:=HFS.out.1
   have eb:p.take.bk=p.fresh.bk:=rfl
   have hss:∀ g,plus S (w.drewN nq) g->plus S w g:=fun g h=>h
   refine ⟨.slice (some ⟨g2,0,none⟩) p.fresh.wd.length cw,.slice (some ⟨gt,0,none⟩) p.fresh.tk.length ct,vb2,max hi2 ((u:Int)+1),wrap64 (ts2+1),?_,?_,?_,?_,fun g hg=>hss g (HS2.out.1 g hg),fun g hg=>hss g (HS2.out.2.1 g hg),fun g hg=>hss g (HS2.out.2.2 g hg)⟩
   rotate_left
   ·rw [ewl,ew,eul];exact U6 _
   ·rw [et,List.length_set,List.map_set];exact T6 _
   ·rw [eb];exact B6 _
   ·rw [eu,er,ep]
    exact (R5.set 6 _).gr (Gr.refl _).drew
def Pl.give (p:Pl) (f:Nat):Pl:={ p with tk:=p.tk.set f false,bk:=p.bk++[f] }
theorem give_used {f:Nat} (hf:at_ p.tk f=true):(p.give f).used+1=p.used:=by
 show cnt (at_ (p.tk.set f false)) (p.tk.set f false).length+1=_
 rw [List.length_set];exact cnt_set_false (at_lt hf) hf
theorem give_ok (h:PlOk p) {f:Nat} (hf:at_ p.tk f=true):PlOk (p.give f):=by
 have hl:=at_lt hf
 refine ⟨h.pg,h.pg2,h.rm,by show _=(p.tk.set f false).length*_;rw [List.length_set];exact h.wl,h.w64,?_,fun g hg=>?_,?_,by show (p.tk.set f false).length<=_;rw [List.length_set];exact h.le⟩
 ·show (p.bk++[f]).Nodup
  rw [List.nodup_append]
  refine ⟨h.nd,by simp,fun a ha b hb=>?_⟩
  simp at hb
  subst hb
  rintro rfl
  have:=(h.bl a ha).2
  rw [hf] at this;cases this
 ·show g<(p.tk.set f false).length/\at_ (p.tk.set f false) g=false
  rw [List.length_set,at_set2 hl]
  rcases List.mem_append.1 hg with hg | hg
  ·have:=h.bl g hg
   refine ⟨this.1,?_⟩
   split
   ·rfl
   ·exact this.2
  ·simp at hg;subst hg;exact ⟨hl,by rw [if_pos rfl]⟩
 ·have h1:=give_used hf
  have h2:=h.us
  show _+(p.bk++[f]).length=(p.tk.set f false).length
  rw [List.length_set,List.length_append]
  simp;omega
def GiveEnd (w:World) (S:Nat->Prop) (q:Nat) (p:Pl) (f:Nat) (e:Ending) (w':World):Prop:=e=.returned (.int .i64 0)/\Touch S w w'/\PoolAt w' (plus S w) q (p.give f)
set_option maxRecDepth 100000 in
set_option maxHeartbeats 3200000 in
theorem pool_give (hP:PoolAt w S q p) {f:Nat} (hf:at_ p.tk f=true):Calls Tryz.prog 289 #[.pointer (some ⟨q,0,none⟩),.int .i64 f] w (GiveEnd w S q p f):=by
 have HP:=hid hP
 have hok:=hP.ok
 have hfl:=at_lt hf
 have HC:Hid (chkE p f=0):=⟨by unfold chkE;rw [Int.toNat_natCast,hf,decide_eq_true (by omega)];rfl⟩
 have hu1:=give_used hf
 have hul:=used_le hok
 have hrm:=hok.rm
 have hbl:=hok.us
 have htl:=hok.le
 obtain ⟨vw,vt,vb,hi,ts,hr,o1,o2,o3,s1,s2,s3⟩:=hP.row
 obtain ⟨gt,ct,rfl,-,hd1,hd2,-⟩:=own_form o2 (by omega)
 obtain ⟨Ab,cb,rfl,hcb1,hcb2⟩:=own_shape o3
 unfold maxLen at hd2 hcb2
 obtain ⟨ii,hii,hi0,hi1,hi2⟩:=info_parts infoInt'
 have hqg:q≠gt:=own_ne hr o2 (by decide) rfl rfl
 have hgq:gt≠q:=fun e=>hqg e.symm
 have c1:=hr.cell (j:=1) rfl
 have c2:=hr.cell (j:=2) rfl
 have c5:=hr.cell (j:=5) rfl
 have cf:=fun j=>hr.free j
 have cf2:=cf 2
 have cf5:=cf 5
 have kt:=own_cell o2 (bools_at hfl)
 have ktf:=own_free o2 f
 obtain ⟨N,hN⟩:∃ N,N=p.bk.length:=⟨_,rfl⟩
 have HN:=hid hN
 rw [<-hN] at c2 hbl
 obtain ⟨u,hu⟩:∃ u,u=p.used:=⟨_,rfl⟩
 have HU:=hid hu
 rw [<-hu] at c5 hul hu1 hbl hr
 have hu2:1<=u:=by omega
 have hfI:(f:Int)<(p.tk.length:Int):=by omega
 have HR:=hid hr
 have H1:=hid o1
 have H2:=hid o2
 have H3:=hid o3
 have HS:=hid (And.intro s1 (And.intro s2 s3))
 have HF:=hid hf
 have hok':=hid hok
 have B1:=own_set_other (q:=gt) (j:=f) o3 (.bool false) (fun g hg=>own_ne o3 o2 (by decide) hg rfl)
 have R1:=own_set_other (q:=gt) (j:=f) hr (.bool false) (fun g hg=>by cases hg;exact hqg)
 rw [<-hN] at B1
 have HB1:=hid B1
 have HR1:=hid R1
 have h0t:∀ g,(Value.slice Ab N cb).ownBlock=some g->g≠q:=fun g hg=>own_ne o3 hr (by decide) (by rw [<-hN];exact hg) rfl
 clear hr o1 o2 o3 hP hf hN hu hok cf s1 s2 s3 B1 R1
 go_enter Tryz.func289,Tryz.ntmps289
 go_wp2_with (first
  | (go_at_call 345;refine (pool_check HP.out f).mono ?_;rintro e w1 ⟨rfl,rfl⟩;rw [HC.out])
  | (at_builtin;refine wpList_append_lies _ rfl _ _ 40 rfl 0 3 ii _ 1 8 Tryz.underlying40 hii hi0 hi1 hi2 rfl (by decide) (.slice Ab N cb) N (i64s p.bk) rfl (HB1.out.alloc _) ⟨w.heap.size,0,none⟩ 1 1 [.int .i64 (f:Nat)] rfl rfl (World.news_of_block (cs:=#[.int .i64 (f:Nat)]) (t:=3) (fr:=(0,0)) (by have:=heap_alloc_new (w.setCell ⟨gt,f,none⟩ (.bool false)) (.cells #[.int .i64 (f:Nat)] 3);simpa using this)) (by simp [Value.oneCell']) (by omega) (by unfold maxLen;omega) (by omega) (Nat.zero_le _) (w.heap.size+1) (by simp) ?_;intro g2 c2' w2 hown2 hgrow2 hat2 hlt2;have t2:Touch (fun k=>(Value.slice Ab N cb).ownBlock=some k) (w.setCell ⟨gt,f,none⟩ (.bool false)) w2:=(((Gr.refl _).alloc _).touch _).trans (grown_touch hgrow2 _ (fun k e _=>e));have HR2:=hid (own_touch HR1.out t2 (fun g hg e=>by cases hg;exact h0t q e rfl));have d2:=own_cell HR2.out (j:=2) rfl;have df2:=own_free HR2.out 2;have d5:=own_cell HR2.out (j:=5) rfl;have df5:=own_free HR2.out 5;have HT2:=hid t2;have HO2:=hid hown2;have HA2:=hid (And.intro hat2 hlt2);clear hown2 hgrow2 hat2 hlt2 t2))
 go_ret
 have hat2:=HA2.out
 have U1:=own_set_other (q:=gt) (j:=f) H1.out (.bool false) (fun g hg=>own_ne H1.out H2.out (by decide) hg rfl)
 have hnu:∀ g,vw.ownBlock=some g->¬ (Value.slice Ab N cb).ownBlock=some g:=fun g hg e=>own_ne H1.out H3.out (by decide) hg (by rw [<-HN.out];exact e) rfl
 have U2:=own_touch U1 HT2.out hnu
 have T1:=(World.ownsRow.stored H2.out f (.bool false)).1
 have T2:=own_touch T1 HT2.out (fun g hg e=>own_ne H2.out H3.out (by decide) hg (by rw [<-HN.out];exact e) rfl)
 have hsz:(w.setCell ⟨gt,f,none⟩ (.bool false)).heap.size=w.heap.size:=by simp
 have tt:Touch S w w2:=((Touch.refl S w).setCell (a:=⟨gt,f,none⟩) (fun _=>HS.out.2.1 gt rfl) (.bool false)).trans' HT2.out (fun k _ h=>HS.out.2.2 k (by rw [<-HN.out];exact h))
 refine ⟨rfl,(tt.setCell (a:=⟨q,2,none⟩) (fun _=>HP.out.sq) _).setCell (a:=⟨q,5,none⟩) (fun _=>HP.out.sq) _,give_ok hok'.out HF.out,.inl HP.out.sq,?_⟩
 have R2:=HR2.out
 have e1:(p.give f).used=u-1:=by have:=give_used HF.out;have:=HU.out;omega
 have e2:(((u-1:Nat)):Int)=(u:Int)-1:=by omega
 have e3:(p.give f).tk=p.tk.set f false:=rfl
 have e4:(p.give f).bk=p.bk++[f]:=rfl
 have U3:=fun a b=>own_set_other (q:=q) (j:=5) (own_set_other (q:=q) (j:=2) U2 a (fun g hg=>own_ne U2 R2 (by decide) hg rfl)) b (fun g hg=>own_ne U2 R2 (by decide) hg rfl)
 have T3:=fun a b=>own_set_other (q:=q) (j:=5) (own_set_other (q:=q) (j:=2) T2 a (fun g hg=>own_ne T2 R2 (by decide) hg rfl)) b (fun g hg=>own_ne T2 R2 (by decide) hg rfl)
 have B3:=fun a b=>own_set_other (q:=q) (j:=5) (own_set_other (q:=q) (j:=2) HO2.out a (fun g hg=>own_ne HO2.out R2 (by decide) hg rfl)) b (fun g hg=>own_ne HO2.out R2 (by decide) hg rfl)
 refine ⟨vw,.slice (some ⟨gt,0,none⟩) p.tk.length ct,.slice (some ⟨g2,0,none⟩) (N+1) c2',hi,ts,?_,?_,?_,?_,fun g hg=>.inl (HS.out.1 g hg),fun g hg=>.inl (HS.out.2.1 g hg),fun g hg=>?_⟩
 ·rw [e1,e2]
  have R2':Rec w2 q 346 _:=R2
  exact (R2'.set 2 _).set 5 _
 ·exact U3 _ _
 ·rw [e3,List.length_set,List.map_set]
  exact T3 _ _
 ·rw [e4,show (p.bk++[f]).length=N+1 by rw [HN.out];simp,show i64s (p.bk++[f])=i64s p.bk++[.int .i64 (f:Nat)] by unfold i64s;rw [List.map_append];rfl]
  exact B3 _ _
 ·cases hg
  rcases hat2.1 with h | h
  ·exact .inl (HS.out.2.2 _ (by rw [<-HN.out];exact h))
  ·right;show w.heap.size<=g2;omega
end
end Go.Proofs.YthgdadohijgleaaGreatDoor
end
end
section
section
namespace Go.Proofs.YthgdadohijgleaaGreatDoor
open Go.RowKit Word
def u32s (l:List Nat):List Value:=l.map fun x=>.int .u32 (x:Nat)
def tabOf (pt:List Nat) (k:Nat):List Nat:=(List.range 256).map fun i=>pt.getD (256*k+i) 0
def nz (l:List Nat):Nat:=cnt (fun i=>l.getD i 0 !=0) l.length
def tabRow (pt:List Nat) (k:Nat):List Value:=u32s (tabOf pt k)++[.int .i64 (nz (tabOf pt k):Nat)]
def ptrs (L:List (Option Nat)):List Value:=L.map fun b=>.pointer (b.map fun b=>⟨b,0,none⟩)
def ntab (n:Nat):Nat:=(n+255)/256
structure PtOk (pt:List Nat):Prop where
 n1:1<=pt.length
 n2:pt.length<=524288
 lt:∀ x∈pt,x<4294967296
structure PgAt (w:World) (S:Nat->Prop) (q:Nat) (pt:List Nat):Prop where
 ok:PtOk pt
 sq:S q
 row:∃ g c L,Rec w q 351 [.slice (some ⟨g,0,none⟩) (ntab pt.length) c,.int .i64 pt.length,.int .i64 (nz pt:Nat)]/\ntab pt.length<=c/\c<=maxLen/\S g ∧
  w.ownsRow 0 424 1 (.slice (some ⟨g,0,none⟩) (ntab pt.length) c) (ntab pt.length) (ptrs L) ∧
  (∀ k,k<ntab pt.length->match L.getD k none with
   | none=>∀ i,i<256->pt.getD (256*k+i) 0=0
   | some b=>S b/\Rec w b 427 (tabRow pt k)) ∧
  (∀ k j b,L.getD k none=some b->L.getD j none=some b->k=j)
theorem tabOf_len (pt:List Nat) (k:Nat):(tabOf pt k).length=256:=by simp [tabOf]
theorem tabOf_at (pt:List Nat) (k:Nat) {i:Nat} (h:i<256):(tabOf pt k).getD i 0=pt.getD (256*k+i) 0:=by simp [tabOf,List.getD_eq_getElem?_getD,h]
theorem tabRow_at (pt:List Nat) (k:Nat) {i:Nat} (h:i<256):(tabRow pt k)[i]?=some (.int .u32 (pt.getD (256*k+i) 0:Nat)):=by
 unfold tabRow u32s
 rw [List.getElem?_append_left (by simp [tabOf_len,h])]
 simp [tabOf,h]
theorem tabRow_n (pt:List Nat) (k:Nat):(tabRow pt k)[256]?=some (.int .i64 (nz (tabOf pt k):Nat)):=by
 unfold tabRow u32s
 rw [List.getElem?_append_right (by simp [tabOf_len])]
 simp [tabOf_len]
theorem PgAt.touch {S T:Nat->Prop} {w w':World} {q:Nat} {pt:List Nat} (h:PgAt w S q pt) (t:Touch T w w') (hS:∀ k,S k->k<w.heap.size->¬ T k):PgAt w' S q pt:=by
 obtain ⟨ok,sq,g,c,L,hr,h1,h2,sg,ho,ht,hd⟩:=h
 refine ⟨ok,sq,g,c,L,hr.touch t (hS q sq hr.lt),h1,h2,sg,own_touch ho t (fun b hb=>by cases hb;exact hS g sg (own_lt ho rfl).2),fun k hk=>?_,hd⟩
 have:=ht k hk
 cases hl:L.getD k none with
 | none=>rw [hl] at this;exact this
 | some b=>rw [hl] at this;exact ⟨this.1,this.2.touch t (hS b this.1 this.2.lt)⟩
theorem PgAt.gr {S:Nat->Prop} {w w':World} {q:Nat} {pt:List Nat} (h:PgAt w S q pt) (t:Gr w w'):PgAt w' S q pt:=h.touch (t.touch (fun _=>False)) (fun _ _ _ h=>h)
theorem PgAt.mono {S T:Nat->Prop} {w:World} {q:Nat} {pt:List Nat} (h:PgAt w S q pt) (hT:∀ k,S k->T k):PgAt w T q pt:=by
 obtain ⟨ok,sq,g,c,L,hr,h1,h2,sg,ho,ht,hd⟩:=h
 refine ⟨ok,hT _ sq,g,c,L,hr,h1,h2,hT _ sg,ho,fun k hk=>?_,hd⟩
 have:=ht k hk
 cases hl:L.getD k none with
 | none=>rw [hl] at this;exact this
 | some b=>rw [hl] at this;exact ⟨hT _ this.1,this.2⟩
theorem ntab_le {n:Nat} (h:n<=524288):ntab n<=2048:=by unfold ntab;omega
theorem ntab_lt {n p:Nat} (h:p<n):p/256<ntab n:=by unfold ntab;omega
theorem ptrs_at {L:List (Option Nat)} {k:Nat} (h:k<L.length):(ptrs L)[k]?=some (.pointer ((L.getD k none).map fun b=>⟨b,0,none⟩)):=by
 simp [ptrs,List.getD_eq_getElem?_getD,h]
section
variable {w:World} {S:Nat->Prop} {q:Nat} {pt:List Nat}
set_option maxHeartbeats 800000 in
theorem pg_get (hM:PgAt w S q pt) {p:Nat} (hp:p<pt.length):Calls Tryz.prog 321 #[.pointer (some ⟨q,0,none⟩),.int .i64 p] w fun e w'=>e=.returned (.int .u32 (pt.getD p 0:Nat))/\w=w':=by
 obtain ⟨ok,sq,g,c,L,hr,h1,h2,sg,ho,ht,hd⟩:=hM
 have hn:=ntab_le ok.n2
 have hk:=ntab_lt hp
 have hLl:L.length=ntab pt.length:=by have:=ho.1;simp [ptrs] at this;exact this
 have c0:=hr.cell (j:=0) rfl
 have k0:=own_cell ho (ptrs_at (L:=L) (k:=p/256) (by omega))
 have hh:=ht _ hk
 obtain ⟨k,hkk⟩:∃ k,k=p/256:=⟨_,rfl⟩
 obtain ⟨i,hii⟩:∃ i,i=p%256:=⟨_,rfl⟩
 have hpk:256*k+i=p:=by omega
 have hi:i<256:=by omega
 have e1:(p:Int)/256=(k:Int):=by omega
 have e2:(p:Int)%256=(i:Int):=by omega
 rw [<-hkk] at k0 hk hh
 have hpb:(p:Int)<=524288:=by have:=ok.n2;omega
 have hkI:(k:Int)<(ntab pt.length:Int):=by omega
 have hiI:(i:Int)<256:=by omega
 unfold maxLen at h2
 cases hl:L.getD k none with
 | none=>
  rw [hl] at hh k0
  have E:=hid (hh i hi)
  rw [hpk] at E
  rw [E.out]
  clear hr ho ht hh hd hii hkk hpk hl
  go_enter Tryz.func321,Tryz.ntmps321
  go_wp2
  go_ret
  exact ⟨rfl,rfl⟩
 | some b=>
  rw [hl] at hh k0
  have k1:=hh.2.cell (tabRow_at pt k hi)
  rw [hpk] at k1
  clear hp
  generalize pt.getD p 0=x at k1 ⊢
  clear hr ho ht hh hd hii hkk hpk hl
  go_enter Tryz.func321,Tryz.ntmps321
  go_wp2
  go_ret
  exact ⟨rfl,rfl⟩
def pgE (pt:List Nat) (p:Int):Int:=if 0<=p/\p<pt.length then 0 else 11
def pgsE (pt:List Nat) (l:List Int):Int:=if l.all (fun p=>decide (pgE pt p=0)) then 0 else 11
theorem pgE_cut (pt:List Nat) (p:Int):(decide (p<0)=true/\pgE pt p=11)\/(decide (p<0)=false/\decide ((pt.length:Int)<=p)=true/\pgE pt p=11)\/(decide (p<0)=false/\decide ((pt.length:Int)<=p)=false/\pgE pt p=0):=by
 unfold pgE
 by_cases h0:p<0
 ·exact .inl ⟨decide_eq_true h0,if_neg (by omega)⟩
 ·by_cases h1:(pt.length:Int)<=p
  ·exact .inr (.inl ⟨decide_eq_false h0,decide_eq_true h1,if_neg (by omega)⟩)
  ·exact .inr (.inr ⟨decide_eq_false h0,decide_eq_false h1,if_pos (by omega)⟩)
theorem pgsE_end {pt:List Nat} {l:List Int} (h:∀ i,i<l.length->pgE pt (l.getD i 0)=0):pgsE pt l=0:=by
 unfold pgsE
 rw [if_pos]
 rw [List.all_eq_true]
 intro x hx
 obtain ⟨i,hi,rfl⟩:=List.mem_iff_getElem.1 hx
 have:=h i hi
 rw [List.getD_eq_getElem?_getD,List.getElem?_eq_getElem hi] at this
 exact decide_eq_true this
theorem pgsE_at {pt:List Nat} {l:List Int} {i:Nat} (hi:i<l.length) (h:pgE pt (l.getD i 0)=11):pgsE pt l=11:=by
 unfold pgsE
 rw [if_neg]
 rw [List.all_eq_true]
 intro ha
 have:=ha l[i] (List.getElem_mem hi)
 rw [List.getD_eq_getElem?_getD,List.getElem?_eq_getElem hi] at h
 rw [Option.getD_some] at h
 rw [h] at this
 exact absurd this (by decide)
theorem pg_in (hM:PgAt w S q pt) {b n:Nat} {l:List Int} (hn:l.length=n) (hn2:n<=2) (hc:∀ i,i<n->w.cell? ⟨b,i,none⟩=some (.int .i64 (l.getD i 0))):Calls Tryz.prog 320 #[.pointer (some ⟨q,0,none⟩),.slice (some ⟨b,0,none⟩) n n] w fun e w'=>e=.returned (.int .i64 (pgsE pt l))/\w=w':=by
 obtain ⟨ok,sq,g,c,L,hr,-⟩:=hM
 have c1:=hr.cell (j:=1) rfl
 have HC:=hid hc
 clear hr hc
 go_enter Tryz.func320,Tryz.ntmps320
 go_wp2
 go_loop [11] (fun i=>∃ k:Nat,k<=n/\i=.int .i64 k/\Hid (∀ i,i<k->pgE pt (l.getD i 0)=0)) (fun i=>n-(intOf i).toNat)
 case atStart=>exact ⟨0,by omega,rfl,⟨fun i h=>by omega⟩⟩
 case round=>
  obtain ⟨k,hk,rfl,hk1⟩:=hrel
  by_cases hlt:k<n
  ·have hcell:=HC.out k hlt
   have hq:=pgE_cut pt (l.getD k 0)
   have H1:=hid (fun h=>pgsE_at (pt:=pt) (l:=l) (i:=k) (by omega) h)
   have H2:Hid (pgE pt (l.getD k 0)=0->∀ i,i<k+1->pgE pt (l.getD i 0)=0):=⟨fun h i hi=>by
    by_cases e:i=k
    ·subst e;exact h
    ·exact hk1.out i (by omega)⟩
   generalize l.getD k 0=p at hcell hq H1 H2
   clear hk1 HC hn
   rcases hq with ⟨d0,E⟩ | ⟨d0,d1,E⟩ | ⟨d0,d1,E⟩
   ·have E:=hid E
    go_wp2
    go_ret
    exact ⟨ret_int (by rw [H1.out E.out]),rfl⟩
   ·have E:=hid E
    go_wp2
    go_ret
    exact ⟨ret_int (by rw [H1.out E.out]),rfl⟩
   ·have E:=hid E
    go_wp2
    go_round
    case rel=>exact ⟨k+1,by omega,by go_num,⟨H2.out E.out⟩⟩
    case measure=>simp [intOf];omega
  ·obtain rfl:k=n:=by omega
   have E:=hid (pgsE_end (pt:=pt) (l:=l) (by rw [hn];exact hk1.out))
   clear hk1 HC hn
   go_wp2
   go_ret
   exact ⟨ret_int (by rw [E.out]),rfl⟩
end
end Go.Proofs.YthgdadohijgleaaGreatDoor
end
section
namespace Go.Proofs.YthgdadohijgleaaGreatDoor
open Go.RowKit Word
theorem zero_table:(Tryz.zeroCells427).toList=u32s (List.replicate 256 0)++[.int .i64 0]:=by kernel_rfl
theorem nz_at (l:List Nat):nz l=cnt (at_ (l.map fun x=>x !=0)) l.length:=by
 unfold nz
 refine cnt_congr fun i hi=>?_
 simp [at_,hi]
theorem nz_set {l:List Nat} {i x:Nat} (hi:i<l.length) (h:l.getD i 0=0) (hx:x≠0):nz (l.set i x)=nz l+1:=by
 have hm:(l.map fun x=>x !=0).length=l.length:=List.length_map _
 rw [nz_at,nz_at,List.length_set,List.map_set,<-hm]
 have:(x !=0)=true:=by simp [hx]
 rw [this]
 refine cnt_set_true (by simpa using hi) ?_
 rw [List.getD_eq_getElem?_getD,List.getElem?_eq_getElem hi] at h
 simp [at_,hi]
 simpa using h
theorem nz_drop {l:List Nat} {i:Nat} (hi:i<l.length) (h:l.getD i 0≠0):nz (l.set i 0)+1=nz l:=by
 have hm:(l.map fun x=>x !=0).length=l.length:=List.length_map _
 rw [nz_at,nz_at,List.length_set,List.map_set,<-hm]
 have:((0:Nat) !=0)=false:=rfl
 rw [this]
 refine cnt_set_false (by simpa using hi) ?_
 rw [List.getD_eq_getElem?_getD,List.getElem?_eq_getElem hi] at h
 simp [at_,hi]
 simpa using h
theorem nz_none {l:List Nat} (h:nz l=0) {i:Nat} (hi:i<l.length):l.getD i 0=0:=by
 have:=cnt_zero_iff h i hi
 simpa using this
theorem nz_le (l:List Nat):nz l<=l.length:=cnt_le _ _
theorem tabOf_set {pt:List Nat} {k i x:Nat} (hp:256*k+i<pt.length):tabOf (pt.set (256*k+i) x) k=(tabOf pt k).set i x:=by
 apply List.ext_getElem
 ·simp [tabOf]
 ·intro j h1 h2
  have hj:j<256:=by simpa [tabOf] using h1
  simp only [tabOf,List.getElem_map,List.getElem_range,List.getElem_set,List.getD_eq_getElem?_getD,List.getElem?_set]
  by_cases e:i=j
  ·subst e;simp [hp]
  ·rw [if_neg (by omega),if_neg e]
theorem tabOf_other {pt:List Nat} {k i x j:Nat} (hi:i<256) (hj:j≠k):tabOf (pt.set (256*k+i) x) j=tabOf pt j:=by
 apply List.ext_getElem
 ·simp [tabOf]
 ·intro y h1 h2
  have hy:y<256:=by simpa [tabOf] using h1
  simp only [tabOf,List.getElem_map,List.getElem_range,List.getD_eq_getElem?_getD,List.getElem?_set]
  rw [if_neg (by omega)]
theorem tabRow_set {pt:List Nat} {k i x t:Nat} (hp:256*k+i<pt.length) (hi:i<256) (ht:nz ((tabOf pt k).set i x)=t):
  tabRow (pt.set (256*k+i) x) k=((tabRow pt k).set i (.int .u32 x)).set 256 (.int .i64 t):=by
 unfold tabRow
 rw [tabOf_set hp,ht]
 have hl:(u32s (tabOf pt k)).length=256:=by simp [u32s,tabOf_len]
 rw [List.set_append_left _ _ (by omega),List.set_append_right _ _ (by simp [hl])]
 simp [u32s,List.map_set,tabOf_len]
theorem tabRow_other {pt:List Nat} {k i x j:Nat} (hi:i<256) (hj:j≠k):tabRow (pt.set (256*k+i) x) j=tabRow pt j:=by
 unfold tabRow;rw [tabOf_other hi hj]
section
variable {w:World} {S:Nat->Prop} {q:Nat} {pt:List Nat}
set_option maxRecDepth 100000 in
set_option maxHeartbeats 800000 in
theorem pg_set_none {g n c:Nat} {m:Nat} {k i:Nat} (c0:w.cell? ⟨q,0,none⟩=some (.slice (some ⟨g,0,none⟩) n c)) (c2:w.cell? ⟨q,2,none⟩=some (.int .i64 m))
  (f2:w.frozen? ⟨q,2,none⟩=false) (cg:w.cell? ⟨g,k,none⟩=some (.pointer none)) (fg:w.frozen? ⟨g,k,none⟩=false) (hqg:q≠g) (hq:q<w.heap.size) (hg:g<w.heap.size)
  (hk:k<n) (hn:n<=2048) (hi:i<256) (hm:m<=524288) {x:Nat} (hx:x≠0) {p:Nat} (hp:p=256*k+i):Calls Tryz.prog 344 #[.pointer (some ⟨q,0,none⟩),.int .i64 p,.int .u32 x] w fun e w'=>e=.returned (.tuple #[]) ∧
   w'=((w.setCell ⟨g,k,none⟩ (.pointer (some ⟨w.heap.size,0,none⟩))).setCell ⟨q,2,none⟩ (.int .i64 (m+1))).alloc
   (Obj.cells ((Tryz.zeroCells427.setIfInBounds i (.int .u32 x)).setIfInBounds 256 (.int .i64 1)) 427):=by
 have e1:(p:Int)/256=(k:Int):=by omega
 have e2:(p:Int)%256=(i:Int):=by omega
 have b1:(p:Int)<=524288:=by omega
 have hkI:(k:Int)<(n:Int):=by omega
 have hiI:(i:Int)<256:=by omega
 have d0:((x:Int)==0)=false:=by simpa using hx
 have hz:∀ h,(Tryz.zeroCells427.setIfInBounds i (.int .u32 x))[256]'h=.int .i64 0:=by
  intro h
  rw [Array.getElem_setIfInBounds_ne _ (by omega)]
  have hl:(Tryz.zeroCells427).toList.length=257:=by rw [zero_table];simp [u32s]
  rw [<-Array.getElem_toList]
  ·have:(Tryz.zeroCells427).toList[256]?=some (.int .i64 0):=by rw [zero_table,List.getElem?_append_right (by simp [u32s])];simp [u32s]
   rw [List.getElem?_eq_getElem (by omega)] at this
   exact Option.some.inj this
  ·have hl:(Tryz.zeroCells427).toList.length=257:=by rw [zero_table];simp [u32s]
   rw [Array.length_toList] at hl
   rw [hl];omega
 clear hp
 go_enter Tryz.func344,Tryz.ntmps344
 go_wp2
 go_end0
 exact ⟨rfl,rfl⟩
def pgSet (w:World) (b i x t' q m' g k:Nat):World:=
 if t'=0 then (((w.setCell ⟨b,i,none⟩ (.int .u32 x)).setCell ⟨b,256,none⟩ (.int .i64 t')).setCell ⟨q,2,none⟩ (.int .i64 m')).setCell ⟨g,k,none⟩ (.pointer none)
 else ((w.setCell ⟨b,i,none⟩ (.int .u32 x)).setCell ⟨b,256,none⟩ (.int .i64 t')).setCell ⟨q,2,none⟩ (.int .i64 m')
set_option maxRecDepth 100000 in
set_option maxHeartbeats 1600000 in
theorem pg_set_some {g n c b:Nat} {m t t' m':Nat} {y:Value} {k i:Nat} (c0:w.cell? ⟨q,0,none⟩=some (.slice (some ⟨g,0,none⟩) n c)) (c2:w.cell? ⟨q,2,none⟩=some (.int .i64 m))
  (f2:w.frozen? ⟨q,2,none⟩=false) (cg:w.cell? ⟨g,k,none⟩=some (.pointer (some ⟨b,0,none⟩))) (fg:w.frozen? ⟨g,k,none⟩=false)
  (cb:w.cell? ⟨b,i,none⟩=some y) (cn:w.cell? ⟨b,256,none⟩=some (.int .i64 t)) (fi:w.frozen? ⟨b,i,none⟩=false) (fn:w.frozen? ⟨b,256,none⟩=false)
  (hqg:q≠g) (hbg:b≠g) (hbq:b≠q) (hk:k<n) (hn:n<=2048) (hi:i<256) (hm:m<=524288) (hm':m'<=524288) (ht:t<=256) (ht':t'<=256) {x:Nat} (hx:x<4294967296)
  (hby:if x=0 then t' + 1=t/\m' + 1=m else t'=t+1/\m'=m+1) {p:Nat} (hp:p=256*k+i):Calls Tryz.prog 344 #[.pointer (some ⟨q,0,none⟩),.int .i64 p,.int .u32 x] w fun e w'=>e=.returned (.tuple #[]) ∧
   w'=pgSet w b i x t' q m' g k:=by
 have e1:(p:Int)/256=(k:Int):=by omega
 have e2:(p:Int)%256=(i:Int):=by omega
 have b1:(p:Int)<=524288:=by omega
 have hkI:(k:Int)<(n:Int):=by omega
 have hiI:(i:Int)<256:=by omega
 have hi6:¬ i=256:=by omega
 clear hp
 by_cases h0:x=0
 ·rw [if_pos h0] at hby
  subst h0
  obtain ⟨rfl,rfl⟩:=hby
  have a1:(t':Int)+1 + -1=(t':Int):=by omega
  have a2:(m':Int)+1 + -1=(m':Int):=by omega
  by_cases h1:t'=0
  ·subst h1
   have E:pgSet w b i 0 0 q m' g k=_:=if_pos rfl
   rw [E]
   clear E
   go_enter Tryz.func344,Tryz.ntmps344
   go_wp2
   go_end0
   exact ⟨rfl,rfl⟩
  ·have d1:((t':Int)==0)=false:=by simpa using h1
   have E:pgSet w b i 0 t' q m' g k=_:=if_neg h1
   rw [E]
   clear E
   go_enter Tryz.func344,Tryz.ntmps344
   go_wp2
   go_end0
   exact ⟨rfl,rfl⟩
 ·rw [if_neg h0] at hby
  obtain ⟨rfl,rfl⟩:=hby
  have d0:((x:Int)==0)=false:=by simpa using h0
  have d1:(((t+1:Nat):Int)==0)=false:=by simp;omega
  have E:pgSet w b i x (t+1) q (m+1) g k=_:=if_neg (by omega)
  rw [E]
  clear E
  go_enter Tryz.func344,Tryz.ntmps344
  go_wp2
  go_end0
  exact ⟨rfl,rfl⟩
end
end Go.Proofs.YthgdadohijgleaaGreatDoor
end
section
namespace Go.Proofs.YthgdadohijgleaaGreatDoor
open Go.RowKit Word
theorem rec_cast {w:World} {q T:Nat} {xs ys:List Value} (h:Rec w q T xs) (e:xs=ys):Rec w q T ys:=e ▸ h
theorem PtOk.set {pt:List Nat} (h:PtOk pt) (p:Nat) {x:Nat} (hx:x<4294967296):PtOk (pt.set p x):=
 ⟨by rw [List.length_set];exact h.n1,by rw [List.length_set];exact h.n2,fun y hy=>by
  rcases List.mem_or_eq_of_mem_set hy with h' | h'
  ·exact h.lt y h'
  ·subst h';exact hx⟩
theorem getD_setM {l:List Nat} {p x:Nat} (hp:p<l.length) (j:Nat):(l.set p x).getD j 0=if p=j then x else l.getD j 0:=by
 simp only [List.getD_eq_getElem?_getD,List.getElem?_set]
 by_cases e:p=j
 ·subst e;simp [hp]
 ·simp [e]
theorem getD_setN {l:List (Option Nat)} {p:Nat} {x:Option Nat} (hp:p<l.length) (j:Nat):(l.set p x).getD j none=if p=j then x else l.getD j none:=by
 simp only [List.getD_eq_getElem?_getD,List.getElem?_set]
 by_cases e:p=j
 ·subst e;simp [hp]
 ·simp [e]
theorem ptrs_set (L:List (Option Nat)) (k:Nat) (b:Option Nat):ptrs (L.set k b)=(ptrs L).set k (.pointer (b.map fun b=>⟨b,0,none⟩)):=by
 unfold ptrs;rw [List.map_set]
theorem rep_all {l:List Nat} {n:Nat} (hl:l.length=n) (h:∀ i,i<n->l.getD i 0=0):l=List.replicate n 0:=by
 apply List.ext_getElem
 ·rw [hl,List.length_replicate]
 ·intro y y1 y2
  have:=h y (by omega)
  rw [List.getD_eq_getElem?_getD,List.getElem?_eq_getElem y1] at this
  rw [List.getElem_replicate]
  exact this
theorem nz_rep (n:Nat):nz (List.replicate n 0)=0:=by
 refine cnt_none fun i hi=>?_
 rw [List.length_replicate] at hi
 simp [List.getD_eq_getElem?_getD,hi]
theorem tabRow_zero {pt:List Nat} {k:Nat} (h:∀ i,i<256->pt.getD (256*k+i) 0=0):tabRow pt k=u32s (List.replicate 256 0)++[.int .i64 0]:=by
 unfold tabRow
 rw [rep_all (tabOf_len pt k) (fun y hy=>by rw [tabOf_at _ _ hy];exact h y hy),nz_rep]
 rfl
def SetEnd (w:World) (S:Nat->Prop) (q:Nat) (pt:List Nat) (p x:Nat) (w':World):Prop:=Touch S w w'/\PgAt w' (plus S w) q (pt.set p x)
section
variable {w:World} {S:Nat->Prop} {q:Nat} {pt:List Nat}
theorem pg_set (hM:PgAt w S q pt) {p x:Nat} (hp:p<pt.length) (hx:x<4294967296) (hxx:if x=0 then pt.getD p 0≠0 else pt.getD p 0=0):
  Calls Tryz.prog 344 #[.pointer (some ⟨q,0,none⟩),.int .i64 p,.int .u32 x] w fun e w'=>e=.returned (.tuple #[])/\SetEnd w S q pt p x w':=by
 obtain ⟨ok,sq,g,c,L,hr,h1,h2,sg,ho,ht,hd⟩:=hM
 have hn:=ntab_le ok.n2
 have hk:=ntab_lt hp
 have hLl:L.length=ntab pt.length:=by have:=ho.1;simp [ptrs] at this;exact this
 obtain ⟨k,hkk⟩:∃ k,k=p/256:=⟨_,rfl⟩
 obtain ⟨i,hii⟩:∃ i,i=p%256:=⟨_,rfl⟩
 have hpk:p=256*k+i:=by omega
 have hi:i<256:=by omega
 rw [<-hkk] at hk
 have hkL:k<L.length:=by omega
 clear hkk hii
 have cg:=own_cell ho (ptrs_at hkL)
 have fg:=own_free ho k
 have c0:=hr.cell (j:=0) rfl
 have c2:=hr.cell (j:=2) rfl
 have f2:=hr.free 2
 have hqg:q≠g:=own_ne hr ho (by decide) rfl rfl
 have hgq:g≠q:=fun e=>hqg e.symm
 have hnz:=nz_le pt
 have hn2:=ok.n2
 have hql:=hr.lt
 have hgl:=(own_lt ho rfl).2
 have hok':=ok.set p hx
 have hlen:(pt.set p x).length=pt.length:=List.length_set
 have hh:=ht k hk
 cases hl:L.getD k none with
 | none=>
  rw [hl] at hh cg
  have h0:pt.getD p 0=0:=by rw [hpk];exact hh i hi
  have hx0:x≠0:=by
   intro e;subst e
   rw [if_pos rfl] at hxx;exact hxx h0
  refine (pg_set_none c0 c2 f2 cg fg hqg hql hgl hk hn hi (by omega) hx0 hpk).mono ?_
  rintro e w' ⟨rfl,rfl⟩
  refine ⟨rfl,((Touch.refl S w).setCell (a:=⟨g,k,none⟩) (fun _=>sg) _ |>.setCell (a:=⟨q,2,none⟩) (fun _=>sq) _).alloc _,hok',.inl sq,g,c,L.set k (some w.heap.size),?_,by rw [hlen];exact h1,h2,.inl sg,?_,fun j hj=>?_,fun a b y ha hb=>?_⟩
  ·have r1:=(own_set_other (q:=g) (j:=k) hr (.pointer (some ⟨w.heap.size,0,none⟩)) (fun y hy=>by cases hy;exact hqg))
   have r2:Rec _ _ _ _:=Rec.set (q:=q) r1 2 (.int .i64 ((nz pt:Nat)+1))
   refine rec_cast (r2.gr ((Gr.refl _).alloc _)) ?_
   rw [nz_set hp h0 hx0,hlen]
   rfl
  ·rw [hlen,ptrs_set]
   exact own_gr (own_set_other (World.ownsRow.stored ho k _).1 _ (fun y hy=>by cases hy;exact hgq)) ((Gr.refl _).alloc _)
  ·rw [hlen] at hj
   rw [getD_setN hkL]
   by_cases e:k=j
   ·subst e
    rw [if_pos rfl]
    refine ⟨.inr (Nat.le_refl _),?_⟩
    have hs:∀ (W:World) (Z:Array Value) (xs:List Value) (N:Nat),W.heap.size=N->Z.toList=xs->Rec (W.alloc (.cells Z 427)) N 427 xs:=by
     rintro W Z xs N rfl rfl
     exact Rec.new W _ _
    refine hs _ _ _ _ (by simp) ?_
    rw [Array.toList_setIfInBounds,Array.toList_setIfInBounds,zero_table,hpk,tabRow_set (by omega) hi rfl]
    have:nz ((tabOf pt k).set i x)=1:=by
     rw [nz_set (by rw [tabOf_len];exact hi) (by rw [tabOf_at _ _ hi];exact hh i hi) hx0,rep_all (tabOf_len pt k) (fun y hy=>by rw [tabOf_at _ _ hy];exact hh y hy),nz_rep]
    rw [this,tabRow_zero hh]
    rfl
   ·rw [if_neg e]
    have hh':=ht j hj
    cases hl':L.getD j none with
    | none=>
     rw [hl'] at hh'
     intro y hy
     rw [getD_setM hp,if_neg (by omega)]
     exact hh' y hy
    | some b=>
     rw [hl'] at hh'
     refine ⟨.inl hh'.1,?_⟩
     rw [hpk,tabRow_other hi (fun h=>e h.symm)]
     have hbg:b≠g:=own_ne hh'.2 ho (by decide) rfl rfl
     have hbq:b≠q:=own_ne hh'.2 hr (by decide) rfl rfl
     have r1:=own_set_other (q:=g) (j:=k) hh'.2 (.pointer (some ⟨w.heap.size,0,none⟩)) (fun y hy=>by cases hy;exact hbg)
     exact Rec.gr (own_set_other r1 _ (fun y hy=>by cases hy;exact hbq)) ((Gr.refl _).alloc _)
  ·rw [getD_setN hkL] at ha hb
   have hne:∀ j,L.getD j none≠some w.heap.size:=fun j hj=>by
    by_cases hj':j<ntab pt.length
    ·have:=ht j hj'
     rw [hj] at this
     exact absurd this.2.lt (Nat.lt_irrefl _)
    ·rw [List.getD_eq_getElem?_getD,List.getElem?_eq_none (by omega)] at hj;cases hj
   by_cases e1:k=a <;> by_cases e2:k=b
   ·rw [<-e1,e2]
   ·rw [if_pos e1] at ha;rw [if_neg e2] at hb;cases ha;exact absurd hb (hne b)
   ·rw [if_neg e1] at ha;rw [if_pos e2] at hb;cases hb;exact absurd ha (hne a)
   ·rw [if_neg e1] at ha;rw [if_neg e2] at hb;exact hd _ _ _ ha hb
 | some b=>
  rw [hl] at hh cg
  obtain ⟨sb,hb⟩:=hh
  have hbg:b≠g:=own_ne hb ho (by decide) rfl rfl
  have hgb:g≠b:=fun e=>hbg e.symm
  have hbq:b≠q:=own_ne hb hr (by decide) rfl rfl
  have hqb:q≠b:=fun e=>hbq e.symm
  have cb:=hb.cell (tabRow_at pt k hi)
  have cn:=hb.cell (tabRow_n pt k)
  have hti:i<(tabOf pt k).length:=by rw [tabOf_len];exact hi
  have htat:(tabOf pt k).getD i 0=pt.getD p 0:=by rw [tabOf_at _ _ hi,hpk]
  have hby:if x=0 then nz ((tabOf pt k).set i x)+1=nz (tabOf pt k)/\nz (pt.set p x)+1=nz pt else nz ((tabOf pt k).set i x)=nz (tabOf pt k)+1/\nz (pt.set p x)=nz pt+1:=by
   by_cases e:x=0
   ·rw [if_pos e] at hxx ⊢
    subst e
    exact ⟨nz_drop hti (by rw [htat];exact hxx),nz_drop hp hxx⟩
   ·rw [if_neg e] at hxx ⊢
    exact ⟨nz_set hti (by rw [htat];exact hxx) e,nz_set hp hxx e⟩
  have l1:=nz_le (tabOf pt k)
  have l2:=nz_le ((tabOf pt k).set i x)
  rw [List.length_set] at l2
  rw [tabOf_len] at l1 l2
  have l3:=nz_le (pt.set p x)
  rw [hlen] at l3
  refine (pg_set_some c0 c2 f2 cg fg cb cn (hb.free i) (hb.free 256) hqg hbg hbq hk hn hi (by omega) (m':=nz (pt.set p x)) (by omega) l1 l2 hx hby hpk).mono ?_
  rintro e w' ⟨rfl,rfl⟩
  obtain ⟨t',ht'⟩:∃ t',t'=nz ((tabOf pt k).set i x):=⟨_,rfl⟩
  rw [<-ht']
  have hrow:=tabRow_set (pt:=pt) (k:=k) (i:=i) (x:=x) (t:=t') (by omega) hi ht'.symm
  rw [<-hpk] at hrow
  -- the world behind the first three stores
  obtain ⟨W,hW⟩:∃ W,W=((w.setCell ⟨b,i,none⟩ (.int .u32 x)).setCell ⟨b,256,none⟩ (.int .i64 t')).setCell ⟨q,2,none⟩ (.int .i64 (nz (pt.set p x):Nat)):=⟨_,rfl⟩
  have TW:Touch S w W:=by rw [hW];exact ((Touch.refl S w).setCell (a:=⟨b,i,none⟩) (fun _=>sb) _ |>.setCell (a:=⟨b,256,none⟩) (fun _=>sb) _).setCell (a:=⟨q,2,none⟩) (fun _=>sq) _
  have RQ:Rec W q 351 [.slice (some ⟨g,0,none⟩) (ntab pt.length) c,.int .i64 pt.length,.int .i64 (nz (pt.set p x):Nat)]:=by
   rw [hW]
   have r1:=own_set_other (q:=b) (j:=i) hr (.int .u32 x) (fun y hy=>by cases hy;exact hqb)
   have r2:=own_set_other (q:=b) (j:=256) r1 (.int .i64 t') (fun y hy=>by cases hy;exact hqb)
   exact Rec.set r2 2 _
  have RG:W.ownsRow 0 424 1 (.slice (some ⟨g,0,none⟩) (ntab pt.length) c) (ntab pt.length) (ptrs L):=by
   rw [hW]
   exact own_set_other (own_set_other (own_set_other ho _ (fun y hy=>by cases hy;exact hgb)) _ (fun y hy=>by cases hy;exact hgb)) _ (fun y hy=>by cases hy;exact hgq)
  have RB:Rec W b 427 (tabRow (pt.set p x) k):=by
   rw [hW,hrow]
   exact own_set_other (Rec.set (Rec.set hb i _) 256 _) _ (fun y hy=>by cases hy;exact hbq)
  have RO:∀ j y,j≠k->j<ntab pt.length->L.getD j none=some y->S y/\Rec W y 427 (tabRow (pt.set p x) j):=fun j y hj hj2 hy=>by
   have:=ht j hj2
   rw [hy] at this
   refine ⟨this.1,?_⟩
   rw [hpk,tabRow_other hi hj,hW]
   have hyb:y≠b:=fun e=>hj (hd _ _ _ (by rw [e] at hy;exact hy) hl)
   have hyq:y≠q:=own_ne this.2 hr (by decide) rfl rfl
   exact own_set_other (own_set_other (own_set_other this.2 _ (fun z hz=>by cases hz;exact hyb)) _ (fun z hz=>by cases hz;exact hyb)) _ (fun z hz=>by cases hz;exact hyq)
  have RN:∀ j,j≠k->j<ntab pt.length->L.getD j none=none->∀ y,y<256->(pt.set p x).getD (256*j+y) 0=0:=fun j hj hj2 hy y hy2=>by
   have:=ht j hj2
   rw [hy] at this
   rw [getD_setM hp,if_neg (by omega)]
   exact this y hy2
  unfold pgSet
  by_cases h0:t'=0
  ·rw [if_pos h0,<-hW]
   refine ⟨rfl,TW.setCell (a:=⟨g,k,none⟩) (fun _=>sg) _,hok',.inl sq,g,c,L.set k none,?_,by rw [hlen];exact h1,h2,.inl sg,?_,fun j hj=>?_,fun a y z ha hz=>?_⟩
   ·rw [hlen]
    exact own_set_other RQ _ (fun y hy=>by cases hy;exact hqg)
   ·rw [hlen,ptrs_set]
    exact (World.ownsRow.stored RG k _).1
   ·rw [hlen] at hj
    rw [getD_setN hkL]
    by_cases e:k=j
    ·subst e
     rw [if_pos rfl]
     intro y hy
     have:=nz_none (l:=(tabOf pt k).set i x) (by rw [<-ht'];exact h0) (i:=y) (by rw [List.length_set,tabOf_len];exact hy)
     rw [<-tabOf_set (by omega),tabOf_at _ _ hy,<-hpk] at this
     exact this
    ·rw [if_neg e]
     cases hl':L.getD j none with
     | none=>exact RN j (fun h=>e h.symm) hj hl'
     | some y=>
      have:=RO j y (fun h=>e h.symm) hj hl'
      have hyg:y≠g:=own_ne this.2 RG (by decide) rfl rfl
      exact ⟨.inl this.1,own_set_other this.2 _ (fun z hz=>by cases hz;exact hyg)⟩
   ·rw [getD_setN hkL] at ha hz
    by_cases e1:k=a
    ·rw [if_pos e1] at ha;cases ha
    ·by_cases e2:k=y
     ·rw [if_pos e2] at hz;cases hz
     ·rw [if_neg e1] at ha;rw [if_neg e2] at hz;exact hd _ _ _ ha hz
  ·rw [if_neg h0,<-hW]
   refine ⟨rfl,TW,hok',.inl sq,g,c,L,?_,by rw [hlen];exact h1,h2,.inl sg,?_,fun j hj=>?_,hd⟩
   ·rw [hlen];exact RQ
   ·rw [hlen];exact RG
   ·rw [hlen] at hj
    by_cases e:k=j
    ·subst e
     rw [hl]
     exact ⟨.inl sb,RB⟩
    ·cases hl':L.getD j none with
     | none=>exact RN j (fun h=>e h.symm) hj hl'
     | some y=>
      have:=RO j y (fun h=>e h.symm) hj hl'
      exact ⟨.inl this.1,this.2⟩
end
end Go.Proofs.YthgdadohijgleaaGreatDoor
end
section
namespace Go.Proofs.YthgdadohijgleaaGreatDoor
open Go.RowKit Word
def frE (pt:List Nat) (p:Int):Int:=if pgE pt p=0 then (if pt.getD p.toNat 0=0 then 12 else 0) else 11
def frV (pt:List Nat) (p:Int):Int:=if frE pt p=0 then (pt.getD p.toNat 0:Nat)-1 else 0
section
variable {w:World} {S:Nat->Prop} {q:Nat} {pt:List Nat}
theorem pg_in1 (hM:PgAt w S q pt) {b:Nat} {p:Int} (hc:w.cell? ⟨b,0,none⟩=some (.int .i64 p)):Calls Tryz.prog 320 #[.pointer (some ⟨q,0,none⟩),.slice (some ⟨b,0,none⟩) 1 1] w fun e w'=>e=.returned (.int .i64 (pgE pt p))/\w=w':=by
 have:=pg_in hM (b:=b) (n:=1) (l:=[p]) rfl (by omega) (fun i hi=>by
  obtain rfl:i=0:=by omega
  exact hc)
 refine this.mono ?_
 rintro e w' ⟨rfl,rfl⟩
 refine ⟨ret_int ?_,rfl⟩
 unfold pgsE
 rcases pgE_cut pt p with h | h | h
 ·simp [h.2]
 ·simp [h.2.2]
 ·simp [h.2.2]
theorem pgE_zero {pt:List Nat} {p:Int} (h:pgE pt p=0):∃ j:Nat,p=j/\j<pt.length:=by
 unfold pgE at h
 split at h
 ·exact ⟨p.toNat,by omega,by omega⟩
 ·cases h
theorem pgE_two (pt:List Nat) (p:Int):pgE pt p=0\/pgE pt p=11:=by unfold pgE;split <;> simp
set_option maxRecDepth 100000 in
set_option maxHeartbeats 800000 in
theorem pg_frame (hM:PgAt w S q pt) (p:Int):Calls Tryz.prog 255 #[.pointer (some ⟨q,0,none⟩),.int .i64 p] w fun e w'=>e=.returned (.tuple #[.int .i64 (frV pt p),.int .i64 (frE pt p)])/\Gr w w':=by
 have HM:=hid hM
 rcases pgE_two pt p with h0 | h0
 ·obtain ⟨j,rfl,hj⟩:=pgE_zero h0
  have hl:pt.getD j 0<4294967296:=by
   rw [List.getD_eq_getElem?_getD,List.getElem?_eq_getElem hj]
   exact hM.ok.lt _ (List.getElem_mem hj)
  have HV:Hid (frE pt j=if pt.getD j 0=0 then 12 else 0):=⟨by unfold frE;rw [if_pos h0,Int.toNat_natCast]⟩
  have HF:Hid (frV pt j=if frE pt j=0 then ((pt.getD j 0:Nat):Int)-1 else 0):=⟨by unfold frV;rw [Int.toNat_natCast]⟩
  have HG:=hid (fun (w':World) (h:Gr w w')=>pg_get (hM.gr h) hj)
  have H0:=hid h0
  clear hM hj h0
  generalize pt.getD j 0=x at HV HF HG hl
  by_cases hx:x=0
  ·subst hx
   have E1:=HV.out
   rw [if_pos rfl] at E1
   have E2:=HF.out
   rw [E1,if_neg (by decide)] at E2
   have HE:=hid (And.intro E1 E2)
   clear E1 E2 HV HF
   go_enter Tryz.func255,Tryz.ntmps255
   go_wp2_with (first
    | (go_at_call 320;refine (pg_in1 (HM.out.gr ((Gr.refl w).alloc _)) (p:=j) (World.cell?_alloc_at _ _ _ 0 rfl)).mono ?_;rintro e w1 ⟨rfl,rfl⟩;rw [H0.out])
    | (go_at_call 321;refine (HG.out _ ((Gr.refl w).alloc _)).mono ?_;rintro e w1 ⟨rfl,rfl⟩))
   go_ret2
   exact ⟨ret2 (vint (by rw [HE.out.2])) (vint (by rw [HE.out.1])),(Gr.refl w).alloc _⟩
  ·have E1:=HV.out
   rw [if_neg hx] at E1
   have E2:=HF.out
   rw [E1,if_pos rfl] at E2
   have HE:=hid (And.intro E1 E2)
   have d0:((x:Int)==0)=false:=by simpa using hx
   clear E1 E2 HV HF
   go_enter Tryz.func255,Tryz.ntmps255
   go_wp2_with (first
    | (go_at_call 320;refine (pg_in1 (HM.out.gr ((Gr.refl w).alloc _)) (p:=j) (World.cell?_alloc_at _ _ _ 0 rfl)).mono ?_;rintro e w1 ⟨rfl,rfl⟩;rw [H0.out])
    | (go_at_call 321;refine (HG.out _ ((Gr.refl w).alloc _)).mono ?_;rintro e w1 ⟨rfl,rfl⟩))
   go_ret2
   exact ⟨ret2 (vint (by rw [HE.out.2])) (vint (by rw [HE.out.1])),(Gr.refl w).alloc _⟩
 ·have E1:frE pt p=11:=by unfold frE;rw [if_neg (by rw [h0];decide)]
  have E2:frV pt p=0:=by unfold frV;rw [if_neg (by rw [E1];decide)]
  have HE:=hid (And.intro E1 E2)
  have H0:=hid h0
  clear E1 E2 h0 hM
  go_enter Tryz.func255,Tryz.ntmps255
  go_wp2_with (go_at_call 320;refine (pg_in1 (HM.out.gr ((Gr.refl w).alloc _)) (p:=p) (World.cell?_alloc_at _ _ _ 0 rfl)).mono ?_;rintro e w1 ⟨rfl,rfl⟩;rw [H0.out])
  go_ret2
  exact ⟨ret2 (vint (by rw [HE.out.2])) (vint (by rw [HE.out.1])),(Gr.refl w).alloc _⟩
set_option maxRecDepth 100000 in
set_option maxHeartbeats 800000 in
theorem pg_put (hM:PgAt w S q pt) {p f:Nat} (hp:p<pt.length) (h0:pt.getD p 0=0) (hf:f<4096):Calls Tryz.prog 316 #[.pointer (some ⟨q,0,none⟩),.int .i64 p,.int .i64 f] w fun e w'=>e=.returned (.int .i64 0)/\SetEnd w S q pt p (f+1) w':=by
 have HM:=hid hM
 have HI:Hid (pgE pt p=0):=⟨by unfold pgE;rw [if_pos ⟨by omega,by omega⟩]⟩
 have HG:=hid (fun (w':World) (h:Gr w w')=>pg_get (hM.gr h) hp)
 have HS:=hid (fun (w':World) (h:Gr w w')=>pg_set (hM.gr h) (x:=f+1) hp (by omega) (by rw [if_neg (by omega)];exact h0))
 rw [h0] at HG
 have b1:((f:Int)+1)%4294967296=(f:Int)+1:=by omega
 have b2:(f:Int)%4294967296=(f:Int):=by omega
 clear hM hp h0
 go_enter Tryz.func316,Tryz.ntmps316
 go_wp2_with (first
  | (go_at_call 320;refine (pg_in1 (HM.out.gr ((Gr.refl w).alloc _)) (p:=p) (World.cell?_alloc_at _ _ _ 0 rfl)).mono ?_;rintro e w1 ⟨rfl,rfl⟩;rw [HI.out])
  | (go_at_call 321;refine (HG.out _ ((Gr.refl w).alloc _)).mono ?_;rintro e w1 ⟨rfl,rfl⟩)
  | (go_at_call 344;refine (HS.out _ ((Gr.refl w).alloc _)).mono ?_;rintro e w1 ⟨rfl,hs1⟩;have HE:=hid hs1;clear hs1))
 go_ret
 obtain ⟨t1,t2⟩:=HE.out
 exact ⟨rfl,(((Gr.refl w).alloc _).touch S).trans t1,t2.mono (fun k hk=>hk.imp id (fun h=>Nat.le_trans ((Gr.refl w).alloc _).size h))⟩
def PgDropEnd (w:World) (S:Nat->Prop) (q:Nat) (pt:List Nat) (p:Int) (w':World):Prop:=(frE pt p≠0/\Gr w w')\/(frE pt p=0/\SetEnd w S q pt p.toNat 0 w')
theorem frE_zero {pt:List Nat} {p:Int} (h:frE pt p=0):∃ j:Nat,p=j/\j<pt.length/\pt.getD j 0≠0:=by
 unfold frE at h
 split at h
 ·rename_i h0
  obtain ⟨j,rfl,hj⟩:=pgE_zero h0
  refine ⟨j,rfl,hj,fun e=>?_⟩
  rw [Int.toNat_natCast,if_pos e] at h
  cases h
 ·cases h
theorem frE_range (pt:List Nat) (p:Int):0<=frE pt p/\frE pt p<=12:=by unfold frE;split <;> (try split) <;> omega
set_option maxRecDepth 100000 in
set_option maxHeartbeats 800000 in
theorem pg_drop (hM:PgAt w S q pt) (p:Int):Calls Tryz.prog 288 #[.pointer (some ⟨q,0,none⟩),.int .i64 p] w fun e w'=>e=.returned (.tuple #[.int .i64 (frV pt p),.int .i64 (frE pt p)])/\PgDropEnd w S q pt p w':=by
 have HM:=hid hM
 by_cases h0:frE pt p=0
 ·have HZ:=hid h0
  obtain ⟨j,rfl,hj,hx⟩:=frE_zero h0
  have HS:=hid (fun (w':World) (h:Gr w w')=>pg_set (hM.gr h) (x:=0) hj (by omega) (by rw [if_pos rfl];exact hx))
  clear h0 hM hj hx
  go_enter Tryz.func288,Tryz.ntmps288
  go_wp2_with (first
   | (go_at_call 255;refine (pg_frame HM.out j).mono ?_;rintro e w1 ⟨rfl,hg1⟩;rw [HZ.out];have HG1:=hid hg1;clear hg1)
   | (go_at_call 344;refine (HS.out _ HG1.out).mono ?_;rintro e w2 ⟨rfl,hs1⟩;have HE:=hid hs1;clear hs1))
  go_ret2
  obtain ⟨t1,t2⟩:=HE.out
  refine ⟨ret2 rfl (vint (by rw [HZ.out])),.inr ⟨HZ.out,(HG1.out.touch S).trans t1,?_⟩⟩
  rw [Int.toNat_natCast]
  exact t2.mono (fun k hk=>hk.imp id (fun h=>Nat.le_trans HG1.out.size h))
 ·have HZ:=hid h0
  have hr:=frE_range pt p
  have HV:Hid (frE pt p=frE pt p):=⟨rfl⟩
  obtain ⟨x,hx⟩:∃ x,x=frE pt p:=⟨_,rfl⟩
  have HX:=hid hx
  rw [<-hx] at h0 hr
  have d0:(x==0)=false:=by simpa using h0
  clear hM hx
  go_enter Tryz.func288,Tryz.ntmps288
  go_wp2_with (go_at_call 255;refine (pg_frame HM.out p).mono ?_;rintro e w1 ⟨rfl,hg1⟩;rw [<-HX.out];have HG1:=hid hg1;clear hg1)
  go_ret2
  exact ⟨ret2 rfl (vint (by rw [HX.out])),.inl ⟨HZ.out,HG1.out⟩⟩
theorem PtOk.new {n:Nat} (h1:1<=n) (h2:n<=524288):PtOk (List.replicate n 0):=
 ⟨by simpa using h1,by simpa using h2,fun x hx=>by rw [List.eq_of_mem_replicate hx];decide⟩
theorem rep_getD (n i:Nat):(List.replicate n 0).getD i 0=0:=by
 rw [List.getD_eq_getElem?_getD,List.getElem?_replicate]
 split <;> rfl
theorem infoTabP:(Tryz.prog.info? 424).map (fun i=>(i.zero,i.size,i.bytes))=some (some (.pointer none),1,8):=by kernel_rfl
theorem made_none (n:Nat):(madeCells #[.pointer none] n).toList=ptrs (List.replicate n none):=by
 unfold madeCells ptrs
 apply List.ext_getElem
 ·simp
 ·intro i h1 h2
  simp [Nat.mod_one]
theorem own_zero {w:World} {base E size:Nat} {v:Value} {n:Nat} {xs:List Value} (h:w.ownsRow base E size v n xs):w.ownsRow 0 E size v n xs:=by
 obtain ⟨h1,h | ⟨g,c,cur,e1,e2,h⟩⟩:=h
 ·exact ⟨h1,.inl h⟩
 ·exact ⟨h1,.inr ⟨g,c,cur,e1,Nat.zero_le _,h⟩⟩
set_option maxRecDepth 100000 in
set_option maxHeartbeats 800000 in
theorem pg_new {n:Nat} (h1:1<=n) (h2:n<=524288):Calls Tryz.prog 171 #[.int .i64 n] w fun e w'=>∃ q,e=.returned (.tuple #[.pointer (some ⟨q,0,none⟩),.int .i64 0])/\Gr w w'/\PgAt w' (fun k=>w.heap.size<=k) q (List.replicate n 0):=by
 obtain ⟨i0,hi,hz0,hz1,hz2⟩:=info_parts infoTabP
 have e1:((n:Int)+256-1)/256=(ntab n:Int):=by unfold ntab;omega
 have b0:ntab n<=2048:=ntab_le h2
 have HB:Hid (i0.bytes*ntab n<=281474976710656):=⟨by rw [hz2];omega⟩
 have HM:Hid (ntab n<=maxLen):=⟨by unfold maxLen;omega⟩
 go_enter Tryz.func171,Tryz.ntmps171
 go_wp2_with (at_make;refine wpList_make_full _ rfl _ _ 349 rfl w.heap.size 424 i0 (.pointer none) 1 Tryz.underlying349 hi hz0 hz1 .i64 .i64 _ _ (ntab n) rfl rfl ?h1 ?h2 HB.out HM.out (Nat.le_refl _) ?h3)
 case h1=>omega
 case h2=>omega
 case h3=>
  intro w1 hown hgrow
  have hg1:Gr w w1:=(grownBy_touch hgrow (fun _=>False) (fun k e _=>by cases e)).gr
  have HO:=hid (own_zero hown)
  have HG:=hid hg1
  clear hown hgrow hg1
  go_wp2
  go_ret2
  have hl:(List.replicate n 0).length=n:=List.length_replicate
  have hown:=HO.out
  rw [made_none] at hown
  refine ⟨_,ret2 rfl rfl,HG.out.alloc _,PtOk.new h1 h2,HG.out.size,w.heap.size,ntab n,List.replicate (ntab n) none,?_,by rw [hl];exact Nat.le_refl _,HM.out,Nat.le_refl _,?_,fun k hk=>?_,fun k j b hk=>?_⟩
  ·rw [hl,nz_rep];exact Rec.new w1 _ _
  ·rw [hl];exact own_gr hown ((Gr.refl _).alloc _)
  ·rw [List.getD_eq_getElem?_getD,List.getElem?_replicate]
   rw [hl] at hk
   rw [if_pos hk]
   exact fun i _=>rep_getD n _
  ·rw [List.getD_eq_getElem?_getD,List.getElem?_replicate] at hk
   split at hk <;> cases hk
end
end Go.Proofs.YthgdadohijgleaaGreatDoor
end
end
