/- Part 8 of what SlideReads leans on: my own lemmas, merged by shake.py. -/
import Derived.Test.YthgdadohijgleaaGreatDoorSlideReadsG
import Derived.Deep.CutBlock
import Derived.Deep.DeepCutAuto
import Derived.SizedLaws
section
section
namespace Go.Proofs.YthgdadohijgleaaGreatDoor
open Go.RowKit Word
set_option maxRecDepth 100000 in
set_option maxHeartbeats 800000 in
theorem ref14_may {p f k:Nat} (hp:p<=255) (hf:f<=255) (hk:k<=255) (w:World):Calls Tryz.prog 94 #[.agg #[.int .i64 p,.int .i64 f,.int .i64 k]] w fun e w'=>e=.returned (.bool (decide (p+f+k<=255)))/\Gr w w':=by
 have d1:decide (255<(p:Int))=false:=decide_eq_false (by omega)
 have d2:decide (255<(f:Int))=false:=decide_eq_false (by omega)
 have d3:decide (255<(k:Int))=false:=decide_eq_false (by omega)
 have HD:Hid (decide ((p:Int)+f+k<=255)=decide (p+f+k<=255)):=⟨by by_cases h:p+f+k<=255 <;> simp [h] <;> omega⟩
 go_enter Tryz.func94,Tryz.ntmps94
 go_wp2
 go_ret
 exact ⟨congrArg (fun b=>Ending.returned (.bool b)) HD.out,(Gr.refl w).alloc _⟩
set_option maxRecDepth 100000 in
set_option maxHeartbeats 800000 in
theorem ref14_size {p f k:Nat} (hs:p+f+k<=255) (w:World):Calls Tryz.prog 28 #[.agg #[.int .i64 p,.int .i64 f,.int .i64 k]] w fun e w'=>e=.returned (.int .i64 (hdrN ⟨p,f,k⟩))/\Gr w w':=by
 have HM:=hid (fun W=>ref14_may (p:=p) (f:=f) (k:=k) (by omega) (by omega) (by omega) W)
 rw [decide_eq_true hs] at HM
 have HN:Hid (hdrN ⟨p,f,k⟩=1+(p:Int)+f+k):=⟨if_pos (hdrE_of hs)⟩
 have HR:=hid (Rec.new w 48 [.int .i64 p,.int .i64 f,.int .i64 k])
 go_enter Tryz.func28,Tryz.ntmps28
 go_wp2_with (go_at_call 94;refine (HM.out _).mono ?_;rintro e w1 ⟨rfl,hg1⟩;have HG1:=hid (((Gr.refl w).alloc _).trans hg1);have R1:=HR.out.gr hg1;have y0:=R1.cell (j:=0) rfl;have y1:=R1.cell (j:=1) rfl;have y2:=R1.cell (j:=2) rfl;clear hg1 R1)
 go_ret
 exact ⟨ret_int (by rw [HN.out];omega),HG1.out⟩
def PutEnd14 (w:World) (p f k:Nat) (e:Ending) (w':World):Prop:=e=.returned (if p+f+k<=255 then .tuple #[.int .u64 (hdrW p f k:Nat),.int .i64 0] else .tuple #[.int .u64 0,.int .i64 15])/\Gr w w'
set_option maxRecDepth 100000 in
set_option maxHeartbeats 1600000 in
theorem ref14_put {p f k:Nat} (hp:p<=255) (hf:f<=255) (hk:k<=255) (w:World):Calls Tryz.prog 326 #[.agg #[.int .i64 p,.int .i64 f,.int .i64 k]] w (PutEnd14 w p f k):=by
 have HM:=hid (fun W=>ref14_may hp hf hk W)
 have HR:=hid (Rec.new w 48 [.int .i64 p,.int .i64 f,.int .i64 k])
 by_cases hs:p+f+k<=255
 ·rw [decide_eq_true hs] at HM
  have HS:=hid hs
  have hw1:IntKind.u64.wrap (p:Int)=p:=by rw [IntKind.wrap_u64];omega
  have hw2:IntKind.u64.wrap (f:Int)=f:=by rw [IntKind.wrap_u64];omega
  have hw3:IntKind.u64.wrap (k:Int)=k:=by rw [IntKind.wrap_u64];omega
  have HW:Hid (((hdrW p f k:Nat):Int)=((p:Int)+(f:Int)*256+(k:Int)*65536+2768240640)+(4294967295-((p:Int)+(f:Int)*256+(k:Int)*65536+2768240640))*4294967296):=⟨by unfold hdrW hdrL;omega⟩
  go_enter Tryz.func326,Tryz.ntmps326
  go_wp2_with (go_at_call 94;refine (HM.out _).mono ?_;rintro e w1 ⟨rfl,hg1⟩;have HG1:=hid (((Gr.refl w).alloc _).trans hg1);have R1:=HR.out.gr hg1;have y0:=R1.cell (j:=0) rfl;have y1:=R1.cell (j:=1) rfl;have y2:=R1.cell (j:=2) rfl;clear hg1 R1)
  go_ret2
  exact ⟨by rw [if_pos HS.out,HW.out];rfl,HG1.out⟩
 ·rw [decide_eq_false hs] at HM
  have HS:=hid hs
  clear hs
  go_enter Tryz.func326,Tryz.ntmps326
  go_wp2_with (go_at_call 94;refine (HM.out _).mono ?_;rintro e w1 ⟨rfl,hg1⟩;have HG1:=hid (((Gr.refl w).alloc _).trans hg1);clear hg1)
  go_ret2
  exact ⟨by rw [if_neg HS.out];rfl,HG1.out⟩
end Go.Proofs.YthgdadohijgleaaGreatDoor
end
section
namespace Go.Proofs.YthgdadohijgleaaGreatDoor
open Go.RowKit Word
theorem tk14 {x:Nat} (_hx:x<18446744073709551616):tkOk x=(decide (x%256+x/256%256+x/65536%256<=255)&&decide (hdrW (x%256) (x/256%256) (x/65536%256)=x)):=by
 have h1:x%256+256*(x/256%256)+65536*(x/65536%256)=x%16777216:=by omega
 have h2:x%4294967296=x%16777216+16777216*(x%4294967296/16777216):=by omega
 have h3:x=x/4294967296*4294967296+x%4294967296:=by omega
 unfold tkOk
 refine Bool.eq_iff_iff.2 ?_
 simp only [Bool.and_eq_true,decide_eq_true_eq]
 unfold hdrW hdrL
 generalize x%256=p at *
 generalize x/256%256=f at *
 generalize x/65536%256=k at *
 constructor
 ·rintro ⟨⟨a,b⟩,c⟩
  exact ⟨c,by omega⟩
 ·rintro ⟨c,d⟩
  exact ⟨⟨by omega,by omega⟩,c⟩
set_option maxRecDepth 100000 in
set_option maxHeartbeats 6400000 in
theorem ref14_take {x:Nat} (hx:x<18446744073709551616) (w:World):Calls Tryz.prog 263 #[.int .u64 (x:Nat)] w fun e w'=>e=.returned (.tuple #[hdrV (tkH x),.int .i64 (tkE x)])/\Gr w w':=by
 have hk:=tk14 hx
 have HT:Hid (tkH x=if tkOk x then ⟨(x%256:Nat),(x/256%256:Nat),(x/65536%256:Nat)⟩ else ⟨0,0,0⟩):=⟨rfl⟩
 have HE:Hid (tkE x=if tkOk x then 0 else 16):=⟨rfl⟩
 have e1:(x:Int)%256=((x%256:Nat):Int):=by omega
 have e2:((x/256:Nat):Int)%256=((x/256%256:Nat):Int):=by omega
 have e3:((x/65536:Nat):Int)%256=((x/65536%256:Nat):Int):=by omega
 have e4:(x:Int)/256=((x/256:Nat):Int):=by omega
 have e5:(x:Int)/65536=((x/65536:Nat):Int):=by omega
 have e6:((x/256:Nat):Int).tmod 256=((x/256%256:Nat):Int):=rfl
 have e7:((x/65536:Nat):Int).tmod 256=((x/65536%256:Nat):Int):=rfl
 have e8:IntKind.u64.wrap ((x/256:Nat):Int)=((x/256:Nat):Int):=by rw [IntKind.wrap_u64];omega
 have e9:IntKind.u64.wrap ((x/65536:Nat):Int)=((x/65536:Nat):Int):=by rw [IntKind.wrap_u64];omega
 have hp:x%256<=255:=by omega
 have hf:x/256%256<=255:=by omega
 have hkk:x/65536%256<=255:=by omega
 generalize x%256=p at *
 generalize x/256%256=f at *
 generalize x/65536%256=k at *
 generalize x/256=y1 at *
 generalize x/65536=y2 at *
 have HP:=hid (fun W=>ref14_put hp hf hkk W)
 unfold PutEnd14 at HP
 have KL:=hid (fun (W:World) (blk:Nat) (p q r:Value)=>load_hdr W blk p q r)
 have HR:=hid (Rec.new w 48 [.int .i64 0,.int .i64 0,.int .i64 0])
 have HR4:=hid (fun W (g:Gr ((w.alloc (.cells #[.int .i64 0,.int .i64 0,.int .i64 0] 48)).alloc (.cells #[.int .i64 p,.int .i64 f,.int .i64 k] 48)) W)=>((tk_recs (w:=w) (xs:=[.int .i64 0,.int .i64 0,.int .i64 0]) (ys:=[.int .i64 p,.int .i64 f,.int .i64 k]) g)))
 by_cases hs:p+f+k<=255
 ·rw [if_pos hs] at HP
  by_cases hw:hdrW p f k=x
  ·have hok:tkOk x=true:=by rw [hk,decide_eq_true hs,decide_eq_true hw];rfl
   have HH:Hid (tkH x=⟨p,f,k⟩/\tkE x=0):=⟨⟨by rw [HT.out,if_pos hok],by rw [HE.out,if_pos hok]⟩⟩
   rw [hw] at HP
   unfold hdrV
   rw [HH.out.1,HH.out.2]
   clear hk hw hok HT HE hs hx
   go_enter Tryz.func263,Tryz.ntmps263
   go_wp2_with (go_at_call 326;refine (HP.out _).mono ?_;rintro e w1 ⟨rfl,hg1⟩;obtain ⟨ra,rb⟩:=HR4.out _ hg1;have y0:=ra.cell (j:=0) rfl;have y1:=ra.cell (j:=1) rfl;have y2:=ra.cell (j:=2) rfl;have yf:=ra.free;have x0:=rb.cell (j:=0) rfl;have x1:=rb.cell (j:=1) rfl;have x2:=rb.cell (j:=2) rfl;have HRA:=hid ra;have HG1:=hid hg1;clear hg1 ra rb)
   have R3:=Rec.set (Rec.set (Rec.set HRA.out 0 (.int .i64 p)) 1 (.int .i64 f)) 2 (.int .i64 k)
   refine bodyPost_ret (v:=.tuple #[.agg #[.int .i64 p,.int .i64 f,.int .i64 k],.int .i64 0]) ?_ rfl ⟨rfl,tk_gr HG1.out⟩
   rw [results_cell_tmp rfl]
   have hl:=KL.out _ w.heap.size _ _ _ (R3.cell (j:=0) rfl) (R3.cell (j:=1) rfl) (R3.cell (j:=2) rfl)
   simp [asAddr,Result.andThen,hl]
  ·have hok:tkOk x=false:=by rw [hk,decide_eq_false hw];simp
   have HH:Hid (tkH x=⟨0,0,0⟩/\tkE x=16):=⟨⟨by rw [HT.out,hok];rfl,by rw [HE.out,hok];rfl⟩⟩
   have dw:(((hdrW p f k:Nat):Int)==(x:Int))=false:=beq_false_of_ne (fun h=>hw (by omega))
   generalize hdrW p f k=y at *
   unfold hdrV
   rw [HH.out.1,HH.out.2]
   clear hk hw hok HT HE hs hx
   go_enter Tryz.func263,Tryz.ntmps263
   go_wp2_with (go_at_call 326;refine (HP.out _).mono ?_;rintro e w1 ⟨rfl,hg1⟩;obtain ⟨ra,rb⟩:=HR4.out _ hg1;have y0:=ra.cell (j:=0) rfl;have y1:=ra.cell (j:=1) rfl;have y2:=ra.cell (j:=2) rfl;have yf:=ra.free;have HRA:=hid ra;have HG1:=hid hg1;clear hg1 ra rb)
   have R3:=Rec.set (Rec.set (Rec.set HRA.out 0 (.int .i64 0)) 1 (.int .i64 0)) 2 (.int .i64 0)
   refine bodyPost_ret (v:=.tuple #[.agg #[.int .i64 0,.int .i64 0,.int .i64 0],.int .i64 16]) ?_ rfl ⟨rfl,tk_gr HG1.out⟩
   rw [results_cell_tmp rfl]
   have hl:=KL.out _ w.heap.size _ _ _ (R3.cell (j:=0) rfl) (R3.cell (j:=1) rfl) (R3.cell (j:=2) rfl)
   simp [asAddr,Result.andThen,hl]
 ·rw [if_neg hs] at HP
  have hok:tkOk x=false:=by rw [hk,decide_eq_false hs];rfl
  have HH:Hid (tkH x=⟨0,0,0⟩/\tkE x=16):=⟨⟨by rw [HT.out,hok];rfl,by rw [HE.out,hok];rfl⟩⟩
  unfold hdrV
  rw [HH.out.1,HH.out.2]
  clear hk hok HT HE hs hx
  go_enter Tryz.func263,Tryz.ntmps263
  go_wp2_with (go_at_call 326;refine (HP.out _).mono ?_;rintro e w1 ⟨rfl,hg1⟩;obtain ⟨ra,rb⟩:=HR4.out _ hg1;have y0:=ra.cell (j:=0) rfl;have y1:=ra.cell (j:=1) rfl;have y2:=ra.cell (j:=2) rfl;have yf:=ra.free;have HRA:=hid ra;have HG1:=hid hg1;clear hg1 ra rb)
  have R3:=Rec.set (Rec.set (Rec.set HRA.out 0 (.int .i64 0)) 1 (.int .i64 0)) 2 (.int .i64 0)
  refine bodyPost_ret (v:=.tuple #[.agg #[.int .i64 0,.int .i64 0,.int .i64 0],.int .i64 16]) ?_ rfl ⟨rfl,tk_gr HG1.out⟩
  rw [results_cell_tmp rfl]
  have hl:=KL.out _ w.heap.size _ _ _ (R3.cell (j:=0) rfl) (R3.cell (j:=1) rfl) (R3.cell (j:=2) rfl)
  simp [asAddr,Result.andThen,hl]
end Go.Proofs.YthgdadohijgleaaGreatDoor
end
section
section
namespace Go.Proofs.YthgdadohijgleaaGreatDoor
open Go.RowKit Word
def kl (p f k:Nat):List Int:=List.replicate p 1++List.replicate f 2++List.replicate k 3
theorem kl_len (p f k:Nat):(kl p f k).length=p+f+k:=by simp [kl];omega
theorem kl_at {p f k i:Nat} (hi:i<p+f+k):(kl p f k)[i]'(by rw [kl_len];exact hi)=if i<p then 1 else if i<p+f then 2 else 3:=by
 unfold kl
 by_cases h1:i<p
 ·rw [if_pos h1,List.getElem_append_left (by simp;omega),List.getElem_append_left (by simpa using h1)]
  simp
 ·rw [if_neg h1]
  by_cases h2:i<p+f
  ·rw [if_pos h2,List.getElem_append_left (by simp;omega),List.getElem_append_right (by simp;omega)]
   simp
  ·rw [if_neg h2,List.getElem_append_right (by simp;omega)]
   simp
def KindsEnd (w:World) (p f k:Nat) (e:Ending) (w':World):Prop:=∃ A c,e=.returned (.slice A (p+f+k) c)/\Gr w w'/\w'.ownsRow w.heap.size 3 1 (.slice A (p+f+k) c) (p+f+k) (zs (kl p f k))
set_option maxRecDepth 100000 in
set_option maxHeartbeats 6400000 in
theorem ref14_kinds {p f k:Nat} (hs:p+f+k<=255) (w:World):Calls Tryz.prog 264 #[.agg #[.int .i64 p,.int .i64 f,.int .i64 k]] w (KindsEnd w p f k):=by
 have HM:=hid (fun W=>ref14_may (p:=p) (f:=f) (k:=k) (by omega) (by omega) (by omega) W)
 rw [decide_eq_true hs] at HM
 have HR:=hid (Rec.new w 48 [.int .i64 p,.int .i64 f,.int .i64 k])
 obtain ⟨ii,hii,hi0,hi1,hi2⟩:=info_parts infoIntV
 go_enter Tryz.func264,Tryz.ntmps264
 go_wp2_with (go_at_call 94;refine (HM.out _).mono ?_;rintro e w1 ⟨rfl,hg1⟩;have HG1:=hid (((Gr.refl w).alloc _).trans hg1);have HR1:=hid (HR.out.gr hg1);clear hg1)
 go_loopw [3,4] (fun s3 s4 wr=>∃ (j:Nat) (vL:Value),j<=p/\Hid (wr.ownsRow w.heap.size 3 1 vL (j) (zs (List.replicate j 1)))/\Hid (Rec wr w.heap.size 48 [.int .i64 p,.int .i64 f,.int .i64 k])/\Hid (Touch (fun i=>w.heap.size<=i) w wr)/\s3=vL/\s4=.int .i64 j) (fun _ s4 _=>p-(intOf s4).toNat)
 case atStart=>exact ⟨0,_,Nat.zero_le _,⟨own_nil _ _ _ _⟩,HR1,⟨HG1.out.touch _⟩,rfl,rfl⟩
 case round=>
  obtain ⟨j,vL,hj,HO,HQ,HT,rfl,rfl⟩:=hrel
  have y0:=HQ.out.cell (j:=0) rfl
  have y1:=HQ.out.cell (j:=1) rfl
  have y2:=HQ.out.cell (j:=2) rfl
  obtain ⟨A,cc,rfl,hc1,hc2⟩:=own_shape HO.out
  unfold maxLen at hc2
  by_cases hlast:j<p
  ·have HSU:Hid (zs (List.replicate (j+1) 1)=zs (List.replicate j 1)++[.int .i64 1]):=⟨by rw [List.replicate_succ'];unfold zs;rw [List.map_append];rfl⟩
   have hNb:j<=255:=by omega
   have HJ:=hid hlast
   have hjI:(j:Int)<(p:Int):=by omega
   clear hlast hj
   go_wp2_with (at_builtin;refine wpList_append_lies _ rfl _ _ 40 rfl w.heap.size 3 ii _ 1 8 Tryz.underlying40 hii hi0 hi1 hi2 rfl (by decide) (.slice A j cc) j (zs (List.replicate j 1)) rfl (HO.out.alloc _) ⟨wr.heap.size,0,none⟩ 1 1 [.int .i64 1] rfl rfl (World.news_of_block (cs:=#[.int .i64 1]) (t:=3) (fr:=(0,0)) (heap_alloc_new wr (.cells #[.int .i64 1] 3))) (by simp [Value.oneCell']) (by omega) (by unfold maxLen;omega) (by omega) (by have:=HT.out.size;rw [World.size_alloc];omega) (wr.heap.size+1) (by simp) ?_;intro g3 c3 w3 hown3 hgrow3 hat3 hlt3;have t3:Touch (fun k=>(Value.slice A j cc).ownBlock=some k) wr w3:=(((Gr.refl _).alloc _).touch _).trans (grown_touch hgrow3 _ (fun k e _=>e));have HT3:=hid t3;have HO3:=hid hown3;clear hown3 hgrow3 hat3 hlt3 t3)
   go_round
   case rel=>
    refine ⟨j+1,.slice (some ⟨g3,0,none⟩) (j+1) c3,HJ.out,⟨?_⟩,⟨HQ.out.touch HT3.out (fun e=>own_ne HO.out HQ.out (by decide) e rfl rfl)⟩,⟨HT.out.trans (HT3.out.mono (fun i _ h=>(own_lt HO.out h).1))⟩,rfl,by go_num⟩
    rw [HSU.out]
    exact HO3.out
   case measure=>have:=HJ.out;simp [intOf];omega
  ·obtain rfl:p=j:=by omega
   clear hlast hj
   obtain ⟨wa,rfl⟩:∃ wa:World,wa=wr:=⟨_,rfl⟩
   go_wp2_with (fail)
   go_loopw [3,5] (fun s3 s5 wr=>∃ (j:Nat) (vL:Value),j<=f/\Hid (wr.ownsRow w.heap.size 3 1 vL (p+j) (zs (List.replicate p 1++List.replicate j 2)))/\Hid (Rec wr w.heap.size 48 [.int .i64 p,.int .i64 f,.int .i64 k])/\Hid (Touch (fun i=>w.heap.size<=i) w wr)/\s3=vL/\s5=.int .i64 j) (fun _ s5 _=>f-(intOf s5).toNat)
   case atStart=>exact ⟨0,_,Nat.zero_le _,⟨by rw [Nat.add_zero];have:=HO.out;simpa using this⟩,HQ,HT,rfl,rfl⟩
   case round=>
    clear y0 y1 y2 hc1 hc2 HO HQ HT
    obtain ⟨j,vL,hj,HO,HQ,HT,rfl,rfl⟩:=hrel
    have y0:=HQ.out.cell (j:=0) rfl
    have y1:=HQ.out.cell (j:=1) rfl
    have y2:=HQ.out.cell (j:=2) rfl
    obtain ⟨A,cc,rfl,hc1,hc2⟩:=own_shape HO.out
    unfold maxLen at hc2
    by_cases hlast:j<f
    ·have HSU:Hid (zs (List.replicate p 1++List.replicate (j+1) 2)=zs (List.replicate p 1++List.replicate j 2)++[.int .i64 2]):=⟨by rw [List.replicate_succ',<-List.append_assoc];unfold zs;rw [List.map_append];rfl⟩
     obtain ⟨N,hN⟩:∃ N,N=p+j:=⟨_,rfl⟩
     have HN:=hid hN
     rw [<-hN] at HO hc1
     have hNb:N<=255:=by omega
     have HJ:=hid hlast
     have hjI:(j:Int)<(f:Int):=by omega
     clear hlast hj
     rw [<-hN]
     clear hN
     go_wp2_with (at_builtin;refine wpList_append_lies _ rfl _ _ 40 rfl w.heap.size 3 ii _ 1 8 Tryz.underlying40 hii hi0 hi1 hi2 rfl (by decide) (.slice A N cc) N (zs (List.replicate p 1++List.replicate j 2)) rfl (HO.out.alloc _) ⟨wr.heap.size,0,none⟩ 1 1 [.int .i64 2] rfl rfl (World.news_of_block (cs:=#[.int .i64 2]) (t:=3) (fr:=(0,0)) (heap_alloc_new wr (.cells #[.int .i64 2] 3))) (by simp [Value.oneCell']) (by omega) (by unfold maxLen;omega) (by omega) (by have:=HT.out.size;rw [World.size_alloc];omega) (wr.heap.size+1) (by simp) ?_;intro g3 c3 w3 hown3 hgrow3 hat3 hlt3;have t3:Touch (fun k=>(Value.slice A N cc).ownBlock=some k) wr w3:=(((Gr.refl _).alloc _).touch _).trans (grown_touch hgrow3 _ (fun k e _=>e));have HT3:=hid t3;have HO3:=hid hown3;clear hown3 hgrow3 hat3 hlt3 t3)
     go_round
     case rel=>
      refine ⟨j+1,.slice (some ⟨g3,0,none⟩) (N+1) c3,HJ.out,⟨?_⟩,⟨HQ.out.touch HT3.out (fun e=>own_ne HO.out HQ.out (by decide) e rfl rfl)⟩,⟨HT.out.trans (HT3.out.mono (fun i _ h=>(own_lt HO.out h).1))⟩,rfl,by go_num⟩
      rw [HSU.out,show p+(j+1)=N+1 by have:=HN.out;omega]
      exact HO3.out
     case measure=>have:=HJ.out;simp [intOf];omega
    ·obtain rfl:f=j:=by omega
     clear hlast hj
     obtain ⟨wb,rfl⟩:∃ wb:World,wb=wr:=⟨_,rfl⟩
     go_wp2_with (fail)
     go_loopw [3,6] (fun s3 s6 wr=>∃ (j:Nat) (vL:Value),j<=k/\Hid (wr.ownsRow w.heap.size 3 1 vL (p+f+j) (zs ((List.replicate p 1++List.replicate f 2)++List.replicate j 3)))/\Hid (Rec wr w.heap.size 48 [.int .i64 p,.int .i64 f,.int .i64 k])/\Hid (Touch (fun i=>w.heap.size<=i) w wr)/\s3=vL/\s6=.int .i64 j) (fun _ s6 _=>k-(intOf s6).toNat)
     case atStart=>exact ⟨0,_,Nat.zero_le _,⟨by rw [Nat.add_zero];have:=HO.out;simpa using this⟩,HQ,HT,rfl,rfl⟩
     case round=>
      clear y0 y1 y2 hc1 hc2 HO HQ HT
      obtain ⟨j,vL,hj,HO,HQ,HT,rfl,rfl⟩:=hrel
      have y0:=HQ.out.cell (j:=0) rfl
      have y1:=HQ.out.cell (j:=1) rfl
      have y2:=HQ.out.cell (j:=2) rfl
      obtain ⟨A,cc,rfl,hc1,hc2⟩:=own_shape HO.out
      unfold maxLen at hc2
      by_cases hlast:j<k
      ·have HSU:Hid (zs ((List.replicate p 1++List.replicate f 2)++List.replicate (j+1) 3)=zs ((List.replicate p 1++List.replicate f 2)++List.replicate j 3)++[.int .i64 3]):=⟨by rw [List.replicate_succ',<-List.append_assoc];unfold zs;rw [List.map_append];rfl⟩
       obtain ⟨N,hN⟩:∃ N,N=p+f+j:=⟨_,rfl⟩
       have HN:=hid hN
       rw [<-hN] at HO hc1
       have hNb:N<=255:=by omega
       have HJ:=hid hlast
       have hjI:(j:Int)<(k:Int):=by omega
       clear hlast hj
       rw [<-hN]
       clear hN
       go_wp2_with (at_builtin;refine wpList_append_lies _ rfl _ _ 40 rfl w.heap.size 3 ii _ 1 8 Tryz.underlying40 hii hi0 hi1 hi2 rfl (by decide) (.slice A N cc) N (zs ((List.replicate p 1++List.replicate f 2)++List.replicate j 3)) rfl (HO.out.alloc _) ⟨wr.heap.size,0,none⟩ 1 1 [.int .i64 3] rfl rfl (World.news_of_block (cs:=#[.int .i64 3]) (t:=3) (fr:=(0,0)) (heap_alloc_new wr (.cells #[.int .i64 3] 3))) (by simp [Value.oneCell']) (by omega) (by unfold maxLen;omega) (by omega) (by have:=HT.out.size;rw [World.size_alloc];omega) (wr.heap.size+1) (by simp) ?_;intro g3 c3 w3 hown3 hgrow3 hat3 hlt3;have t3:Touch (fun k=>(Value.slice A N cc).ownBlock=some k) wr w3:=(((Gr.refl _).alloc _).touch _).trans (grown_touch hgrow3 _ (fun k e _=>e));have HT3:=hid t3;have HO3:=hid hown3;clear hown3 hgrow3 hat3 hlt3 t3)
       go_round
       case rel=>
        refine ⟨j+1,.slice (some ⟨g3,0,none⟩) (N+1) c3,HJ.out,⟨?_⟩,⟨HQ.out.touch HT3.out (fun e=>own_ne HO.out HQ.out (by decide) e rfl rfl)⟩,⟨HT.out.trans (HT3.out.mono (fun i _ h=>(own_lt HO.out h).1))⟩,rfl,by go_num⟩
        rw [HSU.out,show p+f+(j+1)=N+1 by have:=HN.out;omega]
        exact HO3.out
       case measure=>have:=HJ.out;simp [intOf];omega
      ·obtain rfl:k=j:=by omega
       clear hlast hj
       go_wp2
       go_ret
       exact ⟨A,cc,rfl,(HT.out.mono (T:=fun _=>False) (fun i hi h=>by omega)).gr,HO.out⟩
end Go.Proofs.YthgdadohijgleaaGreatDoor
end
section
namespace Go.Proofs.YthgdadohijgleaaGreatDoor
open Go.RowKit Word
set_option maxRecDepth 100000 in
set_option maxHeartbeats 3200000 in
theorem ref14_kind {p f k:Nat} (hs:p+f+k<=255) (i:Int) (w:World):Calls Tryz.prog 161 #[.agg #[.int .i64 p,.int .i64 f,.int .i64 k],.int .i64 i] w fun e w'=>e=.returned (.int .i64 (kindOf ⟨p,f,k⟩ i))/\Gr w w':=by
 have HK:=hid (fun W=>ref14_kinds hs W)
 have HV:Hid (kindOf ⟨p,f,k⟩ i=if 0<=i/\i<(p:Int)+f+k then (if i<p then 1 else if i<(p:Int)+f then 2 else 3) else 0):=⟨by
  unfold kindOf
  rw [show hdrN ⟨p,f,k⟩=1+(p:Int)+f+k from if_pos (hdrE_of hs)]
  rw [show 1+(p:Int)+f+k-1=(p:Int)+f+k by omega]⟩
 obtain ⟨S,hS⟩:∃ S,S=p+f+k:=⟨_,rfl⟩
 have HS:=hid hS
 unfold KindsEnd at HK
 rw [<-hS] at hs HK
 rcases (by omega:i<0\/(0<=i/\(S:Int)<=i)\/(0<=i/\i<S)) with h | h | h
 ·have d0:decide (i<0)=true:=decide_eq_true h
  have HE:Hid (kindOf ⟨p,f,k⟩ i=0):=⟨by rw [HV.out,if_neg (by omega)]⟩
  clear h hS
  go_enter Tryz.func161,Tryz.ntmps161
  go_wp2_with (go_at_call 264;refine (HK.out _).mono ?_;rintro e w1 ⟨A,c,rfl,hg1,ho1⟩;have HG1:=hid (((Gr.refl w).alloc _).trans hg1);clear hg1 ho1)
  go_ret
  exact ⟨ret_int HE.out.symm,HG1.out⟩
 ·have d0:decide (i<0)=false:=decide_eq_false (by omega)
  have d1:decide ((S:Int)<=i)=true:=decide_eq_true h.2
  have HE:Hid (kindOf ⟨p,f,k⟩ i=0):=⟨by rw [HV.out,if_neg (by omega)]⟩
  clear h hS
  go_enter Tryz.func161,Tryz.ntmps161
  go_wp2_with (go_at_call 264;refine (HK.out _).mono ?_;rintro e w1 ⟨A,c,rfl,hg1,ho1⟩;have HG1:=hid (((Gr.refl w).alloc _).trans hg1);clear hg1 ho1)
  go_ret
  exact ⟨ret_int HE.out.symm,HG1.out⟩
 ·obtain ⟨j,rfl⟩:∃ j:Nat,i=j:=⟨i.toNat,by omega⟩
  have hjS:j<S:=by omega
  have hjI:(j:Int)<(S:Int):=by omega
  have d2:decide (S<=j)=false:=decide_eq_false (by omega)
  have d3:decide ((S:Int)<=(j:Int))=false:=decide_eq_false (by omega)
  have hat:=kl_at (p:=p) (f:=f) (k:=k) (i:=j) (by omega)
  have HZ:Hid ((zs (kl p f k))[j]?=some (.int .i64 (kindOf ⟨p,f,k⟩ j))):=⟨by
   unfold zs
   rw [List.getElem?_map,List.getElem?_eq_getElem (by rw [kl_len];omega),Option.map_some,hat,HV.out,if_pos (⟨by omega,by omega⟩:(0:Int)<=(j:Int)/\(j:Int)<(p:Int)+f+k)]
   by_cases h1:j<p
   ·rw [if_pos h1,if_pos (by omega:(j:Int)<(p:Int))]
   ·rw [if_neg h1,if_neg (by omega:¬ (j:Int)<(p:Int))]
    by_cases h2:j<p+f
    ·rw [if_pos h2,if_pos (by omega:(j:Int)<(p:Int)+f)]
    ·rw [if_neg h2,if_neg (by omega:¬ (j:Int)<(p:Int)+f)]⟩
  clear hat HV
  generalize kindOf ⟨p,f,k⟩ (j:Int)=y at *
  have hS0:S≠0:=by omega
  clear h hS
  go_enter Tryz.func161,Tryz.ntmps161
  go_wp2_with (go_at_call 264;refine (HK.out _).mono ?_;rintro e w1 ⟨A,c,rfl,hg1,ho1⟩;have HG1:=hid (((Gr.refl w).alloc _).trans hg1);obtain ⟨g,c',ea,-,-,-,-⟩:=own_form ho1 hS0;simp only [Value.slice.injEq] at ea;obtain ⟨rfl,-,rfl⟩:=ea;have kc:=own_cell ho1 HZ.out;clear hg1 ho1)
  go_ret
  exact ⟨rfl,HG1.out⟩
end Go.Proofs.YthgdadohijgleaaGreatDoor
end
end
section
namespace Go.Proofs.YthgdadohijgleaaGreatDoor
open Go.RowKit Word
def wrds (v:Vm) (k:Nat):List Value:=(List.range k).map fun a:Nat=>.int .u64 (v.ldV a:Nat)
theorem wrds_succ (v:Vm) (k:Nat):wrds v (k+1)=wrds v k++[.int .u64 (v.ldV k:Nat)]:=by unfold wrds;rw [List.range_succ,List.map_append];rfl
theorem wrds_at (v:Vm) {M j:Nat} (h:j<M):(wrds v M)[j]?=some (.int .u64 (v.ldV j:Nat)):=by unfold wrds;rw [List.getElem?_map,List.getElem?_range h];rfl
structure FullN (M:Nat) (v:Vm):Prop where
 ok:VmOk v
 n:v.n=M
 al:∀ a:Nat,a<M->v.ldE a=0
 m1:1<=M
theorem FullN.m2 {M:Nat} {v:Vm} (h:FullN M v):M<=524288:=by rw [<-h.n];exact h.ok.n2
theorem FullN.ldE {M:Nat} {v:Vm} (h:FullN M v) (a:Int):v.ldE a=if 0<=a/\a<(M:Int) then 0 else 11:=by
 by_cases hr:0<=a/\a<(M:Int)
 ·rw [if_pos hr]
  obtain ⟨j,rfl⟩:∃ j:Nat,a=j:=⟨a.toNat,by omega⟩
  exact h.al j (by omega)
 ·rw [if_neg hr]
  unfold Vm.ldE
  rw [if_neg (by rw [h.n];exact hr)]
def Wrds (w:World) (A:Option Addr) (cp M:Nat) (v:Vm):Prop:=w.ownsRow 0 49 1 (.slice A M cp) M (wrds v M)
theorem Wrds.gr {w:World} {A:Option Addr} {cp M:Nat} {v:Vm} (h:Wrds w A cp M v) {w':World} (g:Gr w w'):Wrds w' A cp M v:=own_gr h g
set_option maxRecDepth 100000 in
set_option maxHeartbeats 3200000 in
theorem ref15n_read {w:World} {A:Option Addr} {cp M:Nat} {v:Vm} (hf:FullN M v) (hW:Wrds w A cp M v) (a:Int):Calls Tryz.prog 160 #[.slice A M cp,.int .i64 a] w fun e w'=>e=.returned (.tuple #[hdrV (v.rdH a),.int .i64 (v.rdE a)])/\Gr w w':=by
 have hld:=hf.ldE a
 have hm1:=hf.m1
 have hm2:=hf.m2
 obtain ⟨g,c',ea,-,-,-,hgl⟩:=own_form hW (by omega)
 simp only [Value.slice.injEq] at ea
 obtain ⟨rfl,-,rfl⟩:=ea
 have HW:=hid hW
 have KL:=hid (fun (W:World) (blk:Nat) (p q r:Value)=>load_hdr W blk p q r)
 rcases (by omega:a=0\/a<0\/(0<a/\(M:Int)<=a)\/(0<a/\a<(M:Int))) with h | h | h | h
 ·subst h
  have HE:Hid (v.rdE 0=18/\v.rdH 0=⟨0,0,0⟩):=⟨⟨if_pos rfl,if_neg (fun h=>absurd h.1 (by omega))⟩⟩
  rw [HE.out.1,HE.out.2]
  unfold hdrV
  clear hW hld
  go_enter Tryz.func160,Tryz.ntmps160
  go_wp2
  refine bodyPost_ret (v:=.tuple #[.agg #[.int .i64 0,.int .i64 0,.int .i64 0],.int .i64 18]) ?_ rfl ⟨rfl,(Gr.refl w).alloc _⟩
  rw [results_cell_tmp rfl]
  simp [asAddr,Result.andThen,go_sem]
 ·have HE:Hid (v.rdE a=5/\v.rdH a=⟨0,0,0⟩):=⟨⟨by unfold Vm.rdE;rw [if_neg (by omega),if_pos h],if_neg (fun h'=>by omega)⟩⟩
  have d0:(a==0)=false:=by simp;omega
  have d1:decide (a<0)=true:=decide_eq_true h
  rw [HE.out.1,HE.out.2]
  unfold hdrV
  clear hW hld h
  go_enter Tryz.func160,Tryz.ntmps160
  go_wp2
  refine bodyPost_ret (v:=.tuple #[.agg #[.int .i64 0,.int .i64 0,.int .i64 0],.int .i64 5]) ?_ rfl ⟨rfl,(Gr.refl w).alloc _⟩
  rw [results_cell_tmp rfl]
  simp [asAddr,Result.andThen,go_sem]
 ·rw [if_neg (by omega)] at hld
  have HE:Hid (v.rdE a=11/\v.rdH a=⟨0,0,0⟩):=⟨⟨by unfold Vm.rdE;rw [if_neg (by omega),if_neg (by omega),if_neg (by rw [hld];decide),hld],if_neg (fun h'=>by rw [hld] at h';exact absurd h'.2 (by decide))⟩⟩
  have d0:(a==0)=false:=by simp;omega
  have d1:decide (a<0)=false:=decide_eq_false (by omega)
  have d2:decide ((M:Int)<=a)=true:=decide_eq_true h.2
  rw [HE.out.1,HE.out.2]
  unfold hdrV
  clear hW hld h
  go_enter Tryz.func160,Tryz.ntmps160
  go_wp2
  refine bodyPost_ret (v:=.tuple #[.agg #[.int .i64 0,.int .i64 0,.int .i64 0],.int .i64 11]) ?_ rfl ⟨rfl,(Gr.refl w).alloc _⟩
  rw [results_cell_tmp rfl]
  simp [asAddr,Result.andThen,go_sem]
 ·obtain ⟨j,rfl⟩:∃ j:Nat,a=j:=⟨a.toNat,by omega⟩
  rw [if_pos (by omega)] at hld
  have HE:Hid (v.rdE j=tkE (v.ldV j)/\v.rdH j=tkH (v.ldV j)):=⟨⟨by unfold Vm.rdE;rw [if_neg (by omega),if_neg (by omega),if_pos hld],if_pos ⟨h.1,hld⟩⟩⟩
  have d0:((j:Int)==0)=false:=by simp;omega
  have d1:decide ((j:Int)<0)=false:=decide_eq_false (by omega)
  have d2:decide ((M:Int)<=(j:Int))=false:=decide_eq_false (by omega)
  have d3:decide (M<=j)=false:=decide_eq_false (by omega)
  have hj4:j<M:=by omega
  have hjI:(j:Int)<(M:Int):=by omega
  have kc:=own_cell HW.out (wrds_at v hj4)
  have hx:=hf.ok.ldV_lt (j:Int)
  rw [HE.out.1,HE.out.2]
  have HT:=hid (fun W=>ref14_take hx W)
  unfold hdrV at HT ⊢
  generalize tkH (v.ldV j)=hd at *
  obtain ⟨hp,hq,hr⟩:=hd
  generalize tkE (v.ldV j)=er at *
  generalize v.ldV j=x at *
  clear hW hld h HE hx hf
  go_enter Tryz.func160,Tryz.ntmps160
  go_wp2_with (go_at_call 263;refine (HT.out _).mono ?_;rintro e w2 ⟨rfl,hg2⟩;have r2:=(Rec.new w 48 [.int .i64 0,.int .i64 0,.int .i64 0]).gr hg2;have k0:=r2.cell (j:=0) rfl;have k1:=r2.cell (j:=1) rfl;have k2:=r2.cell (j:=2) rfl;have kf:=r2.free;have HR2:=hid r2;have HG2:=hid (((Gr.refl w).alloc _).trans hg2);clear hg2 r2)
  have R3:=Rec.set (Rec.set (Rec.set HR2.out 0 (.int .i64 hp)) 1 (.int .i64 hq)) 2 (.int .i64 hr)
  refine bodyPost_ret (v:=.tuple #[.agg #[.int .i64 hp,.int .i64 hq,.int .i64 hr],.int .i64 er]) ?_ rfl ⟨rfl,rd_gr HG2.out⟩
  rw [results_cell_tmp rfl]
  have hl:=KL.out _ w.heap.size _ _ _ (R3.cell (j:=0) rfl) (R3.cell (j:=1) rfl) (R3.cell (j:=2) rfl)
  simp [asAddr,Result.andThen,hl]
section
variable {w:World} {A:Option Addr} {cp M:Nat} {v:Vm}
set_option maxRecDepth 100000 in
set_option maxHeartbeats 1600000 in
theorem ref15n_place (hf:FullN M v) (hW:Wrds w A cp M v) (a i kd:Int) (hk:kd≠0):Calls Tryz.prog 360 #[.slice A M cp,.int .i64 a,.int .i64 i,.int .i64 kd] w fun e w'=>e=.returned (.tuple #[.int .i64 (v.plA a i kd),.int .i64 (v.plE a i kd)])/\Gr w w':=by
 have HRD:=hid (fun (w':World) (g:Gr w w')=>ref15n_read hf (hW.gr g) a)
 have hn2:=hf.n
 have hm2:=hf.m2
 by_cases hE:v.rdE a=0
 ·obtain ⟨ha,hl,p,f,k,hh,hs⟩:=rdE_zero hE
  have hr:=ldE_in hl
  rw [hh] at HRD
  have HP:Hid (v.plE a i kd=if kindOf ⟨p,f,k⟩ i=kd then 0 else if kindOf ⟨p,f,k⟩ i=0 then 19 else 20):=⟨by unfold Vm.plE;rw [if_neg (fun h=>h hE),hh]⟩
  have HA:Hid (v.plA a i kd=if v.plE a i kd=0 then a+1+i else 0):=⟨rfl⟩
  have HK:=hid (fun W=>ref14_kind hs i W)
  have hN:hdrN ⟨p,f,k⟩=1+(p:Int)+f+k:=if_pos (hdrE_of hs)
  have hki:kindOf ⟨p,f,k⟩ i≠0->0<=i/\i<255:=fun h=>by
   unfold kindOf at h
   split at h
   ·rename_i h'
    rw [hN] at h'
    omega
   ·exact absurd rfl h
  generalize kindOf ⟨(p:Int),(f:Int),(k:Int)⟩ i=kk at HP HK hki
  have HE:=hid hE
  have hr2:a<(M:Int):=by omega
  have HR:=hid (fun W=>Rec.new W 48 [.int .i64 p,.int .i64 f,.int .i64 k])
  clear hE hl hh hs hN hW hr hn2 hf
  unfold hdrV at HRD
  by_cases h1:kk=kd
  ·have e0:v.plE a i kd=0:=by rw [HP.out,if_pos h1]
   have HE0:Hid (v.plE a i kd=0/\v.plA a i kd=a+1+i):=⟨⟨e0,by rw [HA.out,if_pos e0]⟩⟩
   have hii:=hki (by rw [h1];exact hk)
   have d0:(kk==kd)=true:=by simpa using h1
   have d9:(kk==0)=false:=by rw [h1];simpa using hk
   clear h1 hki HP HA e0
   go_enter Tryz.func360,Tryz.ntmps360
   go_wp2_with (first
    | (go_at_call 160;refine (HRD.out _ (Gr.refl w)).mono ?_;rintro e w1 ⟨rfl,hg1⟩;rw [HE.out];have HG1:=hid hg1;have y0:=(HR.out w1).cell (j:=0) rfl;have y1:=(HR.out w1).cell (j:=1) rfl;have y2:=(HR.out w1).cell (j:=2) rfl;clear hg1)
    | (go_at_call 161;refine (HK.out _).mono ?_;rintro e w2 ⟨rfl,hg2⟩;have HG2:=hid hg2;clear hg2))
   go_ret2
   exact ⟨ret2 (vint (by rw [HE0.out.2])) (vint (by rw [HE0.out.1])),(HG1.out.alloc _).trans HG2.out⟩
  ·have d0:(kk==kd)=false:=by simpa using h1
   by_cases h2:kk=0
   ·have e0:v.plE a i kd=19:=by rw [HP.out,if_neg h1,if_pos h2]
    have HE0:Hid (v.plE a i kd=19/\v.plA a i kd=0):=⟨⟨e0,by rw [HA.out,if_neg (by rw [e0];decide)]⟩⟩
    have d1:(kk==0)=true:=by simpa using h2
    clear h1 h2 hki HP HA e0
    go_enter Tryz.func360,Tryz.ntmps360
    go_wp2_with (first
     | (go_at_call 160;refine (HRD.out _ (Gr.refl w)).mono ?_;rintro e w1 ⟨rfl,hg1⟩;rw [HE.out];have HG1:=hid hg1;have y0:=(HR.out w1).cell (j:=0) rfl;have y1:=(HR.out w1).cell (j:=1) rfl;have y2:=(HR.out w1).cell (j:=2) rfl;clear hg1)
     | (go_at_call 161;refine (HK.out _).mono ?_;rintro e w2 ⟨rfl,hg2⟩;have HG2:=hid hg2;clear hg2))
    go_ret2
    exact ⟨ret2 (vint (by rw [HE0.out.2])) (vint (by rw [HE0.out.1])),(HG1.out.alloc _).trans HG2.out⟩
   ·have e0:v.plE a i kd=20:=by rw [HP.out,if_neg h1,if_neg h2]
    have HE0:Hid (v.plE a i kd=20/\v.plA a i kd=0):=⟨⟨e0,by rw [HA.out,if_neg (by rw [e0];decide)]⟩⟩
    have d1:(kk==0)=false:=by simpa using h2
    clear h1 h2 hki HP HA e0
    go_enter Tryz.func360,Tryz.ntmps360
    go_wp2_with (first
     | (go_at_call 160;refine (HRD.out _ (Gr.refl w)).mono ?_;rintro e w1 ⟨rfl,hg1⟩;rw [HE.out];have HG1:=hid hg1;have y0:=(HR.out w1).cell (j:=0) rfl;have y1:=(HR.out w1).cell (j:=1) rfl;have y2:=(HR.out w1).cell (j:=2) rfl;clear hg1)
     | (go_at_call 161;refine (HK.out _).mono ?_;rintro e w2 ⟨rfl,hg2⟩;have HG2:=hid hg2;clear hg2))
    go_ret2
    exact ⟨ret2 (vint (by rw [HE0.out.2])) (vint (by rw [HE0.out.1])),(HG1.out.alloc _).trans HG2.out⟩
 ·have e1:v.plE a i kd=v.rdE a:=by unfold Vm.plE;rw [if_pos hE]
  have HE0:Hid (v.plE a i kd=v.rdE a/\v.plA a i kd=0):=⟨⟨e1,by unfold Vm.plA;rw [if_neg (by rw [e1];exact hE)]⟩⟩
  obtain ⟨y,hy⟩:∃ y,y=v.rdE a:=⟨_,rfl⟩
  have d2:(y==0)=false:=by rw [hy];simpa using hE
  rw [<-hy] at HE0 HRD
  clear hE hy e1 hW hf
  unfold hdrV at HRD
  go_enter Tryz.func360,Tryz.ntmps360
  go_wp2_with (go_at_call 160;refine (HRD.out _ (Gr.refl w)).mono ?_;rintro e w1 ⟨rfl,hg1⟩;have HG1:=hid hg1;clear hg1)
  go_ret2
  exact ⟨ret2 (vint (by rw [HE0.out.2])) (vint (by rw [HE0.out.1])),HG1.out.alloc _⟩
theorem plE_addr_nonneg {a i kd:Int} (hk:kd≠0) (h:v.plE a i kd=0):0<=a+1+i:=by
 unfold Vm.plE at h
 split at h
 ·exact absurd h (by assumption)
 ·rename_i hE
  have hE:v.rdE a=0:=Classical.not_not.1 hE
  obtain ⟨ha,-,-⟩:=rdE_zero hE
  have:0<=i:=by
   rcases Int.lt_or_le i 0 with h2 | h2
   ·have e:kindOf (v.rdH a) i=0:=by unfold kindOf;rw [if_neg (by omega)]
    rw [e,if_neg (fun e=>hk e.symm),if_pos rfl] at h
    cases h
   ·exact h2
  omega
set_option maxRecDepth 100000 in
set_option maxHeartbeats 1600000 in
theorem ref15n_get (hf:FullN M v) (hW:Wrds w A cp M v) (a i:Int):Calls Tryz.prog 324 #[.slice A M cp,.int .i64 a,.int .i64 i,.int .i64 1] w fun e w'=>e=.returned (.tuple #[.int .u64 (v.ptV a i:Nat),.int .i64 (v.ptE a i)])/\Gr w w':=by
 have HRD:=hid (fun (w':World) (g:Gr w w')=>ref15n_place hf (hW.gr g) a i 1 (by decide))
 have HW:=hid hW
 have hm1:=hf.m1
 have hm2:=hf.m2
 by_cases hE:v.plE a i 1=0
 ·have hat:=plE_addr_nonneg (by decide:(1:Int)≠0) hE
  have HE:Hid (v.gtE a i 1=v.ldE (a+1+i)/\v.gtV a i 1=v.ldV (a+1+i)):=⟨⟨if_neg (fun h=>h hE),if_neg (fun h=>h hE)⟩⟩
  have HA:Hid (v.plA a i 1=a+1+i):=⟨if_pos hE⟩
  have hld:=hf.ldE (a+1+i)
  have hx:=hf.ok.ldV_lt (a+1+i)
  rw [hE,HA.out] at HRD
  generalize a+1+i=y at hat HE HRD hld hx
  obtain ⟨j,rfl⟩:∃ j:Nat,y=j:=⟨y.toNat,by omega⟩
  by_cases hj:j<M
  ·rw [if_pos (by omega)] at hld
   obtain ⟨g,c',ea,-,-,-,hgl⟩:=own_form hW (by omega)
   simp only [Value.slice.injEq] at ea
   obtain ⟨rfl,-,rfl⟩:=ea
   have kc0:=own_cell hW (wrds_at v hj)
   have d2:decide ((M:Int)<=(j:Int))=false:=decide_eq_false (by omega)
   have d3:decide (M<=j)=false:=decide_eq_false (by omega)
   have hjI:(j:Int)<(M:Int):=by omega
   by_cases hb:2147483647<v.ldV j
   ·have e1:v.ptE a i=25:=by unfold Vm.ptE;rw [HE.out.1,hld,if_neg (fun h=>h rfl),HE.out.2,if_pos hb]
    have HP:Hid (v.ptE a i=25/\v.ptV a i=0):=⟨⟨e1,by unfold Vm.ptV;rw [if_neg (by rw [e1];decide)]⟩⟩
    obtain ⟨x,HX⟩:∃ x,Hid (v.ldV (j:Int)=x):=⟨_,⟨rfl⟩⟩
    rw [HX.out] at hb hx kc0
    have d4:decide (2147483648<=(x:Int))=true:=decide_eq_true (by omega)
    have HJ4:=hid hj
    clear hE e1 hld hb hf hW hx hat hj
    go_enter Tryz.func324,Tryz.ntmps324
    go_wp2_with (go_at_call 360;refine (HRD.out _ (Gr.refl w)).mono ?_;rintro e w1 ⟨rfl,hg1⟩;have HG1:=hid hg1;have kc:=(own_cell (HW.out.gr hg1) (wrds_at v HJ4.out));rw [HX.out] at kc;clear hg1)
    go_ret2
    exact ⟨ret2 (congrArg (fun n:Nat=>Value.int .u64 (n:Int)) HP.out.2.symm) (vint HP.out.1.symm),HG1.out⟩
   ·have e1:v.ptE a i=0:=by unfold Vm.ptE;rw [HE.out.1,hld,if_neg (fun h=>h rfl),HE.out.2,if_neg hb]
    have HP:Hid (v.ptE a i=0/\v.ptV a i=v.ldV j):=⟨⟨e1,by unfold Vm.ptV;rw [if_pos e1,HE.out.2]⟩⟩
    obtain ⟨x,HX⟩:∃ x,Hid (v.ldV (j:Int)=x):=⟨_,⟨rfl⟩⟩
    rw [HX.out] at hb hx kc0 HP
    have d4:decide (2147483648<=(x:Int))=false:=decide_eq_false (by omega)
    have HJ4:=hid hj
    clear hE e1 hld hb hf hW hx hat hj
    go_enter Tryz.func324,Tryz.ntmps324
    go_wp2_with (go_at_call 360;refine (HRD.out _ (Gr.refl w)).mono ?_;rintro e w1 ⟨rfl,hg1⟩;have HG1:=hid hg1;have kc:=(own_cell (HW.out.gr hg1) (wrds_at v HJ4.out));rw [HX.out] at kc;clear hg1)
    go_ret2
    exact ⟨ret2 (congrArg (fun n:Nat=>Value.int .u64 (n:Int)) HP.out.2.symm) (vint HP.out.1.symm),HG1.out⟩
  ·rw [if_neg (by omega)] at hld
   have e1:v.ptE a i=11:=by unfold Vm.ptE;rw [HE.out.1,hld,if_pos (by decide)]
   have HP:Hid (v.ptE a i=11/\v.ptV a i=0):=⟨⟨e1,by unfold Vm.ptV;rw [if_neg (by rw [e1];decide)]⟩⟩
   have d2:decide ((M:Int)<=(j:Int))=true:=decide_eq_true (by omega)
   have d3:decide (M<=j)=true:=decide_eq_true (by omega)
   clear hE e1 hld hf hW hx hat hj
   go_enter Tryz.func324,Tryz.ntmps324
   go_wp2_with (go_at_call 360;refine (HRD.out _ (Gr.refl w)).mono ?_;rintro e w1 ⟨rfl,hg1⟩;have HG1:=hid hg1;clear hg1)
   go_ret2
   exact ⟨ret2 (congrArg (fun n:Nat=>Value.int .u64 (n:Int)) HP.out.2.symm) (vint HP.out.1.symm),HG1.out⟩
 ·have e1:v.ptE a i=v.plE a i 1:=by unfold Vm.ptE Vm.gtE;rw [if_pos hE,if_pos hE]
  have HE:Hid (v.ptE a i=v.plE a i 1/\v.ptV a i=0):=⟨⟨e1,by unfold Vm.ptV;rw [if_neg (by rw [e1];exact hE)]⟩⟩
  have HA:Hid (v.plA a i 1=0):=⟨if_neg hE⟩
  rw [HA.out] at HRD
  obtain ⟨y,hy⟩:∃ y,y=v.plE a i 1:=⟨_,rfl⟩
  have d2:(y==0)=false:=by rw [hy];simpa using hE
  rw [<-hy] at HE HRD
  clear hE hy hW e1 hf
  go_enter Tryz.func324,Tryz.ntmps324
  go_wp2_with (go_at_call 360;refine (HRD.out _ (Gr.refl w)).mono ?_;rintro e w1 ⟨rfl,hg1⟩;have HG1:=hid hg1;clear hg1)
  go_ret2
  exact ⟨ret2 (congrArg (fun n:Nat=>Value.int .u64 (n:Int)) HE.out.2.symm) (vint HE.out.1.symm),HG1.out⟩
end
end Go.Proofs.YthgdadohijgleaaGreatDoor
end
end
section
namespace Go.Proofs.YthgdadohijgleaaGreatDoor
open Go.RowKit Word
def HdsAt (w:World) (A:Option Addr) (l:List Hdr):Prop:=∀ i (h:i<l.length),∃ b o,A=some ⟨b,o,none⟩/\b<w.heap.size ∧
 w.cell? ⟨b,o+i*3,none⟩=some (.int .i64 l[i].p)/\w.cell? ⟨b,o+i*3+1,none⟩=some (.int .i64 l[i].f)/\w.cell? ⟨b,o+i*3+2,none⟩=some (.int .i64 l[i].k)
def U8sAt (w:World) (A:Option Addr) (l:List Nat):Prop:=∀ i (h:i<l.length),∃ b o,A=some ⟨b,o,none⟩/\b<w.heap.size/\l[i]<256/\w.cell? ⟨b,o+i,none⟩=some (.int .u8 (l[i]:Nat))
theorem HdsAt.gr {w w':World} {A:Option Addr} {l:List Hdr} (h:HdsAt w A l) (g:Gr w w'):HdsAt w' A l:=fun i hi=>by
 obtain ⟨b,o,e,hb,k0,k1,k2⟩:=h i hi
 exact ⟨b,o,e,Nat.lt_of_lt_of_le hb g.size,(g.cell hb _).trans k0,(g.cell hb _).trans k1,(g.cell hb _).trans k2⟩
theorem U8sAt.gr {w w':World} {A:Option Addr} {l:List Nat} (h:U8sAt w A l) (g:Gr w w'):U8sAt w' A l:=fun i hi=>by
 obtain ⟨b,o,e,hb,k0,k1⟩:=h i hi
 exact ⟨b,o,e,Nat.lt_of_lt_of_le hb g.size,k0,(g.cell hb _).trans k1⟩
structure LaidCAt (w:World) (A1 A2 A3:Option Addr) (x:LaidC):Prop where
 h:HdsAt w A1 x.H
 p:U8sAt w A2 x.P
 r:U8sAt w A3 x.R
 lh:x.H.length<=9223372036854775807
 lp:x.P.length<=4611686018427387904
 lr:x.R.length<=9223372036854775807
 pg:x.pg<256
 bk:x.bk<256
 st:x.st<256
 ah:x.ah<256
theorem LaidCAt.gr {w w':World} {A1 A2 A3:Option Addr} {x:LaidC} (h:LaidCAt w A1 A2 A3 x) (g:Gr w w'):LaidCAt w' A1 A2 A3 x:=
 ⟨h.h.gr g,h.p.gr g,h.r.gr g,h.lh,h.lp,h.lr,h.pg,h.bk,h.st,h.ah⟩
def laidV (x:LaidC) (A1 A2 A3:Option Addr) (c1 c2 c3:Nat):List Value:=[.int .u8 x.pg,.slice A1 x.H.length c1,.slice A2 x.P.length c2,.slice A3 x.R.length c3,.int .u8 x.bk,.int .u8 x.st,.int .u8 x.ah]
structure L24A (w wr:World) (x:LaidC) (xs:List Value) (k:Nat) (vS:Value):Prop where
 rx:Rec wr w.heap.size 94 xs
 own:wr.ownsRow 0 3 1 vS k (zs (x.starts k))
 ofr:∀ g,vS.ownBlock=some g->w.heap.size+1<=g
 t:Touch (fun b=>w.heap.size<=b) w wr
theorem L24A.gr {w wr w':World} {x:LaidC} {xs:List Value} {k:Nat} {vS:Value} (h:L24A w wr x xs k vS) (g:Gr wr w'):L24A w w' x xs k vS:=
 ⟨h.rx.gr g,own_gr h.own g,h.ofr,h.t.trans (g.touch _)⟩
theorem L24A.app {w wr w':World} {x:LaidC} {xs:List Value} {A:Option Addr} {c g2 c2 k:Nat} (h:L24A w wr x xs k (.slice A k c)) (t:Touch (fun b=>(Value.slice A k c).ownBlock=some b) wr w')
  (ho:w'.ownsRow 0 3 1 (.slice (some ⟨g2,0,none⟩) (k+1) c2) (k+1) (zs (x.starts k)++[.int .i64 ((x.at k:Nat):Int)])) (hat:(Value.slice A k c).ownBlock=some g2\/wr.heap.size<=g2):L24A w w' x xs (k+1) (.slice (some ⟨g2,0,none⟩) (k+1) c2):=by
 have hl:=h.rx.lt
 refine ⟨h.rx.touch t (fun e=>own_ne h.own h.rx (by decide) e rfl rfl),by rw [x.starts_succ];exact ho,fun g hg=>?_,h.t.trans (t.mono (fun i _ e=>by have:=h.ofr i e;omega))⟩
 cases hg
 rcases hat with h' | h'
 ·exact h.ofr _ h'
 ·show w.heap.size+1<=g2
  omega
def cfL (c:Cf):List Value:=[.int .i64 c.fr,.int .i64 c.tp,.int .i64 c.to,.int .i64 c.lm,.int .i64 c.bk,.int .i64 c.st,.int .i64 c.ah]
structure L24 (w wr:World) (x:LaidC) (xs:List Value) (q r g b11:Nat) (v:Vm) (rs:List Int) (vS vF:Value) (F:List Int):Prop where
 rx:Rec wr w.heap.size 94 xs
 own:wr.ownsRow 0 3 1 vS x.k (zs (x.starts x.k))
 ofr:∀ g,vS.ownBlock=some g->w.heap.size+1<=g
 cf:Rec wr b11 106 (cfL x.cf)
 lb:w.heap.size+1<=b11
 vm:∃ SV,VmAt wr SV q v/\(∀ i,SV i->w.heap.size+1<=i)/\(∀ g,vS.ownBlock=some g->¬ SV g)/\(∀ g,vF.ownBlock=some g->¬ SV g)/\¬ SV b11/\¬ SV r/\¬ SV g
 rt:RtAt wr r g rs
 lr:w.heap.size+1<=r/\w.heap.size+1<=g
 fo:wr.ownsRow 0 3 1 vF F.length (zs F)
 fl:∀ g,vF.ownBlock=some g->w.heap.size+1<=g
 gS:∀ g',vS.ownBlock=some g'->g'≠g
 gF:∀ g',vF.ownBlock=some g'->g'≠g
 SF:∀ g1 g2,vS.ownBlock=some g1->vF.ownBlock=some g2->g1≠g2
 t:Touch (fun b=>w.heap.size<=b) w wr
section
variable {w wr w':World} {x:LaidC} {xs:List Value} {q r g b11:Nat} {v v':Vm} {rs:List Int} {vS vF:Value} {F:List Int}
theorem L24.gr (h:L24 w wr x xs q r g b11 v rs vS vF F) (g':Gr wr w'):L24 w w' x xs q r g b11 v rs vS vF F:=by
 obtain ⟨h1,h2,h3,h4,h5,⟨SV,h6,h7⟩,h8,h9,h10,h11,h12,h13,h14,h15⟩:=h
 exact ⟨h1.gr g',own_gr h2 g',h3,h4.gr g',h5,⟨SV,h6.gr g',h7⟩,h8.gr g',h9,own_gr h10 g',h11,h12,h13,h14,h15.trans (g'.touch _)⟩
theorem L24.turn (h:L24 w wr x xs q r g b11 v rs vS vF F) {SV:Nat->Prop} (hs:∀ i,SV i->w.heap.size+1<=i) (hS:∀ g,vS.ownBlock=some g->¬ SV g) (hF:∀ g,vF.ownBlock=some g->¬ SV g) (hb:¬ SV b11) (hr:¬ SV r) (hg:¬ SV g)
  (t:Touch SV wr w') (hv:VmAt w' (plus SV wr) q v'):L24 w w' x xs q r g b11 v' rs vS vF F:=by
 have hz:=h.t.size
 have hl:=h.rx.lt
 have hbl:=h.cf.lt
 have hrl:=h.rt.lt
 refine ⟨h.rx.touch t (fun h=>by have:=hs _ h;omega),own_touch h.own t hS,h.ofr,h.cf.touch t hb,h.lb,⟨plus SV wr,hv,fun i hi=>?_,fun g hg' hi=>?_,fun g hg' hi=>?_,fun hi=>?_,fun hi=>?_,fun hi=>?_⟩,h.rt.touch t hr hg,h.lr,own_touch h.fo t hF,h.fl,h.gS,h.gF,h.SF,h.t.trans (t.mono (fun i _ hi=>by have:=hs i hi;omega))⟩
 ·exact hi.elim (hs i) (fun h=>by omega)
 ·exact hi.elim (hS g hg') (fun h'=>by have:=(own_lt h.own hg').2;omega)
 ·exact hi.elim (hF g hg') (fun h'=>by have:=(own_lt h.fo hg').2;omega)
 ·exact hi.elim hb (fun h=>by omega)
 ·exact hi.elim hr (fun h=>by omega)
 ·exact hi.elim hg (fun h=>by omega)
theorem L24.app {A:Option Addr} {c g2 c2 N:Nat} {a:Int} (h:L24 w wr x xs q r g b11 v rs vS (.slice A N c) F) (hN:N=F.length) (t:Touch (fun k=>(Value.slice A N c).ownBlock=some k) wr w')
  (ho:w'.ownsRow 0 3 1 (.slice (some ⟨g2,0,none⟩) (N+1) c2) (N+1) (zs F++[.int .i64 a])) (hat:(Value.slice A N c).ownBlock=some g2\/wr.heap.size<=g2):L24 w w' x xs q r g b11 v rs vS (.slice (some ⟨g2,0,none⟩) (N+1) c2) (F++[a]):=by
 obtain ⟨h1,h2,h3,h4,h5,⟨SV,h6,h7,h7a,h7b,h7c,h7d,h7e⟩,h8,h9,h10,h11,h12,h13,h14,h15⟩:=h
 have hl:=h1.lt
 have hrl:=h8.lt
 have hne:∀ k,(Value.slice A N c).ownBlock=some k->k≠b11:=fun k hk=>own_ne h10 h4 (by decide) hk rfl
 have hnr:∀ k,(Value.slice A N c).ownBlock=some k->k≠r:=fun k hk=>own_ne h10 h8.rcd (by decide) hk rfl
 refine ⟨h1.touch t (fun e=>own_ne h10 h1 (by decide) e rfl rfl),own_touch h2 t (fun g1 hg1 e=>h14 g1 g1 hg1 e rfl),h3,h4.touch t (fun e=>hne _ e rfl),h5,⟨cutS SV wr,h6.cut.touch t (fun i hi _ e=>h7b i e hi.1),fun i hi=>h7 i hi.1,fun g1 hg1 hi=>h7a g1 hg1 hi.1,fun g1 hg1 hi=>?_,fun hi=>h7c hi.1,fun hi=>h7d hi.1,fun hi=>h7e hi.1⟩,h8.touch t (fun e=>hnr _ e rfl) (fun e=>h13 _ e rfl),h9,?_,fun g1 hg1=>?_,h12,fun g1 hg1=>?_,fun g1 g3 hg1 hg3=>?_,h15.trans (t.mono (fun i _ e=>by have:=h11 i e;omega))⟩
 ·cases hg1
  rcases hat with h | h
  ·exact h7b _ h hi.1
  ·have:g2<wr.heap.size:=hi.2
   omega
 ·rw [List.length_append,<-hN,show zs (F++[a])=zs F++[.int .i64 a] by unfold zs;rw [List.map_append];rfl]
  exact ho
 ·cases hg1
  rcases hat with h | h
  ·exact h11 _ h
  ·show w.heap.size+1<=g2
   have:=h15.size;omega
 ·cases hg1
  rcases hat with h | h
  ·exact h13 _ h
  ·show g2≠g
   omega
 ·cases hg3
  rcases hat with h | h
  ·exact h14 _ _ hg1 h
  ·have:=(own_lt h2 hg1).2
   show g1≠g2
   omega
theorem L24.set (h:L24 w wr x xs q r g b11 v rs vS vF F) {rs':List Int} (t:Touch (fun k=>k=g) wr w') (hr:RtAt w' r g rs'):L24 w w' x xs q r g b11 v rs' vS vF F:=by
 obtain ⟨h1,h2,h3,h4,h5,⟨SV,h6,h7,h7a,h7b,h7c,h7d,h7e⟩,h8,h9,h10,h11,h12,h13,h14,h15⟩:=h
 have hne:g≠b11:=own_ne h8.row h4 (by decide) rfl rfl
 exact ⟨h1.touch t (fun e=>by have:=h1.lt;omega),own_touch h2 t (fun g1 hg1 e=>h12 g1 hg1 e),h3,h4.touch t (fun e=>hne e.symm),h5,⟨SV,h6.touch t (fun i hi _ e=>h7e (e ▸ hi)),h7,h7a,h7b,h7c,h7d,h7e⟩,hr,h9,own_touch h10 t (fun g1 hg1 e=>h13 g1 hg1 e),h11,h12,h13,h14,h15.trans (t.mono (fun i _ e=>by omega))⟩
end
def L24V (w wr:World) (q:Nat) (v:Vm) (vS vF:Value) (b11 r g bh:Nat):Prop:=∃ SV,VmAt wr SV q v/\(∀ i,SV i->w.heap.size+1<=i)/\(∀ g,vS.ownBlock=some g->¬ SV g)/\(∀ g,vF.ownBlock=some g->¬ SV g)/\¬ SV b11/\¬ SV r/\¬ SV g/\¬ SV bh
def heapL (x:LaidC) (q r:Nat) (vL:Value):List Value:=[.pointer (some ⟨q,0,none⟩),.pointer (some ⟨r,0,none⟩),.int .i64 x.cf.fr,.int .i64 x.cf.tp,.int .i64 x.cf.to,.int .i64 x.cf.lm,.int .i64 x.cf.bk,.int .i64 x.cf.st,.int .i64 x.cf.ah,vL,.int .i64 (x.page:Nat)]
structure L24R (w wr:World) (x:LaidC) (q r g hp:Nat) (v:Vm) (rs:List Int) (k:Nat) (vL:Value):Prop where
 hr:Rec wr hp 111 (heapL x q r vL)
 own:wr.ownsRow 0 49 1 vL k (wrds v k)
 vm:∃ SV,VmAt wr SV q v/\(∀ i,SV i->w.heap.size+1<=i)/\(∀ g,vL.ownBlock=some g->¬ SV g)/\¬ SV hp/\¬ SV r/\¬ SV g
 rt:RtAt wr r g rs
 hl:w.heap.size+1<=hp
 lr:w.heap.size+1<=r/\w.heap.size+1<=g
 ofr:∀ g,vL.ownBlock=some g->w.heap.size+1<=g
 t:Touch (fun b=>w.heap.size<=b) w wr
theorem L24R.gr {w wr w':World} {x:LaidC} {q r g hp:Nat} {v:Vm} {rs:List Int} {k:Nat} {vL:Value} (h:L24R w wr x q r g hp v rs k vL) (g':Gr wr w'):L24R w w' x q r g hp v rs k vL:=by
 obtain ⟨h1,h2,⟨SV,h3,h4⟩,h5,h6,h7,h8,h9⟩:=h
 exact ⟨h1.gr g',own_gr h2 g',⟨SV,h3.gr g',h4⟩,h5.gr g',h6,h7,h8,h9.trans (g'.touch _)⟩
theorem L24R.app {w wr w1:World} {x:LaidC} {q r g hp:Nat} {v:Vm} {rs:List Int} {A:Option Addr} {c g2 c2 k:Nat} (h:L24R w wr x q r g hp v rs k (.slice A k c)) (t:Touch (fun b=>(Value.slice A k c).ownBlock=some b) wr w1)
  (ho:w1.ownsRow 0 49 1 (.slice (some ⟨g2,0,none⟩) (k+1) c2) (k+1) (wrds v k++[.int .u64 (v.ldV k:Nat)])) (hat:(Value.slice A k c).ownBlock=some g2\/wr.heap.size<=g2):
  L24R w (w1.setCell ⟨hp,9,none⟩ (.slice (some ⟨g2,0,none⟩) (k+1) c2)) x q r g hp v rs (k+1) (.slice (some ⟨g2,0,none⟩) (k+1) c2):=by
 obtain ⟨h1,h2,⟨SV,h3,h4,h5,h6,h7,h7'⟩,h8,h9,h10,h11,h12⟩:=h
 have hne:∀ b,(Value.slice A k c).ownBlock=some b->b≠hp:=fun b hb=>own_ne h2 h1 (by decide) hb rfl
 have hnr:∀ b,(Value.slice A k c).ownBlock=some b->b≠r:=fun b hb=>own_ne h2 h8.rcd (by decide) hb rfl
 have hng:∀ b,(Value.slice A k c).ownBlock=some b->b≠g:=fun b hb=>own_ne h2 h8.row (by decide) hb rfl
 have hr1:=h1.touch t (fun e=>hne _ e rfl)
 have hgp:g2≠hp:=own_ne ho hr1 (by decide) rfl rfl
 have tH:=(Touch.refl (fun b=>b=hp) w1).setCell (a:=⟨hp,9,none⟩) (fun _=>rfl) (.slice (some ⟨g2,0,none⟩) (k+1) c2)
 have hrh:r≠hp:=own_ne h8.rcd h1 (by decide) rfl rfl
 have hgh:g≠hp:=own_ne h8.row h1 (by decide) rfl rfl
 have hwz:=h12.size
 have hh1:=h1.lt
 refine ⟨hr1.set 9 _,?_,⟨cutS SV wr,(h3.cut.touch t (fun i hi _ e=>h5 i e hi.1)).touch tH (fun i hi _ e=>h6 (e ▸ hi.1)),fun i hi=>h4 i hi.1,fun b hb hi=>?_,fun h=>h6 h.1,fun h=>h7 h.1,fun h=>h7' h.1⟩,?_,h9,h10,fun b hb=>?_,(h12.trans (t.mono (fun i _ e=>by have:=h11 i e;omega))).trans (tH.mono (fun i _ e=>by omega))⟩
 ·rw [wrds_succ]
  exact own_touch ho tH (fun b hb e=>by cases hb;exact hgp e)
 ·cases hb
  rcases hat with h | h
  ·exact h5 _ h hi.1
  ·have:g2<wr.heap.size:=hi.2
   omega
 ·exact (h8.touch t (fun e=>hnr _ e rfl) (fun e=>hng _ e rfl)).touch tH hrh hgh
 ·cases hb
  rcases hat with h | h
  ·exact h11 _ h
  ·show w.heap.size+1<=g2
   omega
def Lay24End (w:World) (x:LaidC) (more:Nat) (e:Ending) (w':World):Prop:=
 ∃ hp q r g A c v0 SV,e=.returned (.pointer (some ⟨hp,0,none⟩))/\Gr w w'/\Run24 x (x.room+more) v0/\(∀ a:Nat,a<x.n->v0.ldV a=0)/\VmAt w' SV q (layC x v0)/\RtAt w' r g x.rs ∧
  Rec w' hp 111 (heapL x q r (.slice A x.n c))/\Wrds w' A c x.n (layC x v0)/\(∀ i,SV i->w.heap.size<=i/\i<w'.heap.size)/\¬ SV hp/\¬ SV r/\¬ SV g/\(w.heap.size<=hp/\w.heap.size<=r/\w.heap.size<=g)/\(∀ b,(Value.slice A x.n c).ownBlock=some b->w.heap.size<=b/\¬ SV b)
theorem fit_at {x:LaidC} {k:Nat} (hf:∀ j,j<k->fitC x.H j=true) (hk:k<=x.H.length):k<=x.k/\k<=szC x.H k/\szC x.H k<=512:=by
 have h1:k<=x.k:=by
  rcases Nat.lt_or_ge x.k k with h | h
  ·have:=hf _ h
   have h2:=first_at (fun k=>!fitC x.H k) x.H.length (show x.k<x.H.length by omega)
   have h2:(!fitC x.H x.k)=true:=h2
   rw [this] at h2
   cases h2
  ·exact h
 have h3:=szC_le x.H
 have h4:=szC_mono x.H (i:=k) (j:=kC x.H) h1
 have h5:∀ j,j<=k->j<=szC x.H j:=fun j=>by
  induction j with
  | zero=>intro _;exact Nat.zero_le _
  | succ j ih=>
   intro h
   obtain ⟨p,f,c,-,-,-,h1',-⟩:=kC_hd (H:=x.H) (j:=j) (by have:x.k=kC x.H:=rfl;omega)
   have:=ih (by omega)
   omega
 exact ⟨h1,h5 k (Nat.le_refl _),by omega⟩
theorem wrd_wrap (y:Nat):IntKind.u64.wrap ((y:Int)*11400714819323198485)=(wrdC y:Int):=by rw [IntKind.wrap_u64];unfold wrdC;omega
set_option maxRecDepth 100000 in
set_option maxHeartbeats 6400000 in
theorem lay24_walk {w:World} {A1 A2 A3:Option Addr} {c1 c2 c3:Nat} {x:LaidC} (hL:LaidCAt w A1 A2 A3 x) {more:Nat} (hm:more<=2000):
  Calls Tryz.prog 56 #[.agg (laidV x A1 A2 A3 c1 c2 c3).toArray,.int .i64 more] w (Lay24End w x more):=by
 have HIN:=hid hL
 obtain ⟨N1,hN1⟩:∃ N,N=x.H.length:=⟨_,rfl⟩
 obtain ⟨N2,hN2⟩:∃ N,N=x.P.length:=⟨_,rfl⟩
 obtain ⟨N3,hN3⟩:∃ N,N=x.R.length:=⟨_,rfl⟩
 have hf1:=hL.lh
 have hf2:=hL.lp
 have hf3:=hL.lr
 have hu1:=hL.pg
 have hu2:=hL.bk
 have hu3:=hL.st
 have hu4:=hL.ah
 have hpgb:=x.page_pos
 have HPG:Hid (wrap64 (2 ^ (x.pg%6))=(x.page:Int)):=⟨by
  have h6:x.pg%6<6:=Nat.mod_lt _ (by decide)
  have e:x.page=2 ^ (x.pg%6):=rfl
  rw [e]
  rcases (by omega:x.pg%6=0\/x.pg%6=1\/x.pg%6=2\/x.pg%6=3\/x.pg%6=4\/x.pg%6=5) with h | h | h | h | h | h <;> rw [h] <;> decide +kernel⟩
 obtain ⟨xs,hxs⟩:∃ xs,xs=laidV x A1 A2 A3 c1 c2 c3:=⟨_,rfl⟩
 have hxs':=hxs
 unfold laidV at hxs'
 rw [<-hN1,<-hN2,<-hN3] at hxs'
 rw [<-hxs]
 have HN:=hid (And.intro hN1 (And.intro hN2 hN3))
 have HXS:=hid hxs'
 rw [<-hN1] at hf1
 rw [<-hN2] at hf2
 rw [<-hN3] at hf3
 have rx:=Rec.new w 94 xs
 have hga:=(Gr.refl w).alloc (.cells xs.toArray 94)
 have HL0:Hid (L24A w (w.alloc (.cells xs.toArray 94)) x xs 0 (.slice none 0 0)):=⟨rx,own_nil _ _ _ _,(fun g hg=>by cases hg),hga.touch _⟩
 obtain ⟨W0,hW0⟩:∃ W0,W0=w.alloc (.cells xs.toArray 94):=⟨_,rfl⟩
 have hg0:Gr w W0:=by rw [hW0];exact hga
 have hs0:W0.heap.size=w.heap.size+1:=by rw [hW0,World.size_alloc]
 rw [<-hW0] at HL0
 rw [hxs'] at HL0 hW0 ⊢
 have HG0:=hid hg0
 have y0:=HL0.out.rx.cell (j:=0) rfl
 have y1:=HL0.out.rx.cell (j:=1) rfl
 have yl:=HL0.out.rx.lt
 clear hL hN1 hN2 hN3 hxs hxs' rx hga hg0
 go_enter Tryz.func56,Tryz.ntmps56
 go_upto_region 1 with (fail)
 rw [show w.alloc (.cells #[.int .u8 x.pg,.slice A1 N1 c1,.slice A2 N2 c2,.slice A3 N3 c3,.int .u8 x.bk,.int .u8 x.st,.int .u8 x.ah] 94)=W0 from hW0.symm]
 clear hW0
 go_upto_region 3 with (fail)
 rw [HPG.out]
 obtain ⟨pg,hpge⟩:∃ pg,pg=x.page:=⟨_,rfl⟩
 have HPGE:=hid hpge
 rw [<-hpge] at hpgb ⊢
 clear hpge
 go_upto_block 0 with (fail)
 go_cut [6,7] (fun s6 s7 wx=>∃ vS,s6=.int .i64 ((x.top:Nat):Int)/\s7=vS/\Hid (L24A w wx x [.int .u8 x.pg,.slice A1 N1 c1,.slice A2 N2 c2,.slice A3 N3 c3,.int .u8 x.bk,.int .u8 x.st,.int .u8 x.ah] x.k vS))
 case first=>
  go_wp2_with (fail)
  go_loopw [6,7,36] (fun s6 s7 s36 wr=>∃ (k:Nat) (vS:Value),k<=N1/\Hid (L24A w wr x [.int .u8 x.pg,.slice A1 N1 c1,.slice A2 N2 c2,.slice A3 N3 c3,.int .u8 x.bk,.int .u8 x.st,.int .u8 x.ah] k vS)/\Hid (∀ j,j<k->fitC x.H j=true)/\s6=.int .i64 ((x.at k:Nat):Int)/\s7=vS/\s36=.int .i64 k) (fun _ _ s36 _=>N1-(intOf s36).toNat)
  case atStart=>exact ⟨0,_,by omega,HL0,⟨fun j hj=>absurd hj (Nat.not_lt_zero _)⟩,by rw [HPGE.out];rfl,rfl,rfl⟩
  case round=>
   obtain ⟨k,vS,hk,HLk,HF,rfl,rfl,rfl⟩:=hrel
   clear y0 y1 yl HL0
   by_cases hlast:k=N1
   ·have hkk:x.k=k:=kC_end (by rw [<-HN.out.1];exact hk) HF.out (fun h=>by have:=HN.out.1;omega)
    have HKK:=hid hkk
    subst hlast
    clear hkk
    go_wp2
    go_meet
    exact ⟨_,by rw [<-HKK.out];rfl,rfl,by rw [HKK.out];exact HLk⟩
   ·have hkl:k<x.H.length:=by have:=HN.out.1;omega
    obtain ⟨b,o,rfl,hb,e0,e1,e2⟩:=HIN.out.h k hkl
    obtain ⟨fa1,fa2,fa3⟩:=fit_at HF.out (Nat.le_of_lt hkl)
    have hhd:hdC x.H k=x.H[k]:=by unfold hdC;rw [List.getD_eq_getElem?_getD,List.getElem?_eq_getElem hkl];rfl
    obtain ⟨⟨p,f,c⟩,hh⟩:∃ h,h=x.H[k]:=⟨_,rfl⟩
    rw [<-hh] at e0 e1 e2 hhd
    have HTT:=hid HLk.out.t
    have i0:=(HTT.out.cell hb (by omega) (o+k*3)).trans e0
    have i1:=(HTT.out.cell hb (by omega) (o+k*3+1)).trans e1
    have i2:=(HTT.out.cell hb (by omega) (o+k*3+2)).trans e2
    have y1:=HLk.out.rx.cell (j:=1) rfl
    have HKN:=hid (And.intro hk hlast)
    have hkN:(k:Int)<(N1:Int):=by omega
    have HSZ:=hid (fun W=>hdr_size ⟨p,f,c⟩ W)
    unfold hdrV at HSZ
    obtain ⟨tk,htk⟩:∃ tk,tk=x.at k:=⟨_,rfl⟩
    have htke:tk=pg+szC x.H k:=by rw [htk,HPGE.out];rfl
    have HTK:=hid htk
    rw [<-htk]
    clear hb e0 e1 e2 hh hlast htk
    by_cases hfit:fitC x.H k=true
    ·obtain ⟨hE,hS⟩:=fitC_iff.1 hfit
     rw [hhd] at hE
     obtain ⟨p,f,c,hh,hs⟩:=hdrE_zero hE
     simp only [Hdr.mk.injEq] at hh
     obtain ⟨rfl,rfl,rfl⟩:=hh
     have hN:hdrN ⟨(p:Int),f,c⟩=((1+p+f+c:Nat):Int):=by rw [show hdrN ⟨p,f,c⟩=1+(p:Int)+f+c from if_pos (hdrE_of hs)];push_cast;rfl
     have hsz:szC x.H (k+1)=szC x.H k+(1+p+f+c):=by
      show szC x.H k+(hdrN (hdC x.H k)).toNat=_
      rw [hhd,hN];omega
     rw [hN] at HSZ
     obtain ⟨z,hz⟩:∃ z,z=1+p+f+c:=⟨_,rfl⟩
     rw [<-hz] at hsz HSZ
     have hnx:x.at (k+1)=tk+z:=by rw [htke,HPGE.out];unfold LaidC.at;rw [hsz];omega
     have HNX:=hid hnx
     have d0:((z:Int)==0)=false:=by simp;omega
     have e0:decide (512+(pg:Int)-(tk:Int)<(z:Int))=false:=decide_eq_false (by omega)
     have hz256:z<=256:=by omega
     have HFIT:=hid hfit
     have htkb:tk<=600:=by omega
     have hkb:k<=512:=by omega
     have hown:=HLk.out.own
     obtain ⟨A,cc,rfl,hc1,hc2⟩:=own_shape hown
     unfold maxLen at hc2
     have HO:=hid hown
     obtain ⟨ii,hii,hi0,hi1,hi2⟩:=info_parts infoIntV
     have HRH:=hid (Rec.new wr 48 [.int .i64 p,.int .i64 f,.int .i64 c])
     clear hfit hE hS hN hsz hnx hz hhd htke hown fa1 fa2 fa3 hkl
     go_wp2_with (first
      | (go_at_call 111;refine (HSZ.out _).mono ?_;rintro e w3 ⟨rfl,hg3⟩;have HG3:=hid (((Gr.refl wr).alloc _).trans hg3);clear hg3)
      | (at_builtin;refine wpList_append_lies _ rfl _ _ 40 rfl 0 3 ii _ 1 8 Tryz.underlying40 hii hi0 hi1 hi2 rfl (by decide) (.slice A k cc) k (zs (x.starts k)) rfl ((own_gr HO.out HG3.out).alloc _) ⟨w3.heap.size,0,none⟩ 1 1 [.int .i64 (tk:Int)] rfl rfl (World.news_of_block (cs:=#[.int .i64 (tk:Int)]) (t:=3) (fr:=(0,0)) (heap_alloc_new w3 (.cells #[.int .i64 (tk:Int)] 3))) (by simp [Value.oneCell']) (by omega) (by unfold maxLen;omega) (by omega) (Nat.zero_le _) (w3.heap.size+1) (by simp) ?_;intro g4 c4 w4 hown4 hgrow4 hat4 hlt4;have t4:Touch (fun b=>(Value.slice A k cc).ownBlock=some b) w3 w4:=(((Gr.refl _).alloc _).touch _).trans (grown_touch hgrow4 _ (fun b e _=>e));have HT4:=hid t4;have HO4:=hid hown4;have HA4:=hid hat4;clear hown4 hgrow4 hat4 hlt4 t4))
     go_round
     case rel=>
      refine ⟨k+1,.slice (some ⟨g4,0,none⟩) (k+1) c4,by have:=HKN.out;omega,⟨?_⟩,⟨fun j hj=>?_⟩,by rw [HNX.out];go_num,rfl,by go_num⟩
      ·refine (HLk.out.gr HG3.out).app HT4.out (by rw [<-HTK.out];exact HO4.out) (HA4.out.imp id (fun h=>by omega))
      ·rcases Nat.lt_or_ge j k with h | h
       ·exact HF.out j h
       ·rw [show j=k by omega];exact HFIT.out
     case measure=>have:=HKN.out;simp [intOf];omega
    ·have hkk:x.k=k:=kC_end (Nat.le_of_lt hkl) HF.out (fun _=>by simpa using hfit)
     have HKK:=hid hkk
     by_cases hE:hdrE ⟨p,f,c⟩=0
     ·obtain ⟨p,f,c,hh,hs⟩:=hdrE_zero hE
      simp only [Hdr.mk.injEq] at hh
      obtain ⟨rfl,rfl,rfl⟩:=hh
      have hN:hdrN ⟨(p:Int),f,c⟩=((1+p+f+c:Nat):Int):=by rw [show hdrN ⟨p,f,c⟩=1+(p:Int)+f+c from if_pos (hdrE_of hs)];push_cast;rfl
      have hsz:szC x.H (k+1)=szC x.H k+(1+p+f+c):=by
       show szC x.H k+(hdrN (hdC x.H k)).toNat=_
       rw [hhd,hN];omega
      have hbig:¬ szC x.H (k+1)<=512:=fun h=>hfit (fitC_iff.2 ⟨by rw [hhd];exact hE,h⟩)
      rw [hN] at HSZ
      obtain ⟨z,hz⟩:∃ z,z=1+p+f+c:=⟨_,rfl⟩
      rw [<-hz] at hsz HSZ
      have d0:((z:Int)==0)=false:=by simp;omega
      have e0:decide (512+(pg:Int)-(tk:Int)<(z:Int))=true:=decide_eq_true (by omega)
      have hz256:z<=256:=by omega
      have htkb:tk<=600:=by omega
      clear hfit hE hN hsz hz hhd htke fa1 fa2 fa3 hkl hbig hkk
      go_wp2_with (go_at_call 111;refine (HSZ.out _).mono ?_;rintro e w3 ⟨rfl,hg3⟩;have HG3:=hid (((Gr.refl wr).alloc _).trans hg3);clear hg3)
      go_meet
      exact ⟨_,by rw [HTK.out,<-HKK.out];rfl,rfl,by rw [HKK.out];exact ⟨HLk.out.gr HG3.out⟩⟩
     ·have hN:hdrN ⟨p,f,c⟩=0:=if_neg hE
      rw [hN] at HSZ
      clear hfit hE hN hhd htke fa1 fa2 fa3 hkl hkk
      go_wp2_with (go_at_call 111;refine (HSZ.out _).mono ?_;rintro e w3 ⟨rfl,hg3⟩;have HG3:=hid (((Gr.refl wr).alloc _).trans hg3);clear hg3)
      go_meet
      exact ⟨_,by rw [HTK.out,<-HKK.out];rfl,rfl,by rw [HKK.out];exact ⟨HLk.out.gr HG3.out⟩⟩
 case rest=>
  obtain ⟨vS,rfl,rfl,HLA⟩:=hcut
  clear y0 y1 yl HL0
  obtain ⟨A,cc,rfl,hc1,hc2⟩:=own_shape HLA.out.own
  unfold maxLen at hc2
  have y3:=HLA.out.rx.cell (j:=3) rfl
  have y4:=HLA.out.rx.cell (j:=4) rfl
  have y5:=HLA.out.rx.cell (j:=5) rfl
  have y6:=HLA.out.rx.cell (j:=6) rfl
  have yl:=HLA.out.rx.lt
  have htop:=x.top_le
  rw [<-HPGE.out] at htop
  obtain ⟨tp,htpe⟩:∃ tp,tp=x.top:=⟨_,rfl⟩
  have HTP:=hid htpe
  rw [<-htpe] at htop ⊢
  clear htpe
  have HBK:Hid (wrap64 (2 ^ (x.bk%8))=((2 ^ (x.bk%8):Nat):Int)):=⟨by
   have h6:x.bk%8<8:=Nat.mod_lt _ (by decide)
   rcases (by omega:x.bk%8=0\/x.bk%8=1\/x.bk%8=2\/x.bk%8=3\/x.bk%8=4\/x.bk%8=5\/x.bk%8=6\/x.bk%8=7) with h | h | h | h | h | h | h | h <;> rw [h] <;> decide +kernel⟩
  go_upto_region 13 with (fail)
  have hcfl:([.int .i64 (pg:Int),.int .i64 (tp:Int),.int .i64 ((pg:Int)+512),.int .i64 ((pg:Int)+1024),.int .i64 (wrap64 (2 ^ (x.bk%8))),.int .i64 ((x.st:Int)%20+1),.int .i64 ((x.ah:Int)%5)]:List Value)=cfL x.cf:=by
   rw [HBK.out,HPGE.out,HTP.out];rfl
  obtain ⟨W1,hW1⟩:∃ W1,W1=wc.alloc (.cells #[.int .i64 (pg:Int),.int .i64 (tp:Int),.int .i64 ((pg:Int)+512),.int .i64 ((pg:Int)+1024),.int .i64 (wrap64 (2 ^ (x.bk%8))),.int .i64 ((x.st:Int)%20+1),.int .i64 ((x.ah:Int)%5)] 106):=⟨_,rfl⟩
  have hg1:Gr wc W1:=by rw [hW1];exact (Gr.refl wc).alloc _
  have hs1:W1.heap.size=wc.heap.size+1:=by rw [hW1,World.size_alloc]
  have rc:=Rec.new wc 106 [.int .i64 (pg:Int),.int .i64 (tp:Int),.int .i64 ((pg:Int)+512),.int .i64 ((pg:Int)+1024),.int .i64 (wrap64 (2 ^ (x.bk%8))),.int .i64 ((x.st:Int)%20+1),.int .i64 ((x.ah:Int)%5)]
  rw [show wc.alloc (.cells ([.int .i64 (pg:Int),.int .i64 (tp:Int),.int .i64 ((pg:Int)+512),.int .i64 ((pg:Int)+1024),.int .i64 (wrap64 (2 ^ (x.bk%8))),.int .i64 ((x.st:Int)%20+1),.int .i64 ((x.ah:Int)%5)]:List Value).toArray 106)=W1 from hW1.symm,hcfl] at rc
  rw [<-hW1]
  have HRC:=hid rc
  have HLB:=hid (HLA.out.gr hg1)
  have z0:=rc.cell (j:=0) rfl
  have z1:=rc.cell (j:=1) rfl
  have z2:=rc.cell (j:=2) rfl
  have z3:=rc.cell (j:=3) rfl
  have z4:=rc.cell (j:=4) rfl
  have z5:=rc.cell (j:=5) rfl
  have z6:=rc.cell (j:=6) rfl
  have zl:=rc.lt
  have u3:=HLB.out.rx.cell (j:=3) rfl
  have ul:=HLB.out.rx.lt
  have hwc:=HLA.out.t.size
  have HW1:=hid (And.intro hs1 hwc)
  obtain ⟨b11,hb11⟩:∃ b,b=wc.heap.size:=⟨_,rfl⟩
  have HB11:Hid (w.heap.size+1<=b11):=⟨by have:=HLA.out.rx.lt;omega⟩
  rw [<-hb11] at z0 z1 z2 z3 z4 z5 z6 zl HRC ⊢
  have HRM:=hid (fun W=>lay_room x W)
  rw [<-HPGE.out] at HRM
  unfold cfV at HRM
  have hrm:=x.room_le
  obtain ⟨-,-,hq3,hq4,hq5⟩:=new24_ok (x:=x) (rm:=x.room+more) (by omega) (by omega)
  have HNV:=hid (fun W=>vm_new (n:=x.n) (pg:=x.page) (rm:=x.room+more) (new24_ok (x:=x) (rm:=x.room+more) (by omega) (by omega)).1 (new24_ok (x:=x) (rm:=x.room+more) (by omega) (by omega)).2.1 (by unfold LaidC.n;omega) hq4 hq3 x.page_pos.1 (by have:=x.page_pos;omega) W)
  rw [show ((x.n:Nat):Int)=(pg:Int)+1024 by rw [HPGE.out];rfl,show ((x.page:Nat):Int)=(pg:Int) by rw [HPGE.out],show ((x.room+more:Nat):Int)=(x.room:Int)+(more:Int) by push_cast;rfl] at HNV
  have hmin:=run_minB2 Tryz.prog
  have hmax:=run_maxB2 Tryz.prog
  have HNR:=hid (fun W=>rt_new (n:=x.nr) x.nr_le.1 x.nr_le.2 W)
  rw [show ((x.nr:Nat):Int)=max 1 (min (N3:Int) 64) by unfold LaidC.nr;rw [<-HN.out.2.2];omega] at HNR
  clear hcfl hW1 rc hg1 hs1 hb11 y3 y4 y5 y6 yl hq3 hq4 hq5 hwc
  obtain ⟨rmN,hrmN⟩:∃ rmN,rmN=x.room:=⟨_,rfl⟩
  have HRN:=hid hrmN
  rw [<-hrmN] at HRM HNV hrm
  clear hrmN
  go_upto_region 15 with (first
   | (go_at_call 145;refine (HRM.out _).mono ?_;rintro e w2 ⟨rfl,hg2⟩;have HG2:=hid hg2;clear hg2)
   | (go_at_call 71;refine (HNV.out _).mono ?_;rintro e w3 ⟨q,rfl,hg3,hv3⟩;have HG3:=hid (HG2.out.trans hg3);have HV3:=hid (And.intro hv3 HG2.out.size);have u3':=(HG3.out.cell ul 3).trans u3;have ul':=Nat.lt_of_lt_of_le ul HG3.out.size;clear hg3 hv3)
   | (go_at_call 73;refine (HNR.out _).mono ?_;rintro e w4 ⟨r,g,rfl,hg4,hr4,hlr,hlg⟩;have HG4:=hid (HG3.out.trans hg4);have HG34:=hid hg4;have HR4:=hid hr4;have HRL:=hid (And.intro hlr hlg);clear hg4 hr4 hlr hlg))
  have hrm2:x.room+more<=4096:=by rw [<-HRN.out];omega
  have hrm1:1<=x.room+more:=by have:=x.room_le;omega
  have HND:Hid (Calls Tryz.prog 146 #[.pointer (some ⟨q,0,none⟩),.int .i64 (pg:Int),.int .i64 (tp:Int)] w4 fun e w'=>e=.returned (.int .i64 0)/\∃ v0,Run24 x (x.room+more) v0/\(∀ a:Nat,a<x.n->v0.ldV a=0)/\Touch (cutS (fun k=>w2.heap.size<=k) w3) w4 w'/\VmAt w' (plus (cutS (fun k=>w2.heap.size<=k) w3) w4) q v0):=⟨by
   have hv4:=HV3.out.1.cut.gr HG34.out
   rw [HRN.out] at hv4
   rw [HPGE.out,HTP.out]
   by_cases hlt:x.page<x.top
   ·have hnd:=vm_need hv4 x.page x.top (by show x.top<=x.n;unfold LaidC.n;have:=x.top_le;omega) hlt
    rw [(need24 (x:=x) (rm:=x.room+more) (by omega) hlt).1] at hnd
    refine hnd.mono ?_
    rintro e w' ⟨rfl,ht,v',hg,hv⟩
    obtain ⟨h1,h2⟩:=run24_grown hrm1 hrm2 (by omega) hlt hg
    exact ⟨rfl,v',h1,h2,ht,hv⟩
   ·refine (vm_need_none hv4 x.page x.top (by show x.top<=x.n;unfold LaidC.n;have:=x.top_le;omega) (by omega)).mono ?_
    rintro e w' ⟨rfl,hg⟩
    obtain ⟨h1,h2⟩:=run24_none (x:=x) hrm1 hrm2 hlt
    exact ⟨rfl,_,h1,h2,hg.touch _,(hv4.gr hg).mono (fun b hb=>.inl hb)⟩⟩
  clear z0 z1 z2 z3 z4 z5 z6 zl u3 ul u3' ul' hmin hmax
  go_upto_block 2 with (go_at_call 146;refine HND.out.mono ?_;rintro e w5 ⟨rfl,v0,hr5,hz5,ht5,hv5⟩;have HR5:=hid hr5;have HZ5:=hid hz5;have HT5:=hid ht5;have HV5:=hid hv5;clear hr5 hz5 ht5 hv5)
  have hz0:=HG3.out.size
  have hz2:=HV3.out.2
  have hz3:=HG34.out.size
  have hz5:=HT5.out.size
  obtain ⟨hw1,hw2⟩:=HW1.out
  obtain ⟨hlr,hlg⟩:=HRL.out
  have hSV:∀ i,plus (cutS (fun k=>w2.heap.size<=k) w3) w4 i->w2.heap.size<=i:=fun i hi=>hi.elim (fun h=>h.1) (fun h=>by have:w3.heap.size<=w4.heap.size:=hz3;have:w2.heap.size<=w3.heap.size:=(HV3.out.1.row.elim fun _ h=>by obtain ⟨_,_,_,hr,-⟩:=h;have:=hr.lt;have h2:=HV3.out.1.sq;omega);omega)
  have hz1:W1.heap.size<=w2.heap.size:=HV3.out.2
  have hrl:=HR4.out.lt
  have hcl:=HRC.out.lt
  have hxl:=HLB.out.rx.lt
  have hnoT:∀ i,i<W1.heap.size->¬ cutS (fun k=>w2.heap.size<=k) w3 i:=fun i hi h=>by have:=h.1;omega
  have hnoV:∀ i,i<W1.heap.size->¬ plus (cutS (fun k=>w2.heap.size<=k) w3) w4 i:=fun i hi h=>by have:=hSV i h;omega
  have HL24:Hid (L24 w w5 x [.int .u8 x.pg,.slice A1 N1 c1,.slice A2 N2 c2,.slice A3 N3 c3,.int .u8 x.bk,.int .u8 x.st,.int .u8 x.ah] q r g b11 v0 (List.replicate x.nr 0) (.slice A x.k cc) (.slice none 0 0) []):=⟨by
   refine ⟨(HLB.out.rx.gr HG4.out).touch HT5.out (hnoT _ hxl),own_touch (own_gr HLB.out.own HG4.out) HT5.out (fun g1 hg1=>hnoT _ (own_lt HLB.out.own hg1).2),HLB.out.ofr,(HRC.out.gr HG4.out).touch HT5.out (hnoT _ hcl),HB11.out,⟨_,HV5.out,fun i hi=>by have:=hSV i hi;omega,fun g1 hg1=>hnoV _ (own_lt HLB.out.own hg1).2,(fun g1 hg1=>by cases hg1),hnoV _ hcl,fun h=>?_,fun h=>?_⟩,HR4.out.touch HT5.out (fun h=>by have:=h.2;omega) (fun h=>by have:=h.2;omega),⟨by omega,by omega⟩,own_nil _ _ _ _,(fun g1 hg1=>by cases hg1),fun g1 hg1 e=>?_,(fun g1 hg1=>by cases hg1),(fun g1 g2 _ hg2=>by cases hg2),?_⟩
   ·exact h.elim (fun h=>by have:=h.2;omega) (fun h=>by omega)
   ·exact h.elim (fun h=>by have:=h.2;omega) (fun h=>by omega)
   ·have:=(own_lt HLB.out.own hg1).2;omega
   ·exact (HLB.out.t.trans (HG4.out.touch _)).trans (HT5.out.mono (fun i _ h=>by have:=h.1;omega))⟩
  have hkb:x.k<=512:=by have:=szC_len (H:=x.H);have:=szC_le x.H;have:x.k=kC x.H:=rfl;omega
  obtain ⟨K,hKe⟩:∃ K,K=x.k:=⟨_,rfl⟩
  have HK:=hid hKe
  have hmp:∀ a:Nat,x.page<=a->a<x.top->v0.ldE a=0:=fun a h1 h2=>by
   have ht:=x.top_le
   rw [HR5.out.le a (by unfold LaidC.n;omega),if_pos]
   refine ⟨h1,?_⟩
   unfold upN
   have h3:=Nat.div_add_mod (x.top+x.page-1) x.page
   have h4:=Nat.mod_lt (x.top+x.page-1) (show 0<x.page by have:=x.page_pos;omega)
   rw [Nat.mul_comm] at h3
   omega
  have HMP:=hid hmp
  clear hz0 hz2 hz3 hz5 hw1 hw2 hlr hlg hSV hz1 hrl hcl hxl hnoT hnoV hmp
  rw [<-hKe] at hc1 hkb ⊢
  clear hKe
  go_cut [16,17] (fun s16 s17 wx=>∃ (n:Nat) (vF:Value) (v:Vm) (F:List Int),s16=.int .i64 n/\s17=vF/\Hid (L24 w wx x [.int .u8 x.pg,.slice A1 N1 c1,.slice A2 N2 c2,.slice A3 N3 c3,.int .u8 x.bk,.int .u8 x.st,.int .u8 x.ah] q r g b11 v (List.replicate x.nr 0) (.slice A x.k cc) vF F)/\Hid (objC x.page x.H v0 x.k=(v,n,F)))
  case first=>
   go_wp2_with (fail)
   go_loopw [16,17,116] (fun s16 s17 s116 wr=>∃ (j n:Nat) (vF:Value) (v:Vm) (F:List Int),j<=K/\Hid (L24 w wr x [.int .u8 x.pg,.slice A1 N1 c1,.slice A2 N2 c2,.slice A3 N3 c3,.int .u8 x.bk,.int .u8 x.st,.int .u8 x.ah] q r g b11 v (List.replicate x.nr 0) (.slice A x.k cc) vF F)/\Hid (objC x.page x.H v0 j=(v,n,F))/\s16=.int .i64 n/\s17=vF/\s116=.int .i64 j) (fun _ _ s116 _=>K-(intOf s116).toNat)
   case atStart=>exact ⟨0,0,_,v0,[],by omega,HL24,⟨rfl⟩,rfl,rfl,rfl⟩
   case round=>
    obtain ⟨j,n,vF,v,F,hj,HLj,HOj,rfl,h17,rfl⟩:=hrel
    have h17:=h17.symm
    subst h17
    clear HL24
    by_cases hlast:j=K
    ·have HLS:=hid hlast
     subst hlast
     go_wp2
     go_meet
     exact ⟨n,_,v,F,rfl,rfl,HLj,⟨by rw [<-HK.out];exact HOj.out⟩⟩
    ·have hjk:j<kC x.H:=by have:=HK.out;have:x.k=kC x.H:=rfl;omega
     have hkl:j<x.H.length:=Nat.lt_of_lt_of_le hjk (kC_le _)
     obtain ⟨b,o,rfl,hb,e0,e1,e2⟩:=HIN.out.h j hkl
     have hhd:hdC x.H j=x.H[j]:=by unfold hdC;rw [List.getD_eq_getElem?_getD,List.getElem?_eq_getElem hkl];rfl
     obtain ⟨p,f,c,hh,hs,hN,hszn,-⟩:=kC_hd hjk
     rw [<-hhd,hh] at e0 e1 e2
     have HTT:=hid HLj.out.t
     have i0:=(HTT.out.cell hb (by omega) (o+j*3)).trans e0
     have i1:=(HTT.out.cell hb (by omega) (o+j*3+1)).trans e1
     have i2:=(HTT.out.cell hb (by omega) (o+j*3+2)).trans e2
     have y1:=HLj.out.rx.cell (j:=1) rfl
     have yl:=HLj.out.rx.lt
     have hown:=HLj.out.own
     rw [<-HK.out] at hown
     obtain ⟨gs,c',ea,-,-,-,hgl⟩:=own_form hown (by omega)
     simp only [Value.slice.injEq] at ea
     obtain ⟨rfl,-,rfl⟩:=ea
     have kc:=own_cell hown (x.starts_at (k:=K) (j:=j) (by omega))
     obtain ⟨aa,haa⟩:∃ aa,aa=x.at j:=⟨_,rfl⟩
     have HAA:=hid haa
     have hab:aa<=600:=by
      have:=at_mono (x:=x) (i:=j) (j:=x.k) (Nat.le_of_lt hjk)
      have h2:x.at x.k=x.top:=rfl
      have:=x.top_le
      have:=x.page_pos
      omega
     rw [<-haa] at kc
     obtain ⟨SV,hvm,hsv,hvS,hvF,hvb,hvr,hvg⟩:=HLj.out.vm
     have HVC:=hid (hvm.cut.gr ((Gr.refl wr).alloc (.cells #[.int .i64 p,.int .i64 f,.int .i64 c] 48)))
     have HSV:=hid (And.intro hsv (And.intro hvS (And.intro hvF (And.intro hvb (And.intro hvr hvg)))))
     have HJ:=hid (And.intro hj hlast)
     have hjK:(j:Int)<(K:Int):=by omega
     have hjN:(j:Int)<(N1:Int):=by have:=HN.out.1;omega
     have HHD:=hid (And.intro hh (And.intro hs hN))
     have HSZ:=hid (fun W=>hdr_size ⟨p,f,c⟩ W)
     obtain ⟨z,hz⟩:∃ z,z=1+p+f+c:=⟨_,rfl⟩
     have hz1:1<=z/\z<=256:=by omega
     have HZ:=hid hz
     rw [show hdrN ⟨(p:Int),f,c⟩=(z:Int) by rw [show hdrN ⟨p,f,c⟩=1+(p:Int)+f+c from if_pos (hdrE_of hs),hz];push_cast;rfl] at HSZ
     unfold hdrV at HSZ
     have HMK:=hid (obj_make HVC.out (aa:Int) ⟨p,f,c⟩)
     unfold hdrV spV at HMK
     have HRH:=hid (Rec.new wr 48 [.int .i64 p,.int .i64 f,.int .i64 c])
     have HL1:=hid (HLj.out.gr ((Gr.refl wr).alloc (.cells #[.int .i64 p,.int .i64 f,.int .i64 c] 48)))
     have hbl:b<wr.heap.size:=Nat.lt_of_lt_of_le hb HTT.out.size
     clear hz hb e0 e1 e2 hhd hh hs hN hszn haa hvm hsv hvS hvF hvb hvr hvg hlast hj hown hkl hjk
     go_upto_block 4 with (first
      | (go_at_call 130;refine HMK.out.mono ?_;rintro e w6 ⟨rfl,ht6,hv6⟩;have HT6:=hid ht6;have HV6:=hid hv6;have HRH6:=hid (HRH.out.touch ht6 (fun h=>absurd h.2 (Nat.lt_irrefl _)));have j0:=HRH6.out.cell (j:=0) rfl;have j1:=HRH6.out.cell (j:=1) rfl;have j2:=HRH6.out.cell (j:=2) rfl;have jl:=HRH6.out.lt;clear ht6 hv6)
      | (go_at_call 111;refine (HSZ.out _).mono ?_;rintro e w7 ⟨rfl,hg7⟩;have HG7:=hid hg7;clear hg7))
     obtain ⟨bh,hbh⟩:∃ bh,bh=wr.heap.size:=⟨_,rfl⟩
     have hwz:=HLj.out.t.size
     have HBH:Hid (w.heap.size+1<=bh/\wr.heap.size<=bh):=⟨by omega⟩
     have HL2:Hid (L24 w w7 x [.int .u8 x.pg,.slice (some ⟨b,o,none⟩) N1 c1,.slice A2 N2 c2,.slice A3 N3 c3,.int .u8 x.bk,.int .u8 x.st,.int .u8 x.ah] q r g b11 (mkVm v (aa:Int) ⟨p,f,c⟩) (List.replicate x.nr 0) (.slice (some ⟨gs,0,none⟩) x.k cc) vF F):=⟨(HL1.out.turn (fun i hi=>HSV.out.1 i hi.1) (fun g1 hg1 hi=>HSV.out.2.1 g1 hg1 hi.1) (fun g1 hg1 hi=>HSV.out.2.2.1 g1 hg1 hi.1) (fun hi=>HSV.out.2.2.2.1 hi.1) (fun hi=>HSV.out.2.2.2.2.1 hi.1) (fun hi=>HSV.out.2.2.2.2.2 hi.1) HT6.out HV6.out).gr HG7.out⟩
     have HRH7:=hid (HRH6.out.gr HG7.out)
     have HLV2:Hid (L24V w w7 q (mkVm v (aa:Int) ⟨p,f,c⟩) (.slice (some ⟨gs,0,none⟩) x.k cc) vF b11 r g wr.heap.size):=⟨by
      have hz6:=HL1.out.rx.lt
      have hs6:(wr.alloc (.cells #[.int .i64 p,.int .i64 f,.int .i64 c] 48)).heap.size=wr.heap.size+1:=World.size_alloc _ _
      have hbl:=HLj.out.cf.lt
      have hrl:=HLj.out.rt.lt
      refine ⟨_,HV6.out.gr HG7.out,fun i hi=>?_,fun g1 hg1 hi=>?_,fun g1 hg1 hi=>?_,fun hi=>?_,fun hi=>?_,fun hi=>?_,fun hi=>?_⟩
      ·exact hi.elim (fun h=>HSV.out.1 i h.1) (fun h=>by omega)
      ·exact hi.elim (fun h=>HSV.out.2.1 g1 hg1 h.1) (fun h=>by have:=(own_lt HLj.out.own hg1).2;omega)
      ·exact hi.elim (fun h=>HSV.out.2.2.1 g1 hg1 h.1) (fun h=>by have:=(own_lt HLj.out.fo hg1).2;omega)
      ·exact hi.elim (fun h=>HSV.out.2.2.2.1 h.1) (fun h=>by omega)
      ·exact hi.elim (fun h=>HSV.out.2.2.2.2.1 h.1) (fun h=>by omega)
      ·exact hi.elim (fun h=>HSV.out.2.2.2.2.2 h.1) (fun h=>by omega)
      ·exact hi.elim (fun h=>by have:=h.2;omega) (fun h=>by omega)⟩
     rw [<-hbh] at HRH7 HLV2 ⊢
     clear hbh j0 j1 j2 jl i0 i1 i2 y1 yl kc
     go_wp2_with (fail)
     go_loopw [16,17,134] (fun s16 s17 s134 wr=>∃ (m n':Nat) (vG:Value) (v':Vm) (G:List Int),m+1<=z/\Hid (L24 w wr x [.int .u8 x.pg,.slice (some ⟨b,o,none⟩) N1 c1,.slice A2 N2 c2,.slice A3 N3 c3,.int .u8 x.bk,.int .u8 x.st,.int .u8 x.ah] q r g b11 v' (List.replicate x.nr 0) (.slice (some ⟨gs,0,none⟩) x.k cc) vG G)/\Hid (fldC aa p (mkVm v (aa:Int) ⟨p,f,c⟩,n,F) m=(v',n',G))/\Hid (Rec wr bh 48 [.int .i64 p,.int .i64 f,.int .i64 c])/\Hid (L24V w wr q v' (.slice (some ⟨gs,0,none⟩) x.k cc) vG b11 r g bh)/\s16=.int .i64 n'/\s17=vG/\s134=.int .i64 m) (fun _ _ s134 _=>z-(intOf s134).toNat)
     case atStart=>exact ⟨0,n,_,_,F,by omega,HL2,⟨rfl⟩,HRH7,HLV2,rfl,rfl,rfl⟩
     case round=>
      obtain ⟨m,n',vG,v',G,hm',HLm,HFm,HRm,HVm,rfl,h17,rfl⟩:=hrel
      have h17:=h17.symm
      subst h17
      have j0:=HRm.out.cell (j:=0) rfl
      have jl:=HRm.out.lt
      by_cases hml:m+1=z
      ·have HML:=hid hml
       have e0:decide ((m:Int)<(z:Int)-1)=false:=decide_eq_false (by omega)
       have HMM:=hid hm'
       clear hm'
       go_wp2
       go_round
       case rel=>
        refine ⟨j+1,n',_,v',G,by have:=HJ.out;omega,HLm,⟨?_⟩,rfl,rfl,by go_num⟩
        show fldC (x.page+szC x.H j) (hdC x.H j).p.toNat (mkVm (objC x.page x.H v0 j).1 ((x.page+szC x.H j:Nat):Int) (hdC x.H j),(objC x.page x.H v0 j).2) ((hdrN (hdC x.H j)).toNat-1)=_
        rw [HHD.out.2.2,HHD.out.1,HOj.out,show x.page+szC x.H j=aa from HAA.out.symm]
        have h2:(((1+p+f+c:Nat):Int)).toNat-1=m:=by have:=HML.out;have:=HZ.out;omega
        rw [h2]
        exact HFm.out
       case measure=>have:=HJ.out;simp [intOf];omega
      ·have e0:decide ((m:Int)<(z:Int)-1)=true:=decide_eq_true (by omega)
       have hst:=(Stays.fldC (v:=mkVm v (aa:Int) ⟨p,f,c⟩) aa p (s:=(mkVm v (aa:Int) ⟨p,f,c⟩,n,F)) (Stays.refl (by obtain ⟨SV',hv',-⟩:=HL2.out.vm;exact hv'.ok)) m).2
       rw [HFm.out] at hst
       have hoc:=(Stays.objC (HR5.out.ok) x.page x.H j).2
       rw [HOj.out] at hoc
       have hs512:szC x.H j<=600:=by have e:x.at j=x.page+szC x.H j:=rfl;have:=HAA.out;omega
       dsimp only at hst hoc
       have HML:=hid (And.intro hm' hml)
       have hmz:m+1<z:=by omega
       clear hm' hml
       by_cases hmp:m<p
       ·have hmpI:(m:Int)<(p:Int):=by omega
        have HF1:Hid (fldC aa p (mkVm v (aa:Int) ⟨p,f,c⟩,n,F) (m+1)=(v',n',G++[((aa+1+m:Nat):Int)])):=⟨by
         show (if m<p then _ else _)=_
         rw [if_pos hmp,HFm.out]⟩
        have hcast:((aa+1+m:Nat):Int)=(aa:Int)+1+(m:Int):=by push_cast;rfl
        have HCAST:=hid hcast
        have hfo:=HLm.out.fo
        obtain ⟨Af,cf',rfl,hc3,hc4⟩:=own_shape hfo
        unfold maxLen at hc4
        obtain ⟨Nf,hNf⟩:∃ N,N=G.length:=⟨_,rfl⟩
        have hNle:Nf<=1000:=by omega
        have HNF:=hid hNf
        rw [<-hNf] at hc3
        have HO:Hid (wr.ownsRow 0 3 1 (.slice Af Nf cf') Nf (zs G)):=⟨by rw [hNf];exact hfo⟩
        have HLG:Hid (L24 w wr x [.int .u8 x.pg,.slice (some ⟨b,o,none⟩) N1 c1,.slice A2 N2 c2,.slice A3 N3 c3,.int .u8 x.bk,.int .u8 x.st,.int .u8 x.ah] q r g b11 v' (List.replicate x.nr 0) (.slice (some ⟨gs,0,none⟩) x.k cc) (.slice Af Nf cf') G):=⟨by rw [hNf];exact HLm.out⟩
        obtain ⟨ii,hii,hi0,hi1,hi2⟩:=info_parts infoIntV
        clear hst hoc hs512 hcast hfo
        rw [<-hNf]
        clear hNf
        go_wp2_with (at_builtin;refine wpList_append_lies _ rfl _ _ 40 rfl 0 3 ii _ 1 8 Tryz.underlying40 hii hi0 hi1 hi2 rfl (by decide) (.slice Af Nf cf') Nf (zs G) rfl (HO.out.alloc _) ⟨wr.heap.size,0,none⟩ 1 1 [.int .i64 ((aa:Int)+1+(m:Int))] rfl rfl (World.news_of_block (cs:=#[.int .i64 ((aa:Int)+1+(m:Int))]) (t:=3) (fr:=(0,0)) (heap_alloc_new wr (.cells #[.int .i64 ((aa:Int)+1+(m:Int))] 3))) (by simp [Value.oneCell']) (by omega) (by unfold maxLen;omega) (by omega) (Nat.zero_le _) (wr.heap.size+1) (by simp) ?_;intro g3 c4 w8 hown3 hgrow3 hat3 hlt3;have t3:Touch (fun k=>(Value.slice Af Nf cf').ownBlock=some k) wr w8:=(((Gr.refl _).alloc _).touch _).trans (grown_touch hgrow3 _ (fun k e _=>e));have HT3:=hid t3;have HO3:=hid hown3;have HA3:=hid hat3;clear hown3 hgrow3 hat3 hlt3 t3)
        go_round
        case rel=>
         refine ⟨m+1,n',.slice (some ⟨g3,0,none⟩) (Nf+1) c4,v',G++[((aa+1+m:Nat):Int)],by have:=HML.out;omega,⟨HLG.out.app HNF.out HT3.out (by rw [HCAST.out];exact HO3.out) (HA3.out.imp id (fun h=>by omega))⟩,HF1,⟨HRm.out.touch HT3.out (fun e=>own_ne HO.out HRm.out (by decide) e rfl rfl)⟩,⟨?_⟩,rfl,rfl,by go_num⟩
         obtain ⟨SV,hvm,hsv,hvS,hvF,hvb,hvr,hvg,hvh⟩:=(show L24V w wr q v' (.slice (some ⟨gs,0,none⟩) x.k cc) (.slice Af Nf cf') b11 r g bh by rw [HNF.out];exact HVm.out)
         refine ⟨cutS SV wr,hvm.cut.touch HT3.out (fun i hi _ e=>hvF i e hi.1),fun i hi=>hsv i hi.1,fun g1 hg1 hi=>hvS g1 hg1 hi.1,fun g1 hg1 hi=>?_,fun hi=>hvb hi.1,fun hi=>hvr hi.1,fun hi=>hvg hi.1,fun hi=>hvh hi.1⟩
         cases hg1
         rcases HA3.out with h | h
         ·exact hvF _ h hi.1
         ·have:g3<wr.heap.size:=hi.2
          omega
        case measure=>have:=HML.out;simp [intOf];omega
       ·have hmpI:¬ (m:Int)<(p:Int):=by omega
        have e1:decide ((m:Int)<(p:Int))=false:=decide_eq_false hmpI
        have e2:decide (m<p)=false:=decide_eq_false hmp
        have HF1:Hid (fldC aa p (mkVm v (aa:Int) ⟨p,f,c⟩,n,F) (m+1)=(v'.st ((aa+1+m:Nat):Int) (wrdC (n' + 1)),n' + 1,G)):=⟨by
         show (if m<p then _ else _)=_
         rw [if_neg hmp,HFm.out]⟩
        have hcast:((aa+1+m:Nat):Int)=(aa:Int)+1+(m:Int):=by push_cast;rfl
        have hnb:n'<=1000:=by omega
        obtain ⟨y,hy⟩:∃ y,y=n' + 1:=⟨_,rfl⟩
        have hyI:(n':Int)+1=(y:Int):=by omega
        have HY:=hid hy
        have hyb:y<=1001:=by omega
        have hw1:IntKind.u64.wrap (y:Int)=(y:Int):=by rw [IntKind.wrap_u64];omega
        have hw2:IntKind.u64.wrap ((y:Int)*11400714819323198485)=(wrdC y:Int):=wrd_wrap y
        obtain ⟨SV,hvm,hsv,hvS,hvF,hvb,hvr,hvg,hvh⟩:=HVm.out
        have HVH:=hid hvh
        have HST:=hid (vm_store hvm.cut ((aa+1+m:Nat):Int) (wrdC_lt y))
        rw [hcast] at HST
        have HSV':=hid (And.intro hsv (And.intro hvS (And.intro hvF (And.intro hvb (And.intro hvr hvg)))))
        have HCAST:=hid hcast
        obtain ⟨wd,hwd⟩:∃ wd,wd=wrdC y:=⟨_,rfl⟩
        rw [<-hwd] at hw2 HST
        have HWD:=hid hwd
        clear hst hoc hs512 hcast hvm hsv hvS hvF hvb hvr hvg hvh hwd hy
        go_upto_region 29 with (fail)
        clear hyI
        go_wp2_with (go_at_call 147;refine HST.out.mono ?_;rintro e w8 ⟨rfl,ht8,hv8⟩;have HT8:=hid ht8;have HV8:=hid hv8;clear ht8 hv8)
        go_round
        case rel=>
         refine ⟨m+1,n' + 1,_,v'.st ((aa+1+m:Nat):Int) (wrdC (n' + 1)),G,by have:=HML.out;omega,⟨HLm.out.turn (fun i hi=>HSV'.out.1 i hi.1) (fun g1 hg1 hi=>HSV'.out.2.1 g1 hg1 hi.1) (fun g1 hg1 hi=>HSV'.out.2.2.1 g1 hg1 hi.1) (fun hi=>HSV'.out.2.2.2.1 hi.1) (fun hi=>HSV'.out.2.2.2.2.1 hi.1) (fun hi=>HSV'.out.2.2.2.2.2 hi.1) HT8.out (by rw [HCAST.out,<-HY.out,<-HWD.out];exact HV8.out.mono (fun i hi=>.inl hi))⟩,HF1,⟨HRm.out.touch HT8.out (fun h=>HVH.out h.1)⟩,⟨cutS SV wr,by rw [HCAST.out,<-HY.out,<-HWD.out];exact HV8.out,fun i hi=>HSV'.out.1 i hi.1,fun g1 hg1 hi=>HSV'.out.2.1 g1 hg1 hi.1,fun g1 hg1 hi=>HSV'.out.2.2.1 g1 hg1 hi.1,fun hi=>HSV'.out.2.2.2.1 hi.1,fun hi=>HSV'.out.2.2.2.2.1 hi.1,fun hi=>HSV'.out.2.2.2.2.2 hi.1,fun hi=>HVH.out hi.1⟩,by rw [HY.out],rfl,by go_num⟩
        case measure=>have:=HML.out;simp [intOf];omega
  case rest=>
   obtain ⟨n,vF,v,F,rfl,h17,HL5,HO5⟩:=hcut
   have h17:=h17.symm
   subst h17
   clear HL24
   obtain ⟨Af,cf',rfl,hc3,hc4⟩:=own_shape HL5.out.fo
   unfold maxLen at hc4
   have hoc:=(Stays.objC (HR5.out.ok) x.page x.H x.k).2
   rw [HO5.out] at hoc
   have hsc:=szC_le x.H
   have hNf5:F.length<=512:=by
    have e:szC x.H x.k=szC x.H (kC x.H):=rfl
    dsimp only at hoc
    omega
   obtain ⟨Nf,hNf⟩:∃ N,N=F.length:=⟨_,rfl⟩
   have HNF:=hid hNf
   rw [<-hNf] at hc3 HL5 hNf5 ⊢
   clear hNf hoc hsc
   have HFX:Hid (x.fields v0=F/\(objC x.page x.H v0 x.k).1=v):=⟨by unfold LaidC.fields;rw [HO5.out];exact ⟨rfl,rfl⟩⟩
   have y2:=HL5.out.rx.cell (j:=2) rfl
   have y2l:=HL5.out.rx.lt
   go_upto_block 6 with (fail)
   go_cut [] (fun wx=>∃ (v':Vm),Hid (L24 w wx x [.int .u8 x.pg,.slice A1 N1 c1,.slice A2 N2 c2,.slice A3 N3 c3,.int .u8 x.bk,.int .u8 x.st,.int .u8 x.ah] q r g b11 v' (List.replicate x.nr 0) (.slice A x.k cc) (.slice Af Nf cf') F)/\Hid (v'=layC x v0))
   case first=>
    by_cases h0:Nf=0
    ·subst h0
     have HV0:Hid (v=layC x v0):=⟨by unfold layC;rw [HFX.out.1,if_pos (List.eq_nil_of_length_eq_zero HNF.out.symm),HFX.out.2]⟩
     go_wp2_with (fail)
     go_loopw [22] (fun s22 wr=>wr=wc/\s22=.int .i64 0) (fun _ _=>0)
     case atStart=>exact ⟨rfl,rfl⟩
     case round=>
      obtain ⟨rfl,rfl⟩:=hrel
      by_cases h2:1<N2
      ·have d0:decide (1<N2)=true:=decide_eq_true h2
       go_wp2
       go_meet
       exact ⟨v,HL5,HV0⟩
      ·have d0:decide (1<N2)=false:=decide_eq_false h2
       go_wp2
       go_meet
       exact ⟨v,HL5,HV0⟩
    ·have HV0:Hid (layC x v0=ptrC x F v (N2/2)):=⟨by unfold layC;rw [HFX.out.1,if_neg (fun e=>h0 (by rw [HNF.out,e];rfl)),HFX.out.2,HN.out.2.1]⟩
     have hNp:decide (0<Nf)=true:=decide_eq_true (by omega)
     go_wp2_with (fail)
     go_loopw [22] (fun s22 wr=>∃ (k i:Nat) (v':Vm),Hid (i=2*k)/\k<=N2/2/\Hid (L24 w wr x [.int .u8 x.pg,.slice A1 N1 c1,.slice A2 N2 c2,.slice A3 N3 c3,.int .u8 x.bk,.int .u8 x.st,.int .u8 x.ah] q r g b11 v' (List.replicate x.nr 0) (.slice A x.k cc) (.slice Af Nf cf') F)/\Hid (v'=ptrC x F v k)/\s22=.int .i64 i) (fun s22 _=>N2+1-(intOf s22).toNat)
     case atStart=>exact ⟨0,0,v,⟨rfl⟩,by omega,HL5,⟨rfl⟩,rfl⟩
     case round=>
      obtain ⟨k,i,v',HI,hk,HLk,HEk,rfl⟩:=hrel
      have hi:=HI.out
      have hib:i<=4611686018427387904:=by omega
      clear y2 y2l
      have y2:=HLk.out.rx.cell (j:=2) rfl
      have y2l:=HLk.out.rx.lt
      by_cases hlast:i+1<N2
      ·have d0:decide ((i:Int)+1<(N2:Int))=true:=decide_eq_true (by omega)
       have d1:decide (i+1<N2)=true:=decide_eq_true hlast
       have hil:i<x.P.length:=by have:=HN.out.2.1;omega
       have hil1:i+1<x.P.length:=by have:=HN.out.2.1;omega
       obtain ⟨b,o,rfl,hb,hp1,e0⟩:=HIN.out.p i hil
       obtain ⟨b',o',hbo,-,hp2,e1⟩:=HIN.out.p (i+1) hil1
       simp only [Option.some.injEq,Addr.mk.injEq,and_true] at hbo
       obtain ⟨rfl,rfl⟩:=hbo
       have HTT:=hid HLk.out.t
       have i0:=(HTT.out.cell hb (by omega) (o+i)).trans e0
       have i1:=(HTT.out.cell hb (by omega) (o+(i+1))).trans e1
       obtain ⟨pi,hpi⟩:∃ p,p=x.P[i]:=⟨_,rfl⟩
       obtain ⟨pj,hpj⟩:∃ p,p=x.P[i+1]:=⟨_,rfl⟩
       rw [<-hpi] at i0 hp1
       rw [<-hpj] at i1 hp2
       have HPI:Hid (x.P.getD (2*k) 0=pi/\x.P.getD (2*k+1) 0=pj):=⟨by rw [<-hi,hpi,hpj,List.getD_eq_getElem?_getD,List.getElem?_eq_getElem hil,List.getD_eq_getElem?_getD,List.getElem?_eq_getElem hil1];exact ⟨rfl,rfl⟩⟩
       obtain ⟨rr,hrr⟩:∃ rr,rr=(pi+i)%Nf:=⟨_,rfl⟩
       have g3:((pi:Int)+(i:Int))%(Nf:Int)=(rr:Int):=by rw [hrr];rfl
       have g4:((pi:Int)+(i:Int)).tmod (Nf:Int)=(rr:Int):=by rw [hrr];rfl
       have hrN:rr<Nf:=by rw [hrr];exact Nat.mod_lt _ (by omega)
       have hNz:(Nf:Int)≠0:=by omega
       have hfo:=HLk.out.fo
       rw [<-HNF.out] at hfo
       obtain ⟨gF,c',ea,-,-,-,-⟩:=own_form hfo h0
       simp only [Value.slice.injEq] at ea
       obtain ⟨rfl,-,rfl⟩:=ea
       have hrF:rr<F.length:=by rw [<-HNF.out];exact hrN
       have kr:=own_cell hfo (j:=rr) (u:=.int .i64 F[rr]) (by simp [zs,hrF])
       have hgl:=(own_lt hfo (g:=gF) rfl).2
       obtain ⟨fr,hfr⟩:∃ f,f=F[rr]:=⟨_,rfl⟩
       rw [<-hfr] at kr
       have hxl:=HLk.out.rx.lt
       have hbl:b<wr.heap.size:=Nat.lt_of_lt_of_le hb HTT.out.size
       have HST:Hid (ptrC x F v (k+1)=v'.st fr (x.put pj)):=⟨by
        show (ptrC x F v k).st _ _=_
        rw [HPI.out.1,HPI.out.2,<-HNF.out,<-hi,<-hrr,<-HEk.out,hfr,List.getD_eq_getElem?_getD,List.getElem?_eq_getElem hrF]
        rfl⟩
       have hown:=HLk.out.own
       rw [<-HK.out] at hown
       have HPUT:=hid (fun (W:World) (g':Gr wr W)=>lay_put (x:=x) (own_gr hown g') HK.out hkb hp2)
       obtain ⟨pt,hpt⟩:∃ pt,pt=x.put pj:=⟨_,rfl⟩
       have hptb:pt<=600:=by rw [hpt];have:=x.put_le pj;have:=x.top_le;have:=x.page_pos;omega
       rw [<-hpt] at HPUT HST
       have hw1:IntKind.u64.wrap (pt:Int)=(pt:Int):=by rw [IntKind.wrap_u64];omega
       obtain ⟨SV,hvm,hsv,hvS,hvF,hvb,hvr,hvg⟩:=HLk.out.vm
       have HVC:=hid (fun (W:World) (g':Gr wr W)=>vm_store (hvm.cut.gr g') fr (x:=pt) (by omega))
       have HSV:=hid (And.intro hsv (And.intro hvS (And.intro hvF (And.intro hvb (And.intro hvr hvg)))))
       have KS:Hid (∀ W',Gr wr W'->W'.cell? ⟨w.heap.size,2,none⟩=some (.slice (some ⟨b,o,none⟩) N2 c2)/\W'.cell? ⟨b,o+i,none⟩=some (.int .u8 pi)/\W'.cell? ⟨b,o+(i+1),none⟩=some (.int .u8 pj)/\W'.cell? ⟨gF,rr,none⟩=some (.int .i64 fr)):=
        ⟨fun W' h=>⟨(h.cell hxl 2).trans y2,(h.cell hbl _).trans i0,(h.cell hbl _).trans i1,(h.cell hgl rr).trans kr⟩⟩
       have hiI:(i:Int)<(N2:Int):=by omega
       have hi1I:(i:Int)+1<(N2:Int):=by omega
       have hrI:(rr:Int)<(Nf:Int):=by omega
       have hk1:k+1<=N2/2:=by omega
       have hwi1:IntKind.i64.wrap ((i:Int)+1)=(i:Int)+1:=IntWalk.i64_in _ (by omega)
       have hwi2:((i:Int)+1).toNat=i+1:=by omega
       have hwi3:(0:Int)<=(i:Int)+1:=by omega
       have hwp:IntKind.i64.wrap (pi:Int)=(pi:Int):=IntWalk.i64_in _ (by omega)
       have hws:IntKind.i64.wrap ((pi:Int)+(i:Int))=(pi:Int)+(i:Int):=IntWalk.i64_in _ (by omega)
       clear hfo hown kr hfr hpi hpj hpt hb hbl hxl hgl hvm hsv hvS hvF hvb hvr hvg i0 i1 e0 e1 hrr hrF hil hil1 hi hlast hp1 hp2
       go_upto_region 35 with (fail)
       obtain ⟨Sx,hSx⟩:∃ Sx:World->Prop,Sx=fun W'=>Gr wr W':=⟨_,rfl⟩
       have z1:∀ p:Held Sx,p.w.cell? ⟨w.heap.size,2,none⟩=some (.slice (some ⟨b,o,none⟩) N2 c2):=fun p=>(KS.out _ (Held.get hSx p)).1
       have z2:∀ p:Held Sx,p.w.cell? ⟨b,o+i,none⟩=some (.int .u8 pi):=fun p=>(KS.out _ (Held.get hSx p)).2.1
       have z3:∀ p:Held Sx,p.w.cell? ⟨b,o+(i+1),none⟩=some (.int .u8 pj):=fun p=>(KS.out _ (Held.get hSx p)).2.2.1
       have z4:∀ p:Held Sx,p.w.cell? ⟨gF,rr,none⟩=some (.int .i64 fr):=fun p=>(KS.out _ (Held.get hSx p)).2.2.2
       have hS0:Sx wr.drew:=by rw [hSx];exact (Gr.refl wr).drew
       have inst:Inhabited (Held Sx):=⟨⟨_,hS0⟩⟩
       clear hSx
       refine wp_region_mixS Sx 24 [([0,1,2,3,4,5,6,7,8,9,10,11,12,13,14,15,16,17,18,19,20,21],22),([23],24)] [] (by kernel_rfl) (by kernel_rfl) hS0 ?_
       refine segs_step ?_
       simp only [opsAt,List.getElem?_cons_zero,List.getElem?_cons_succ]
       repeat (go_big_quiet_step (fail))
       refine wpQuiet_nil ?_
       go_wp2_with (go_at_call 148;refine (HPUT.out _ (Gr.refl wr).drew).mono ?_;rintro e w3 ⟨rfl,rfl⟩)
       refine ⟨.inr (Held.of hS0),?_⟩
       refine segs_step ?_
       simp only [opsAt,List.getElem?_cons_zero,List.getElem?_cons_succ]
       repeat (go_big_quiet_step (fail))
       refine wpQuiet_nil ?_
       go_wp2_with (go_at_call 147;refine (HVC.out _ (Gr.refl wr).drew).mono ?_;rintro e w3 ⟨rfl,ht3,hv3⟩;have HT3:=hid ht3;have HV3:=hid hv3;clear ht3 hv3)
       refine ⟨.inl trivial,?_⟩
       refine segs_end ?_
       refine wpQuiet_nil ?_
       refine NoPanic.normal ?_
       clear z1 z2 z3 z4 hS0 inst
       clear Sx
       go_wp2
       go_round
       case rel=>
        refine ⟨k+1,i+2,v'.st fr pt,⟨by have:=HI.out;omega⟩,hk1,⟨?_⟩,⟨HST.out.symm⟩,by go_num⟩
        exact (HLk.out.gr (Gr.refl wr).drew).turn (fun j hj=>HSV.out.1 j hj.1) (fun gg hg hj=>HSV.out.2.1 gg hg hj.1) (fun gg hg hj=>HSV.out.2.2.1 gg hg hj.1) (fun hj=>HSV.out.2.2.2.1 hj.1) (fun hj=>HSV.out.2.2.2.2.1 hj.1) (fun hj=>HSV.out.2.2.2.2.2 hj.1) HT3.out (HV3.out.mono (fun j hj=>.inl hj))
       case measure=>simp [intOf];omega
      ·have d0:decide ((i:Int)+1<(N2:Int))=false:=decide_eq_false (by omega)
       have hl2:¬ (i+1<N2):=hlast
       have hl3:N2<=i+1:=by omega
       have d1:decide (i+1<N2)=false:=decide_eq_false hlast
       have hkk:k=N2/2:=by omega
       have HKK:=hid hkk
       clear hkk hi
       go_wp2
       go_meet
       exact ⟨v',HLk,⟨by rw [HV0.out,HEk.out,HKK.out]⟩⟩
   case rest=>
    obtain ⟨v6,HL6,HV6'⟩:=hcut
    clear y2 y2l
    have hnr:=x.nr_le
    have HLN:=hid (rt_len HL6.out.rt)
    rw [List.length_replicate] at HLN
    obtain ⟨nr,hnre⟩:∃ nr,nr=x.nr:=⟨_,rfl⟩
    have HNR2:=hid hnre
    rw [<-hnre] at HLN hnr
    have HL60:Hid (L24 w wc x [.int .u8 x.pg,.slice A1 N1 c1,.slice A2 N2 c2,.slice A3 N3 c3,.int .u8 x.bk,.int .u8 x.st,.int .u8 x.ah] q r g b11 v6 (x.rsN 0) (.slice A x.k cc) (.slice Af Nf cf') F):=⟨by rw [x.rsN_zero];exact HL6.out⟩
    clear hnre
    go_upto_block 8 with (go_at_call 149;refine HLN.out.mono ?_;rintro e w6 ⟨rfl,rfl⟩)
    go_cut [] (fun wx=>Hid (L24 w wx x [.int .u8 x.pg,.slice A1 N1 c1,.slice A2 N2 c2,.slice A3 N3 c3,.int .u8 x.bk,.int .u8 x.st,.int .u8 x.ah] q r g b11 v6 x.rs (.slice A x.k cc) (.slice Af Nf cf') F))
    case first=>
     go_wp2_with (fail)
     go_loopw [201] (fun s201 wr=>∃ i:Nat,i<=nr/\Hid (L24 w wr x [.int .u8 x.pg,.slice A1 N1 c1,.slice A2 N2 c2,.slice A3 N3 c3,.int .u8 x.bk,.int .u8 x.st,.int .u8 x.ah] q r g b11 v6 (x.rsN i) (.slice A x.k cc) (.slice Af Nf cf') F)/\s201=.int .i64 i) (fun s201 _=>nr-(intOf s201).toNat)
     case atStart=>exact ⟨0,by omega,HL60,rfl⟩
     case round=>
      obtain ⟨i,hi,HLi,rfl⟩:=hrel
      clear HL60
      have y3:=HLi.out.rx.cell (j:=3) rfl
      have y3l:=HLi.out.rx.lt
      by_cases hlast:i=nr
      ·have HLS:=hid hlast
       subst hlast
       go_wp2
       go_meet
       exact ⟨by have:=HLi.out;rw [HNR2.out] at this;exact this⟩
      ·have hiN:(i:Int)<(nr:Int):=by omega
       have HII:=hid (And.intro hi hlast)
       by_cases hiR:i<N3
       ·have hil:i<x.R.length:=by have:=HN.out.2.2;omega
        obtain ⟨b,o,rfl,hb,hp1,e0⟩:=HIN.out.r i hil
        have HTT:=hid HLi.out.t
        have i0:=(HTT.out.cell hb (by omega) (o+i)).trans e0
        obtain ⟨pi,hpi⟩:∃ p,p=x.R[i]:=⟨_,rfl⟩
        rw [<-hpi] at i0 hp1
        have HPI:Hid (x.R.getD i 0=pi/\i<x.R.length):=⟨by rw [hpi,List.getD_eq_getElem?_getD,List.getElem?_eq_getElem hil];exact ⟨rfl,hil⟩⟩
        have hown:=HLi.out.own
        rw [<-HK.out] at hown
        have HPUT:=hid (lay_put (x:=x) hown HK.out hkb hp1)
        have HSET:=hid (rt_set HLi.out.rt (i:=i) (by rw [x.rsN_len,<-HNR2.out];omega) (a:=(x.put pi:Nat)) (by omega))
        have e1:decide ((i:Int)<(N3:Int))=true:=decide_eq_true (by omega)
        have hiI:(i:Int)<(N3:Int):=by omega
        have hbl:b<wr.heap.size:=Nat.lt_of_lt_of_le hb HTT.out.size
        obtain ⟨pt,hpt⟩:∃ pt,pt=x.put pi:=⟨_,rfl⟩
        have HPT:=hid hpt
        rw [<-hpt] at HPUT HSET
        clear hpt
        clear hb e0 hpi hil hp1 hown hlast hi
        go_wp2_with (first
         | (go_at_call 148;refine HPUT.out.mono ?_;rintro e w6 ⟨rfl,rfl⟩)
         | (go_at_call 115;refine HSET.out.mono ?_;rintro e w6 ⟨rfl,ht6,hr6⟩;have HT6:=hid ht6;have HR6:=hid hr6;clear ht6 hr6))
        go_round
        case rel=>
         refine ⟨i+1,by have:=HII.out;omega,⟨HLi.out.set HT6.out ?_⟩,by go_num⟩
         have:=HR6.out
         rw [HPT.out,<-HPI.out.1,x.rsN_set HPI.out.2] at this
         exact this
        case measure=>have:=HII.out;simp [intOf];omega
       ·have e1:decide ((i:Int)<(N3:Int))=false:=decide_eq_false (by omega)
        have HIR:Hid (¬ i<x.R.length):=⟨by have:=HN.out.2.2;omega⟩
        clear hlast hi
        go_wp2
        go_round
        case rel=>exact ⟨i+1,by have:=HII.out;omega,⟨by rw [x.rsN_skip HIR.out];exact HLi.out⟩,by go_num⟩
        case measure=>have:=HII.out;simp [intOf];omega
    case rest=>
     have HL7:=hcut
     have k0:=HL7.out.cf.cell (j:=0) rfl
     have k1:=HL7.out.cf.cell (j:=1) rfl
     have k2:=HL7.out.cf.cell (j:=2) rfl
     have k3:=HL7.out.cf.cell (j:=3) rfl
     have k4:=HL7.out.cf.cell (j:=4) rfl
     have k5:=HL7.out.cf.cell (j:=5) rfl
     have k6:=HL7.out.cf.cell (j:=6) rfl
     have kl:=HL7.out.cf.lt
     have hsty:=Stays.layC HR5.out.ok x
     have hrun:=HR5.out.stays hsty
     have HRUN:=hid hrun
     have HV7:Hid (v6=layC x v0):=HV6'
     have hv6n:v6.n=x.n:=by rw [HV7.out];exact hrun.n
     have hrec:=Rec.new wc 111 (heapL x q r (.slice none 0 0))
     have hgh:=(Gr.refl wc).alloc (.cells (heapL x q r (.slice none 0 0)).toArray 111)
     obtain ⟨WH,hWH⟩:∃ WH,WH=wc.alloc (.cells (heapL x q r (.slice none 0 0)).toArray 111):=⟨_,rfl⟩
     rw [<-hWH] at hrec hgh
     have hWH2:WH=wc.alloc (.cells #[.pointer (some ⟨q,0,none⟩),.pointer (some ⟨r,0,none⟩),.int .i64 x.cf.fr,.int .i64 x.cf.tp,.int .i64 x.cf.to,.int .i64 x.cf.lm,.int .i64 x.cf.bk,.int .i64 x.cf.st,.int .i64 x.cf.ah,.slice none 0 0,.int .i64 (pg:Nat)] 111):=by rw [hWH,HPGE.out];rfl
     obtain ⟨SV,hvm,hsv,-,-,-,hvr,hvg⟩:=HL7.out.vm
     have hcz:=HL7.out.t.size
     have hxl:=HL7.out.rx.lt
     have HR0:Hid (L24R w WH x q r g wc.heap.size v6 x.rs 0 (.slice none 0 0)):=⟨hrec,own_nil _ _ _ _,⟨cutS SV wc,hvm.cut.gr hgh,fun i hi=>hsv i hi.1,(fun g1 hg1=>by cases hg1),fun h=>absurd h.2 (Nat.lt_irrefl _),fun h=>hvr h.1,fun h=>hvg h.1⟩,HL7.out.rt.gr hgh,hxl,HL7.out.lr,(fun g1 hg1=>by cases hg1),HL7.out.t.trans (hgh.touch _)⟩
     have HWDS:=hid (fun (W:World) (g':Gr wc W)=>vm_words (hvm.gr g'))
     have HGH:=hid hgh
     rw [hv6n] at HWDS
     obtain ⟨hp,hhp⟩:∃ hp,hp=wc.heap.size:=⟨_,rfl⟩
     obtain ⟨nn,hnn⟩:∃ nn,nn=x.n:=⟨_,rfl⟩
     have HNN:=hid hnn
     have hnb:nn<=1056:=by rw [hnn];have:=x.page_pos;unfold LaidC.n;omega
     rw [<-hnn] at HWDS
     obtain ⟨ii,hii,hi0,hi1,hi2⟩:=info_parts infoU64
     clear hrec hgh hWH hv6n hvm hsv hvr hvg hcz hxl hsty hrun hnn
     go_upto_region 43 with (fail)
     rw [<-hWH2,<-hhp]
     rw [<-hhp] at HR0
     clear hWH2 hhp k0 k1 k2 k3 k4 k5 k6 kl
     go_wp2_with (go_at_call 90;refine (HWDS.out _ HGH.out).mono ?_;rintro e w6 ⟨rfl,rfl⟩)
     go_loopw [228] (fun s228 wr=>∃ (k:Nat) (vL:Value),k<=nn/\Hid (L24R w wr x q r g hp v6 x.rs k vL)/\s228=.int .i64 k) (fun s228 _=>nn-(intOf s228).toNat)
     case atStart=>exact ⟨0,_,by omega,HR0,rfl⟩
     case round=>
      obtain ⟨k,vL,hk,HR,rfl⟩:=hrel
      clear HR0
      obtain ⟨A5,c5,rfl,hc5,hc6⟩:=own_shape HR.out.own
      unfold maxLen at hc6
      by_cases hlast:k<nn
      ·have d0:decide ((k:Int)<(nn:Int))=true:=decide_eq_true (by omega)
       obtain ⟨SV,hvm,-⟩:=HR.out.vm
       have HLD:=hid (vm_load hvm (k:Int))
       obtain ⟨y,hy⟩:∃ y,y=v6.ldV (k:Int):=⟨_,rfl⟩
       have HY:=hid hy
       rw [<-hy] at HLD
       have HKN:=hid (And.intro hk hlast)
       have hkI:(k:Int)<(nn:Int):=by omega
       have d1:decide (k<nn)=true:=decide_eq_true hlast
       clear hy hvm
       go_wp2_with (first
        | (go_at_call 150;refine HLD.out.mono ?_;rintro e w7 ⟨rfl,hg7⟩;have HR7:=hid (HR.out.gr hg7);have u9:=HR7.out.hr.cell (j:=9) rfl;have u9l:=HR7.out.hr.lt;clear hg7)
        | (at_builtin;refine wpList_append_lies _ rfl _ _ 109 rfl 0 49 ii _ 1 8 Tryz.underlying109 hii hi0 hi1 hi2 rfl (by decide) (.slice A5 k c5) k (wrds v6 k) rfl (HR7.out.own.alloc _) ⟨w7.heap.size,0,none⟩ 1 1 [.int .u64 (y:Nat)] rfl rfl (World.news_of_block (cs:=#[.int .u64 (y:Nat)]) (t:=49) (fr:=(0,0)) (heap_alloc_new w7 (.cells #[.int .u64 (y:Nat)] 49))) (by simp [Value.oneCell']) (by have:=HKN.out;omega) (by unfold maxLen;have:=HKN.out;omega) (by have:=HKN.out;omega) (Nat.zero_le _) (w7.heap.size+1) (by simp) ?_;intro g4 c4 w8 hown4 hgrow4 hat4 hlt4;have t4:Touch (fun k'=>(Value.slice A5 k c5).ownBlock=some k') w7 w8:=(((Gr.refl _).alloc _).touch _).trans (grown_touch hgrow4 _ (fun k e _=>e));have HT4:=hid t4;have HO4:=hid hown4;have HA4:=hid hat4;have HH4:=HR7.out.hr.touch t4 (fun e=>own_ne HR7.out.own HR7.out.hr (by decide) e rfl rfl);have v9:=HH4.cell (j:=9) rfl;have v9f:=HH4.free 9;have v9l:=HH4.lt;clear hown4 hgrow4 hat4 hlt4 t4 HH4))
       go_round
       case rel=>
        refine ⟨k+1,_,by have:=HKN.out;omega,⟨HR7.out.app HT4.out (by rw [<-HY.out];exact HO4.out) (HA4.out.imp id (fun h=>by omega))⟩,by go_num⟩
       case measure=>have:=HKN.out;simp [intOf];omega
      ·have d0:decide ((k:Int)<(nn:Int))=false:=decide_eq_false (by omega)
       have hkn:k=nn:=by omega
       have HKE:=hid (hkn.trans HNN.out)
       have hkI:¬ (k:Int)<(nn:Int):=by omega
       have d1:decide (k<nn)=false:=decide_eq_false hlast
       clear hkn
       go_wp2
       go_ret
       have HRF:=HR.out
       rw [HKE.out] at HRF
       obtain ⟨SV,hvm,hsv,hvL,hvh,hvr,hvg⟩:=HRF.vm
       have hfin:=HRF.own
       rw [HV7.out] at hvm hfin
       exact ⟨hp,q,r,g,A5,c5,v0,cutS SV wr,rfl,(HRF.t.mono (T:=fun _=>False) (fun k hk h=>by omega)).gr,HR5.out,HZ5.out,hvm.cut,HRF.rt,HRF.hr,hfin,fun i hi=>⟨by have:=hsv i hi.1;omega,hi.2⟩,fun h=>hvh h.1,fun h=>hvr h.1,fun h=>hvg h.1,⟨by have:=HRF.hl;omega,by have:=HRF.lr;omega,by have:=HRF.lr;omega⟩,fun b hb=>⟨by have:=HRF.ofr b hb;omega,fun h=>hvL b hb h.1⟩⟩
end Go.Proofs.YthgdadohijgleaaGreatDoor
end
section
namespace Go.Proofs.YthgdadohijgleaaGreatDoor
open Go.ChangeShapes Go.WideShapes Go.ChangeAt Go.RowKit Word
theorem cells25L:Tryz.prog.cellsOf 94=7:=by kernel_rfl
theorem cells25H:Tryz.prog.cellsOf 92=1:=by kernel_rfl
theorem cells25h:Tryz.prog.cellsOf 48=3:=by kernel_rfl
theorem cells25B:Tryz.prog.cellsOf 61=1:=by kernel_rfl
theorem cells25b:Tryz.prog.cellsOf 5=1:=by kernel_rfl
theorem bytes25b:Tryz.prog.bytesOf 5=1:=by kernel_rfl
section
variable {H:Type} {enc:TypeId × Value->H} {W:World} {fuel:Nat} {cs0:List Value} {x:DataW H × List MemPlace}
set_option maxRecDepth 100000 in
theorem u8_cells (hf:DataW.trod enc Tryz.prog W 0 (fun _=>true) true fuel 61 cs0=some x):
  ∃ (A:Option Addr) (cap:Nat) (l:List Nat),cs0=[.slice A l.length cap]/\l.length<=maxLen/\U8sAt W A l/\(l=[]\/∃ e s,x.1=.slice e s/\e.length=l.length):=by
 rcases Go.Deep.open_slice Tryz.underlying61 hf with ⟨hcs,_⟩ | ⟨a,len,cap,m,n,D,Pl,hcs,_,hl,hm,hmm,hx,hi⟩
 ·exact ⟨none,0,[],hcs,Nat.zero_le _,(fun i h=>absurd h (by simp)),.inl rfl⟩
 ·have hle:len<=m:=by rw [hmm];simpa using hl
  obtain ⟨l,hlen,hR⟩:=list_of (fun i (x:Nat)=>x<256/\W.cell? (a.add i)=some (.int .u8 (x:Nat))) len (fun i hil=>by
   obtain ⟨cs,hc,ht⟩:=hi i (by omega)
   rw [cells25b,Nat.mul_one] at hc
   obtain ⟨_,hcl,hat⟩:=World.cells?_some hc
   obtain ⟨k,e0,_,w0⟩:=DataW.trod_int Tryz.underlying5 ht
   subst e0
   have hb:=bd_u8 w0
   refine ⟨k.toNat,by omega,?_⟩
   have:=hat 0 (by simp)
   rw [add_add_,Nat.add_zero] at this
   rw [this]
   show some (Value.int .u8 k)=some (Value.int .u8 ((k.toNat:Nat):Int))
   rw [show ((k.toNat:Nat):Int)=k by omega])
  subst hlen
  refine ⟨some a,cap,l,hcs,by omega,fun i hil=>?_,.inr ⟨_,_,by rw [hx],by simp⟩⟩
  obtain ⟨h0,h1⟩:=hR i hil
  have hs:a.spot=none:=by
   have h0:=(hR 0 (by omega)).2
   have:=spot_of_cell h0
   simpa [Addr.add] using this
  obtain ⟨b,o,s⟩:=a
  simp only at hs
  subst hs
  have ha:∀ k,Addr.add ⟨b,o,none⟩ k=⟨b,o+k,none⟩:=fun k=>by unfold Addr.add;split <;> simp_all
  rw [ha] at h1
  exact ⟨b,o,rfl,lt_of_cell h1,h0,h1⟩
set_option maxRecDepth 100000 in
theorem hds_cells (hf:DataW.trod enc Tryz.prog W 0 (fun _=>true) true fuel 92 cs0=some x):
  ∃ (A:Option Addr) (cap:Nat) (l:List Hdr),cs0=[.slice A l.length cap]/\l.length<=maxLen/\HdsAt W A l:=by
 rcases Go.Deep.open_slice Tryz.underlying92 hf with ⟨hcs,_⟩ | ⟨a,len,cap,m,n,D,Pl,hcs,_,hl,hm,hmm,_,hi⟩
 ·exact ⟨none,0,[],hcs,Nat.zero_le _,fun i h=>absurd h (by simp)⟩
 ·have hle:len<=m:=by rw [hmm];simpa using hl
  obtain ⟨l,hlen,hR⟩:=list_of (fun i (x:Hdr)=>W.cell? (a.add (i*3+0))=some (.int .i64 x.p)/\W.cell? (a.add (i*3+1))=some (.int .i64 x.f)/\W.cell? (a.add (i*3+2))=some (.int .i64 x.k)) len (fun i hil=>by
   obtain ⟨cs,hc,ht⟩:=hi i (by omega)
   rw [cells25h] at hc
   obtain ⟨_,hcl,hat⟩:=World.cells?_some hc
   obtain ⟨y0,y1,y2,n',_,_,t0,t1,t2⟩:=Go.Deep.trod_struct3 Tryz.underlying48 ht
   simp only [cellsInt] at t0 t1 t2
   match cs,hcl with
   | [c0,c1,c2],_=>
    have g:∀ j,j<3->W.cell? ((a.add (i*3)).add j)=[c0,c1,c2][j]?:=fun j hj=>hat j hj
    obtain ⟨x0,e0,_,_⟩:=DataW.trod_int Tryz.underlying3 t0
    obtain ⟨x1,e1,_,_⟩:=DataW.trod_int Tryz.underlying3 t1
    obtain ⟨x2,e2,_,_⟩:=DataW.trod_int Tryz.underlying3 t2
    simp at e0 e1 e2
    subst e0 e1 e2
    have add3:∀ j,(a.add (i*3)).add j=a.add (i*3+j):=fun j=>add_add_ a (i*3) j
    refine ⟨⟨x0,x1,x2⟩,?_,?_,?_⟩
    ·rw [<-add3,g 0 (by omega)];rfl
    ·rw [<-add3,g 1 (by omega)];rfl
    ·rw [<-add3,g 2 (by omega)];rfl)
  subst hlen
  refine ⟨some a,cap,l,hcs,by omega,fun i hil=>?_⟩
  obtain ⟨h2,h3,h4⟩:=hR i hil
  have hs:a.spot=none:=by
   have h0:=(hR 0 (by omega)).1
   have:=spot_of_cell h0
   simpa [Addr.add] using this
  obtain ⟨b,o,s⟩:=a
  simp only at hs
  subst hs
  have ha:∀ k,Addr.add ⟨b,o,none⟩ k=⟨b,o+k,none⟩:=fun k=>by unfold Addr.add;split <;> simp_all
  rw [ha] at h2 h3 h4
  exact ⟨b,o,rfl,lt_of_cell h2,h2,by rw [Nat.add_assoc];exact h3,by rw [Nat.add_assoc];exact h4⟩
end
theorem nat_u8 {k:Int} (h:(Lit.int .u8 k).wf=true):∃ m:Nat,k=m/\m<256:=by
 have hb:=bd_u8 h
 exact ⟨k.toNat,by omega,by omega⟩
set_option maxRecDepth 100000 in
set_option maxHeartbeats 800000 in
theorem open_laidC {H:Type} {enc:TypeId × Value->H} {W:World} {r:Reach} {b0:Nat} {v:Value} {d:DataW H} {p:List MemPlace}
  (hv:Value.okWide Tryz.prog W r b0 94 v) (h:DataW.Trod enc Tryz.prog W 0 (fun _=>true) true 94 v d p) (hz:∀ n∈d.weights Tryz.prog 94,n<=reachBytes):
  ∃ (A1 A2 A3:Option Addr) (c1 c2 c3:Nat) (x:LaidC),v=.agg (laidV x A1 A2 A3 c1 c2 c3).toArray/\LaidCAt W A1 A2 A3 x:=by
 obtain ⟨cs,rfl,hsz⟩:=okWide_struct Tryz.underlying94 hv
 obtain ⟨c0,c1,c2,c3,c4,c5,c6,rfl⟩:=array7 cs (hsz.trans cells25L)
 obtain ⟨fuel,hf⟩:=h
 obtain ⟨y0,y1,y2,y3,y4,y5,y6,n,t0,t1,t2,t3,t4,t5,t6,hd⟩:=trod_struct7 Tryz.underlying94 hf
 simp only [cells25b,cells25H,cells25B] at t0 t1 t2 t3 t4 t5 t6
 obtain ⟨A1,p1,l1,e1,k1,h1⟩:=hds_cells t1
 obtain ⟨A2,p2,l2,e2,k2,h2,z2⟩:=u8_cells t2
 obtain ⟨A3,p3,l3,e3,k3,h3,_⟩:=u8_cells t3
 obtain ⟨x0,e0,_,w0⟩:=DataW.trod_int Tryz.underlying5 t0
 obtain ⟨x4,e4,_,w4⟩:=DataW.trod_int Tryz.underlying5 t4
 obtain ⟨x5,e5,_,w5⟩:=DataW.trod_int Tryz.underlying5 t5
 obtain ⟨x6,e6,_,w6⟩:=DataW.trod_int Tryz.underlying5 t6
 simp [Value.cells] at e0 e1 e2 e3 e4 e5 e6
 obtain ⟨m0,rfl,b0'⟩:=nat_u8 w0
 obtain ⟨m4,rfl,b4⟩:=nat_u8 w4
 obtain ⟨m5,rfl,b5⟩:=nat_u8 w5
 obtain ⟨m6,rfl,b6⟩:=nat_u8 w6
 subst e0 e1 e2 e3 e4 e5 e6
 have hl2:l2.length<=4611686018427387904:=by
  rcases z2 with rfl | ⟨e,s,he,hl⟩
  ·decide
  ·have hd:d=.agg [y0.1,y1.1,y2.1,y3.1,y4.1,y5.1,y6.1]:=hd
   have hw:((e.length+s.length)*Tryz.prog.bytesOf 5)∈d.weights Tryz.prog 94:=by
    rw [hd,he]
    simp only [DataW.weights,Tryz.underlying94]
    exact DataW.weights_mem_each (j:=2) (t:=61) (d:=.slice e s) rfl rfl _ (by simp [DataW.weights,Tryz.underlying61])
   have:=hz _ hw
   rw [bytes25b] at this
   have:=reachBytes_lt
   omega
 unfold maxLen at k1 k3
 exact ⟨A1,A2,A3,p1,p2,p3,⟨m0,l1,l2,l3,m4,m5,m6⟩,rfl,⟨h1,h2,h3,k1,hl2,k3,b0',b4,b5,b6⟩⟩
end Go.Proofs.YthgdadohijgleaaGreatDoor
end
section
namespace Go.Proofs.YthgdadohijgleaaGreatDoor
open Go.ChangeShapes Go.WideShapes Go.ChangeAt Go.RowKit Word
def U16At (w:World) (A:Option Addr) (l:List Nat):Prop:=∀ i (h:i<l.length),l[i]<=65535/\∃ b o,A=some ⟨b,o,none⟩/\b<w.heap.size/\w.cell? ⟨b,o+i,none⟩=some (.int .u16 (l[i]:Nat))
theorem U16At.gr {w w':World} {A:Option Addr} {l:List Nat} (h:U16At w A l) (g:Gr w w'):U16At w' A l:=fun i hi=>by
 obtain ⟨h1,b,o,h2,h3,h4⟩:=h i hi
 exact ⟨h1,b,o,h2,Nat.lt_of_lt_of_le h3 g.size,(g.cell h3 _).trans h4⟩
theorem bd_u16 {n:Int} (h:(Lit.int .u16 n).wf=true):0<=n/\n<=65535:=by
 simpa [Lit.wf,IntKind.min,IntKind.max,IntKind.signed,IntKind.bits] using h
theorem nat_u64 {k:Int} (h:(Lit.int .u64 k).wf=true):∃ m:Nat,k=m/\m<18446744073709551616:=by
 have:0<=k/\k<=18446744073709551615:=by simpa [Lit.wf,IntKind.min,IntKind.max,IntKind.signed,IntKind.bits] using h
 exact ⟨k.toNat,by omega,by omega⟩
theorem cells24u:Tryz.prog.cellsOf 114=1:=by kernel_rfl
set_option maxRecDepth 100000 in
theorem open_u16s {H:Type} {enc:TypeId × Value->H} {W:World} {r:Reach} {b0:Nat} {v:Value} {d:DataW H} {p:List MemPlace}
  (hv:Value.okWide Tryz.prog W r b0 95 v) (h:DataW.Trod enc Tryz.prog W 0 (fun _=>true) true 95 v d p):
  ∃ (A:Option Addr) (cap:Nat) (l:List Nat),v=.slice A l.length cap/\l.length<=maxLen/\U16At W A l:=by
 obtain ⟨A,len,cap,rfl⟩:=okWide_slice Tryz.underlying95 hv
 obtain ⟨fuel,hf⟩:=h
 rcases Go.Deep.open_slice Tryz.underlying95 hf with ⟨hcs,_⟩ | ⟨a,len',cap',m,n,D,Pl,hcs,_,hl,hm,hmm,_,hi⟩
 ·simp [Value.cells] at hcs
  obtain ⟨rfl,rfl,rfl⟩:=hcs
  exact ⟨none,0,[],rfl,Nat.zero_le _,fun i h=>absurd h (by simp)⟩
 ·simp [Value.cells] at hcs
  obtain ⟨rfl,rfl,rfl⟩:=hcs
  have hle:len<=m:=by rw [hmm];simpa using hl
  obtain ⟨l,hlen,hR⟩:=list_of (fun i (x:Nat)=>x<=65535/\W.cell? (a.add i)=some (.int .u16 (x:Nat))) len (fun i hil=>by
   obtain ⟨cs,hc,ht⟩:=hi i (by omega)
   rw [cells24u,Nat.mul_one] at hc
   obtain ⟨_,hcl,hat⟩:=World.cells?_some hc
   obtain ⟨k,e0,_,w0⟩:=DataW.trod_int Tryz.underlying114 ht
   subst e0
   have hb:=bd_u16 w0
   refine ⟨k.toNat,by omega,?_⟩
   have:=hat 0 (by simp)
   rw [add_add_,Nat.add_zero] at this
   rw [this]
   show some (Value.int .u16 k)=some (Value.int .u16 ((k.toNat:Nat):Int))
   rw [show ((k.toNat:Nat):Int)=k by omega])
  subst hlen
  refine ⟨some a,cap,l,rfl,by omega,fun i hil=>?_⟩
  obtain ⟨h0,h1⟩:=hR i hil
  have hs:a.spot=none:=by
   have h0:=(hR 0 (by omega)).2
   have:=spot_of_cell h0
   simpa [Addr.add] using this
  obtain ⟨b,o,s⟩:=a
  simp only at hs
  subst hs
  have ha:∀ k,Addr.add ⟨b,o,none⟩ k=⟨b,o+k,none⟩:=fun k=>by unfold Addr.add;split <;> simp_all
  rw [ha] at h1
  exact ⟨h0,b,o,rfl,lt_of_cell h1,h1⟩
end Go.Proofs.YthgdadohijgleaaGreatDoor
end
section
namespace Go.Proofs.YthgdadohijgleaaGreatDoor
open Go.RowKit Word
def mpN (v:Vm):Nat->Vm
 | 0=>v
 | k+1=>(mpN v k).mp (k:Nat)
theorem mpN_inv {v:Vm} (h:VmOk v) (hu:v.pl.used=0) (hl:∀ p,p<v.pt.length->v.pt.getD p 0=0) (hr:v.pt.length<=v.pl.rm) {k:Nat} (hk:k<=v.pt.length):Grown v (mpN v k) (List.range k):=by
 induction k with
 | zero=>exact Grown.refl h
 | succ k ih=>
  have ih:=ih (by omega)
  have hln:=ih.len h
  have hz:(mpN v k).pt.getD k 0=0:=by
   have:=ih.ma k (by omega)
   by_cases h0:(mpN v k).pt.getD k 0=0
   ·exact h0
   ·rcases this.1 h0 with h1 | h1
    ·exact absurd (hl k (by omega)) h1
    ·exact absurd (List.mem_range.1 h1) (Nat.lt_irrefl _)
  have hE:(mpN v k).mpE (k:Nat)=0:=by
   unfold Vm.mpE
   have h1:pgE (mpN v k).pt (k:Nat)=0:=by unfold pgE;rw [hln];exact if_pos (by omega)
   have h2:=ih.us
   rw [List.length_range,hu] at h2
   rw [if_neg (fun h=>h h1),Int.toNat_natCast,if_neg (fun h=>h hz),if_neg]
   rw [ih.rm]
   omega
  rw [List.range_succ]
  exact ih.mp h hE
def stN (v:Vm) (f:Nat->Nat):Nat->Vm
 | 0=>v
 | k+1=>(stN v f k).st (k:Nat) (f k)
structure StGh (v v':Vm) (f:Nat->Nat) (k:Nat):Prop where
 ok:VmOk v'
 sm:SamePg v v'
 vl:∀ a:Nat,a<k->v'.ldV a=f a
theorem stN_inv {v:Vm} (h:VmOk v) (hl:∀ a:Nat,a<v.n->v.ldE a=0) {f:Nat->Nat} (hf:∀ a,f a<18446744073709551616) {k:Nat} (hk:k<=v.n):StGh v (stN v f k) f k:=by
 induction k with
 | zero=>exact ⟨h,SamePg.refl v,fun a ha=>absurd ha (Nat.not_lt_zero _)⟩
 | succ k ih=>
  have ih:=ih (by omega)
  have hE:(stN v f k).ldE (k:Nat)=0:=by rw [ih.sm.ldE];exact hl k (by omega)
  refine ⟨ih.ok.st _ (hf k),ih.sm.trans (SamePg.st _ _ _),fun a ha=>?_⟩
  show ((stN v f k).st (k:Nat) (f k)).ldV a=_
  rw [ih.ok.st_ldV _ hE]
  by_cases e:(k:Int)=a
  ·rw [if_pos e]
   obtain rfl:k=a:=by omega
   rfl
  ·rw [if_neg e]
   exact ih.vl a (by omega)
theorem ghost {n:Nat} (h1:1<=n) (h2:n<=4096) {f:Nat->Nat} (hf:∀ a,f a<18446744073709551616):∃ u:Vm,FullN n u/\∀ a:Nat,a<n->u.ldV a=f a:=by
 have hok:VmOk (Vm.new n 1 n):=VmOk.new (by unfold roomOk;simp;omega) (by decide) h1 (by omega) (Nat.mod_one n)
 have hlen:(Vm.new n 1 n).pt.length=n:=by show (List.replicate (n/1) 0).length=n;rw [List.length_replicate,Nat.div_one]
 have hm:=mpN_inv hok rfl (fun p hp=>by show (List.replicate (n/1) 0).getD p 0=0;exact rep_getD _ _) (by rw [hlen];exact Nat.le_refl _) (k:=n) (by rw [hlen];exact Nat.le_refl _)
 have hn:(mpN (Vm.new n 1 n) n).n=n:=hm.n
 have hl:∀ a:Nat,a<n->(mpN (Vm.new n 1 n) n).ldE a=0:=fun a ha=>by
  rw [hm.ldE hok (show a<(Vm.new n 1 n).n from ha),if_pos]
  rw [List.mem_range]
  show a/1<n
  rw [Nat.div_one];exact ha
 have hs:=stN_inv hm.ok (fun a ha=>hl a (by rw [hn] at ha;exact ha)) hf (k:=n) (by rw [hn];exact Nat.le_refl _)
 exact ⟨_,⟨hs.ok,hs.sm.n.trans hn,fun a ha=>by rw [hs.sm.ldE];exact hl a ha,h1⟩,hs.vl⟩
theorem ghost_wider {n:Nat} {u v:Vm} (hu:FullN n u) (hn:v.n=n) (hv:∀ a:Nat,a<n->u.ldV a=v.ldV a):Wider v u:=by
 refine ⟨hu.n.trans hn.symm,fun a ha=>?_⟩
 obtain ⟨h0,h1⟩:=ldE_in ha
 obtain ⟨j,rfl⟩:∃ j:Nat,a=j:=⟨a.toNat,by omega⟩
 exact ⟨hu.al j (by omega),hv j (by omega)⟩
end Go.Proofs.YthgdadohijgleaaGreatDoor
end
section
namespace Go.Proofs.YthgdadohijgleaaGreatDoor
open Go.RowKit Word
theorem rch_obj {v:Vm} {rs:List Int} {n:Nat} (hS:Sound v rs n) {a:Int} (ha:Rch v rs a):
  ∃ b p f k:Nat,a=b/\v.rdE a=0/\v.rdH a=⟨p,f,k⟩/\p+f+k<=255/\(b:Int)+(1+p+f+k)<=n/\0<b/\v.osz a=1+(p:Int)+f+k ∧
   ∀ m:Nat,m<p->v.ldE (a+1+m)=0/\v.ldV (a+1+m)<=2147483647/\(v.ldV (a+1+m)≠0->Rch v rs (v.ldV (a+1+m):Nat)):=by
 have hrd:=hS.rd a ha
 obtain ⟨h0,-,p,f,k,hh,hs⟩:=rdE_zero hrd
 obtain ⟨b,rfl⟩:∃ b:Nat,a=b:=⟨a.toNat,by omega⟩
 have ho:v.osz b=1+(p:Int)+f+k:=by unfold Vm.osz;rw [hh];exact if_pos (hdrE_of hs)
 have hin:=hS.rm b ha
 refine ⟨b,p,f,k,rfl,hrd,hh,hs,by omega,by omega,ho,fun m hm=>?_⟩
 have hm':(m:Int)<(v.rdH b).p:=by rw [hh];show (m:Int)<(p:Int);omega
 have hpt:=hS.pt b ha m hm'
 have he:=ptV_of hpt
 refine ⟨he.2.2.1,he.2.1,fun h0=>?_⟩
 exact ha.step ⟨hrd,m,hm',hpt,by rw [he.1];exact h0,by rw [he.1]⟩
section
variable {w:World} {A0 A:Option Addr} {cp cr M:Nat} {v:Vm} {rs:List Int} {L:List Ob}
end
end Go.Proofs.YthgdadohijgleaaGreatDoor
end
section
namespace Go.Proofs.YthgdadohijgleaaGreatDoor
open Go.RowKit Word
theorem pk_le {n:Nat} {L:List Ob} (hg:Good n L) {fr:Nat} (hf:∀ o∈L,fr<=o.1) {j:Nat} (hj:j<L.length):fr+sizes (L.take j)<=L[j].1:=by
 induction j with
 | zero=>simpa [sizes] using hf _ (List.getElem_mem hj)
 | succ j ih=>
  have h1:=ih (by omega)
  have h2:=hg.at (by omega) hj (Nat.lt_succ_self j)
  have h3:=sizes_take (L:=L) (j:=j) (by omega)
  omega
theorem rd_congr {v v':Vm} {a:Int} (h1:v'.ldE a=v.ldE a) (h2:v'.ldV a=v.ldV a):v'.rdE a=v.rdE a/\v'.rdH a=v.rdH a:=by
 unfold Vm.rdE Vm.rdH
 rw [h1,h2]
 exact ⟨rfl,rfl⟩
section
variable {v v':Vm} {rs:List Int} {L:List Ob} {fr tp:Nat}
end
end Go.Proofs.YthgdadohijgleaaGreatDoor
end
section
namespace Go.Proofs.YthgdadohijgleaaGreatDoor
open Go.RowKit Word
section
variable {w:World} {S:Nat->Prop} {q F f n B:Nat} {v v':Vm} {rs:List Int} {L:List Ob} {fr tp j:Nat}
theorem kind_not {p f k:Nat} {i:Int} (h:¬ (0<=i/\i<p)):kindOf ⟨p,f,k⟩ i≠1:=by
 unfold kindOf
 split
 ·rename_i h0
  rw [if_neg (by show ¬ i<(p:Int);omega)]
  split <;> decide
 ·decide
end
end Go.Proofs.YthgdadohijgleaaGreatDoor
end
section
namespace Go.Proofs.YthgdadohijgleaaGreatDoor
open Go.RowKit Word
theorem over_nonneg (o:Ob) (f t:Int):0<=over o f t:=by unfold over;omega
theorem overs_nonneg (L:List Ob) (f t:Int):0<=overs L f t:=by
 induction L with
 | nil=>exact Int.le_refl _
 | cons o r ih=>have:=over_nonneg o f t;show 0<=over o f t+overs r f t;omega
def PkIn (v:Vm) (rs:List Int) (fr tp:Int) (L:List Ob):Prop:=Marks v rs v.n L/\∀ o∈L,fr<=(o.1:Int)/\(o.1:Int)+o.2<=tp
def PkReach (w:World) (S:Nat->Prop) (q:Nat) (v:Vm) (rs:List Int) (fr tp:Nat) (e:Ending) (w':World):Prop:=
 Touch S w w'/\VmAt w' (cutS S w) q v ∧
  ((∃ L m p1 b1 p2 b2,PkIn v rs fr tp L/\e=.returned (.tuple #[.pointer (some ⟨m,0,none⟩),.int .i64 0])/\Ext w' m p1 b1 p2 b2 v.n L/\w.heap.size<=m/\w.heap.size<=p1/\w.heap.size<=b1/\w.heap.size<=p2/\w.heap.size<=b2) ∨
   ((∀ L,¬ PkIn v rs fr tp L)/\e=.returned (.tuple #[.pointer none,.int .i64 25])))
section
variable {w:World} {S:Nat->Prop} {q r g:Nat} {v:Vm} {rs:List Int}
end
end Go.Proofs.YthgdadohijgleaaGreatDoor
end
section
namespace Go.Proofs.YthgdadohijgleaaGreatDoor
open Go.RowKit Word
theorem Grown.ldV_all {v v':Vm} {F:List Nat} (h:Grown v v' F) (hv:VmOk v) {a:Nat} (ha:a<v.n):v'.ldV a=v.ldV a:=by
 rw [h.vl a ha]
 by_cases hf:a/v.pl.pg∈F
 ·rw [if_pos hf]
  have:v.ldE a=12:=by rw [hv.ldE_of ha,if_pos (h.un _ hf).2]
  unfold Vm.ldV
  rw [if_neg (by rw [this];decide)]
 ·rw [if_neg hf]
section
variable {w:World} {S:Nat->Prop} {q r g:Nat} {v:Vm} {rs:List Int}
variable {F f n B fr:Nat} {L:List Ob}
end
end Go.Proofs.YthgdadohijgleaaGreatDoor
end
section
namespace Go.Proofs.YthgdadohijgleaaGreatDoor
open Go.RowKit Word
def srcO (L:List Ob) (i:Nat):Nat:=(wordO L i).getD 0
theorem src_at {L:List Ob} {j m:Nat} (hj:j<L.length) (hm:m<L[j].2):srcO L (sizes (L.take j)+m)=L[j].1+m:=by
 unfold srcO;rw [wordO_take hj hm];rfl
theorem src_spec {L:List Ob} {i:Nat} (h:i<sizes L):∃ hj:placeO L i<L.length,∃ m,m<(L[placeO L i]'hj).2/\i=sizes (L.take (placeO L i))+m/\srcO L i=(L[placeO L i]'hj).1+m:=by
 obtain ⟨hj,m,h1,h2,h3⟩:=placeO_spec h
 exact ⟨hj,m,h1,h2,by unfold srcO;rw [h3];rfl⟩
theorem src_wordV {L:List Ob} {i:Nat}:wordV L (i:Int)=(srcO L i:Int):=by
 unfold wordV srcO
 rw [if_neg (by omega),Int.toNat_natCast]
theorem src_from {L:List Ob} {base i:Nat} (h:i<sizes L):fromV L base ((base+i:Nat):Int)=(srcO L i:Int)/\fromE L base ((base+i:Nat):Int)=0:=by
 have hin:inF L base ((base+i:Nat):Int)=true:=inF_iff.2 (by omega)
 unfold fromV fromE
 rw [hin,if_pos rfl,if_pos rfl,show ((base+i:Nat):Int)-(base:Int)=(i:Int) by omega]
 exact ⟨src_wordV,rfl⟩
theorem src_ge {n:Nat} {L:List Ob} (hg:Good n L) {fr:Nat} (hf:∀ o∈L,fr<=o.1) {i:Nat} (hi:i<sizes L):fr+i<=srcO L i:=by
 obtain ⟨hj,m,h1,h2,h3⟩:=src_spec hi
 have:=pk_le hg hf hj
 omega
theorem src_in {L:List Ob} {fr tp:Nat} (hf:∀ o∈L,fr<=o.1/\o.1+o.2<=tp) {i:Nat} (hi:i<sizes L):fr<=srcO L i/\srcO L i<tp:=by
 obtain ⟨hj,m,h1,h2,h3⟩:=src_spec hi
 have:=hf _ (List.getElem_mem hj)
 omega
theorem src_find {n:Nat} {L:List Ob} (hg:Good n L) {i:Nat} (hi:i<sizes L):findO L (srcO L i:Nat)=placeO L i:=by
 obtain ⟨hj,m,h1,h2,h3⟩:=src_spec hi
 obtain ⟨j,hj',e1,e2,e3,e4,-⟩:=from_in hg (base:=((0:Nat):Int)) (b:=(i:Int)) (inF_iff.2 (by omega))
 have hs:=(src_from (base:=0) hi).1
 rw [Nat.zero_add] at hs
 rw [hs] at e2 e3 e4
 have:placeO L i=j:=by
  rw [h3] at e2 e3
  rcases hg.disj (List.getElem_mem hj) (List.getElem_mem hj') with e | e | e
  ·rcases Nat.lt_trichotomy (placeO L i) j with h | h | h
   ·have:=hg.at hj hj' h;have:=(hg.sz _ (List.getElem_mem hj)).1;rw [e] at this;omega
   ·exact h
   ·have:=hg.at hj' hj h;have:=(hg.sz _ (List.getElem_mem hj)).1;rw [e] at this;omega
  ·omega
  ·omega
 rw [this];exact e4
def cvH (L:List Ob) (tb:Nat) (h:Hdr) (m x:Nat):Nat:=if (1<=m/\(m:Int)<=h.p)/\x≠0 then (toV L tb (x:Nat)).toNat else x
structure Sl where
 n:Nat
 pg:Nat
 cf:Cf
 L:List Ob
 hd:Nat->Hdr
 c:Nat->Nat
 mv:List Bool
def Sl.mvd (s:Sl):Nat:=cnt (at_ s.mv) s.mv.length
def Sl.ft (s:Sl):Nat:=first (fun k=>!at_ s.mv k) s.mv.length
def Sl.lf (s:Sl):Nat:=s.mv.length-s.mvd
def Sl.is (s:Sl) (i:Nat):Bool:=at_ s.mv (i/s.cf.bk)
def Sl.off (s:Sl) (i:Nat):Nat:=i-sizes (s.L.take (placeO s.L i))
def Sl.hdr (s:Sl) (i:Nat):Hdr:=s.hd (s.L.getD (placeO s.L i) (0,0)).1
def Sl.cv (s:Sl) (i x:Nat):Nat:=cvH s.L s.cf.to (s.hdr i) (s.off i) x
def Sl.ptr (s:Sl) (i:Nat):Prop:=1<=s.off i/\(s.off i:Int)<=(s.hdr i).p
structure SlSt (s:Sl):Prop where
 pg:1<=s.pg/\s.pg<=256
 n2:s.n<=524288
 cf:CfOk s.pg s.n s.cf
 good:Good s.n s.L
 inn:∀ o∈s.L,s.cf.fr<=o.1/\o.1+o.2<=s.cf.tp
 fit:s.cf.to+sizes s.L<=s.cf.lm
 hd:∀ j (hj:j<s.L.length),∃ p f k:Nat,s.hd s.L[j].1=⟨p,f,k⟩/\p+f+k<=255/\s.L[j].2=1+p+f+k
 len:s.mv.length=nbl (sizes s.L) s.cf.bk
section
variable {s:Sl}
theorem SlSt.bk (h:SlSt s):1<=s.cf.bk/\s.cf.bk<=1024:=by have:=blockOk_pos h.cf.bk;omega
theorem SlSt.N_le (h:SlSt s):sizes s.L<=s.n:=sizes_le h.good
theorem div_up {a b p:Nat} (hp:1<=p) (hb:b%p=0) (h:a<b):a/p<b/p:=by
 have h1:=Nat.div_add_mod b p
 rw [Nat.div_lt_iff_lt_mul (by omega),Nat.mul_comm]
 omega
theorem upN_ge {n B:Nat} (hB:1<=B):n<=upN n B/\upN n B%B=0:=by
 unfold upN
 have h1:=Nat.div_add_mod (n+B-1) B
 have h2:=Nat.mod_lt (n+B-1) (show 0<B by omega)
 rw [Nat.mul_comm] at h1
 exact ⟨by omega,Nat.mul_mod_left _ _⟩
theorem SlSt.apart (h:SlSt s) {a b:Nat} (ha:s.cf.fr<=a/\a<s.cf.tp) (hb:s.cf.to<=b/\b<s.cf.lm):a/s.pg≠b/s.pg:=by
 have hu:=upN_ge (n:=s.cf.tp) h.pg.1
 have hn:s.cf.lm<=s.cf.fr\/upN s.cf.tp s.pg<=s.cf.to:=by
  have:=h.cf.ap
  omega
 rcases hn with e | e
 ·have h1:=div_up h.pg.1 h.cf.al hb.2
  have h2:=Nat.div_le_div_right (c:=s.pg) (Nat.le_trans e ha.1)
  omega
 ·have h1:=div_up (a:=a) h.pg.1 hu.2 (by omega)
  have h2:=Nat.div_le_div_right (c:=s.pg) (Nat.le_trans e hb.1)
  omega
theorem SlSt.srcs (h:SlSt s) {i:Nat} (hi:i<sizes s.L):s.cf.fr<=srcO s.L i/\srcO s.L i<s.cf.tp/\srcO s.L i<s.n:=by
 have h1:=src_in h.inn hi
 have h2:=h.cf.tn
 omega
theorem SlSt.dsts (h:SlSt s) {i:Nat} (hi:i<sizes s.L):s.cf.to+i<s.cf.lm/\s.cf.to+i<s.n:=by
 have h1:=h.fit
 have h2:=h.cf.ln
 omega
theorem SlSt.obj (h:SlSt s) {i:Nat} (hi:i<sizes s.L):∃ j,∃ hj:j<s.L.length,∃ m p f k:Nat,placeO s.L i=j/\m<s.L[j].2/\i=sizes (s.L.take j)+m/\srcO s.L i=s.L[j].1+m/\s.off i=m/\s.hdr i=s.hd s.L[j].1/\s.hd s.L[j].1=⟨p,f,k⟩/\p+f+k<=255/\s.L[j].2=1+p+f+k:=by
 obtain ⟨hj,m,h1,h2,h3⟩:=src_spec hi
 obtain ⟨p,f,k,e1,e2,e3⟩:=h.hd _ hj
 refine ⟨placeO s.L i,hj,m,p,f,k,rfl,h1,h2,h3,by unfold Sl.off;omega,?_,e1,e2,e3⟩
 unfold Sl.hdr
 rw [List.getD_eq_getElem?_getD,List.getElem?_eq_getElem hj];rfl
theorem SlSt.blk (h:SlSt s) {i:Nat} (hi:i<sizes s.L):i/s.cf.bk<s.mv.length:=by
 rw [h.len,nbl_lt h.bk.1]
 have:=Nat.div_mul_le_self i s.cf.bk
 omega
theorem SlSt.mv (h:SlSt s) (l:List Bool) (hl:l.length=s.mv.length):SlSt { s with mv:=l }:=
 ⟨h.pg,h.n2,h.cf,h.good,h.inn,h.fit,h.hd,hl.trans h.len⟩
end
theorem to_nonneg (L:List Ob) (tb:Nat) (a:Int):0<=toV L tb a:=by
 unfold toV
 split
 ·have:=overs_nonneg L 0 a;omega
 ·exact Int.le_refl _
theorem SlSt.to_lt {s:Sl} (h:SlSt s) (a:Int):toV s.L s.cf.to a<4294967296:=by
 unfold toV
 split
 ·have h1:=overs_to h.good (by have:=h.n2;omega) a
  have h2:=h.cf.lm
  have h3:=h.cf.ln
  have h4:=h.n2
  omega
 ·omega
theorem SlSt.cv_lt {s:Sl} (h:SlSt s) (i:Nat) {x:Nat} (hx:x<18446744073709551616):s.cv i x<18446744073709551616:=by
 unfold Sl.cv cvH
 split
 ·have:=h.to_lt (x:Nat);omega
 ·exact hx
structure SlMid (s:Sl) (D U:Nat->Bool) (v:Vm):Prop where
 ok:VmOk v
 n:v.n=s.n
 pg:v.pl.pg=s.pg
 src:∀ i,i<sizes s.L->U i=true->v.ldE (srcO s.L i:Nat)=0/\s.cv i (v.ldV (srcO s.L i:Nat))=s.c i/\(s.ptr i->v.ldV (srcO s.L i:Nat)<=2147483647)
 dst:∀ i,i<sizes s.L->D i=true->v.ldE ((s.cf.to+i:Nat):Int)=0/\v.ldV ((s.cf.to+i:Nat):Int)=s.c i
structure SlOk (s:Sl) (v:Vm):Prop where
 st:SlSt s
 mid:SlMid s s.is (fun i=>!s.is i) v
def Sl.inB (s:Sl) (k i:Nat):Bool:=i/s.cf.bk==k
def Sl.lo (s:Sl) (k:Nat):Nat:=k*s.cf.bk
def Sl.hi (s:Sl) (k:Nat):Nat:=min (k*s.cf.bk+s.cf.bk) (sizes s.L)
theorem SlSt.inB {s:Sl} (h:SlSt s) {k i:Nat} (hi:i<sizes s.L):s.inB k i=true↔s.lo k<=i/\i<s.hi k:=by
 unfold Sl.inB Sl.lo Sl.hi
 have hb:=h.bk.1
 have h1:=Nat.div_add_mod i s.cf.bk
 have h2:=Nat.mod_lt i (show 0<s.cf.bk by omega)
 rw [beq_iff_eq]
 constructor
 ·rintro rfl
  rw [Nat.mul_comm] at h1
  omega
 ·rintro ⟨h3,h4⟩
  refine Nat.div_eq_of_lt_le h3 ?_
  rw [Nat.succ_mul];omega
theorem SlSt.lohi {s:Sl} (h:SlSt s) {k:Nat} (hk:k<s.mv.length):s.lo k<s.hi k/\s.hi k<=s.lo k+s.cf.bk/\s.hi k<=sizes s.L:=by
 rw [h.len,nbl_lt h.bk.1] at hk
 have:=h.bk.1
 unfold Sl.lo Sl.hi
 omega
theorem Sl.is_put {s:Sl} {k:Nat} (hk:k<s.mv.length) (i:Nat):({ s with mv:=s.mv.set k true }:Sl).is i=(s.is i||s.inB k i):=by
 unfold Sl.is Sl.inB
 rw [at_set2 hk]
 by_cases h:i/s.cf.bk=k
 ·rw [if_pos h];simp [h]
 ·rw [if_neg h];simp [h]
end Go.Proofs.YthgdadohijgleaaGreatDoor
end
section
namespace Go.Proofs.YthgdadohijgleaaGreatDoor
open Go.RowKit Word
theorem cnt_one {n i:Nat} (hi:i<n):cnt (fun j=>j==i) n=1:=by
 have e:cnt (fun j=>j==i) n=cnt (fun j=>decide (i<=j/\j<i+1)) n:=cnt_congr fun j _=>by
  by_cases h:j=i
  ·subst h;simp
  ·have:¬ (i<=j/\j<i+1):=by omega
   simp [h,this]
 rw [e,cnt_run i (i+1) n (by omega) (by omega)];omega
theorem cnt_more {f:Nat->Bool} {n i:Nat} (hi:i<n) (h:f i=false):cnt (fun j=>f j||j==i) n=cnt f n+1:=by
 rw [cnt_or (fun j=>by by_cases e:j=i;(subst e;simp [h]);(simp [e])) n,cnt_one hi]
theorem cnt_less {f:Nat->Bool} {n i:Nat} (hi:i<n) (h:f i=true):cnt (fun j=>f j&&!(j==i)) n+1=cnt f n:=by
 rw [<-cnt_more (f:=fun j=>f j&&!(j==i)) hi (by simp)]
 refine cnt_congr fun j _=>?_
 by_cases e:j=i
 ·subst e;simp [h]
 ·have e':(j==i)=false:=beq_eq_false_iff_ne.2 e
  simp [e']
def Sl.on (s:Sl) (U:Nat->Bool) (q:Nat):Nat:=cnt (fun i=>U i&&(srcO s.L i/s.pg==q)) (sizes s.L)
def but (U:Nat->Bool) (i:Nat):Nat->Bool:=fun j=>U j&&!(j==i)
theorem but_ne {U:Nat->Bool} {i j:Nat} (h:j≠i):but U i j=U j:=by
 have e':(j==i)=false:=beq_eq_false_iff_ne.2 h
 simp [but,e']
theorem but_self {U:Nat->Bool} {i:Nat}:but U i i=false:=by simp [but]
section
variable {s:Sl} {U:Nat->Bool} {i q:Nat}
theorem Sl.on_but (hi:i<sizes s.L) (h:U i=true):s.on (but U i) q+(if srcO s.L i/s.pg=q then 1 else 0)=s.on U q:=by
 unfold Sl.on but
 by_cases e:srcO s.L i/s.pg=q
 ·rw [if_pos e,<-cnt_less (f:=fun i=>U i&&(srcO s.L i/s.pg==q)) hi (by simp [h,e])]
  congr 1
  refine cnt_congr fun j _=>?_
  cases U j <;> cases (srcO s.L j/s.pg==q) <;> simp
 ·rw [if_neg e,Nat.add_zero]
  refine cnt_congr fun j _=>?_
  by_cases hj:j=i
  ·subst hj;simp [e]
  ·have e':(j==i)=false:=beq_eq_false_iff_ne.2 hj
   simp [e']
theorem Sl.on_le (s:Sl) (U:Nat->Bool) (q:Nat):s.on U q<=sizes s.L:=cnt_le _ _
theorem Sl.on_zero (h:s.on U q=0) {j:Nat} (hj:j<sizes s.L) (hU:U j=true):srcO s.L j/s.pg≠q:=by
 have:=cnt_zero_iff h j hj
 intro e
 simp [hU,e] at this
theorem Sl.on_pos (hj:i<sizes s.L) (hU:U i=true) (he:srcO s.L i/s.pg=q):1<=s.on U q:=by
 rcases Nat.eq_zero_or_pos (s.on U q) with h | h
 ·exact absurd he (Sl.on_zero h hj hU)
 ·exact h
theorem Sl.on_iff:s.on U q=0↔∀ j,j<sizes s.L->U j=true->srcO s.L j/s.pg≠q:=
 ⟨fun h _ hj hU=>Sl.on_zero h hj hU,fun h=>cnt_none fun j hj=>by
  cases hU:U j with
  | false=>rfl
  | true=>simpa using h j hj hU⟩
theorem Sl.on_congr {V:Nat->Bool} (h:∀ j,j<sizes s.L->U j=V j):s.on U q=s.on V q:=cnt_congr fun j hj=>by rw [h j hj]
end
section
variable {s:Sl} {D U:Nat->Bool} {v v1 v':Vm}
theorem SlMid.congr {D' U':Nat->Bool} (h:SlMid s D U v) (hD:∀ i,i<sizes s.L->D' i=true->D i=true) (hU:∀ i,i<sizes s.L->U' i=true->U i=true):SlMid s D' U' v:=
 ⟨h.ok,h.n,h.pg,fun i hi hu=>h.src i hi (hU i hi hu),fun i hi hd=>h.dst i hi (hD i hi hd)⟩
theorem SlMid.mvd (h:SlMid s D U v) (l:List Bool):SlMid { s with mv:=l } D U v:=⟨h.ok,h.n,h.pg,h.src,h.dst⟩
theorem SlMid.grow {F:List Nat} (hs:SlSt s) (h:SlMid s D U v) (g:Grown v v1 F):SlMid s D U v1:=by
 refine ⟨g.ok,g.n.trans h.n,g.pg.trans h.pg,fun i hi hu=>?_,fun i hi hd=>?_⟩
 ·obtain ⟨h1,h2,h3⟩:=h.src i hi hu
  have hl:=(hs.srcs hi).2.2
  rw [<-h.n] at hl
  rw [g.ldV_all h.ok hl,g.ldE h.ok hl]
  exact ⟨by split <;> first | rfl | exact h1,h2,h3⟩
 ·obtain ⟨h1,h2⟩:=h.dst i hi hd
  have hl:=(hs.dsts hi).2
  rw [<-h.n] at hl
  rw [g.ldV_all h.ok hl,g.ldE h.ok hl]
  exact ⟨by split <;> first | rfl | exact h1,h2⟩
theorem SlMid.put (hs:SlSt s) (h:SlMid s D U v) {i:Nat} (hi:i<sizes s.L) (hl:v.ldE ((s.cf.to+i:Nat):Int)=0) {x:Nat} (hx:x=s.c i) (hx2:x<18446744073709551616):SlMid s (fun j=>D j||j==i) U (v.st ((s.cf.to+i:Nat):Int) x):=by
 have hst:=h.ok.st_ldV x hl
 refine ⟨h.ok.st _ hx2,(SamePg.st v _ x).n.trans h.n,(SamePg.st v _ x).pg.trans h.pg,fun j hj hu=>?_,fun j hj hd=>?_⟩
 ·obtain ⟨h1,h2,h3⟩:=h.src j hj hu
  have ha:(((s.cf.to+i:Nat):Int)≠(srcO s.L j:Nat)):=fun e=>hs.apart ⟨(hs.srcs hj).1,(hs.srcs hj).2.1⟩ ⟨Nat.le_add_right _ i,(hs.dsts hi).1⟩ (by rw [show srcO s.L j=s.cf.to+i by omega])
  rw [st_ldE,hst,if_neg ha]
  exact ⟨h1,h2,h3⟩
 ·rw [st_ldE,hst]
  by_cases e:i=j
  ·subst e
   rw [if_pos rfl]
   exact ⟨hl,hx⟩
  ·rw [if_neg (by omega)]
   exact h.dst j hj (by simpa [Ne.symm e] using hd)
structure SlCp (s:Sl) (D U:Nat->Bool) (lo hi:Nat) (v1 v':Vm) (m:Nat):Prop where
 mid:SlMid s (fun j=>D j||(decide (lo<=j)&&decide (j<lo+m))) U v'
 sm:SamePg v1 v'
 oth:∀ a:Nat,(a<s.cf.to+lo\/s.cf.to+hi<=a)->v'.ldV a=v1.ldV a
theorem SlCp.zero (h:SlMid s D U v) (lo hi:Nat):SlCp s D U lo hi v v 0:=
 ⟨h.congr (fun i _ hd=>by
  rcases Bool.or_eq_true_iff.1 hd with h | h
  ·exact h
  ·simp at h;omega) (fun _ _ h=>h),SamePg.refl v,fun _ _=>rfl⟩
theorem SlCp.step (hs:SlSt s) {lo hi m:Nat} (h:SlCp s D U lo hi v1 v' m) (hm:lo+m<hi) (hhi:hi<=sizes s.L) (hl:v1.ldE ((s.cf.to+(lo+m):Nat):Int)=0) {x:Nat} (hx:x=s.c (lo+m)) (hx2:x<18446744073709551616):
  SlCp s D U lo hi v1 (v'.st ((s.cf.to+(lo+m):Nat):Int) x) (m+1):=by
 have hl':v'.ldE ((s.cf.to+(lo+m):Nat):Int)=0:=by rw [h.sm.ldE];exact hl
 refine ⟨(h.mid.put hs (by omega) hl' hx hx2).congr (fun i _ hd=>?_) (fun _ _ h=>h),h.sm.trans (SamePg.st _ _ _),fun a ha=>?_⟩
 ·simp only [Bool.or_eq_true,Bool.and_eq_true,decide_eq_true_eq,beq_iff_eq] at hd ⊢
  rcases hd with hd | hd
  ·exact .inl (.inl hd)
  ·by_cases e:i=lo+m
   ·exact .inr e
   ·exact .inl (.inr ⟨hd.1,by omega⟩)
 ·rw [h.mid.ok.st_ldV x hl',if_neg (by omega)]
  exact h.oth a ha
structure SlDr (s:Sl) (D U0 U:Nat->Bool) (v1 v':Vm):Prop where
 mid:SlMid s D U v'
 le:∀ i,i<sizes s.L->U i=true->U0 i=true
 rm:v'.pl.rm=v1.pl.rm
 map:∀ p,p<v1.pt.length->(v'.pt.getD p 0≠0↔v1.pt.getD p 0≠0/\¬ ∃ i,i<sizes s.L/\U0 i=true/\U i=false/\srcO s.L i/s.pg=p/\s.on U p=0)
 oth:∀ a:Nat,a<s.n->(∀ i,i<sizes s.L->srcO s.L i/s.pg≠a/s.pg)->v'.ldV a=v1.ldV a/\v'.ldE a=v1.ldE a
theorem SlDr.zero (h:SlMid s D U v):SlDr s D U U v v:=
 ⟨h,fun _ _ h=>h,rfl,fun p _=>⟨fun h=>⟨h,fun ⟨i,_,h1,h2,_⟩=>by rw [h1] at h2;cases h2⟩,fun h=>h.1⟩,fun _ _ _=>⟨rfl,rfl⟩⟩
theorem SlDr.keep {U0:Nat->Bool} (h:SlDr s D U0 U v1 v') {i:Nat} (hi:i<sizes s.L) (hU:U i=true) (hz:s.on (but U i) (srcO s.L i/s.pg)≠0):SlDr s D U0 (but U i) v1 v':=by
 have hle:∀ j,but U i j=true->U j=true:=fun j h=>by unfold but at h;exact (Bool.and_eq_true_iff.1 h).1
 refine ⟨h.mid.congr (fun _ _ h=>h) (fun j _ hj=>hle j hj),fun j hj hu=>h.le j hj (hle j hu),h.rm,fun p hp=>(h.map p hp).trans (and_congr_right fun _=>not_congr ?_),h.oth⟩
 have hon:=fun q=>Sl.on_but (s:=s) (U:=U) (i:=i) (q:=q) hi hU
 constructor
 ·rintro ⟨j,hj,h1,h2,h3,h4⟩
  have hji:j≠i:=fun e=>by subst e;rw [hU] at h2;cases h2
  have:=hon p
  exact ⟨j,hj,h1,by rw [but_ne hji];exact h2,h3,by omega⟩
 ·rintro ⟨j,hj,h1,h2,h3,h4⟩
  have hne:srcO s.L i/s.pg≠p:=fun e=>by rw [e] at hz;exact hz h4
  have hji:j≠i:=fun e=>by subst e;exact hne h3
  have:=hon p
  rw [if_neg hne] at this
  exact ⟨j,hj,h1,by rw [but_ne hji] at h2;exact h2,h3,by omega⟩
theorem um_pt {v:Vm} {p:Nat} (h:frE v.pt (p:Int)=0) (k:Nat):(v.um (p:Int)).pt.getD k 0≠0↔v.pt.getD k 0≠0/\k≠p:=by
 unfold Vm.um
 rw [if_pos h]
 show (v.pt.set ((p:Int).toNat) 0).getD k 0≠0↔_
 rw [Int.toNat_natCast,List.getD_eq_getElem?_getD,List.getD_eq_getElem?_getD,List.getElem?_set]
 by_cases e:p=k
 ·subst e
  rw [if_pos rfl]
  split <;> simp
 ·rw [if_neg e]
  exact ⟨fun h=>⟨h,fun e'=>e e'.symm⟩,fun h=>h.1⟩
theorem SlDr.drop (hs:SlSt s) {U0:Nat->Bool} (h:SlDr s D U0 U v1 v') {i:Nat} (hi:i<sizes s.L) (hU:U i=true) (hz:s.on (but U i) (srcO s.L i/s.pg)=0):SlDr s D U0 (but U i) v1 (v'.um ((srcO s.L i/s.pg:Nat):Int)):=by
 have hle:∀ j,but U i j=true->U j=true:=fun j h=>by unfold but at h;exact (Bool.and_eq_true_iff.1 h).1
 have hk:=h.mid.ok
 obtain ⟨m1,m2,m3⟩:=h.mid.src i hi hU
 have hsi:=hs.srcs hi
 have hfr:frE v'.pt ((srcO s.L i/s.pg:Nat):Int)=0:=by
  unfold Vm.ldE at m1
  rw [if_pos ⟨by omega,by rw [h.mid.n];omega⟩,h.mid.pg] at m1
  exact m1
 have hue:∀ a:Nat,a<s.n->a/s.pg≠srcO s.L i/s.pg->(v'.um ((srcO s.L i/s.pg:Nat):Int)).ldE a=v'.ldE a/\(v'.um ((srcO s.L i/s.pg:Nat):Int)).ldV a=v'.ldV a:=fun a ha hne=>by
  have hpa:a/v'.pl.pg≠srcO s.L i/s.pg:=by rw [h.mid.pg];exact hne
  exact ⟨by rw [hk.um_ldE hfr (by rw [h.mid.n];exact ha),if_neg hpa],hk.um_ldV hfr (by rw [h.mid.n];exact ha) hpa⟩
 have hum:(v'.um ((srcO s.L i/s.pg:Nat):Int)).n=v'.n/\(v'.um ((srcO s.L i/s.pg:Nat):Int)).pl.pg=v'.pl.pg/\(v'.um ((srcO s.L i/s.pg:Nat):Int)).pl.rm=v'.pl.rm:=by
  unfold Vm.um
  split <;> exact ⟨rfl,rfl,rfl⟩
 have hon:=fun q=>Sl.on_but (s:=s) (U:=U) (i:=i) (q:=q) hi hU
 refine ⟨⟨hk.um _,hum.1.trans h.mid.n,hum.2.1.trans h.mid.pg,fun j hj hu=>?_,fun j hj hd=>?_⟩,fun j hj hu=>h.le j hj (hle j hu),hum.2.2.trans h.rm,fun p hp=>?_,fun a ha hf=>?_⟩
 ·obtain ⟨e1,e2⟩:=hue (srcO s.L j) (hs.srcs hj).2.2 (Sl.on_zero hz hj hu)
  rw [e1,e2]
  exact h.mid.src j hj (hle j hu)
 ·obtain ⟨e1,e2⟩:=hue (s.cf.to+j) (hs.dsts hj).2 (fun e=>hs.apart ⟨hsi.1,hsi.2.1⟩ ⟨Nat.le_add_right _ j,(hs.dsts hj).1⟩ e.symm)
  rw [e1,e2]
  exact h.mid.dst j hj hd
 ·rw [um_pt hfr,h.map p hp,and_assoc]
  refine and_congr_right fun _=>?_
  have:=hon p
  constructor
  ·rintro ⟨g1,g2⟩ ⟨j,hj,h1,h2,h3,h4⟩
   by_cases hji:j=i
   ·subst hji;exact g2 h3.symm
   ·rw [but_ne hji] at h2
    rw [if_neg (fun e=>g2 e.symm)] at this
    exact g1 ⟨j,hj,h1,h2,h3,by omega⟩
  ·intro g
   refine ⟨fun ⟨j,hj,h1,h2,h3,h4⟩=>?_,fun e=>?_⟩
   ·have hji:j≠i:=fun e=>by subst e;rw [hU] at h2;cases h2
    exact g ⟨j,hj,h1,by rw [but_ne hji];exact h2,h3,by omega⟩
   ·subst e
    exact g ⟨i,hi,h.le i hi hU,but_self,rfl,hz⟩
 ·obtain ⟨e1,e2⟩:=hue a ha (fun e=>hf i hi e.symm)
  rw [e1,e2]
  exact h.oth a ha hf
end
structure SlMv (s:Sl) (k:Nat) (v v':Vm):Prop where
 ok:SlOk { s with mv:=s.mv.set k true } v'
 rm:v'.pl.rm=v.pl.rm
 map:∀ p,p<v.pt.length->(v'.pt.getD p 0≠0↔(v.pt.getD p 0≠0\/((s.cf.to+s.lo k)/s.pg<=p/\p<=(s.cf.to+s.hi k-1)/s.pg))/\¬ ∃ i,i<sizes s.L/\s.inB k i=true/\srcO s.L i/s.pg=p/\∀ j,j<sizes s.L->srcO s.L j/s.pg=p->s.is j=true\/s.inB k j=true)
 oth:∀ a:Nat,a<s.n->(a<s.cf.to+s.lo k\/s.cf.to+s.hi k<=a)->(∀ i,i<sizes s.L->srcO s.L i/s.pg≠a/s.pg)->v'.ldV a=v.ldV a/\(v.ldE a=0->v'.ldE a=0)
section
variable {s:Sl} {v v1 v2 v':Vm} {k:Nat}
theorem pgsN_mem {v:Vm} (h:VmOk v) {f t p:Nat} (hft:f<t) (_ht:t<=v.n):p∈unmL v ((f:Int)/(v.pl.pg:Int)).toNat (pgsN v f t)↔(f/v.pl.pg<=p/\p<=(t-1)/v.pl.pg)/\v.pt.getD p 0=0:=by
 have hp:=h.page
 have e1:((f:Int)/(v.pl.pg:Int)).toNat=f/v.pl.pg:=by rw [show (f:Int)/(v.pl.pg:Int)=((f/v.pl.pg:Nat):Int) from rfl];exact Int.toNat_natCast _
 have e2:((t:Int)-1)/(v.pl.pg:Int)=(((t-1)/v.pl.pg:Nat):Int):=by rw [show (t:Int)-1=((t-1:Nat):Int) by omega];rfl
 have e3:(f:Int)/(v.pl.pg:Int)=((f/v.pl.pg:Nat):Int):=rfl
 have h1:f/v.pl.pg<=(t-1)/v.pl.pg:=Nat.div_le_div_right (by omega)
 rw [unmL_mem,e1]
 unfold pgsN
 rw [e2,e3]
 constructor
 ·rintro ⟨⟨a,b⟩,c⟩;exact ⟨⟨a,by omega⟩,c⟩
 ·rintro ⟨⟨a,b⟩,c⟩;exact ⟨⟨a,by omega⟩,c⟩
theorem SlMv.of (h:SlOk s v) (hk:k<s.mv.length) (_hm:at_ s.mv k=false) (hE:needE v ((s.cf.to+s.lo k:Nat):Int) ((s.cf.to+s.hi k:Nat):Int)=0) (hG:Grown v v1 (needF v ((s.cf.to+s.lo k:Nat):Int) ((s.cf.to+s.hi k:Nat):Int)))
  (hC:SlCp s s.is (fun i=>!s.is i) (s.lo k) (s.hi k) v1 v2 (s.hi k-s.lo k)) {D U:Nat->Bool} (hD:∀ i,i<sizes s.L->D i=(s.is i||s.inB k i)) (hU:∀ i,i<sizes s.L->U i=!(s.is i||s.inB k i)) (hR:SlDr s D (fun i=>!s.is i) U v2 v'):SlMv s k v v':=by
 have hs:=h.st
 have hlh:=hs.lohi hk
 have hto:s.cf.to+s.hi k<=v.n:=by have:=hs.fit;have:=hs.cf.ln;rw [h.mid.n];omega
 have hft:s.cf.to+s.lo k<s.cf.to+s.hi k:=by omega
 have hF:∀ p,p∈needF v ((s.cf.to+s.lo k:Nat):Int) ((s.cf.to+s.hi k:Nat):Int)↔((s.cf.to+s.lo k)/s.pg<=p/\p<=(s.cf.to+s.hi k-1)/s.pg)/\v.pt.getD p 0=0:=fun p=>by
  unfold needF
  rw [if_pos ⟨hE,by omega⟩,pgsN_mem h.mid.ok hft hto,h.mid.pg]
 have hl2:v2.pt.length=v.pt.length:=by rw [hC.sm.pt,hG.len h.mid.ok]
 refine ⟨⟨hs.mv _ (List.length_set ..),(hR.mid.mvd _).congr (fun i hi hd=>?_) (fun i hi hu=>?_)⟩,hR.rm.trans (hC.sm.rm.trans hG.rm),fun p hp=>?_,fun a ha hab hsr=>?_⟩
 ·rw [hD i hi,<-Sl.is_put hk];exact hd
 ·rw [hU i hi,<-Sl.is_put hk];exact hu
 ·rw [hR.map p (by omega),hC.sm.pt,hG.ma p hp,hF]
  have e:(v.pt.getD p 0≠0\/((s.cf.to+s.lo k)/s.pg<=p/\p<=(s.cf.to+s.hi k-1)/s.pg)/\v.pt.getD p 0=0)↔(v.pt.getD p 0≠0\/((s.cf.to+s.lo k)/s.pg<=p/\p<=(s.cf.to+s.hi k-1)/s.pg)):=by
   constructor
   ·rintro (a | ⟨a,-⟩)
    ·exact .inl a
    ·exact .inr a
   ·rintro (a | a)
    ·exact .inl a
    ·by_cases h0:v.pt.getD p 0=0
     ·exact .inr ⟨a,h0⟩
     ·exact .inl h0
  rw [e]
  refine and_congr_right fun _=>not_congr ?_
  constructor
  ·rintro ⟨i,hi,h1,h2,h3,h4⟩
   have h1:(!s.is i)=true:=h1
   rw [hU i hi] at h2
   refine ⟨i,hi,?_,h3,fun j hj he=>?_⟩
   ·cases e1:s.is i <;> cases e2:s.inB k i <;> simp_all
   ·have:=mt (Sl.on_zero h4 hj) (fun g=>g he)
    rw [hU j hj] at this
    cases e1:s.is j <;> cases e2:s.inB k j <;> simp_all
  ·rintro ⟨i,hi,h1,h3,h4⟩
   refine ⟨i,hi,?_,by rw [hU i hi,h1];simp,h3,Sl.on_iff.2 fun j hj hu he=>?_⟩
   ·show (!s.is i)=true
    have:i/s.cf.bk=k:=by simpa [Sl.inB] using h1
    unfold Sl.is
    rw [this,_hm];rfl
   ·rw [hU j hj] at hu
    rcases h4 j hj he with h | h <;> simp [h] at hu
 ·obtain ⟨e1,e2⟩:=hR.oth a ha hsr
  have e3:=hC.oth a hab
  have e4:=hG.ldV_all h.mid.ok (a:=a) (by rw [h.mid.n];exact ha)
  have e5:=hG.ldE h.mid.ok (a:=a) (by rw [h.mid.n];exact ha)
  rw [e1,e3,e4,e2,hC.sm.ldE,e5]
  exact ⟨rfl,fun h=>by rw [h];split <;> rfl⟩
end
end Go.Proofs.YthgdadohijgleaaGreatDoor
end
section
namespace Go.Proofs.YthgdadohijgleaaGreatDoor
open Go.RowKit Go.Shelf Word
structure SlAd where
 F:Nat
 G:Nat
 p:Nat
 m:Nat
 p1:Nat
 b1:Nat
 p2:Nat
 b2:Nat
 bs:Nat
 bm:Nat
 cm:Nat
 bw:Nat
def bls (l:List Bool):List Value:=l.map Value.bool
theorem bls_at {l:List Bool} {i:Nat} (h:i<l.length):(bls l)[i]?=some (.bool (at_ l i)):=by simp [bls,at_,h]
theorem bls_set (l:List Bool) (i:Nat) (b:Bool):(bls l).set i (.bool b)=bls (l.set i b):=by simp [bls,List.map_set]
def cycL (q:Nat) (c:Cf) (z:SlAd) (nb lf ft ah:Nat):List Value:=
 [.pointer (some ⟨q,0,none⟩),.int .i64 c.fr,.int .i64 c.tp,.int .i64 c.to,.int .i64 c.lm,.int .i64 c.bk,.int .i64 c.st,.int .i64 c.ah,
  .pointer (some ⟨z.p,0,none⟩),.pointer (some ⟨z.m,0,none⟩),.slice (some ⟨z.bm,0,none⟩) nb z.cm,.int .i64 lf,.int .i64 ft,.int .i64 ah,.map (some z.bw),.map (some z.bs)]
def ShpAt (w:World) (b:Nat) (s:Sl):Prop:=∃ n f,MapI Tryz.prog 3 w b n f/\∀ j (h:j<s.L.length),f (s.L[j].1:Nat)=some (hdrV (s.hd s.L[j].1))
def WdsAt (w:World) (b:Nat) (s:Sl) (U:Nat->Bool):Prop:=∃ n f,MapI Tryz.prog 3 w b n f/\n+cnt U (sizes s.L)<=2*sizes s.L/\∀ q:Nat,(f (q:Nat)).getD (.int .i64 0)=.int .i64 (s.on U q:Nat)
theorem ShpAt.touch {w w':World} {T:Nat->Prop} {b:Nat} {s:Sl} (h:ShpAt w b s) (t:Touch T w w') (hT:¬ T b):ShpAt w' b s:=by
 obtain ⟨n,f,h1,h2⟩:=h
 exact ⟨n,f,h1.touch t hT,h2⟩
theorem WdsAt.touch {w w':World} {T:Nat->Prop} {b:Nat} {s:Sl} {U:Nat->Bool} (h:WdsAt w b s U) (t:Touch T w w') (hT:¬ T b):WdsAt w' b s U:=by
 obtain ⟨n,f,h1,h2⟩:=h
 exact ⟨n,f,h1.touch t hT,h2⟩
structure SlOrd (w:World) (R:Nat->Prop) (y:Nat) (z:SlAd):Prop where
 o1:z.m<z.F
 o2:z.p1<z.F
 o3:z.b1<z.F
 o4:z.p2<z.F
 o5:z.b2<z.F
 o6:z.F<=z.G
 o7:z.G<=w.heap.size
 g1:z.G<=y
 g2:z.G<=z.bm
 g3:z.G<=z.bw
 g4:z.G<=z.bs
 n1:y≠z.bm
 n2:y≠z.bw
 n3:y≠z.bs
 n4:z.bm≠z.bw
 n5:z.bm≠z.bs
 n6:z.bw≠z.bs
 r1:R y
 r2:R z.bm
 r3:R z.bw
 r4:R z.bs
 r5:R z.m
 r6:R z.p1
 r7:R z.b1
 r8:R z.p2
 r9:R z.b2
 rr:∀ k,z.F<=k->k<z.G->R k
 lt:∀ k,R k->k<w.heap.size
structure CycAt (w:World) (R:Nat->Prop) (y q:Nat) (z:SlAd) (s:Sl) (U:Nat->Bool) (ml:List Bool) (lf ft ah:Nat):Prop where
 od:SlOrd w R y z
 rc:Rec w y 225 (cycL q s.cf z ml.length lf ft ah)
 pl:∀ W,Touch (fun i=>i<z.F\/z.G<=i) w W->Pln W z.F z.p s.n s.cf.bk s.cf.to s.L
 ex:Ext w z.m z.p1 z.b1 z.p2 z.b2 s.n s.L
 sh:ShpAt w z.bs s
 wd:WdsAt w z.bw s U
 mv:w.ownsRow 0 4 1 (.slice (some ⟨z.bm,0,none⟩) ml.length z.cm) ml.length (bls ml)
abbrev Cyc (w:World) (R:Nat->Prop) (y q:Nat) (z:SlAd) (s:Sl):Prop:=CycAt w R y q z s (fun i=>!s.is i) s.mv s.lf s.ft (s.mvd-s.ft)
section
variable {w w':World} {R T:Nat->Prop} {y q:Nat} {z:SlAd} {s:Sl} {U:Nat->Bool} {ml:List Bool} {lf ft ah:Nat}
theorem SlOrd.gr (h:SlOrd w R y z) (hs:w.heap.size<=w'.heap.size):SlOrd w' R y z:=
 ⟨h.o1,h.o2,h.o3,h.o4,h.o5,h.o6,Nat.le_trans h.o7 hs,h.g1,h.g2,h.g3,h.g4,h.n1,h.n2,h.n3,h.n4,h.n5,h.n6,h.r1,h.r2,h.r3,h.r4,h.r5,h.r6,h.r7,h.r8,h.r9,h.rr,fun k hk=>Nat.lt_of_lt_of_le (h.lt k hk) hs⟩
theorem CycAt.touch (h:CycAt w R y q z s U ml lf ft ah) (t:Touch T w w') (hT:∀ k,R k->¬ T k):CycAt w' R y q z s U ml lf ft ah:=by
 have o:=h.od
 refine ⟨o.gr t.size,h.rc.touch t (hT _ o.r1),fun W tW=>h.pl W ?_,h.ex.touch t (hT _ o.r5) (hT _ o.r6) (hT _ o.r7) (hT _ o.r8) (hT _ o.r9),h.sh.touch t (hT _ o.r4),h.wd.touch t (hT _ o.r3),own_touch h.mv t (fun g hg=>by cases hg;exact hT _ o.r2)⟩
 refine (t.mono (fun i _ hi=>?_)).trans tW
 rcases Nat.lt_or_ge i z.F with h1 | h1
 ·exact .inl h1
 ·rcases Nat.lt_or_ge i z.G with h2 | h2
  ·exact absurd hi (hT _ (o.rr i h1 h2))
  ·exact .inr h2
theorem CycAt.gr (h:CycAt w R y q z s U ml lf ft ah) (g:Gr w w'):CycAt w' R y q z s U ml lf ft ah:=h.touch (g.touch (fun _=>False)) (fun _ _ h=>h)
theorem CycAt.setR (h:CycAt w R y q z s U ml lf ft ah) {lf' ft' ah':Nat} (t:Touch (fun i=>i=y) w w') (hr:Rec w' y 225 (cycL q s.cf z ml.length lf' ft' ah')):CycAt w' R y q z s U ml lf' ft' ah':=by
 have o:=h.od
 refine ⟨o.gr t.size,hr,fun W tW=>h.pl W ((t.mono (fun i _ hi=>.inr (by rw [hi];exact o.g1))).trans tW),h.ex.touch t ?_ ?_ ?_ ?_ ?_,h.sh.touch t (fun e=>o.n3 e.symm),h.wd.touch t (fun e=>o.n2 e.symm),own_touch h.mv t (fun g hg=>by cases hg;exact fun e=>o.n1 e.symm)⟩
 all_goals (have:=o.o1;have:=o.o2;have:=o.o3;have:=o.o4;have:=o.o5;have:=o.o6;have:=o.g1;omega)
theorem CycAt.setW (h:CycAt w R y q z s U ml lf ft ah) {U':Nat->Bool} (t:Touch (fun i=>i=z.bw) w w') (hw:WdsAt w' z.bw s U'):CycAt w' R y q z s U' ml lf ft ah:=by
 have o:=h.od
 refine ⟨o.gr t.size,h.rc.touch t o.n2,fun W tW=>h.pl W ((t.mono (fun i _ hi=>.inr (by rw [hi];exact o.g3))).trans tW),h.ex.touch t ?_ ?_ ?_ ?_ ?_,h.sh.touch t (fun e=>o.n6 e.symm),hw,own_touch h.mv t (fun g hg=>by cases hg;exact o.n4)⟩
 all_goals (have:=o.o1;have:=o.o2;have:=o.o3;have:=o.o4;have:=o.o5;have:=o.o6;have:=o.g3;omega)
theorem CycAt.setM (h:CycAt w R y q z s U ml lf ft ah) {ml':List Bool} (hl:ml'.length=ml.length) (t:Touch (fun i=>i=z.bm) w w') (hm:w'.ownsRow 0 4 1 (.slice (some ⟨z.bm,0,none⟩) ml'.length z.cm) ml'.length (bls ml')):CycAt w' R y q z s U ml' lf ft ah:=by
 have o:=h.od
 refine ⟨o.gr t.size,?_,fun W tW=>h.pl W ((t.mono (fun i _ hi=>.inr (by rw [hi];exact o.g2))).trans tW),h.ex.touch t ?_ ?_ ?_ ?_ ?_,h.sh.touch t (fun e=>o.n5 e.symm),h.wd.touch t (fun e=>o.n4 e.symm),hm⟩
 ·rw [hl];exact h.rc.touch t o.n1
 all_goals (have:=o.o1;have:=o.o2;have:=o.o3;have:=o.o4;have:=o.o5;have:=o.o6;have:=o.g2;omega)
theorem CycAt.plan (h:CycAt w R y q z s U ml lf ft ah):Pln w z.F z.p s.n s.cf.bk s.cf.to s.L:=h.pl w (Touch.refl _ _)
theorem CycAt.same {s':Sl} (h:CycAt w R y q z s U ml lf ft ah) (h1:s'.n=s.n) (h2:s'.cf=s.cf) (h3:s'.L=s.L) (h4:s'.hd=s.hd) (h5:s'.pg=s.pg):CycAt w R y q z s' U ml lf ft ah:=by
 cases s;cases s'
 simp only at h1 h2 h3 h4 h5
 subst h1 h2 h3 h4 h5
 exact ⟨h.od,h.rc,h.pl,h.ex,h.sh,h.wd,h.mv⟩
end
end Go.Proofs.YthgdadohijgleaaGreatDoor
end
section
namespace Go.Proofs.YthgdadohijgleaaGreatDoor
open Go.RowKit Go.Shelf Word
section
variable {w:World} {R S:Nat->Prop} {y q:Nat} {z:SlAd} {s:Sl} {U:Nat->Bool} {ml:List Bool} {lf ft ah:Nat} {v:Vm}
set_option maxRecDepth 100000 in
set_option maxHeartbeats 800000 in
theorem sl_to (hC:CycAt w R y q z s U ml lf ft ah) (a:Int):Gets Tryz.prog 254 #[.pointer (some ⟨y,0,none⟩),.int .i64 a] w (.int .i64 (toV s.L s.cf.to a)):=by
 obtain ⟨h1,h2,h3,f,c0,c1,hF⟩:=hC.plan
 have x8:=hC.rc.cell (j:=8) rfl
 have xl:=hC.rc.lt
 have HFW:=hid (pln_forward c0)
 have HTO:=hid (fwd_to hF a)
 obtain ⟨t,ht⟩:∃ t,t=toV s.L s.cf.to a:=⟨_,rfl⟩
 obtain ⟨te,hte⟩:∃ te,te=toE s.L a:=⟨_,rfl⟩
 rw [<-ht,<-hte] at HTO
 rw [<-ht]
 clear hC hF h1 h2 h3 c0 c1 ht hte
 unfold Gets
 go_enter Tryz.func254,Tryz.ntmps254
 go_wp2_with (first
  | (go_at_call 157;refine (HFW.out).mono ?_;rintro e w1 ⟨rfl,rfl⟩)
  | (go_at_call 206;refine (HTO.out).mono ?_;rintro e w2 ⟨rfl,hg2⟩;have HG2:=hid hg2;clear hg2))
 go_ret
 exact ⟨rfl,HG2.out⟩
theorem kind_is {p f k:Nat} (hs:p+f+k<=255) {m:Nat}:(kindOf ⟨p,f,k⟩ ((m:Int)-1)==1)=decide (1<=m/\m<=p):=by
 by_cases h:1<=m/\m<=p
 ·rw [decide_eq_true h,kind_ptr (by omega) (by show (m:Int)-1<(p:Int);omega) (by show (p:Int)<hdrN ⟨p,f,k⟩;rw [show hdrN ⟨p,f,k⟩=1+(p:Int)+f+k from if_pos (hdrE_of hs)];omega)]
  rfl
 ·rw [decide_eq_false h]
  simpa using kind_not (p:=p) (f:=f) (k:=k) (i:=(m:Int)-1) (fun h'=>h ⟨by omega,by omega⟩)
set_option maxRecDepth 100000 in
set_option maxHeartbeats 800000 in
theorem sl_ptr {p f k:Nat} (hs:p+f+k<=255) {m:Nat} (hm:m<=4294967296) (w:World):Gets Tryz.prog 274 #[hdrV ⟨p,f,k⟩,.int .i64 m] w (.bool (decide (1<=m/\m<=p))):=by
 have HKD:=hid (fun (W:World)=>hdr_kind hs ((m:Int)-1) W)
 have HKI:=hid (kind_is (f:=f) (k:=k) hs (m:=m))
 obtain ⟨kd,hkd⟩:∃ kd,kd=kindOf ⟨p,f,k⟩ ((m:Int)-1):=⟨_,rfl⟩
 rw [<-hkd] at HKD HKI
 unfold hdrV at HKD ⊢
 clear hkd
 obtain ⟨b,hb⟩:∃ b,b=decide (1<=m/\m<=p):=⟨_,rfl⟩
 rw [<-hb] at HKI ⊢
 have hbe:(kd==1)=b:=HKI.out
 clear hb
 have hRec:=Rec.new w 48 [.int .i64 p,.int .i64 f,.int .i64 k]
 simp only [List.toArray] at hRec
 unfold Gets
 go_enter Tryz.func274,Tryz.ntmps274
 go_upto_region 1 with (fail)
 obtain ⟨w2,hw2⟩:∃ w2,w2=w.alloc (.cells #[.int .i64 p,.int .i64 f,.int .i64 k] 48):=⟨_,rfl⟩
 have hg2:Gr w w2:=by rw [hw2];exact (Gr.refl w).alloc _
 rw [<-hw2] at hRec ⊢
 have y0:=hRec.cell (j:=0) rfl
 have y1:=hRec.cell (j:=1) rfl
 have y2:=hRec.cell (j:=2) rfl
 have yl:=hRec.lt
 have HG2:=hid hg2
 clear hw2 hRec hg2
 go_wp2_with (go_at_call 184;refine (HKD.out _).mono ?_;rintro e w3 ⟨rfl,hg3⟩;have HG3:=hid (HG2.out.trans hg3);clear hg3)
 go_ret
 exact ⟨by first | rfl | rw [hbe],HG3.out⟩
set_option maxRecDepth 100000 in
set_option maxHeartbeats 1600000 in
theorem sl_word (hC:CycAt w R y q z s U ml lf ft ah) (hst:SlSt s) (hV:VmAt w S q v) {p f k:Nat} (hs:p+f+k<=255) {a st m:Nat} (ha:a=st+m) (hm:a<=4294967296) (hx:1<=m/\m<=p->v.ldV (a:Nat)<=2147483647):
  Gets Tryz.prog 169 #[.pointer (some ⟨y,0,none⟩),.int .i64 a,.int .i64 st,hdrV ⟨p,f,k⟩] w (.int .u64 (cvH s.L s.cf.to ⟨p,f,k⟩ m (v.ldV (a:Nat)):Nat)):=by
 have HC:=hid hC
 have HLD:=hid (fun (W:World) (g:Gr w W)=>vm_load (hV.gr g) (a:Int))
 have HPT:=hid (fun (W:World)=>sl_ptr (f:=f) (k:=k) hs (m:=m) (by omega) W)
 have HXL:Hid (v.ldV (a:Nat)<18446744073709551616):=⟨hV.ok.ldV_lt _⟩
 have HST:=hid hst
 have HR:=hid (Rec.new w 48 [.int .i64 p,.int .i64 f,.int .i64 k])
 simp only [List.toArray] at HR
 unfold hdrV at HPT
 unfold hdrV
 obtain ⟨x,hxx⟩:∃ x,x=v.ldV (a:Nat):=⟨_,rfl⟩
 rw [<-hxx] at hx HXL HLD ⊢
 obtain ⟨res,hres⟩:∃ res,res=cvH s.L s.cf.to ⟨p,f,k⟩ m x:=⟨_,rfl⟩
 have HRES:=hid hres
 rw [<-hres]
 obtain ⟨le,hle⟩:∃ le,le=v.ldE (a:Nat):=⟨_,rfl⟩
 rw [<-hle] at HLD
 clear hxx hle hV hC hst hres
 have ham:(a:Int)-(st:Int)=(m:Int):=by omega
 clear ha
 unfold Gets
 go_enter Tryz.func169,Tryz.ntmps169
 go_upto_region 1 with (fail)
 obtain ⟨w2,hw2⟩:∃ w2,w2=w.alloc (.cells #[.int .i64 p,.int .i64 f,.int .i64 k] 48):=⟨_,rfl⟩
 have hg2:Gr w w2:=by rw [hw2];exact (Gr.refl w).alloc _
 rw [<-hw2] at HR ⊢
 obtain ⟨hb,hhb⟩:∃ hb,hb=w.heap.size:=⟨_,rfl⟩
 rw [<-hhb] at HR ⊢
 have HG2:=hid hg2
 have x0:=(HC.out.rc.gr hg2).cell (j:=0) rfl
 have xl:=(HC.out.rc.gr hg2).lt
 clear hw2 hg2 hhb
 by_cases hx0:x=0
 ·subst hx0
  have hcv:cvH s.L s.cf.to ⟨p,f,k⟩ m 0=0:=by unfold cvH;rw [if_neg (fun h=>h.2 rfl)]
  rw [<-HRES.out] at hcv
  subst hcv
  clear hx ham
  go_wp2_with (go_at_call 150;refine (HLD.out _ HG2.out).mono ?_;rintro e w3 ⟨rfl,hg3⟩;have HG3:=hid (HG2.out.trans hg3);clear hg3)
  go_ret
  exact ⟨rfl,HG3.out⟩
 ·have d2:((x:Int) !=0)=true:=by simp;exact hx0
  have HX0:=hid hx0
  clear hx0
  by_cases hp:1<=m/\m<=p
  ·rw [decide_eq_true hp] at HPT
   have hx31:=hx hp
   have hcv:cvH s.L s.cf.to ⟨p,f,k⟩ m x=(toV s.L s.cf.to (x:Nat)).toNat:=by unfold cvH;rw [if_pos ⟨⟨hp.1,by show (m:Int)<=(p:Int);omega⟩,HX0.out⟩]
   rw [<-HRES.out] at hcv
   subst hcv
   have HTO:=hid (fun (W:World) (g:Gr w W)=>sl_to (HC.out.gr g) (x:Int))
   have ht0:=to_nonneg s.L s.cf.to (x:Int)
   have ht1:=HST.out.to_lt (x:Int)
   obtain ⟨t,ht⟩:∃ t,t=toV s.L s.cf.to (x:Int):=⟨_,rfl⟩
   have HTE:=hid ht
   rw [<-ht] at HTO ht0 ht1
   have hwy:IntKind.u64.wrap t=t:=by rw [IntKind.wrap_u64];omega
   have hwx:IntKind.i64.wrap (x:Int)=(x:Int):=IntWalk.i64_in _ (by omega)
   clear hx hp ht hx31
   go_wp2_with (first
    | (go_at_call 150;refine (HLD.out _ HG2.out).mono ?_;rintro e w3 ⟨rfl,hg3⟩;have HG3:=hid (HG2.out.trans hg3);have RR:=HR.out.gr hg3;have y0:=RR.cell (j:=0) rfl;have y1:=RR.cell (j:=1) rfl;have y2:=RR.cell (j:=2) rfl;have yl:=RR.lt;clear hg3 RR)
    | (go_at_call 274;refine (HPT.out _).mono ?_;rintro e w4 ⟨rfl,hg4⟩;have HG4:=hid (HG3.out.trans hg4);clear hg4)
    | (go_at_call 254;refine (HTO.out _ HG4.out).mono ?_;rintro e w5 ⟨rfl,hg5⟩;have HG5:=hid (HG4.out.trans hg5);clear hg5))
   go_ret
   exact ⟨by rw [<-HTE.out,Int.toNat_of_nonneg ht0];rfl,HG5.out⟩
  ·rw [decide_eq_false hp] at HPT
   have hcv:cvH s.L s.cf.to ⟨p,f,k⟩ m x=x:=by unfold cvH;rw [if_neg (fun h=>hp ⟨h.1.1,by have:(m:Int)<=(p:Int):=h.1.2;omega⟩)]
   rw [<-HRES.out] at hcv
   subst hcv
   clear hx hp
   go_wp2_with (first
    | (go_at_call 150;refine (HLD.out _ HG2.out).mono ?_;rintro e w3 ⟨rfl,hg3⟩;have HG3:=hid (HG2.out.trans hg3);have RR:=HR.out.gr hg3;have y0:=RR.cell (j:=0) rfl;have y1:=RR.cell (j:=1) rfl;have y2:=RR.cell (j:=2) rfl;have yl:=RR.lt;clear hg3 RR)
    | (go_at_call 274;refine (HPT.out _).mono ?_;rintro e w4 ⟨rfl,hg4⟩;have HG4:=hid (HG3.out.trans hg4);clear hg4))
   go_ret
   exact ⟨rfl,HG4.out⟩
end
end Go.Proofs.YthgdadohijgleaaGreatDoor
end
