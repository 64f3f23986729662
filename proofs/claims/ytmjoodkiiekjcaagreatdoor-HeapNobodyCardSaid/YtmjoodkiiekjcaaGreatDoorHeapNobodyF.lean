/- Part 6 of what HeapNobody leans on: my own lemmas, merged by shake.py. -/
import Derived.Test.YtmjoodkiiekjcaaGreatDoorHeapNobodyE
import Derived.Defers
import Derived.Recover
import Derived.Laws.Pointers
import Derived.Maps.OwnSet
namespace Go.Proofs.YtmjoodkiiekjcaaGreatDoor
set_option maxRecDepth 100000
section
section
section
open Go.RowKit Word
abbrev Lg:=List (Int × Nat)
def lgV (l:Lg):List Value:=l.flatMap fun x=>[.int .i64 x.1,.int .u64 (x.2:Nat)]
structure ZIR (w:World) (S:Nat->Prop) (k:Nat) (sp:Value) (l:Lg):Prop where
 sk:S k
 ll:l.length<=1048576
 lv:∀ x∈l,x.2<18446744073709551616
 row:∃ vl,Rec w k 265 [sp,vl]/\w.ownsRow 0 307 2 vl l.length (lgV l)/\∀ g,vl.ownBlock=some g->S g
theorem ZIR.touch {S T:Nat->Prop} {w w':World} {k:Nat} {sp:Value} {l:Lg} (h:ZIR w S k sp l) (t:XF4 T w w') (hS:∀ k,S k->k<w.heap.size->¬ T k):ZIR w' S k sp l:=by
 obtain ⟨h1,h2,h3,vl,hr,ho,hs⟩:=h;exact ⟨h1,h2,h3,vl,hr.touch t (hS _ h1 hr.lt),Zs2 ho t (fun g hg=>hS g (hs g hg) (Vvr ho hg).2),hs⟩
theorem ZIR.gr {S:Nat->Prop} {w w':World} {k:Nat} {sp:Value} {l:Lg} (h:ZIR w S k sp l) (t:Gr w w'):ZIR w' S k sp l:=h.touch (t.touch (fun _=>False)) (fun _ _ _ h=>h)
theorem ZIR.mono {S T:Nat->Prop} {w:World} {k:Nat} {sp:Value} {l:Lg} (h:ZIR w S k sp l) (hT:∀ k,S k->T k):ZIR w T k sp l:=by
 obtain ⟨h1,h2,h3,vl,hr,ho,hs⟩:=h;exact ⟨hT _ h1,h2,h3,vl,hr,ho,fun g hg=>hT g (hs g hg)⟩
def VSi (why at':Int):Value:=.iface 313 (.agg #[.int .i64 why,.int .i64 at'])
theorem JNg (a:Addr) (w:World):(binOp BinOp.eql 155 (.iface 87 (.pointer (some a))) .nilIface).run Tryz.prog w=.ok (.bool false) w:=by kernel_rfl
section
variable {w:World} {S:Nat->Prop} {k q:Nat} {v:Vm} {l:Lg}
set_option maxHeartbeats 800000 in
theorem JcB {T:TypeId} {rv:Value} (n0:∀ w,(binOp BinOp.eql 155 (.iface T rv) .nilIface).run Tryz.prog w=.ok (.bool false) w) (hW:ZIR w S k (.iface T rv) l) (why a:Int):Calls Tryz.prog 234 #[.pointer (some ⟨k,0,none⟩),.int .i64 why,.int .i64 a] w fun e w'=>e=.panicked [{ v:=VSi why a,recovered:=false }]/\w=w':=by
 obtain ⟨vl,hr,-⟩:=hW.row;have c0:=hr.cell (j:=0) rfl;clear hr hW;go_enter Tryz.func234,Tryz.ntmps234;go_wp2;exact ⟨rfl,rfl,rfl⟩
theorem QRb (n:Nat) (a:Addr) (w:World):(nilAhead (n+1) 87 (.pointer (some a)) "Store").run Tryz.prog w=.ok (some false) w:=by kernel_rfl
theorem J76 (n:Nat) (a:Addr) (w:World):(method (n+1) 87 (.pointer (some a)) "Store").run Tryz.prog w=.ok (214,.pointer (some a)) w:=by kernel_rfl
def Z1x (w:World) (v:Vm) (a:Int) (e:Ending) (w':World):Prop:=Gr w w'/\(v.ldE a=0->e=.returned (.int .u64 (v.ldV a:Nat)))/\(v.ldE a≠0->e=.panicked [{ v:=VSi (v.ldE a) a,recovered:=false }])
set_option maxHeartbeats 800000 in
theorem ZO8 {S2:Nat->Prop} (hW:ZIR w S k (spV q) l) (hV:QXZ w S2 q v) (a:Int):Calls Tryz.prog 233 #[.pointer (some ⟨k,0,none⟩),.int .i64 a] w (Z1x w v a):=by
 have HW:=hid hW;have HL:=hid (fun (w':World) (g:Gr w w')=>VW8 (hV.gr g) a);obtain ⟨vl,hr,-⟩:=hW.row;have c0:=hr.cell (j:=0) rfl;unfold spV at c0;have n0:=JNg;have n1:=Ye4;have n2:=V01;clear hr hW hV;by_cases h0:v.ldE a=0
 ·have HE:=hid h0;rw [h0] at HL;clear h0;go_enter Tryz.func233,Tryz.ntmps233;go_wp2_with (go_at_call 213;refine (HL.o _ (Gr.refl w)).mono ?_;rintro e w1 ⟨rfl,hg1⟩;have HG1:=hid hg1;clear hg1);go_ret;exact ⟨HG1.o,fun _=>rfl,fun h=>absurd HE.o h⟩
 ·have HE:=hid h0;obtain ⟨y,hy⟩:∃ y,y=v.ldE a:=⟨_,rfl⟩;have d2:(y==0)=false:=by rw [hy];simpa using h0
  rw [<-hy] at HL;have HY:=hid hy;clear h0 hy;go_enter Tryz.func233,Tryz.ntmps233
  go_wp2_with (first
   | (go_at_call 213;refine (HL.o _ (Gr.refl w)).mono ?_;rintro e w1 ⟨rfl,hg1⟩;have HG1:=hid hg1;clear hg1)
   | (go_at_call 234;refine (JcB (JNg _) (HW.o.gr HG1.o) y a).mono ?_;rintro e w2 ⟨rfl,rfl⟩))
  exact ⟨rfl,HG1.o,fun h=>absurd h HE.o,fun _=>by rw [<-HY.o]⟩
def Yvy (v:Vm) (l:Lg):Vm:=l.foldr (fun x v=>v.st x.1 x.2) v
theorem XV1 (v:Vm) (l:Lg) (x:Int × Nat):Yvy v (l++[x])=Yvy (v.st x.1 x.2) l:=by
 unfold Yvy;rw [List.foldr_append];rfl
theorem QLy {v:Vm} (h:ZAR v) {a:Int} (ha:v.ldE a=0) (x:Nat):(v.st a x).st a (v.ldV a)=v:=by
 have e1:v.st a x={ v with pl:={ v.pl with wd:=v.pl.wd.set (v.at a) x } }:=if_pos ha;have e2:(v.st a x).ldE a=0:=by rw [Zpt];exact ha
 have e3:(v.st a x).st a (v.ldV a)={ v with pl:={ v.pl with wd:=(v.pl.wd.set (v.at a) x).set (v.at a) (v.ldV a) } }:=by
  rw [e1] at e2 ⊢;exact if_pos e2
 have e4:v.ldV a=v.pl.wd.getD (v.at a) 0:=if_pos ha;have hl:=h.place_lt ha;rw [e3,List.set_set,e4]
 have e5:v.pl.wd.set (v.at a) (v.pl.wd.getD (v.at a) 0)=v.pl.wd:=by
  rw [List.getD_eq_getElem?_getD,List.getElem?_eq_getElem hl,Option.getD_some,List.set_getElem_self]
 rw [e5]
def JZ7 (w:World) (S S2:Nat->Prop) (k q:Nat) (v:Vm) (l:Lg) (a:Int) (x:Nat) (e:Ending) (w':World):Prop:=
 (v.ldE a≠0/\Gr w w'/\e=.panicked [{ v:=VSi (v.ldE a) a,recovered:=false }]) ∨
 (v.ldE a=0/\e=.returned (.tuple #[])/\XF4 (fun i=>S i\/S2 i) w w'/\QXZ w' (ZOk S2 w) q (v.st a x)/\ZIR w' (plus S w) k (spV q) (l++[(a,v.ldV a)]))
theorem Qbw:(Tryz.prog.info? 307).map (fun i=>(i.zero,i.size,i.bytes))=some (some (.agg #[.int .i64 0,.int .u64 0]),2,16):=by kernel_rfl
set_option maxHeartbeats 1600000 in
theorem Jzb {S2:Nat->Prop} (hW:ZIR w S k (spV q) l) (hV:QXZ w S2 q v) (hd:∀ i,S i->¬ S2 i) (hl:l.length<1048576) (a:Int) {x:Nat} (hx:x<18446744073709551616):
  Calls Tryz.prog 178 #[.pointer (some ⟨k,0,none⟩),.int .i64 a,.int .u64 x] w (JZ7 w S S2 k q v l a x):=by
 have HW:=hid hW;have HV:=hid hV;have HX:=hid hx;have HD:=hid hd;obtain ⟨vl,hr,ho,hs⟩:=hW.row;have c0:=hr.cell (j:=0) rfl;unfold spV at c0;have n0:=JNg;have n1:=QRb;have n2:=J76;by_cases h0:v.ldE a=0
 ·have HE:=hid h0;obtain ⟨A,c,rfl,hc1,hc2⟩:=ZfN ho;unfold maxLen at hc2;have HR:=hid hr;have HO:=hid ho;have HS:=hid hs;obtain ⟨N,hN⟩:∃ N,N=l.length:=⟨_,rfl⟩;have HN:=hid hN;rw [<-hN] at hl hc1;obtain ⟨ii,hii,hi0,hi1,hi2⟩:=info_parts Qbw;have hkl:=hr.lt;have hSk:=hW.sk;clear hr hW hV h0 ho hs hN hd;go_enter Tryz.func178,Tryz.ntmps178
  go_wp2_with (first
   | (go_at_call 233;refine (ZO8 HW.o HV.o a).mono ?_;rintro e w1 ⟨hg1,he,-⟩;obtain rfl:=he HE.o;have k0:=(hg1.cell hkl 0).trans c0;have HG1:=hid hg1;clear hg1 he)
   | (go_at_call 214;refine (Qpx (HV.o.cut.gr HG1.o) a HX.o).mono ?_;rintro e w2 ⟨rfl,ht2,hv2⟩;rw [HE.o];have HR2:=hid ((HR.o.gr HG1.o).touch ht2 (fun h=>HD.o _ hSk h.1));have d1:=HR2.o.cell (j:=1) rfl;have df:=HR2.o.free 1;have HO2:=hid (Zs2 (Y9I HO.o HG1.o) ht2 (fun g hg h=>HD.o _ (HS.o g hg) h.1));rw [<-HN.o] at d1 HO2;have HT2:=hid ht2;have HV2:=hid hv2;clear ht2 hv2)
   | (at_builtin;refine wpList_append_lies _ rfl _ _ 263 rfl 0 307 ii _ 2 16 Tryz.underlying263 hii hi0 hi1 hi2 rfl (by decide) (.slice A N c) N (lgV l) rfl (HO2.o.alloc _) ⟨w2.heap.size,0,none⟩ 1 1 [.int .i64 a,.int .u64 (v.ldV a:Nat)] rfl rfl (World.news_of_block (cs:=#[.int .i64 a,.int .u64 (v.ldV a:Nat)]) (t:=307) (fr:=(0,0)) (heap_alloc_new w2 (.cells #[.int .i64 a,.int .u64 (v.ldV a:Nat)] 307))) (by simp [Value.oneCell']) (by omega) (by unfold maxLen;omega) (by omega) (Nat.zero_le _) (w2.heap.size+1) (by simp) ?_;intro g3 c3 w3 hown3 hgrow3 hat3 hlt3;have t3:XF4 (fun k=>(Value.slice A N c).ownBlock=some k) w2 w3:=(((Gr.refl _).alloc _).touch _).trans (VxQ hgrow3 _ (fun k e _=>e));have HR3:=hid (HR2.o.touch t3 (fun e=>YnK HO2.o HR2.o (by decide) e rfl rfl));have d3:=HR3.o.cell (j:=1) rfl;have df3:=HR3.o.free 1;have HT3:=hid t3;have HO3:=hid hown3;have HA3:=hid (And.intro hat3 hlt3);clear hown3 hgrow3 hat3 hlt3 t3))
  refine bodyPost_end (results_none rfl _ _ _) rfl ?_;have hsz1:=HG1.o.size;have hsz2:=HT2.o.size;have hA3:=HA3.o;have hT:XF4 (fun i=>S i\/S2 i) w w3:=((HG1.o.touch _).trans (HT2.o.mono (fun i _ hi=>.inr hi.1))).trans (HT3.o.mono (fun i _ hi=>.inl (HS.o i (by rw [<-HN.o];exact hi))));have hdk:∀ i,ZOk S2 w i->¬ (Value.slice A N c).ownBlock=some i:=fun i hi e=>HD.o i (HS.o i (by rw [<-HN.o];exact e)) hi.1;refine .inr ⟨HE.o,rfl,hT.setCell (a:=⟨k,1,none⟩) (fun _=>.inl hSk) _,?_,.inl hSk,by rw [List.length_append,<-HN.o];simp;omega,fun y hy=>(List.mem_append.1 hy).elim (HW.o.lv y) (fun h=>by simp at h;subst h;exact HV.o.ok.ldV_lt a),.slice (some ⟨g3,0,none⟩) (N+1) c3,Rec.set HR3.o 1 _,?_,fun g hg=>?_⟩
  ·exact (HV2.o.touch HT3.o (fun i hi _=>hdk i hi)).touch ((XF4.refl (fun i=>i=k) w3).setCell (a:=⟨k,1,none⟩) (fun _=>rfl) _) (fun i hi _ e=>by subst e;exact HD.o i hSk hi.1)
  ·rw [List.length_append,<-HN.o,show lgV (l++[(a,v.ldV a)])=lgV l++[.int .i64 a,.int .u64 (v.ldV a:Nat)] by unfold lgV;rw [List.flatMap_append];rfl];exact VDR HO3.o _ (fun g hg=>YnK HO3.o HR3.o (by decide) hg rfl)
  ·cases hg;rcases hA3.1 with h | h
   ·exact .inl (HS.o _ (by rw [<-HN.o];exact h))
   ·right
    show w.heap.size<=g3
    omega
 ·have HE:=hid h0;clear hr hW hV h0 ho hs hd;go_enter Tryz.func178,Tryz.ntmps178;go_wp2_with (go_at_call 233;refine (ZO8 HW.o HV.o a).mono ?_;rintro e w1 ⟨hg1,-,he⟩;obtain rfl:=he HE.o;have HG1:=hid hg1;clear hg1 he);exact ⟨rfl,.inl ⟨HE.o,HG1.o,rfl⟩⟩
theorem Y4S (v:Vm) {l:Lg} {j:Nat} (h:j<l.length):Yvy v (l.drop j)=(Yvy v (l.drop (j+1))).st l[j].1 l[j].2:=by
 rw [List.drop_eq_getElem_cons h];rfl
theorem XHY {l:Lg} {j:Nat} (h:j<l.length):(lgV l)[j*2]?=some (.int .i64 l[j].1)/\(lgV l)[j*2+1]?=some (.int .u64 (l[j].2:Nat)):=by
 induction l generalizing j with
 | nil=>exact absurd h (by simp)
 | cons x l ih=>
  have e:lgV (x :: l)=.int .i64 x.1 :: .int .u64 (x.2:Nat) :: lgV l:=rfl;cases j with
  | zero=>rw [e];exact ⟨rfl,rfl⟩
  | succ j=>
   have:=ih (j:=j) (by simpa using h);rw [e,show (j+1)*2=j*2+1+1 by omega,show j*2+1+1+1=(j*2+1)+1+1 by omega];exact this
theorem Zp0 {w:World} {E size:Nat} {A:Option Addr} {n c:Nat} {xs:List Value} (h:w.ownsRow 0 E size (.slice A n c) n xs):w.ownsRow 0 E size (.slice A 0 c) 0 []:=by
 obtain ⟨h1,⟨h,_⟩ | ⟨g,cap,cur,e1,e2,e3,e4,e5,e6,e7⟩⟩:=h
 ·cases h;exact ⟨by simp,.inl ⟨rfl,rfl⟩⟩
 ·simp only [Value.slice.injEq] at e1;obtain ⟨rfl,-,rfl⟩:=e1;exact ⟨by simp,.inr ⟨g,c,cur,rfl,e2,e3,Nat.zero_le _,e5,e6,by simp⟩⟩
def Ju8 (w:World) (S S2:Nat->Prop) (k q:Nat) (v:Vm) (l:Lg) (e:Ending) (w':World):Prop:=
 e=.returned (.tuple #[])/\XF4 (fun i=>S i\/S2 i) w w'/\QXZ w' S2 q (Yvy v l)/\ZIR w' S k (spV q) []
set_option maxHeartbeats 1600000 in
theorem ZSY {S2:Nat->Prop} (hW:ZIR w S k (spV q) l) (hV:QXZ w S2 q v) (hd:∀ i,S i->¬ S2 i):Calls Tryz.prog 239 #[.pointer (some ⟨k,0,none⟩),.int .i64 0] w (Ju8 w S S2 k q v l):=by
 have HW:=hid hW;have HV:=hid hV;have HD:=hid hd;obtain ⟨vl,hr,ho,hs⟩:=hW.row;obtain ⟨A,c,rfl,hc1,hc2⟩:=ZfN ho;unfold maxLen at hc2;have c1:=hr.cell (j:=1) rfl;have HR:=hid hr;have HO:=hid ho;have HS:=hid hs;have hll:=hW.ll;obtain ⟨N,hN⟩:∃ N,N=l.length:=⟨_,rfl⟩;have HN:=hid hN;rw [<-hN] at c1 hc1 hll;have hkl:=hr.lt;have hSk:=hid hW.sk;clear hr ho hs hW hV hd hN;go_enter Tryz.func239,Tryz.ntmps239;go_wp2
 go_loopw [4] (fun i wr=>∃ m:Nat,m<=N/\Hid (XF4 S2 w wr)/\Hid (QXZ wr S2 q (Yvy v (l.drop m)))/\i=.int .i64 ((m:Int)-1)) (fun i _=>(intOf i+1).toNat)
 case atStart=>exact ⟨N,Nat.le_refl _,⟨XF4.refl S2 w⟩,⟨by rw [HN.o,List.drop_length];exact HV.o⟩,by go_num⟩
 case round=>
  obtain ⟨m,hm,HT,HK,rfl⟩:=hrel;have HR1:=hid (HR.o.touch HT.o (HD.o _ hSk.o));have HO1:=hid (Zs2 HO.o HT.o (fun g hg h=>HD.o _ (HS.o g hg) h));have e1:=HR1.o.cell (j:=1) rfl;have ef:=HR1.o.free 1;rw [<-HN.o] at e1;clear c1;by_cases hm0:m=0
  ·subst hm0;go_wp2;refine bodyPost_end (results_none rfl _ _ _) rfl ?_;have hdd:∀ i,S2 i->i≠k:=fun i hi e=>HD.o k hSk.o (by rw [<-e];exact hi);refine ⟨rfl,(HT.o.mono (fun i _ hi=>.inr hi)).setCell (a:=⟨k,1,none⟩) (fun _=>.inl hSk.o) _,?_,hSk.o,Nat.zero_le _,(fun x hx=>by cases hx),.slice A 0 c,Rec.set HR1.o 1 _,?_,fun g hg=>HS.o g (by cases A with | none=>cases hg | some a=>exact hg)⟩
   ·have:=HK.o.touch ((XF4.refl (fun i=>i=k) wr).setCell (a:=⟨k,1,none⟩) (fun _=>rfl) (.slice A 0 c)) (fun i hi _=>hdd i hi);rw [List.drop_zero] at this;exact this
   ·exact VDR (Zp0 HO1.o) _ (fun g hg=>YnK (Zp0 HO1.o) HR1.o (by decide) hg rfl)
  ·obtain ⟨j,rfl⟩:∃ j,m=j+1:=⟨m-1,by omega⟩;have hjl:j<l.length:=by have:=HN.o;omega
   have hUD:=Y4S v hjl;obtain ⟨g,c',e2,-,-,-,-⟩:=YTP HO1.o (by omega);simp only [Value.slice.injEq] at e2;obtain ⟨rfl,-,rfl⟩:=e2;have r1:=ZBn HO1.o (XHY hjl).1;have r2:=ZBn HO1.o (XHY hjl).2;have hxl:=HW.o.lv _ (List.getElem_mem hjl);obtain ⟨⟨xa,xw⟩,hxe⟩:∃ x,x=l[j]:=⟨_,rfl⟩;rw [<-hxe] at r1 r2 hxl hUD;have HXL:=hid hxl;have HUD:=hid hUD;have hgl:=(Vvr HO1.o (g:=g) rfl).2;have n1:=QRb;have n2:=J76;have e0:=HR1.o.cell (j:=0) rfl;unfold spV at e0;have hkl1:=HR1.o.lt
   have KS:Hid (∀ W',Gr wr W'->W'.cell? ⟨k,0,none⟩=some (.iface 87 (.pointer (some ⟨q,0,none⟩)))/\W'.cell? ⟨k,1,none⟩=some (.slice (some ⟨g,0,none⟩) N c)/\W'.cell? ⟨g,j*2,none⟩=some (.int .i64 xa)/\W'.cell? ⟨g,j*2+1,none⟩=some (.int .u64 (xw:Nat))):=
    ⟨fun W' h=>⟨(h.cell hkl1 0).trans e0,(h.cell hkl1 1).trans e1,(h.cell hgl _).trans r1,(h.cell hgl _).trans r2⟩⟩
   have hjN:(j:Int)<(N:Int):=by have:=HN.o;omega
   clear hjl hUD r1 r2 hxl hxe hgl e0 e1 ef hkl1;go_upto_region 3 with (fail);obtain ⟨Sx,hSx⟩:∃ Sx:World->Prop,Sx=fun W'=>Gr wr W':=⟨_,rfl⟩;have x1:∀ p:ZJV Sx,p.w.cell? ⟨k,0,none⟩=some (.iface 87 (.pointer (some ⟨q,0,none⟩))):=fun p=>(KS.o _ (ZJV.get hSx p)).1;have x2:∀ p:ZJV Sx,p.w.cell? ⟨k,1,none⟩=some (.slice (some ⟨g,0,none⟩) N c):=fun p=>(KS.o _ (ZJV.get hSx p)).2.1;have x3:∀ p:ZJV Sx,p.w.cell? ⟨g,j*2,none⟩=some (.int .i64 xa):=fun p=>(KS.o _ (ZJV.get hSx p)).2.2.1;have x4:∀ p:ZJV Sx,p.w.cell? ⟨g,j*2+1,none⟩=some (.int .u64 (xw:Nat)):=fun p=>(KS.o _ (ZJV.get hSx p)).2.2.2;have hS0:Sx wr.drew:=by rw [hSx];exact (Gr.refl wr).drew
   have inst:Inhabited (ZJV Sx):=⟨⟨_,hS0⟩⟩;clear hSx;refine Vv2 Sx 22 [([0,1,2,3,4,5,6,7,8,9,10,11,12,13,14,15,16,17,18,19,20,21],22)] [] (by kernel_rfl) (by kernel_rfl) hS0 ?_;refine XGW ?_;simp only [XZy,List.getElem?_cons_zero,List.getElem?_cons_succ]
   repeat (go_big_quiet_step (fail))
   refine wpQuiet_nil ?_;go_wp2_with (go_at_call 214;refine (Qpx (HK.o.gr (Gr.refl wr).drew) xa HXL.o).mono ?_;rintro e w1 ⟨rfl,ht1,hv1⟩;have HT1:=hid ht1;have HV1:=hid hv1;clear ht1 hv1);refine ⟨.inl trivial,?_⟩;refine Z9U ?_;refine wpQuiet_nil ?_;refine NoPanic.normal ?_;clear x1 x2 x3 x4 hS0 inst;clear Sx;go_wp2;go_round
   case rel=>
    refine ⟨j,by omega,⟨HT.o.trans (((Gr.refl wr).drew.touch _).trans HT1.o)⟩,⟨?_⟩,by go_num⟩;rw [HUD.o];exact HV1.o
   case measure=>simp [intOf]
end
end
end
section
section
open Go.RowKit Word
section
variable {w:World} {S:Nat->Prop} {k q:Nat} {v:Vm} {l:Lg}
theorem Ypt (x y z r:Value):#[x,y,z]++((Array.replicate 19 undef).setIfInBounds 3 r).setIfInBounds 0 r =
  #[x, y, z, r, undef, undef, r, undef, undef, undef, undef, undef, undef, undef, undef, undef, undef, undef, undef, undef, undef, undef] := by kernel_rfl
theorem Jv4 (p2 p5 p4:Addr) (w:World):CallsD Tryz.prog 238 #[.pointer (some p2),.pointer (some p5),.pointer (some p4)] .returning w fun e u' w'=>e=.returned (.tuple #[])/\u'=.returning/\w'=w:=by
 have hnil:∀ w:World,(binOp BinOp.eql 20 .nilIface .nilIface).run Tryz.prog w=.ok (.bool true) w:=fun _=>by kernel_rfl
 refine callsD_of_wpS Tryz.func238 rfl fun c₀ cs hu=>?_;apply wpS_seq;apply wpS_region;simp [wpOpsS,go_sem,recoverD,hu,Tryz.ntmps238,Exit.thenS];rw [Ypt];refine wpS_of_wp ?_;go_wp2;refine ⟨rfl,.returning,?_,_,results_none rfl _ _ _,rfl,rfl,rfl⟩;cases c₀
 simp_all
def YTl (w:World) (S S2:Nat->Prop) (b4 k q:Nat) (v:Vm) (l:Lg) (why a:Int) (w':World):Prop:=
 XF4 (fun i=>S i\/S2 i\/i=b4) w w'/\QXZ w' S2 q (Yvy v l)/\ZIR w' S k (spV q) []/\Rec w' b4 195 [.int .i64 why,.int .i64 a]
set_option maxHeartbeats 1600000 in
theorem JR1 {S2:Nat->Prop} {b2 b5 b4:Nat} (hW:ZIR w S k (spV q) l) (hV:QXZ w S2 q v) (hd:∀ i,S i->¬ S2 i) (why a:Int) (older:List PanicEntry)
  (r2:w.cell? ⟨b2,0,none⟩=some (.pointer (some ⟨k,0,none⟩))) (r5:w.cell? ⟨b5,0,none⟩=some (.int .i64 0)) (r4:Rec w b4 195 [.int .i64 0,.int .i64 0]) (n4:¬ S b4) (m4:¬ S2 b4):
  CallsD Tryz.prog 238 #[.pointer (some ⟨b2,0,none⟩),.pointer (some ⟨b5,0,none⟩),.pointer (some ⟨b4,0,none⟩)] (.panicking ({ v:=VSi why a,recovered:=false } :: older)) w fun e u' w'=>
   e=.returned (.tuple #[])/\u'=.panicking ({ v:=VSi why a,recovered:=true } :: older)/\YTl w S S2 b4 k q v l why a w':=by
 have hta:∀ (x y:Int) (w:World),(Instr.typeAssert (.iface 313 (.agg #[.int .i64 x,.int .i64 y])) 20 313 true).run Tryz.prog w=.ok (.tuple #[.agg #[.int .i64 x,.int .i64 y],.bool true]) w:=fun _ _ _=>by kernel_rfl
 have hnn:∀ (x:Value) (w:World),(binOp BinOp.eql 20 (.iface 313 x) .nilIface).run Tryz.prog w=.ok (.bool false) w:=fun _ _=>by kernel_rfl
 have HW:=hid hW;have HV:=hid hV;have HD:=hid hd;clear hW hV hd;refine callsD_of_wpS Tryz.func238 rfl fun c₀ cs hu=>?_;apply wpS_seq;apply wpS_region;unfold VSi at hu ⊢;simp [wpOpsS,go_sem,recoverD,hu,Tryz.ntmps238,Exit.thenS];rw [Ypt];refine wpS_of_wp ?_;go_wp2_with (go_at_call 239;refine (ZSY HW.o HV.o HD.o).mono ?_;rintro e w1 ⟨rfl,ht1,hv1,hw1⟩;have HR1:=hid (r4.touch ht1 (fun h=>h.elim n4 m4));have d0:=HR1.o.cell (j:=0) rfl;have d1:=HR1.o.cell (j:=1) rfl;have df:=HR1.o.free;have hb4:=HR1.o.lt;have HT1:=hid ht1;have HV1:=hid hv1;have HW1:=hid hw1;clear ht1 hv1 hw1);have hbl:=HR1.o.lt;have hdk:∀ i,S2 i->i≠b4:=fun i hi e=>m4 (by rw [<-e];exact hi);have hds:∀ i,S i->i≠b4:=fun i hi e=>n4 (by rw [<-e];exact hi);have hT:=((XF4.refl (fun i=>i=b4) w1).setCell (a:=⟨b4,0,none⟩) (fun _=>rfl) (.int .i64 why)).setCell (a:=⟨b4,1,none⟩) (fun _=>rfl) (.int .i64 a);have hTA:XF4 (fun i=>S i\/S2 i\/i=b4) w _:=(HT1.o.mono (fun i _ hi=>hi.elim Or.inl (fun h=>Or.inr (Or.inl h)))).trans (hT.mono (fun i _ hi=>Or.inr (Or.inr hi)));refine ⟨rfl,_,rfl,_,results_none rfl _ _ _,rfl,rfl,?_⟩;exact ⟨hTA.alloc _,(HV1.o.touch hT (fun i hi _=>hdk i hi)).gr ((Gr.refl _).alloc _),(HW1.o.touch hT (fun i hi _=>hds i hi)).gr ((Gr.refl _).alloc _),Rec.gr (Rec.set (Rec.set HR1.o 0 _) 1 _) ((Gr.refl _).alloc _)⟩
end
end
end
section
section
open Go.RowKit Word
def YRv (q k b4:Nat) (Sx:Nat->Prop) (w0:World) (G:World->Prop) (H:Int->Int->Vm->Lg->(Nat->Prop)->(Nat->Prop)->World->Prop) (e:Ending) (w1:World):Prop:=
 XF4 Sx w0 w1/\((e=.returned (.tuple #[])/\G w1) ∨
  ∃ why a v l S S2,e=.panicked [{ v:=VSi why a,recovered:=false }]/\ZIR w1 S k (spV q) l/\QXZ w1 S2 q v/\(∀ i,S i->¬ S2 i)/\¬ S b4/\¬ S2 b4/\H why a v l S S2 w1)
section
variable {w:World} {S:Nat->Prop} {k q:Nat} {v:Vm} {l:Lg}
def Vlc (w:World) (k:Nat):World:=((w.alloc (.cells #[.pointer (some ⟨k,0,none⟩)] 191)).alloc (.cells #[.int .i64 0,.int .i64 0] 195)).alloc (.cells #[.int .i64 0] 3)
def ZHP (w:World) (k q:Nat) (Sx:Nat->Prop) (G:World->Prop) (H:Int->Int->Vm->Lg->(Nat->Prop)->(Nat->Prop)->World->Prop) (e:Ending) (w':World):Prop:=
 ∃ w1,XF4 Sx (Vlc w k) w1/\((G w1/\e=.returned (.agg #[.int .i64 0,.int .i64 0])/\w'=(w1.setCell ⟨w.heap.size+1,0,none⟩ (.int .i64 0)).setCell ⟨w.heap.size+1,1,none⟩ (.int .i64 0)) ∨
  ∃ why a v l S S2,H why a v l S S2 w1/\e=.returned (.agg #[.int .i64 why,.int .i64 a])/\YTl w1 S S2 (w.heap.size+1) k q v l why a w')
theorem Zo0 (W:World) (blk:Nat) (p q:Value) (h0:W.cell? ⟨blk,0,none⟩=some p) (h1:W.cell? ⟨blk,1,none⟩=some q):(loadVar 195 ⟨blk,0,none⟩).run Tryz.prog W=.ok (.agg #[p,q]) W:=by
 have a1:(isAgg 195).run Tryz.prog W=.ok true W:=by kernel_rfl
 have a2:(sizeOf 195).run Tryz.prog W=.ok 2 W:=by kernel_rfl
 simp [loadVar,Sem.run_bind,a1,a2,Result.andThen,loadCells,go_sem,h0,h1]
set_option maxHeartbeats 1600000 in
theorem JNc {F:Nat} {caps:Array Value} {Sx:Nat->Prop} {G:World->Prop} {H:Int->Int->Vm->Lg->(Nat->Prop)->(Nat->Prop)->World->Prop}
  (hcf:∀ args w,(callFunc F args).run Tryz.prog w=.ok (.enter F args) w) {sp:Value} (hW:ZIR w S k sp []) (hF:Calls Tryz.prog F (#[.pointer (some ⟨k,0,none⟩)]++caps) (Vlc w k) (YRv q k (w.heap.size+1) Sx (Vlc w k) G H)) (hx:∀ i,w.heap.size<=i->i<=w.heap.size+2->¬ Sx i):
  Calls Tryz.prog 184 #[.pointer (some ⟨k,0,none⟩),.func (.func F) #[] caps] w (ZHP w k q Sx G H):=by
 have hmf:∀ (fn:Fn) (first cap:Array Value) (w:World),(Instr.makeFunc fn first cap).run Tryz.prog w=.ok (.func fn first cap) w:=fun _ _ _ _=>rfl;obtain ⟨vl,hr,ho,-⟩:=hW.row;obtain ⟨A,c,rfl,hc1,hc2⟩:=ZfN ho;have c1:=hr.cell (j:=1) rfl;have hkl:=hr.lt;clear hr ho
 go_enter_defers Tryz.func184,Tryz.ntmps184
 have r2:Rec (Vlc w k) w.heap.size 191 [.pointer (some ⟨k,0,none⟩)]:=Rec.gr (Rec.gr (Rec.new w _ _) ((Gr.refl _).alloc _)) ((Gr.refl _).alloc _)
 have r4:Rec (Vlc w k) (w.heap.size+1) 195 [.int .i64 0,.int .i64 0]:=by
  have:=Rec.gr (Rec.new (w.alloc (.cells #[.pointer (some ⟨k,0,none⟩)] 191)) 195 [.int .i64 0,.int .i64 0]) ((Gr.refl _).alloc (.cells #[.int .i64 0] 3));rw [World.size_alloc] at this;exact this
 have r5:Rec (Vlc w k) (w.heap.size+1+1) 3 [.int .i64 0]:=by
  have:=Rec.new ((w.alloc (.cells #[.pointer (some ⟨k,0,none⟩)] 191)).alloc (.cells #[.int .i64 0,.int .i64 0] 195)) 3 [.int .i64 0];rw [World.size_alloc,World.size_alloc] at this;exact this
 have HR2:=hid r2;have HR4:=hid r4;have HR5:=hid r5;clear r2 r4 r5;go_wp2;refine hF.mono ?_;rintro e w1 ⟨ht1,he⟩;have q2:=HR2.o.touch ht1 (hx _ (Nat.le_refl _) (by omega));have q4:=HR4.o.touch ht1 (hx _ (by omega) (by omega));have q5:=HR5.o.touch ht1 (hx _ (by omega) (by omega));have hT1:=hid ht1;rcases he with ⟨rfl,hg1⟩ | ⟨why,a,v,l,S',S2,rfl,hw1,hv1,hd1,n4,m4,hh1⟩
 ·have HG:=hid hg1;have k0:=q4.cell (j:=0) rfl;have k1:=q4.cell (j:=1) rfl;have kf:=q4.free;have HQ4:=hid q4;clear q2 q4 q5 ht1 hF hx hg1;go_wp2;have R6:=Rec.set (Rec.set HQ4.o 0 (.int .i64 0)) 1 (.int .i64 0);refine leaves_cons (f:=238) (args:=#[.pointer (some ⟨w.heap.size,0,none⟩),.pointer (some ⟨w.heap.size+1+1,0,none⟩),.pointer (some ⟨w.heap.size+1,0,none⟩)]) (by simp) (by simp [go_sem]) ?_;refine (Jv4 _ _ _ _).mono ?_;rintro e u' w2 ⟨rfl,rfl,rfl⟩;have hl:=Zo0 _ (w.heap.size+1) _ _ (R6.cell (j:=0) rfl) (R6.cell (j:=1) rfl);simp only [Leaves,settle];refine ⟨_,?_,w1,hT1.o,.inl ⟨HG.o,rfl,rfl⟩⟩;simp [results,Tryz.results184,asAddr,hl]
 ·have HW1:=hid hw1;have HV1:=hid hv1;have HD1:=hid hd1;have HH:=hid hh1;have HN:=hid (And.intro n4 m4);have k2:=q2.cell (j:=0) rfl;have k5:=q5.cell (j:=0) rfl;have HQ4:=hid q4;clear q2 q4 q5 ht1 hF hx hw1 hv1 hd1 hh1 n4 m4;go_wp2;refine leaves_cons (f:=238) (args:=#[.pointer (some ⟨w.heap.size,0,none⟩),.pointer (some ⟨w.heap.size+1+1,0,none⟩),.pointer (some ⟨w.heap.size+1,0,none⟩)]) (by simp) (by simp [go_sem]) ?_;refine (JR1 HW1.o HV1.o HD1.o why a [] k2 k5 HQ4.o HN.o.1 HN.o.2).mono ?_;rintro e u' w2 ⟨rfl,rfl,hc⟩;have hl:=Zo0 _ (w.heap.size+1) _ _ (hc.2.2.2.cell (j:=0) rfl) (hc.2.2.2.cell (j:=1) rfl);simp only [settle,List.dropWhile_nil,Leaves];refine ⟨_,?_,w1,hT1.o,.inr ⟨why,a,v,l,S',S2,HH.o,rfl,hc⟩⟩;simp [results,Tryz.results184,asAddr,hl]
def XEJ (w:World) (sp:Value):World:=(w.alloc (.cells #[.int .i64 0,.int .i64 0] 195)).alloc (.cells #[sp,.slice none 0 0] 265)
theorem VS8 (w:World) (sp:Value):ZIR (XEJ w sp) (fun i=>i=w.heap.size+1) (w.heap.size+1) sp []:=by
 have:=Rec.new (w.alloc (.cells #[.int .i64 0,.int .i64 0] 195)) 265 [sp,.slice none 0 0];rw [World.size_alloc] at this;exact ⟨rfl,Nat.zero_le _,(fun x hx=>by cases hx),.slice none 0 0,this,Vm9 _ _ _ _,(fun g hg=>by cases hg)⟩
def V3L (w:World) (sp:Value) (q:Nat) (Sx:Nat->Prop) (G:World->Prop) (H:Int->Int->Vm->Lg->(Nat->Prop)->(Nat->Prop)->World->Prop) (e:Ending) (w':World):Prop:=
 ∃ w2,∃ x y,ZHP (XEJ w sp) (w.heap.size+1) q Sx G H (.returned (.agg #[.int .i64 x,.int .i64 y])) w2/\e=.returned (.agg #[.int .i64 x,.int .i64 y])/\w'=(w2.setCell ⟨w.heap.size,0,none⟩ (.int .i64 x)).setCell ⟨w.heap.size,1,none⟩ (.int .i64 y)
set_option maxHeartbeats 1600000 in
theorem Zfg {sp:Value} {F:Nat} {caps:Array Value} {Sx:Nat->Prop} {G:World->Prop} {H:Int->Int->Vm->Lg->(Nat->Prop)->(Nat->Prop)->World->Prop}
  (hsp:∃ T rv,sp=.iface T rv) (hcf:∀ args w,(callFunc F args).run Tryz.prog w=.ok (.enter F args) w)
  (hF:Calls Tryz.prog F (#[.pointer (some ⟨w.heap.size+1,0,none⟩)]++caps) (Vlc (XEJ w sp) (w.heap.size+1)) (YRv q (w.heap.size+1) (w.heap.size+3) Sx (Vlc (XEJ w sp) (w.heap.size+1)) G H))
  (hx:∀ i,w.heap.size+2<=i->i<=w.heap.size+4->¬ Sx i) (hx0:¬ Sx w.heap.size) (hH:∀ why a v l S S2 w1,H why a v l S S2 w1->¬ S w.heap.size/\¬ S2 w.heap.size):
  Calls Tryz.prog 124 #[sp,.func (.func F) #[] caps] w (V3L w sp q Sx G H):=by
 obtain ⟨T,rv,rfl⟩:=hsp;have hsz:(XEJ w (.iface T rv)).heap.size=w.heap.size+2:=by unfold XEJ;rw [World.size_alloc,World.size_alloc]
 have HP:=hid (JNc (k:=w.heap.size+1) (w:=XEJ w (.iface T rv)) (Sx:=Sx) (G:=G) (H:=H) hcf (VS8 w _) (by rw [hsz];exact hF) (by rw [hsz];exact fun i h1 h2=>hx i h1 (by omega)));have HR0:=hid (Rec.gr (Rec.new w 195 [.int .i64 0,.int .i64 0]) ((Gr.refl _).alloc (.cells #[.iface T rv,.slice none 0 0] 265)))
 have HPE:Hid (∀ e w',ZHP (XEJ w (.iface T rv)) (w.heap.size+1) q Sx G H e w'->∃ x y,e=.returned (.agg #[.int .i64 x,.int .i64 y])/\Rec w' w.heap.size 195 [.int .i64 0,.int .i64 0]):=⟨by
  rintro e w' ⟨w1,t1,h⟩;have r0:Rec (Vlc (XEJ w (.iface T rv)) (w.heap.size+1)) w.heap.size 195 [.int .i64 0,.int .i64 0]:=HR0.o.gr (((((Gr.refl _).alloc _).alloc _).alloc _));have r1:=r0.touch t1 hx0;rw [hsz] at h;rcases h with ⟨-,rfl,rfl⟩ | ⟨why,a,v,l,S,S2,hh,rfl,hc⟩
  ·exact ⟨0,0,rfl,VDR (VDR r1 _ (fun g hg=>by cases hg;show w.heap.size≠w.heap.size+2+1;omega)) _ (fun g hg=>by cases hg;show w.heap.size≠w.heap.size+2+1;omega)⟩
  ·obtain ⟨n1,n2⟩:=hH _ _ _ _ _ _ _ hh
   exact ⟨why,a,rfl,r1.touch hc.1 (fun h=>by rcases h with h | h | h;exact n1 h;exact n2 h;omega)⟩⟩
 clear hF hx hx0 hH hcf hsz;go_enter Tryz.func124,Tryz.ntmps124;go_wp2_with (go_at_call 184;refine HP.o.mono ?_;intro e w2 hpe;obtain ⟨x,y,rfl,hr2⟩:=HPE.o _ _ hpe;have k0:=hr2.cell (j:=0) rfl;have k1:=hr2.cell (j:=1) rfl;have kf:=hr2.free;have HR2:=hid hr2;have HQ:=hid hpe;clear hpe hr2);have R3:=Rec.set (Rec.set HR2.o 0 (.int .i64 x)) 1 (.int .i64 y);have hl:=Zo0 _ w.heap.size _ _ (R3.cell (j:=0) rfl) (R3.cell (j:=1) rfl);refine bodyPost_ret (v:=.agg #[.int .i64 x,.int .i64 y]) ?_ rfl ⟨w2,x,y,HQ.o,rfl,rfl⟩;simp [results,Tryz.results124,asAddr,hl]
end
end
end
end
section
section
section
open Go.RowKit Word
def mkV (v:Vm) (a:Int) (x:Nat):Nat->Vm
 | 0=>v.st a x
 | m+1=>(mkV v a x m).st (a+1+m) 0
def mkE (v:Vm) (a:Int):Nat->Int
 | 0=>v.ldE a
 | m+1=>if mkE v a m≠0 then mkE v a m else v.ldE (a+1+m)
theorem QBF (v:Vm) (a:Int) (x:Nat) (m:Nat) (b:Int):(mkV v a x m).ldE b=v.ldE b:=by
 induction m with
 | zero=>exact Zpt ..
 | succ m ih=>unfold mkV;rw [Zpt,ih]
theorem ZGy {v:Vm} {a:Int} {m:Nat} (h:mkE v a m≠0) {n:Nat} (hn:m<=n):mkE v a n=mkE v a m:=by
 induction n with
 | zero=>rw [Nat.le_zero.1 hn]
 | succ n ih=>
  rcases Nat.lt_or_ge n m with h' | h'
  ·rw [show m=n+1 by omega]
  ·have:=ih h'
   show (if mkE v a n≠0 then mkE v a n else _)=_
   rw [if_pos (by rw [this];exact h),this]
section
variable {w:World} {S2:Nat->Prop} {k q b4:Nat} {v:Vm}
def wkS (w:World) (k i:Nat):Prop:=i=k\/w.heap.size<=i
def mkG (q:Nat) (S2:Nat->Prop) (v:Vm) (a:Int) (x n:Nat) (w1:World):Prop:=mkE v a n=0/\QXZ w1 S2 q (mkV v a x n)
def mkH (w:World) (k:Nat) (S2:Nat->Prop) (v:Vm) (a:Int) (n:Nat) (why _a:Int) (v':Vm) (l:Lg) (S S2':Nat->Prop) (_w1:World):Prop:=
 why=mkE v a n/\mkE v a n≠0/\Yvy v' l=v/\S=wkS w k/\S2'=S2
structure Vcw (w wr:World) (S2:Nat->Prop) (k q:Nat) (v:Vm) (a:Int) (x m:Nat) (l:Lg):Prop where
 e:mkE v a m=0
 wk:ZIR wr (wkS w k) k (spV q) l
 vm:QXZ wr S2 q (mkV v a x m)
 un:Yvy (mkV v a x m) l=v
 ll:l.length=m+1
 t:XF4 (fun i=>wkS w k i\/S2 i) w wr
set_option maxHeartbeats 1600000 in
theorem YIO {bA bW bH p f c:Nat} {a:Int} {x:Nat} (hs:p+f+c<=255) (hx:x<18446744073709551616) (hW:ZIR w (fun i=>i=k) k (spV q) []) (hV:QXZ w S2 q v) (hS:∀ i,S2 i->i<w.heap.size) (hk:¬ S2 k)
  (cA:Rec w bA 3 [.int .i64 a]) (cW:Rec w bW 34 [.int .u64 x]) (cH:Rec w bH 33 [.int .i64 p,.int .i64 f,.int .i64 c]) (nA:¬ S2 bA) (nH:¬ S2 bH) (n4:¬ S2 b4) (m4:b4<w.heap.size) (d4:b4≠k):
  Calls Tryz.prog 177 #[.pointer (some ⟨k,0,none⟩),.pointer (some ⟨bA,0,none⟩),.pointer (some ⟨bW,0,none⟩),.pointer (some ⟨bH,0,none⟩)] w
   (YRv q k b4 (fun i=>wkS w k i\/S2 i) w (mkG q S2 v a x (p+f+c)) (mkH w k S2 v a (p+f+c))):=by
 have kA:=cA.cell (j:=0) rfl;have kW:=cW.cell (j:=0) rfl;obtain ⟨vl,hr,-⟩:=hW.row;have hkA:bA≠k:=YnK cA hr (by decide) rfl rfl;have hkH:bH≠k:=YnK cH hr (by decide) rfl rfl;have hkl:=hr.lt
 have hd:∀ i,wkS w k i->¬ S2 i:=fun i hi h=>by
  rcases hi with rfl | hi
  ·exact hk h
  ·have:=hS i h;omega
 have hW':ZIR w (wkS w k) k (spV q) []:=hW.mono (fun i hi=>.inl hi);have HD:=hid hd;have HWK:=hid hW';have HST:=hid (Jzb hW' hV hd (by simp) a hx);have hN:Z3o ⟨p,f,c⟩=1+(p:Int)+f+c:=if_pos (JJj hs);have HSZ:=hid (fun W=>ZUg ⟨p,f,c⟩ W);rw [hN] at HSZ;unfold X79 at HSZ;have HV:=hid hV;have HCA:=hid cA;have HCH:=hid cH;have HNN:=hid (And.intro nA (And.intro nH (And.intro n4 (And.intro hkA hkH))));have HB4:=hid (show ¬ wkS w k b4 from fun h=>by rcases h with h | h;exact d4 h;omega);clear hr hW hV hd hW' hk nA nH n4 hN cA cW cH;by_cases h0:v.ldE a=0
 ·have HE:=hid h0;have har:=Qo9 h0;have hn2:=HV.o.ok.n2;clear h0;go_enter Tryz.func177,Tryz.ntmps177
  go_wp2_with (first
   | (go_at_call 178;refine HST.o.mono ?_;rintro e w1 (⟨h,-⟩ | ⟨-,rfl,ht1,hv1,hk1⟩);(exact absurd HE.o h);have hH1:=HCH.o.touch ht1 (fun h=>h.elim (fun h=>h.elim HNN.o.2.2.2.2 (fun h=>absurd HCH.o.lt (Nat.not_lt_of_le h))) HNN.o.2.1);have j0:=hH1.cell (j:=0) rfl;have j1:=hH1.cell (j:=1) rfl;have j2:=hH1.cell (j:=2) rfl;have HH1:=hid hH1;have HT1:=hid ht1;have HV1:=hid hv1;have HK1:=hid hk1;clear ht1 hv1 hk1 hH1)
   | (go_at_call 90;refine (HSZ.o _).mono ?_;rintro e w2 ⟨rfl,hg2⟩;have HG2:=hid hg2;clear hg2))
  have HI0:Hid (Vcw w w2 S2 k q v a x 0 [(a,v.ldV a)]):=⟨⟨HE.o,(HK1.o.gr HG2.o).mono (fun i hi=>hi.elim id .inr),(HV1.o.gr HG2.o).mono (fun i hi=>hi.1),QLy HV.o.ok HE.o x,rfl,HT1.o.trans (HG2.o.touch _)⟩⟩
  go_loopw [13] (fun i wr=>∃ (m:Nat) (l:Lg),m<=p+f+c/\Hid (Vcw w wr S2 k q v a x m l)/\i=.int .i64 m) (fun i _=>p+f+c-(intOf i).toNat)
  case atStart=>exact ⟨0,_,by omega,HI0,rfl⟩
  case round=>
   obtain ⟨m,l,hm,HI,rfl⟩:=hrel;have cA1:=HCA.o.touch HI.o.t (fun h=>h.elim (fun h=>h.elim HNN.o.2.2.2.1 (fun h=>absurd HCA.o.lt (Nat.not_lt_of_le h))) HNN.o.1);have kA1:=cA1.cell (j:=0) rfl;clear HI0 kA kW j0 j1 j2;by_cases hlast:m=p+f+c
   ·have d0:decide ((m:Int)<1+(p:Int)+f+c-1)=false:=decide_eq_false (by omega);have HM:=hid hlast;clear hlast;go_wp2;refine bodyPost_end (results_none rfl _ _ _) rfl ?_;refine ⟨HI.o.t,.inl ⟨rfl,?_⟩⟩;rw [<-HM.o];exact ⟨HI.o.e,HI.o.vm⟩
   ·have d0:decide ((m:Int)<1+(p:Int)+f+c-1)=true:=decide_eq_true (by omega);have hll:=HI.o.ll;have HST2:=hid (Jzb HI.o.wk HI.o.vm HD.o (by omega) (a+1+m) (x:=0) (by omega))
    have hEE:mkE v a (m+1)=v.ldE (a+1+m):=by
     show (if mkE v a m≠0 then mkE v a m else _)=_
     rw [if_neg (fun h=>h HI.o.e)]
    have hLE:=QBF v a x m (a+1+m);by_cases h1:v.ldE (a+1+m)=0
    ·have H1:=hid (hLE.trans h1);have HE1:=hid (hEE.trans h1);have HML:=hid hlast;clear hLE h1 hEE hlast hll;go_wp2_with (go_at_call 178;refine HST2.o.mono ?_;rintro e w3 (⟨h,-⟩ | ⟨-,rfl,ht3,hv3,hk3⟩);(exact absurd H1.o h);have HT3:=hid ht3;have HV3:=hid hv3;have HK3:=hid hk3;clear ht3 hv3 hk3);go_round
     case rel=>
      refine ⟨m+1,l++[(a+1+m,(mkV v a x m).ldV (a+1+m))],by have:=HML.o;omega,⟨HE1.o,HK3.o.mono (fun i hi=>hi.elim id (fun h=>.inr (Nat.le_trans HI.o.t.size h))),HV3.o.mono (fun i hi=>hi.1),?_,by rw [List.length_append,HI.o.ll];rfl,HI.o.t.trans HT3.o⟩,by go_num⟩;rw [XV1]
      show Yvy (((mkV v a x m).st (a+1+m) 0).st _ _) l=v
      rw [QLy HI.o.vm.ok H1.o];exact HI.o.un
     case measure=>have:=HML.o;simp [intOf];omega
    ·have H1:Hid ((mkV v a x m).ldE (a+1+m)≠0):=⟨by rw [hLE];exact h1⟩;have HE1:Hid (mkE v a (p+f+c)=(mkV v a x m).ldE (a+1+m)):=⟨by rw [hLE,<-hEE];exact ZGy (by rw [hEE];exact h1) (by omega)⟩;clear hLE h1 hEE hlast hll;go_wp2_with (go_at_call 178;refine HST2.o.mono ?_;rintro e w3 (⟨-,hg3,rfl⟩ | ⟨h,-⟩);rotate_left;(exact absurd h H1.o);have HG3:=hid hg3;clear hg3);exact ⟨rfl,HI.o.t.trans (HG3.o.touch _),.inr ⟨_,_,_,l,wkS w k,S2,rfl,HI.o.wk.gr HG3.o,HI.o.vm.gr HG3.o,HD.o,HB4.o,HNN.o.2.2.1,HE1.o.symm,by rw [HE1.o];exact H1.o,HI.o.un,rfl,rfl⟩⟩
 ·have HE:=hid h0;clear h0;go_enter Tryz.func177,Tryz.ntmps177;go_wp2_with (go_at_call 178;refine HST.o.mono ?_;rintro e w1 (⟨-,hg1,rfl⟩ | ⟨h,-⟩);rotate_left;(exact absurd h HE.o);have HG1:=hid hg1;clear hg1);have he:mkE v a (p+f+c)=v.ldE a:=ZGy (m:=0) HE.o (Nat.zero_le _);exact ⟨rfl,HG1.o.touch _,.inr ⟨v.ldE a,a,v,[],wkS w k,S2,rfl,HWK.o.gr HG1.o,HV.o.gr HG1.o,HD.o,HB4.o,HNN.o.2.2.1,he.symm,by rw [he];exact HE.o,rfl,rfl,rfl⟩⟩
end
end
end
section
section
open Go.RowKit Word
theorem Xnm (args:Array Value) (w:World):(callFunc 177 args).run Tryz.prog w=.ok (.enter 177 args) w:=by kernel_rfl
theorem X1o (x y:Value) (w:World):(Instr.field 195 (.agg #[x,y]) 0).run Tryz.prog w=.ok x w:=by kernel_rfl
section
variable {w:World} {S:Nat->Prop} {q:Nat} {v:Vm}
set_option maxHeartbeats 1600000 in
theorem QOP {h:Hdr} (he:JQC h≠0) (w:World):Calls Tryz.prog 176 #[X79 h] w fun e w'=>e=.returned (.tuple #[.int .u64 0,.int .i64 15])/\Gr w w':=by
 have HC:=hid (fun W=>Jld h W);have h15:JQC h=15:=(Vhh h).resolve_left he;rw [h15] at HC;clear h15 he;unfold X79 at HC ⊢;go_enter Tryz.func176,Tryz.ntmps176;go_wp2_with (go_at_call 107;refine (HC.o _).mono ?_;rintro e w1 ⟨rfl,hg1⟩;have HG1:=hid (((Gr.refl w).alloc _).trans hg1);clear hg1);go_ret2;exact ⟨rfl,HG1.o⟩
def YWG (w:World) (S:Nat->Prop) (q:Nat) (v:Vm) (a:Int) (x n:Nat) (e:Ending) (w':World):Prop:=
 ∃ b:Int,e=.returned (.agg #[.int .i64 (mkE v a n),.int .i64 b])/\XF4 S w w'/\QXZ w' S q (if mkE v a n=0 then mkV v a x n else v)
theorem YxQ (hV:QXZ w S q v) {bA bW bH p f c:Nat} {a:Int} {x:Nat} (hs:p+f+c<=255) (hx:x<18446744073709551616)
  (cA:Rec w bA 3 [.int .i64 a]) (cW:Rec w bW 34 [.int .u64 x]) (cH:Rec w bH 33 [.int .i64 p,.int .i64 f,.int .i64 c]) (nA:¬ S bA) (nH:¬ S bH):
  Calls Tryz.prog 124 #[spV q,.func (.func 177) #[] #[.pointer (some ⟨bA,0,none⟩),.pointer (some ⟨bW,0,none⟩),.pointer (some ⟨bH,0,none⟩)]] w (YWG w S q v a x (p+f+c)):=by
 have hsz:(XEJ w (spV q)).heap.size=w.heap.size+2:=by unfold XEJ;rw [World.size_alloc,World.size_alloc]
 obtain ⟨W0,hW0⟩:∃ W0,W0=Vlc (XEJ w (spV q)) (w.heap.size+1):=⟨_,rfl⟩;have hsz0:W0.heap.size=w.heap.size+5:=by rw [hW0];unfold Vlc;rw [World.size_alloc,World.size_alloc,World.size_alloc,hsz]
 have g1:Gr w (XEJ w (spV q)):=((Gr.refl w).alloc _).alloc _;have g2:Gr (XEJ w (spV q)) W0:=by rw [hW0];exact (((Gr.refl _).alloc _).alloc _).alloc _
 have g:Gr w W0:=g1.trans g2;have hS2:∀ i,ZOk S w i->i<w.heap.size:=fun i hi=>hi.2;have hbody:=YIO (b4:=w.heap.size+3) (S2:=ZOk S w) hs hx ((VS8 w (spV q)).gr g2) (hV.cut.gr g) (fun i hi=>by have:=hS2 i hi;omega) (fun h=>by have:=hS2 _ h;omega) (cA.gr g) (cW.gr g) (cH.gr g) (fun h=>nA h.1) (fun h=>nH h.1) (fun h=>by have:=hS2 _ h;omega) (by omega) (by omega)
 have hrun:=Zfg (w:=w) (sp:=spV q) (q:=q) (F:=177) (caps:=#[.pointer (some ⟨bA,0,none⟩),.pointer (some ⟨bW,0,none⟩),.pointer (some ⟨bH,0,none⟩)]) ⟨_,_,rfl⟩ (Sx:=fun i=>wkS W0 (w.heap.size+1) i\/ZOk S w i)
  (G:=mkG q (ZOk S w) v a x (p+f+c)) (H:=mkH W0 (w.heap.size+1) (ZOk S w) v a (p+f+c)) Xnm (by rw [<-hW0];exact hbody)
  (fun i h1 h2 h=>by
   rcases h with (h | h) | h
   ·omega
   ·omega
   ·have:=h.2;omega)
  (fun h=>by
   rcases h with (h | h) | h
   ·omega
   ·omega
   ·exact absurd h.2 (Nat.lt_irrefl _))
  (fun why a' v' l S' S2 w1 h=>by
   obtain ⟨-,-,-,rfl,rfl⟩:=h;refine ⟨fun h=>?_,fun h=>absurd h.2 (Nat.lt_irrefl _)⟩
   rcases h with h | h <;> omega)
 refine hrun.mono ?_;rintro e w' ⟨w2,fx,fy,⟨w1,ht1,hp⟩,rfl,rfl⟩;rw [<-hW0] at ht1;rw [hsz] at hp;have hTw:∀ (X:World) (T:XF4 (fun i=>w.heap.size<=i\/S i) w X),XF4 S w X:=fun X T=>T.mono (fun i hi h=>h.resolve_left (by omega))
 have T1:XF4 (fun i=>w.heap.size<=i\/S i) w w1:=(g.touch _).trans' ht1 (fun i hi h=>by
  rcases h with (h | h) | h
  ·left;omega
  ·left;omega
  ·exact .inr h.1)
 rcases hp with ⟨⟨e0,hv1⟩,he,rfl⟩ | ⟨why,a',v',l,S',S2,⟨rfl,e0,hu,rfl,rfl⟩,he,hc⟩
 ·simp only [Ending.returned.injEq,Value.agg.injEq] at he;have hfx:fx=0/\fy=0:=by simpa using he
  obtain ⟨rfl,rfl⟩:=hfx;have hT:=(((XF4.refl (fun i=>w.heap.size<=i) w1).setCell (a:=⟨w.heap.size+2+1,0,none⟩) (fun _=>by show w.heap.size<=w.heap.size+2+1;omega) (.int .i64 0)).setCell (a:=⟨w.heap.size+2+1,1,none⟩) (fun _=>by show w.heap.size<=w.heap.size+2+1;omega) (.int .i64 0)).setCell (a:=⟨w.heap.size,0,none⟩) (fun _=>Nat.le_refl _) (.int .i64 0) |>.setCell (a:=⟨w.heap.size,1,none⟩) (fun _=>Nat.le_refl _) (.int .i64 0);refine ⟨0,by rw [e0],hTw _ (T1.trans (hT.mono (fun i _ h=>.inl h))),?_⟩;rw [if_pos e0];exact (hv1.touch hT (fun i hi _ h=>by have:=hi.2;omega)).mono (fun i hi=>hi.1)
 ·simp only [Ending.returned.injEq,Value.agg.injEq] at he;have hfx:fx=mkE v a (p+f+c)/\fy=a':=by simpa using he
  obtain ⟨rfl,rfl⟩:=hfx;have hT:=fun z1 z2=>((XF4.refl (fun i=>w.heap.size<=i) w2).setCell (a:=⟨w.heap.size,0,none⟩) (fun _=>Nat.le_refl _) z1).setCell (a:=⟨w.heap.size,1,none⟩) (fun _=>Nat.le_refl _) z2;refine ⟨fy,rfl,hTw _ ((T1.trans' hc.1 (fun i hi h=>?_)).trans ((hT _ _).mono (fun i _ h=>.inl h))),?_⟩
  ·rcases h with (h | h) | h | h
   ·left;omega
   ·left;omega
   ·exact .inr h.1
   ·left;omega
  ·rw [if_neg e0];have:=(hc.2.1.touch (hT (.int .i64 (mkE v a (p+f+c))) (.int .i64 fy)) (fun i hi _ h=>by have:=hi.2;omega)).mono (fun i hi=>hi.1);rw [hu] at this;exact this
def Y3I (v:Vm) (a:Int) (h:Hdr):Int:=if a<=0 then 5 else if JQC h≠0 then 15 else mkE v a (h.p+h.f+h.k).toNat
def mkVm (v:Vm) (a:Int) (h:Hdr):Vm:=if Y3I v a h=0 then mkV v a (YsO h.p.toNat h.f.toNat h.k.toNat) (h.p+h.f+h.k).toNat else v
theorem ZXc {a b c:Nat} (hs:a+b+c<=255):YsO a b c<18446744073709551616:=by
 have:=Vts hs;unfold YsO;omega
set_option maxHeartbeats 1600000 in
theorem V9e (hV:QXZ w S q v) (a:Int) (h:Hdr):Calls Tryz.prog 109 #[spV q,.int .i64 a,X79 h] w fun e w'=>e=.returned (.int .i64 (Y3I v a h))/\XF4 S w w'/\QXZ w' (plus S w) q (mkVm v a h):=by
 have HV:=hid hV;have hmf:∀ (fn:Fn) (first cap:Array Value) (w:World),(Instr.makeFunc fn first cap).run Tryz.prog w=.ok (.func fn first cap) w:=fun _ _ _ _=>rfl;have HSAME:Hid (Y3I v a h≠0->∀ w',Gr w w'->XF4 S w w'/\QXZ w' (plus S w) q (mkVm v a h)):=⟨fun hn w' g=>⟨g.touch S,by unfold mkVm;rw [if_neg hn];exact (hV.gr g).mono (fun k hk=>.inl hk)⟩⟩;by_cases h0:a<=0
 ·have HR:Hid (Y3I v a h=5):=⟨if_pos h0⟩;have d0:decide (a<=0)=true:=decide_eq_true h0;unfold spV X79;clear h0 hV;go_enter Tryz.func109,Tryz.ntmps109;go_wp2;go_ret;exact ⟨ZzN HR.o.symm,HSAME.o (by rw [HR.o];decide) _ (((Gr.refl w).alloc _).alloc _)⟩
 ·have d0:decide (a<=0)=false:=decide_eq_false h0;by_cases h1:JQC h=0
  ·obtain ⟨p,f,c,rfl,hs⟩:=XZe h1
   have hR:Y3I v a ⟨p,f,c⟩=mkE v a (p+f+c):=by
    unfold Y3I;rw [if_neg h0,if_neg (fun h=>h h1)];congr 1
   have HR:=hid hR
   have HM:Hid (mkVm v a ⟨p,f,c⟩=if mkE v a (p+f+c)=0 then mkV v a (YsO p f c) (p+f+c) else v):=⟨by
    unfold mkVm;rw [hR]
    congr 1⟩
   have HP:=hid (fun W=>Jii hs W)
   have HRUN:=hid (fun (W:World) (g:Gr w W) (bW:Nat) (cA:Rec W w.heap.size 3 [.int .i64 a]) (cW:Rec W bW 34 [.int .u64 (YsO p f c:Nat)]) (cH:Rec W (w.heap.size+1) 33 [.int .i64 p,.int .i64 f,.int .i64 c])=>
    YxQ (hV.cut.gr g) hs (ZXc hs) cA cW cH (fun h=>absurd h.2 (Nat.lt_irrefl _)) (fun h=>by have:=h.2;omega))
   unfold X79 at HP;unfold spV X79;unfold spV at HRUN;have hfl:=X1o;clear hV h0 h1 hR;go_enter Tryz.func109,Tryz.ntmps109
   go_wp2_with (first
    | (go_at_call 176;refine (HP.o _).mono ?_;rintro e w1 ⟨rfl,hg1⟩;have HG1:=hid hg1;clear hg1)
    | (go_at_call 124;have cA:=(((Rec.new w 3 [.int .i64 a]).gr ((Gr.refl _).alloc _)).gr HG1.o).gr ((Gr.refl w1).alloc (.cells #[.int .u64 (YsO p f c:Nat)] 34));have cH:=((Rec.new (w.alloc (.cells #[.int .i64 a] 3)) 33 [.int .i64 p,.int .i64 f,.int .i64 c]).gr HG1.o).gr ((Gr.refl w1).alloc (.cells #[.int .u64 (YsO p f c:Nat)] 34));rw [World.size_alloc] at cH;have cW:=Rec.new w1 34 [.int .u64 (YsO p f c:Nat)];refine (HRUN.o _ (((((Gr.refl w).alloc _).alloc _).trans HG1.o).alloc _) _ cA cW cH).mono ?_;rintro e w2 ⟨b,rfl,ht2,hv2⟩;have HT2:=hid ht2;have HV2:=hid hv2;clear ht2 hv2 cA cH cW))
   go_ret;refine ⟨ZzN HR.o.symm,((((((Gr.refl w).alloc _).alloc _).trans HG1.o).alloc _).touch S).trans (HT2.o.mono (fun i _ hi=>hi.1)),?_⟩;rw [HM.o];exact HV2.o.mono (fun i hi=>.inl hi.1)
  ·have HR:Hid (Y3I v a h=15):=⟨by unfold Y3I;rw [if_neg h0,if_pos h1]⟩;have HP:=hid (fun W=>QOP h1 W);unfold X79 at HP;unfold spV X79;clear hV h0 h1;go_enter Tryz.func109,Tryz.ntmps109;go_wp2_with (go_at_call 176;refine (HP.o _).mono ?_;rintro e w1 ⟨rfl,hg1⟩;have HG1:=hid ((((Gr.refl w).alloc _).alloc _).trans hg1);clear hg1);go_ret;exact ⟨ZzN HR.o.symm,HSAME.o (by rw [HR.o];decide) _ (HG1.o.alloc _)⟩
end
end
end
section
section
open Go.RowKit Word
def cwL (v:Vm) (a:Int) (n m:Nat):List Nat:=(List.range n).map fun j=>if j<m then v.ldV (a+j) else 0
theorem QGZ (v:Vm) (a:Int) (n m:Nat):(cwL v a n m).length=n:=by simp [cwL]
theorem JvV (v:Vm) (a:Int) {n m j:Nat} (hj:j<n):(VPA (cwL v a n m))[j]?=some (.int .u64 ((if j<m then v.ldV (a+j) else 0:Nat):Int)):=by
 rw [ZpD (by rw [QGZ];exact hj)];simp [cwL]
theorem Z0I (v:Vm) (a:Int) (n m:Nat):(VPA (cwL v a n m)).set m (.int .u64 (v.ldV (a+m):Nat))=VPA (cwL v a n (m+1)):=by
 apply List.ext_getElem?;intro j;rw [List.getElem?_set];have hl:∀ m,(VPA (cwL v a n m)).length=n:=fun m=>by simp [VPA,cwL]
 by_cases hj:j<n
 ·rw [JvV v a hj,JvV v a hj];by_cases h:m=j
  ·subst h;rw [if_pos rfl,if_pos (by rw [hl];exact hj),if_pos (by omega)]
  ·rw [if_neg h];by_cases h2:j<m
   ·rw [if_pos h2,if_pos (by omega)]
   ·rw [if_neg h2,if_neg (by omega)]
 ·rw [List.getElem?_eq_none (by rw [hl];omega),List.getElem?_eq_none (by rw [hl];omega)]
  split
  ·rename_i h;rw [if_neg (by rw [hl];omega)]
  ·rfl
theorem YkC (v:Vm) (a:Int) (n:Nat):VPA (cwL v a n 0)=List.replicate n (.int .u64 0):=by
 apply List.ext_getElem?;intro j;by_cases hj:j<n
 ·rw [JvV v a hj,List.getElem?_replicate,if_pos hj];rfl
 ·rw [List.getElem?_eq_none (by simp [VPA,cwL];omega),List.getElem?_replicate,if_neg hj]
theorem YJ3 (n:Nat):(madeCells #[.int .u64 0] n).toList=List.replicate n (.int .u64 0):=by
 unfold madeCells;apply List.ext_getElem
 ·simp
 ·intro i h1 h2;simp [Nat.mod_one]
section
variable {w:World} {S S2:Nat->Prop} {k q b4:Nat} {v:Vm}
def cpG (q:Nat) (S2:Nat->Prop) (v:Vm) (a t:Int) (n:Nat) (w1:World):Prop:=QXZ w1 S2 q (cpV v a t n)
def noH (_ _:Int) (_:Vm) (_:Lg) (_ _:Nat->Prop) (_:World):Prop:=False
structure JEo (w wg wr:World) (S2:Nat->Prop) (k q g:Nat) (v:Vm) (a t:Int) (n m:Nat) (l:Lg):Prop where
 wk:ZIR wr (wkS wg k) k (spV q) l
 vm:QXZ wr S2 q (cpV v a t m)
 ll:l.length=m
 row:wr.ownsRow 0 34 1 (.slice (some ⟨g,0,none⟩) n n) n (VPA (cwL v a n n))
 t:XF4 (fun i=>wkS w k i\/S2 i) w wr
 wz:wg.heap.size<=wr.heap.size
 gk:g≠k
set_option maxHeartbeats 3200000 in
theorem Q5n {bA bT bH p f c n:Nat} {a t:Int} (hs:p+f+c<=255) (hn:n=1+p+f+c) (hW:ZIR w (fun i=>i=k) k (spV q) []) (hV:QXZ w S2 q v) (hS:∀ i,S2 i->i<w.heap.size) (hk:¬ S2 k)
  (cA:Rec w bA 3 [.int .i64 a]) (cT:Rec w bT 3 [.int .i64 t]) (cH:Rec w bH 33 [.int .i64 p,.int .i64 f,.int .i64 c]) (nA:¬ S2 bA) (nT:¬ S2 bT)
  (hl:∀ m:Nat,m<n->v.ldE (a+m)=0) (ht:∀ m:Nat,m<n->v.ldE (t+m)=0):
  Calls Tryz.prog 249 #[.pointer (some ⟨k,0,none⟩),.pointer (some ⟨bH,0,none⟩),.pointer (some ⟨bA,0,none⟩),.pointer (some ⟨bT,0,none⟩)] w
   (YRv q k b4 (fun i=>wkS w k i\/S2 i) w (cpG q S2 v a t n) noH):=by
 have kA:=cA.cell (j:=0) rfl;have kT:=cT.cell (j:=0) rfl;have j0:=cH.cell (j:=0) rfl;have j1:=cH.cell (j:=1) rfl;have j2:=cH.cell (j:=2) rfl;have hHl:=cH.lt;have hAl:=cA.lt;obtain ⟨vl,hr,-⟩:=hW.row;have hkA:bA≠k:=YnK cA hr (by decide) rfl rfl;have hkT:bT≠k:=YnK cT hr (by decide) rfl rfl;have hkl:=hr.lt;have hN:Z3o ⟨p,f,c⟩=(n:Int):=by rw [show Z3o ⟨p,f,c⟩=1+(p:Int)+f+c from if_pos (JJj hs)];omega
 have HSZ:=hid (fun W=>ZUg ⟨p,f,c⟩ W);rw [hN] at HSZ;unfold X79 at HSZ;have HW:=hid hW;have HV:=hid hV;have HCA:=hid cA;have HCT:=hid cT;have HNN:=hid (And.intro nA (And.intro nT (And.intro hkA (And.intro hkT hk))));have HL:=hid hl;have HTT:=hid ht;have HS:=hid hS;obtain ⟨i0,hi,hz0,hz1,hz2⟩:=info_parts ZiX;have hn256:n<=256:=by omega
 have hn1:1<=n:=by omega
 have hn2:=hV.ok.n2;have har:=Qo9 (hl 0 (by omega));have har2:=Qo9 (hl (n-1) (by omega));have htr:=Qo9 (ht 0 (by omega));have htr2:=Qo9 (ht (n-1) (by omega));have HB:Hid (i0.bytes*n<=281474976710656):=⟨by rw [hz2];omega⟩;have HM:Hid (n<=maxLen):=⟨by unfold maxLen;omega⟩;clear hr hW hV hS hk nA nT hN cA cT cH hl ht hs hn;go_enter Tryz.func249,Tryz.ntmps249
 go_wp2_with (first
  | (go_at_call 90;refine (HSZ.o _).mono ?_;rintro e w1 ⟨rfl,hg1⟩;have HG1:=hid hg1;clear hg1)
  | (at_make;refine wpList_make_full _ rfl _ _ 123 rfl w1.heap.size 34 i0 (.int .u64 0) 1 Tryz.underlying123 hi hz0 hz1 .i64 .i64 _ _ n rfl rfl ?h1 ?h2 HB.o HM.o (Nat.le_refl _) ?h3))
 case h1=>omega
 case h2=>omega
 case h3=>
  intro w2 hown hgrow;have hg2:Gr w1 w2:=(JEA hgrow (fun _=>False) (fun k e _=>by cases e)).gr;have HO:Hid (w2.ownsRow 0 34 1 (.slice (some ⟨w1.heap.size,0,none⟩) n n) n (VPA (cwL v a n 0))):=⟨by rw [YkC,<-YJ3];exact XZg hown⟩;have HG2:=hid (HG1.o.trans hg2);obtain ⟨g,hg⟩:∃ g,g=w1.heap.size:=⟨_,rfl⟩;have hgw:w.heap.size<=g:=by rw [hg];exact HG1.o.size
  have HGK:Hid (g≠k):=⟨by omega⟩;rw [<-hg] at HO ⊢;clear hown hgrow hg2 hg j0 j1 j2;go_wp2
  go_loopw [14] (fun s14 wr=>∃ m:Nat,m<=n/\Hid (Gr w wr)/\Hid (wr.ownsRow 0 34 1 (.slice (some ⟨g,0,none⟩) n n) n (VPA (cwL v a n m)))/\s14=.int .i64 m) (fun s14 _=>n-(intOf s14).toNat)
  case atStart=>exact ⟨0,by omega,HG2,HO,rfl⟩
  case round=>
   obtain ⟨m,hm,HGr,HOr,rfl⟩:=hrel;clear HO kA kT;by_cases hlast:m=n
   ·subst hlast;go_wp2;obtain ⟨wg,hwg⟩:∃ wg,wg=wr:=⟨_,rfl⟩;rw [<-hwg] at HGr HOr ⊢;clear hwg;have HGL:=hid (And.intro hgw (Vvr HOr.o rfl).2);have HI0:Hid (JEo w wg wg S2 k q g v a t m 0 []):=⟨⟨(HW.o.gr HGr.o).mono (fun i hi=>.inl hi),HV.o.gr HGr.o,rfl,HOr.o,HGr.o.touch _,Nat.le_refl _,HGK.o⟩⟩;have hcz:=HGr.o.size;clear hm
    go_loopw [28] (fun s28 wr=>∃ (j:Nat) (l:Lg),j<=m/\Hid (JEo w wg wr S2 k q g v a t m j l)/\s28=.int .i64 j) (fun s28 _=>m-(intOf s28).toNat)
    case atStart=>exact ⟨0,_,by omega,HI0,rfl⟩
    case round=>
     obtain ⟨j,l,hj,HI,rfl⟩:=hrel;clear HI0;by_cases hlast:j=m
     ·subst hlast;go_wp2;refine bodyPost_end (results_none rfl _ _ _) rfl ?_;exact ⟨HI.o.t,.inl ⟨rfl,HI.o.vm⟩⟩
     ·have hmI:(j:Int)<(m:Int):=by omega
      have kT:=(HCT.o.touch HI.o.t (fun h=>h.elim (fun h=>h.elim HNN.o.2.2.2.1 (fun h=>absurd HCT.o.lt (Nat.not_lt_of_le h))) HNN.o.2.1)).cell (j:=0) rfl;have kc:=ZBn HI.o.row (JvV v a (m:=m) (show j<m by omega));rw [if_pos (by omega)] at kc
      have HD:Hid (∀ i,wkS wg k i->¬ S2 i):=⟨fun i hi h=>by
       rcases hi with rfl | hi
       ·exact HNN.o.2.2.2.2 h
       ·have:=HS.o i h;omega⟩
      have hyl:=HV.o.ok.ldV_lt (a+j);obtain ⟨y,hy⟩:∃ y,y=v.ldV (a+j):=⟨_,rfl⟩;rw [<-hy] at kc hyl;have HY:=hid hy;have hll:=HI.o.ll;have HST:=hid (Jzb HI.o.wk HI.o.vm HD.o (by omega) (t+j) hyl);have HE:Hid ((cpV v a t j).ldE (t+j)=0):=⟨by rw [(Vxj v a t j).ldE];exact HTT.o j (by omega)⟩;have HML:=hid hlast;clear hlast hy hll;go_wp2_with (go_at_call 178;refine HST.o.mono ?_;rintro e w3 (⟨h,-⟩ | ⟨-,rfl,ht3,hv3,hk3⟩);(exact absurd HE.o h);have HT3:=hid ht3;have HV3:=hid hv3;have HK3:=hid hk3;clear ht3 hv3 hk3);go_round
      case rel=>
       have hz:=HI.o.t.size;have hzr:wg.heap.size<=wr.heap.size:=HI.o.wz;refine ⟨j+1,l++[(t+j,(cpV v a t j).ldV (t+j))],by have:=HML.o;omega,⟨⟨HK3.o.mono (fun i hi=>hi.elim id (fun h=>.inr (Nat.le_trans hzr h))),?_,by rw [List.length_append,HI.o.ll];rfl,Zs2 HI.o.row HT3.o (fun g' hg' h=>?_),HI.o.t.trans (HT3.o.mono (fun i hi h=>?_)),Nat.le_trans hzr HT3.o.size,HI.o.gk⟩⟩,by go_num⟩
       ·have:=HV3.o.mono (T:=S2) (fun i hi=>hi.1);rw [HY.o] at this;exact this
       ·cases hg';rcases h with (h | h) | h
        ·exact HI.o.gk h
        ·have h:wg.heap.size<=g:=h;have:=HGL.o.2;omega
        ·have:g<w.heap.size:=HS.o _ h;have:=HGL.o.1;omega
       ·rcases h with (h | h) | h
        ·exact .inl (.inl h)
        ·exact .inl (.inr (by omega))
        ·exact .inr h
      case measure=>have:=HML.o;simp [intOf];omega
   ·have hmI:(m:Int)<(n:Int):=by omega
    have kA:=(HCA.o.gr HGr.o).cell (j:=0) rfl;have HLD:=hid (ZO8 (HW.o.gr HGr.o) (HV.o.gr HGr.o) (a+m));have hE:=HL.o m (by omega);have HE:=hid hE;have HML:=hid hlast;obtain ⟨y,hy⟩:∃ y,y=v.ldV (a+m):=⟨_,rfl⟩;have HY:=hid hy;unfold Z1x at HLD;rw [<-hy] at HLD;have kc:=ZBn HOr.o (JvV v a (m:=m) (show m<n by omega));have kf:=QxS HOr.o m;clear hlast hE hy;go_wp2_with (go_at_call 233;refine HLD.o.mono ?_;rintro e w3 ⟨hg3,he,-⟩;obtain rfl:=he HE.o;have HO3:=hid (Y9I HOr.o hg3);have kc3:=ZBn HO3.o (JvV v a (m:=m) (show m<n by have:=HML.o;omega));have kf3:=QxS HO3.o m;have hgl3:=(Vvr HO3.o rfl).2;have HG3:=hid (HGr.o.trans hg3);clear hg3 he);go_round
    case rel=>
     refine ⟨m+1,by have:=HML.o;omega,⟨?_⟩,⟨?_⟩,by go_num⟩
     ·refine ((HG3.o.touch (fun i=>w.heap.size<=i)).setCell (a:=⟨g,m,none⟩) (fun _=>hgw) _ |>.mono (T:=fun _=>False) (fun i hi h=>by omega)).gr
     ·have:=(World.ownsRow.stored HO3.o m (.int .u64 (y:Nat))).1;rw [HY.o,Z0I] at this;rw [HY.o];exact this
    case measure=>have:=HML.o;simp [intOf];omega
theorem Z5j (args:Array Value) (w:World):(callFunc 249 args).run Tryz.prog w=.ok (.enter 249 args) w:=by kernel_rfl
theorem VVs (hV:QXZ w S q v) {bA bT bH p f c n:Nat} {a t:Int} (hs:p+f+c<=255) (hn:n=1+p+f+c)
  (cA:Rec w bA 3 [.int .i64 a]) (cT:Rec w bT 3 [.int .i64 t]) (cH:Rec w bH 33 [.int .i64 p,.int .i64 f,.int .i64 c]) (nA:¬ S bA) (nT:¬ S bT)
  (hl:∀ m:Nat,m<n->v.ldE (a+m)=0) (ht:∀ m:Nat,m<n->v.ldE (t+m)=0):
  Calls Tryz.prog 124 #[spV q,.func (.func 249) #[] #[.pointer (some ⟨bH,0,none⟩),.pointer (some ⟨bA,0,none⟩),.pointer (some ⟨bT,0,none⟩)]] w fun e w'=>
   e=.returned (.agg #[.int .i64 0,.int .i64 0])/\XF4 S w w'/\QXZ w' S q (cpV v a t n):=by
 have hsz:(XEJ w (spV q)).heap.size=w.heap.size+2:=by unfold XEJ;rw [World.size_alloc,World.size_alloc]
 obtain ⟨W0,hW0⟩:∃ W0,W0=Vlc (XEJ w (spV q)) (w.heap.size+1):=⟨_,rfl⟩;have hsz0:W0.heap.size=w.heap.size+5:=by rw [hW0];unfold Vlc;rw [World.size_alloc,World.size_alloc,World.size_alloc,hsz]
 have g1:Gr w (XEJ w (spV q)):=((Gr.refl w).alloc _).alloc _;have g2:Gr (XEJ w (spV q)) W0:=by rw [hW0];exact (((Gr.refl _).alloc _).alloc _).alloc _
 have g:Gr w W0:=g1.trans g2;have hS2:∀ i,ZOk S w i->i<w.heap.size:=fun i hi=>hi.2;have hbody:=Q5n (b4:=w.heap.size+3) (S2:=ZOk S w) hs hn ((VS8 w (spV q)).gr g2) (hV.cut.gr g) (fun i hi=>by have:=hS2 i hi;omega) (fun h=>by have:=hS2 _ h;omega) (cA.gr g) (cT.gr g) (cH.gr g) (fun h=>nA h.1) (fun h=>nT h.1) hl ht
 have hrun:=Zfg (w:=w) (sp:=spV q) (q:=q) (F:=249) (caps:=#[.pointer (some ⟨bH,0,none⟩),.pointer (some ⟨bA,0,none⟩),.pointer (some ⟨bT,0,none⟩)]) ⟨_,_,rfl⟩ (Sx:=fun i=>wkS W0 (w.heap.size+1) i\/ZOk S w i)
  (G:=cpG q (ZOk S w) v a t n) (H:=noH) Z5j (by rw [<-hW0];exact hbody)
  (fun i h1 h2 h=>by
   rcases h with (h | h) | h
   ·omega
   ·omega
   ·have:=h.2;omega)
  (fun h=>by
   rcases h with (h | h) | h
   ·omega
   ·omega
   ·exact absurd h.2 (Nat.lt_irrefl _))
  (fun why a' v' l S' S2 w1 h=>h.elim)
 refine hrun.mono ?_;rintro e w' ⟨w2,fx,fy,⟨w1,ht1,hp⟩,rfl,rfl⟩;rw [<-hW0] at ht1;rw [hsz] at hp;have hTw:∀ (X:World) (T:XF4 (fun i=>w.heap.size<=i\/S i) w X),XF4 S w X:=fun X T=>T.mono (fun i hi h=>h.resolve_left (by omega))
 have T1:XF4 (fun i=>w.heap.size<=i\/S i) w w1:=(g.touch _).trans' ht1 (fun i hi h=>by
  rcases h with (h | h) | h
  ·left;omega
  ·left;omega
  ·exact .inr h.1)
 rcases hp with ⟨hv1,he,rfl⟩ | ⟨why,a',v',l,S',S2,hh,-⟩
 ·simp only [Ending.returned.injEq,Value.agg.injEq] at he;have hfx:fx=0/\fy=0:=by simpa using he
  obtain ⟨rfl,rfl⟩:=hfx;have hT:=(((XF4.refl (fun i=>w.heap.size<=i) w1).setCell (a:=⟨w.heap.size+2+1,0,none⟩) (fun _=>by show w.heap.size<=w.heap.size+2+1;omega) (.int .i64 0)).setCell (a:=⟨w.heap.size+2+1,1,none⟩) (fun _=>by show w.heap.size<=w.heap.size+2+1;omega) (.int .i64 0)).setCell (a:=⟨w.heap.size,0,none⟩) (fun _=>Nat.le_refl _) (.int .i64 0) |>.setCell (a:=⟨w.heap.size,1,none⟩) (fun _=>Nat.le_refl _) (.int .i64 0);exact ⟨rfl,hTw _ (T1.trans (hT.mono (fun i _ h=>.inl h))),(hv1.touch hT (fun i hi _ h=>by have:=hi.2;omega)).mono (fun i hi=>hi.1)⟩
 ·exact hh.elim
set_option maxHeartbeats 1600000 in
theorem Vb7 (hV:QXZ w S q v) {a t:Int} {n:Nat} (hr:v.rdE a=0) (hn:(n:Int)=v.osz a) (h0:0<t) (hl:∀ m:Nat,m<n->v.ldE (a+m)=0) (ht:∀ m:Nat,m<n->v.ldE (t+m)=0):
  Calls Tryz.prog 202 #[spV q,.int .i64 a,.int .i64 t] w fun e w'=>e=.returned (.int .i64 0)/\XF4 S w w'/\QXZ w' (plus S w) q (cpV v a t n):=by
 have hmf:∀ (fn:Fn) (first cap:Array Value) (w:World),(Instr.makeFunc fn first cap).run Tryz.prog w=.ok (.func fn first cap) w:=fun _ _ _ _=>rfl;have d0:decide (t<=0)=false:=decide_eq_false (by omega);obtain ⟨-,-,p,f,c,hh,hs⟩:=J7F hr
 have hnn:n=1+p+f+c:=by
  unfold Vm.osz at hn;rw [hh,show Z3o ⟨p,f,c⟩=1+(p:Int)+f+c from if_pos (JJj hs)] at hn;omega
 have HRD:=hid (fun (w':World) (g:Gr w w')=>ZkF (hV.gr g) a);rw [hr,hh] at HRD
 have HRUN:=hid (fun (W:World) (g:Gr w W) (bH:Nat) (cA:Rec W w.heap.size 3 [.int .i64 a]) (cT:Rec W (w.heap.size+1) 3 [.int .i64 t]) (cH:Rec W bH 33 [.int .i64 p,.int .i64 f,.int .i64 c])=>
  VVs (hV.cut.gr g) hs hnn cA cT cH (fun h=>absurd h.2 (Nat.lt_irrefl _)) (fun h=>by have:=h.2;omega) hl ht)
 have hfl:=X1o;unfold X79 at HRD;unfold spV at HRD HRUN ⊢;clear hV hr hh hn hnn hl ht h0;go_enter Tryz.func202,Tryz.ntmps202
 go_wp2_with (first
  | (go_at_call 100;refine (HRD.o _ (((Gr.refl w).alloc _).alloc _)).mono ?_;rintro e w1 ⟨rfl,hg1⟩;have rt:=(Rec.new (w.alloc (.cells #[.int .i64 a] 3)) 3 [.int .i64 t]).gr hg1;rw [World.size_alloc] at rt;have kt:=rt.cell (j:=0) rfl;have ktl:=rt.lt;have HG1:=hid hg1;clear hg1 rt)
  | (go_at_call 124;have cA:=(((Rec.new w 3 [.int .i64 a]).gr ((Gr.refl _).alloc _)).gr HG1.o).gr ((Gr.refl w1).alloc (.cells #[.int .i64 p,.int .i64 f,.int .i64 c] 33));have cT:=((Rec.new (w.alloc (.cells #[.int .i64 a] 3)) 3 [.int .i64 t]).gr HG1.o).gr ((Gr.refl w1).alloc (.cells #[.int .i64 p,.int .i64 f,.int .i64 c] 33));rw [World.size_alloc] at cT;have cH:=Rec.new w1 33 [.int .i64 p,.int .i64 f,.int .i64 c];refine (HRUN.o _ (((((Gr.refl w).alloc _).alloc _).trans HG1.o).alloc _) _ cA cT cH).mono ?_;rintro e w2 ⟨rfl,ht2,hv2⟩;have HT2:=hid ht2;have HV2:=hid hv2;clear ht2 hv2 cA cH cT))
 go_ret;refine ⟨rfl,((((((Gr.refl w).alloc _).alloc _).trans HG1.o).alloc _).touch S).trans (HT2.o.mono (fun i _ hi=>hi.1)),?_⟩;exact HV2.o.mono (fun i hi=>.inl hi.1)
set_option maxHeartbeats 800000 in
theorem QRl (hV:QXZ w S q v) {a i:Int} (hp:v.plE a i 1=0) {x:Nat} (hx:x<=2147483647):Calls Tryz.prog 112 #[spV q,.int .i64 a,.int .i64 i,.int .i64 x] w fun e w'=>e=.returned (.int .i64 (v.ldE (a+1+i)))/\XF4 S w w'/\QXZ w' (plus S w) q (v.st (a+1+i) x):=by
 have HPL:=hid (JNY hV a i 1 (by decide));have hA:v.plA a i 1=a+1+i:=if_pos hp;rw [hp,hA] at HPL;have n1:=QRb;have n2:=J76;have d0:decide ((x:Int)<0)=false:=decide_eq_false (by omega);have d1:decide (2147483647<(x:Int))=false:=decide_eq_false (by omega);have hw:IntKind.u64.wrap (x:Int)=(x:Int):=by rw [IntKind.wrap_u64];omega
 have HST:=hid (fun (w':World) (g:Gr w w')=>Qpx (hV.cut.gr g) (a+1+i) (x:=x) (by omega));generalize a+1+i=at' at HPL HST ⊢;unfold spV at HPL ⊢;clear hV hp hA;go_enter Tryz.func112,Tryz.ntmps112
 go_wp2_with (first
  | (go_at_call 179;refine HPL.o.mono ?_;rintro e w1 ⟨rfl,hg1⟩;have HG1:=hid hg1;clear hg1)
  | (go_at_call 214;refine (HST.o _ HG1.o).mono ?_;rintro e w2 ⟨rfl,ht2,hv2⟩;have HT2:=hid ht2;have HV2:=hid hv2;clear ht2 hv2))
 go_ret;exact ⟨rfl,(HG1.o.touch S).trans (HT2.o.mono (fun i _ hi=>hi.1)),HV2.o.mono (fun i hi=>.inl hi.1)⟩
end
end
end
end
section
section
open Go.RowKit
def J9K (v:Value):Option (DataW Value × List MemPlace):=some (.held v,[])
def YER (P:Program) (K:TypeId) (w:World) (b n:Nat) (f:Int->Option Value):Prop:=
 ∃ D:DataW Value,w.ownsMap P K J9K b n D/\∀ x:Int,(Lit.int .i64 x).wf=true->Maps.has D (.int .i64 x)=(f x).isSome/\∀ v,f x=some v->∀ z,D.atKey (.int .i64 x) z=.held v
section
variable {P:Program} {K:TypeId} {w:World} {b n:Nat} {f:Int->Option Value}
theorem YER.made (w:World):YER P K (w.alloc (.map #[] 0)) w.heap.size 0 (fun _=>none):=
 ⟨.map [],World.ownsMap_made _ _ _ _,fun _ _=>⟨rfl,fun _ h=>by cases h⟩⟩
theorem YER.lt (h:YER P K w b n f):b<w.heap.size:=by obtain ⟨D,h,-⟩:=h;exact h.lt
theorem YER.touch {S:Nat->Prop} {w':World} (h:YER P K w b n f) (t:XF4 S w w') (hS:¬ S b):YER P K w' b n f:=by
 obtain ⟨D,h,hf⟩:=h;have hlt:=h.lt;obtain ⟨es,clock,hb,r⟩:=h;exact ⟨D,⟨es,clock,(t.block b hlt hS).trans hb,r⟩,hf⟩
theorem YER.gr {w':World} (h:YER P K w b n f) (t:Gr w w'):YER P K w' b n f:=h.touch (t.touch (fun _=>False)) (fun h=>h)
theorem YER.congr (h:YER P K w b n f) {g:Int->Option Value} (hg:∀ x,f x=g x):YER P K w b n g:=by
 have:f=g:=funext hg;rw [<-this];exact h
theorem YER.ne {T:Nat} (h:YER P K w b n f) {q:Nat} (hq:∃ cs fr,w.heap[q]?=some (.cells cs T fr)):b≠q:=by
 rintro rfl;obtain ⟨D,⟨es,clock,hb,-⟩,-⟩:=h;obtain ⟨cs,fr,hq⟩:=hq;rw [hb] at hq;cases hq
theorem YER.look_ok (h:YER P K w b n f) (KI:Maps.Keyed P K) {t e:TypeId} (ht:P.underlying t=some (.map K e)) (hk:P.underlying K=some (.int .i64)) {z:Value} (hz:(zeroValue e).run P w=.ok z w) {x:Int} (hx:(Lit.int .i64 x).wf=true):
  (Instr.lookup t (.map (some b)) (.int .i64 x) true).run P w=.ok (.tuple #[(f x).getD z,.bool (f x).isSome]) w:=by
 obtain ⟨D,hD,hf⟩:=h;obtain ⟨v,ps,hr,hv⟩:=hD.look_ok KI ht hz (zd:=.held z) (zp:=[]) rfl (Maps.keyOf_int_mk hk hx);obtain ⟨h1,h2⟩:=hf x hx;rw [hr,h1];unfold J9K at hv;simp only [Option.some.injEq,Prod.mk.injEq] at hv;cases hfx:f x with
 | none=>
  rw [hfx] at h1;have:=hv.1;rw [Maps.atKey_of_not_has h1] at this;simp only [DataW.held.injEq] at this;rw [this];rfl
 | some u=>
  have:=hv.1;rw [h2 u hfx] at this;simp only [DataW.held.injEq] at this;rw [this];rfl
theorem YER.look (h:YER P K w b n f) (KI:Maps.Keyed P K) {t e:TypeId} (ht:P.underlying t=some (.map K e)) (hk:P.underlying K=some (.int .i64)) {z:Value} (hz:(zeroValue e).run P w=.ok z w) {x:Int} (hx:(Lit.int .i64 x).wf=true):
  (Instr.lookup t (.map (some b)) (.int .i64 x) false).run P w=.ok ((f x).getD z) w:=by
 obtain ⟨D,hD,hf⟩:=h;obtain ⟨v,ps,hr,hv⟩:=hD.lookup KI ht hz (zd:=.held z) (zp:=[]) rfl (Maps.keyOf_int_mk hk hx);obtain ⟨h1,h2⟩:=hf x hx;rw [hr];unfold J9K at hv;simp only [Option.some.injEq,Prod.mk.injEq] at hv;cases hfx:f x with
 | none=>
  rw [hfx] at h1;have:=hv.1;rw [Maps.atKey_of_not_has h1] at this;simp only [DataW.held.injEq] at this;rw [this];rfl
 | some u=>
  have:=hv.1;rw [h2 u hfx] at this;simp only [DataW.held.injEq] at this;rw [this];rfl
end
theorem X9l {P:Program} (w:World) {ops:Array Oper} {rest:List Oper} {o:Oper} {a:Act} {Q:Exit->Act->World->Prop}
  (hg:o.guard=none) (m x v:Operand) (t:TypeId) (hop:o.op=Op.mapUpdate t m x v)
  (k e:TypeId) (K:Maps.Keyed P k) (ht:P.underlying t=some (.map k e)) (hk:P.underlying k=some (.int .i64)) (b n:Nat) (f:Int->Option Value)
  (hm:a.eval m=.map (some b)) (hown:YER P k w b n f) (hn:n<maxLen) (key:Int) (val:Value) (hx:a.eval x=.int .i64 key) (hv:a.eval v=val) (hw:(Lit.int .i64 key).wf=true)
  (hK:∀ w',YER P k w' b (n+1) (fun y=>if y=key then some val else f y)->XF4 (fun i=>i=b) w w'->wpList P ops Q rest (a.put o.dst undef) w'):
  wpList P ops Q (o :: rest) a w:=by
 obtain ⟨D,hD,hf⟩:=hown;have hkey:=Maps.keyOf_int_mk (P:=P) hk hw;refine wpList_mapUpdate_own w hg m x v t hop k e K ht J9K b n D hm hD hn (.int .i64 key) val _ hx hv hkey (.held val) [] rfl fun w' h1 h2=>?_;refine hK w' ⟨_,h1,fun y hy=>?_⟩ (VxQ h2 _ (fun i hi _=>by cases hi;rfl));by_cases e:y=key
 ·subst e;dsimp only;rw [if_pos rfl];refine ⟨Maps.has_put_same hD.isMap (K.key hkey) _,fun v hv z=>?_⟩;cases hv;exact Maps.atKey_put_same hD.isMap (K.key hkey) _ _
 ·dsimp only;rw [if_neg e];have hne:(Lit.int .i64 y)≠.int .i64 key:=fun h=>e (by injection h);exact ⟨(Maps.has_put_other hne _).trans (hf y hy).1,fun v hv z=>(Maps.atKey_put_other hne _ _).trans ((hf y hy).2 v hv z)⟩
end
end
section
section
open Go.RowKit Word
theorem YqT (w:World):(zeroValue 3).run Tryz.prog w=.ok (.int .i64 0) w:=by kernel_rfl
theorem JKr:Maps.Keyed Tryz.prog 3:=Maps.int_keyed Tryz.underlying3
def VZL (v:Vm) (O:List Int) (to:Int) (x:Int):Option Value:=if x∈O then some (.int .i64 (YQE v O to x)) else none
structure CpS (v:Vm) (rs:List Int) (L:List Ob) (to:Nat) (O:List Int) (k i:Nat) (v':Vm):Prop where
 nd:O.Nodup
 rch:∀ a∈O,Rch v rs a
 cp:Cpd v v' to O k i
 kn:XaG v O k i
 lt:k<O.length\/(k=O.length/\i=0)
structure Ynt (w:World) (S:Nat->Prop) (K M q:Nat) (v:Vm) (to:Nat) (O:List Int) (v':Vm):Prop where
 rc:Rec w K 205 [.pointer (some ⟨q,0,none⟩),.map (some M),.int .i64 ((to:Int)+Xmc v O)]
 mp:YER Tryz.prog 3 w M O.length (VZL v O to)
 vm:QXZ w S q v'
 nK:¬ S K
 nM:¬ S M
theorem Ynt.gr {w w':World} {S:Nat->Prop} {K M q:Nat} {v:Vm} {to:Nat} {O:List Int} {v':Vm} (h:Ynt w S K M q v to O v') (g:Gr w w'):Ynt w' S K M q v to O v':=
 ⟨h.rc.gr g,h.mp.gr g,h.vm.gr g,h.nK,h.nM⟩
theorem JME {w:World} {q T:Nat} {xs:List Value} (h:Rec w q T xs):∃ cs fr,w.heap[q]?=some (.cells cs T fr):=by
 obtain ⟨cur,h1⟩:=QiW h rfl;exact ⟨cur,_,h1⟩
theorem Ynt.ne {w:World} {S:Nat->Prop} {K M q:Nat} {v:Vm} {to:Nat} {O:List Int} {v':Vm} (h:Ynt w S K M q v to O v'):M≠K:=h.mp.ne (JME h.rc)
def Qaa (w:World) (S:Nat->Prop) (K M q:Nat) (v:Vm) (rs:List Int) (L:List Ob) (to:Nat) (O:List Int) (k i:Nat) (a:Int) (e:Ending) (w':World):Prop:=
 ∃ v'',e=.returned (.int .i64 (YQE v (Yfl O a) to a))/\XF4 (fun b=>(b=K\/b=M)\/S b) w w'/\Ynt w' (plus S w) K M q v to (Yfl O a) v''/\CpS v rs L to (Yfl O a) k i v''
section
variable {w:World} {S:Nat->Prop} {K M q:Nat} {v v':Vm} {rs:List Int} {L:List Ob} {to:Nat} {O:List Int} {k i:Nat}
theorem Ynt.plus {w0:World} (h:Ynt w S K M q v to O v') (hz:K<w0.heap.size/\M<w0.heap.size):Ynt w (plus S w0) K M q v to O v':=
 ⟨h.rc,h.mp,h.vm.mono (fun _ h=>.inl h),fun h'=>h'.elim h.nK (fun h=>absurd hz.1 (Nat.not_lt_of_le h)),fun h'=>h'.elim h.nM (fun h=>absurd hz.2 (Nat.not_lt_of_le h))⟩
theorem Ynt.lt (h:Ynt w S K M q v to O v'):K<w.heap.size/\M<w.heap.size:=⟨h.rc.lt,h.mp.lt⟩
theorem VYh (h:Ynt w S K M q v to O v') {a:Int} (ha:-9223372036854775808<=a/\a<=9223372036854775807):
  (Instr.lookup 128 (.map (some M)) (.int .i64 a) true).run Tryz.prog w=.ok (.tuple #[.int .i64 (if a∈O then YQE v O to a else 0),.bool (decide (a∈O))]) w:=by
 rw [h.mp.look_ok JKr Tryz.underlying128 Tryz.underlying3 (YqT w) (WalkArith.wf_i64 ha)];unfold VZL;by_cases hm:a∈O
 ·simp [hm]
 ·simp [hm]
theorem CpS.zero (c:ZrG v rs L to) (h:CpS v rs L to O k i v'):(0:Int) ∉ O:=fun hm=>by
 have:=(QXB (c.mks.sound.rd _ (h.rch 0 hm))).1;omega
set_option maxHeartbeats 1600000 in
theorem Zz2 (hC:Ynt w S K M q v to O v') (c:ZrG v rs L to) (hf:XKC v L) (hs:CpS v rs L to O k i v') {a:Nat} (ha:a=0\/Rch v rs a) (ha2:a<=2147483647):
  Calls Tryz.prog 134 #[.pointer (some ⟨K,0,none⟩),.int .i64 a] w (Qaa w S K M q v rs L to O k i a):=by
 have h00:=hs.zero c;have HC:=hid hC;have HS:=hid hs;by_cases h0:a=0
 ·subst h0;have hadd:Yfl O ((0:Nat):Int)=O:=if_pos (.inl rfl)
  have hE:Hid (Qaa w S K M q v rs L to O k i ((0:Nat):Int) (.returned (.int .i64 0)) w):=⟨by
   refine ⟨v',?_,XF4.refl _ _,?_,?_⟩
   ·rw [hadd,show YQE v O to ((0:Nat):Int)=0 from YPv v _ h00]
   ·rw [hadd];exact hC.plus hC.lt
   ·rw [hadd];exact hs⟩
  clear hC c hf hs ha hadd;go_enter Tryz.func134,Tryz.ntmps134;go_wp2;go_ret;exact hE.o
 ·have d0:((a:Int)==0)=false:=by simp;omega
  have hlk:=VYh hC (a:=a) (by omega);have c1:=hC.rc.cell (j:=1) rfl;by_cases hm:(a:Int)∈O
  ·have hadd:Yfl O (a:Int)=O:=if_pos (.inr hm);rw [if_pos hm,decide_eq_true hm] at hlk
   have hE:Hid (Qaa w S K M q v rs L to O k i (a:Int) (.returned (.int .i64 (YQE v O to a))) w):=⟨by
    refine ⟨v',?_,XF4.refl _ _,?_,?_⟩
    ·rw [hadd]
    ·rw [hadd];exact hC.plus hC.lt
    ·rw [hadd];exact hs⟩
   clear hC c hf hs ha hadd hm h0;generalize YQE v O to a=y at *
   go_enter Tryz.func134,Tryz.ntmps134;go_wp2;go_ret;exact hE.o
  ·have hadd:Yfl O (a:Int)=O++[(a:Int)]:=if_neg (fun h=>h.elim (by omega) hm);rw [if_neg hm,decide_eq_false hm] at hlk;have hr:=ha.resolve_left h0;obtain ⟨q1,q2,q3,q4⟩:=c.same hf hs.nd hs.rch hs.cp hr;have hosz:v'.osz a=v.osz a:=by unfold Vm.osz;rw [q3]
   obtain ⟨-,-,p,f,cc,hh,hsz⟩:=J7F q2;have hp:=QXB q2;obtain ⟨z,hz⟩:∃ z:Nat,(z:Int)=v.osz a:=⟨(v.osz a).toNat,by omega⟩;obtain ⟨t1,t2,t3,t4⟩:=Cpd.take c hf hs.nd hs.rch hs.cp hs.kn hs.lt hr hm z hz;obtain ⟨tp,htp⟩:∃ tp:Nat,(tp:Int)=to+Xmc v O:=⟨((to:Int)+Xmc v O).toNat,by have:=YB0 v O;omega⟩;rw [<-htp] at t1 t2 t3;have c0:=hC.rc.cell (j:=0) rfl;have c2:=hC.rc.cell (j:=2) rfl;rw [<-htp] at c2;have hn2:=c.ok.n2;have hpos:=c.pos;have hs0:=YB0 v O;have HRD:=hid (fun (W:World) (g:Gr w W)=>ZkF (hC.vm.gr g) (a:Int));rw [q2,hh] at HRD;have hN:Z3o ⟨p,f,cc⟩=(z:Int):=by rw [hz,<-hosz];unfold Vm.osz;rw [hh]
   have HSZ:=hid (fun W=>ZUg ⟨p,f,cc⟩ W);rw [hN] at HSZ;have HCP:=hid (fun (W:World) (g:Gr w W)=>Vb7 (hC.vm.cut.gr g) (a:=a) (t:=tp) (n:=z) q2 (by rw [hz,hosz]) (by omega) (fun m hm=>(q4 m (by omega)).1) t1)
   have HWE:Hid (YQE v (O++[(a:Int)]) to a=tp/\(to:Int)+Xmc v (O++[(a:Int)])=(tp:Int)+z):=⟨by
    rw [QDm v _ _ hm,J7B];refine ⟨?_,?_⟩
    ·rw [htp];exact if_pos rfl
    ·simp only [Xmc];omega⟩
   have HNW:Hid (CpS v rs L to (O++[(a:Int)]) k i (cpV v' a tp z)):=⟨⟨by
     have:=QE5 hs.nd (a:Int);rwa [hadd] at this,fun b hb=>by
     rcases List.mem_append.1 hb with hb | hb
     ·exact hs.rch b hb
     ·rw [List.mem_singleton.1 hb];exact hr,t3,t4,by
     rw [List.length_append,List.length_singleton];rcases hs.lt with h | h <;> left <;> omega⟩⟩
   have hLl:O.length<9223372036854775807:=by
    have h1:=c.sum hs.nd hs.rch
    have h2:(O.length:Int)<=Xmc v O:=by
     have:∀ l:List Int,(∀ b∈l,Rch v rs b)->(l.length:Int)<=Xmc v l:=fun l=>by
      induction l with
      | nil=>intro _;exact Int.le_refl _
      | cons b r ih=>
       intro hl;have:=ih (fun x hx=>hl x (List.mem_cons_of_mem _ hx));have:=(QXB (c.mks.sound.rd _ (hl b (List.mem_cons_self ..)))).2.1;simp only [Xmc,List.length_cons];push_cast;omega
     exact this O hs.rch
    have:=c.top;omega
   have HLK:=hid hlk;have HADD:=hid hadd;have HTP:=hid htp;have HKL:=hid hC.lt;have HLL:Hid (O.length<maxLen):=⟨hLl⟩;have HWF:Hid ((Lit.int .i64 (a:Int)).wf=true):=⟨WalkArith.wf_i64 (by omega)⟩
   have HMQ:Hid (∀ y:Int,(if y=(a:Int) then some (Value.int .i64 tp) else VZL v O to y)=VZL v (O++[(a:Int)]) to y):=⟨fun y=>by
    unfold VZL;by_cases e:y=(a:Int)
    ·rw [if_pos e,if_pos (by rw [e];simp),e,HWE.o.1]
    ·rw [if_neg e];by_cases hy:y∈O
     ·rw [if_pos hy,if_pos (List.mem_append_left _ hy),YAF v _ _ hy]
     ·rw [if_neg hy,if_neg (fun h=>(List.mem_append.1 h).elim hy (fun h=>e (List.mem_singleton.1 h)))]⟩
   have HNE:=hid hC.ne;have HMEM:=hid hm;unfold X79 at HRD HSZ;unfold spV at HRD HCP;have hKl:=hC.lt;clear hC c hf hs ha hadd hm h0 hr q1 q2 q3 q4 hosz hh hsz hp hz t1 t3 t4 htp hN h00 hs0 hLl;go_enter Tryz.func134,Tryz.ntmps134
   go_upto_region 10 with (first
    | (go_at_call 100;refine (HRD.o _ (Gr.refl w)).mono ?_;rintro e w1 ⟨rfl,hg1⟩;have HG1:=hid hg1;have HR1:=hid (HC.o.rc.gr hg1);have x0:=HR1.o.cell (j:=0) rfl;have x1:=HR1.o.cell (j:=1) rfl;have x2:=HR1.o.cell (j:=2) rfl;rw [<-HTP.o] at x2;have xl:=HR1.o.lt;clear hg1)
    | (go_at_call 202;refine (HCP.o _ (HG1.o.alloc _)).mono ?_;rintro e w2 ⟨rfl,ht2,hv2⟩;have HT2:=hid ht2;have HV2:=hid hv2;have HR2:=hid ((HR1.o.gr ((Gr.refl w1).alloc (.cells #[.int .i64 p,.int .i64 f,.int .i64 cc] 33))).touch ht2 (fun h=>HC.o.nK h.1));have HM2:=hid ((HC.o.mp.gr (HG1.o.alloc (.cells #[.int .i64 p,.int .i64 f,.int .i64 cc] 33))).touch ht2 (fun h=>HC.o.nM h.1));have HH2:=hid ((Rec.new w1 33 [.int .i64 p,.int .i64 f,.int .i64 cc]).touch ht2 (fun h=>by have h1:=h.2;have h2:=HG1.o.size;omega));have y0:=HR2.o.cell (j:=0) rfl;have y1:=HR2.o.cell (j:=1) rfl;have y2:=HR2.o.cell (j:=2) rfl;rw [<-HTP.o] at y2;have yl:=HR2.o.lt;clear ht2 hv2)
    | (at_mapUpdate;refine X9l _ rfl _ _ _ 128 rfl 3 3 JKr Tryz.underlying128 Tryz.underlying3 M O.length (VZL v O to) rfl HM2.o HLL.o (a:Int) (.int .i64 tp) rfl rfl HWF.o ?_;intro w3 hm3 ht3;have HM3:=hid (hm3.congr HMQ.o);have HT3:=hid ht3;have HR3:=hid (HR2.o.touch ht3 (fun h=>HNE.o h.symm));have HH3:=hid (HH2.o.touch ht3 (fun h=>by have h1:=HKL.o.2;have h2:=HG1.o.size;omega));clear hm3 ht3))
   have u2:=HR3.o.cell (j:=2) rfl;rw [<-HTP.o] at u2;have uf:=HR3.o.free 2;have ul:=HR3.o.lt;have e0:=HH3.o.cell (j:=0) rfl;have e1:=HH3.o.cell (j:=1) rfl;have e2:=HH3.o.cell (j:=2) rfl;have el:=HH3.o.lt;obtain ⟨hb,hhb⟩:∃ hb,hb=w1.heap.size:=⟨_,rfl⟩;rw [<-hhb] at e0 e1 e2 el ⊢;clear hhb
   have KS:Hid (∀ W',Gr w3 W'->(W'.cell? ⟨K,2,none⟩=some (.int .i64 tp)/\W'.cell? ⟨hb,0,none⟩=some (.int .i64 p))/\W'.cell? ⟨hb,1,none⟩=some (.int .i64 f)/\W'.cell? ⟨hb,2,none⟩=some (.int .i64 cc)):=
    ⟨fun W' h=>⟨⟨(h.cell ul 2).trans u2,(h.cell el 0).trans e0⟩,(h.cell el 1).trans e1,(h.cell el 2).trans e2⟩⟩
   obtain ⟨Sx,hSx⟩:∃ Sx:World->Prop,Sx=fun W'=>Gr w3 W':=⟨_,rfl⟩;have z1:∀ p':ZJV Sx,p'.w.cell? ⟨K,2,none⟩=some (.int .i64 tp):=fun p=>(KS.o _ (ZJV.get hSx p)).1.1;have z2:∀ p':ZJV Sx,p'.w.cell? ⟨hb,0,none⟩=some (.int .i64 p):=fun p=>(KS.o _ (ZJV.get hSx p)).1.2;have z3:∀ p':ZJV Sx,p'.w.cell? ⟨hb,1,none⟩=some (.int .i64 f):=fun p=>(KS.o _ (ZJV.get hSx p)).2.1;have z4:∀ p':ZJV Sx,p'.w.cell? ⟨hb,2,none⟩=some (.int .i64 cc):=fun p=>(KS.o _ (ZJV.get hSx p)).2.2;have hS0:Sx w3.drew:=by rw [hSx];exact (Gr.refl w3).drew
   have HSX:=hid hSx;have inst:Inhabited (ZJV Sx):=⟨⟨_,hS0⟩⟩;clear hSx x0 x1 x2 xl y0 y1 y2 yl c0 c1 c2 e0 e1 e2 el;simp only [Act.put];refine Vv2 Sx 9 [([0,1,2,3,4],5),([6,7,8],9)] [] (by kernel_rfl) (by kernel_rfl) hS0 ?_;refine XGW ?_;simp only [XZy,List.getElem?_cons_zero,List.getElem?_cons_succ]
   repeat (go_big_quiet_step (fail))
   refine wpQuiet_nil ?_;go_wp2_with (go_at_call 90;refine (HSZ.o _).mono ?_;rintro e w4 ⟨rfl,hg4⟩;have HG4:=hid ((Gr.refl w3).drew.trans hg4);have uf4:=(HG4.o.frozen ul 2).trans uf;have u4:=(HG4.o.cell ul 2).trans u2;clear hg4);refine ⟨.inr (ZJV.of (by rw [HSX.o];exact HG4.o)),?_⟩;refine XGW ?_;simp only [XZy,List.getElem?_cons_zero,List.getElem?_cons_succ]
   repeat (go_big_quiet_step (fail))
   refine wpQuiet_nil ?_;go_wp2;refine ⟨.inl trivial,?_⟩;refine Z9U ?_;refine wpQuiet_nil ?_;refine NoPanic.normal ?_;clear z1 z2 z3 z4 hS0 inst;go_wp2;go_ret;have hz1:=HG1.o.size;have T3:XF4 (fun b=>(b=K\/b=M)\/S b) w w3:=(((HG1.o.alloc _).touch _).trans (HT2.o.mono (fun b _ h=>.inr h.1))).trans (HT3.o.mono (fun b _ h=>.inl (.inr h)));have T5:=(T3.trans (HG4.o.touch _)).setCell (a:=⟨K,2,none⟩) (fun _=>.inl (.inl rfl)) (.int .i64 ((tp:Int)+z));have tK:=(XF4.refl (fun b=>b=K) w4).setCell (a:=⟨K,2,none⟩) (fun _=>rfl) (.int .i64 ((tp:Int)+z))
   have hno:∀ b,(b=K\/b=M)->¬ plus (ZOk S w) (w1.alloc (.cells #[.int .i64 p,.int .i64 f,.int .i64 cc] 33)) b:=fun b hb h=>by
    rw [plus,World.size_alloc] at h;have:=HKL.o;rcases hb with rfl | rfl
    ·rcases h with h | h
     ·exact HC.o.nK h.1
     ·omega
    ·rcases h with h | h
     ·exact HC.o.nM h.1
     ·omega
   refine ⟨cpV v' a tp z,?_,T5,⟨?_,?_,?_,?_,?_⟩,?_⟩
   ·rw [HADD.o,HWE.o.1];rfl
   ·rw [HADD.o,HWE.o.2];exact (HR3.o.gr HG4.o).set 2 (.int .i64 ((tp:Int)+z))
   ·rw [HADD.o,List.length_append,List.length_singleton];exact (HM3.o.gr HG4.o).touch tK HNE.o
   ·exact ((((HV2.o.touch HT3.o (fun b hb _ e=>hno b (.inr e) hb)).gr HG4.o).touch tK (fun b hb _ e=>hno b (.inl e) hb))).mono (fun b hb=>by
     rcases hb with h | h
     ·exact .inl h.1
     ·rw [World.size_alloc] at h;right;omega)
   ·exact fun h=>h.elim HC.o.nK (fun h=>by have:=HKL.o.1;omega)
   ·exact fun h=>h.elim HC.o.nM (fun h=>by have:=HKL.o.2;omega)
   ·rw [HADD.o];exact HNW.o
end
end
end
section
section
open Go.RowKit Word
structure QRU (w wr:World) (S Si:Nat->Prop) (K M q hb:Nat) (v:Vm) (rs:List Int) (L:List Ob) (to:Nat) (O:List Int) (k:Nat) (ob:Int) (p f c i:Nat) (Oi:List Int) (vi:Vm):Prop where
 cat:Ynt wr Si K M q v to Oi vi
 st:CpS v rs L to Oi k i vi
 oi:Oi=X4e O ((X7I v ob).take i)
 sub:∀ b,Si b->plus S w b
 rh:Rec wr hb 33 [.int .i64 p,.int .i64 f,.int .i64 c]
 nh:¬ Si hb
 lh:w.heap.size<=hb
 t:XF4 (fun b=>(b=K\/b=M)\/S b) w wr
def Y7m (w:World) (S:Nat->Prop) (K M q:Nat) (v:Vm) (rs:List Int) (L:List Ob) (to:Nat) (O:List Int) (k:Nat) (e:Ending) (w':World):Prop:=
 ∃ v'',e=.returned (.int .i64 ((to:Int)+Xmc v (O.take (k+1))))/\XF4 (fun b=>(b=K\/b=M)\/S b) w w'/\Ynt w' (plus S w) K M q v to (X4e O (X7I v (O.getD k 0))) v''/\CpS v rs L to (X4e O (X7I v (O.getD k 0))) (k+1) 0 v''
theorem V37 {l:List Int} {i:Nat} (h:i<l.length):l.take (i+1)=l.take i++[l[i]]:=by rw [List.take_add_one,List.getElem?_eq_getElem h];rfl
section
variable {w:World} {S:Nat->Prop} {K M q:Nat} {v v':Vm} {rs:List Int} {L:List Ob} {to:Nat} {O:List Int} {k i:Nat}
theorem YCT {l:List Int} {j:Nat} (hj:j<l.length) (a:Int):∃ h:j<(Yfl l a).length,(Yfl l a)[j]=l[j]/\(Yfl l a).take j=l.take j:=by
 obtain ⟨Y,hY⟩:=XTn l a;refine ⟨by rw [hY,List.length_append];omega,?_,by rw [hY,List.take_append_of_le_length (Nat.le_of_lt hj)]⟩;simp only [hY,List.getElem_append_left hj]
theorem CpS.field (c:ZrG v rs L to) (hs:CpS v rs L to O k i v') {l:List Int} {j:Nat} (hj:j<l.length) {b:Int} (hO:O=Yfl l b) {a t:Int} (ha:l[j]=a) (ht:t=to+Xmc v (l.take j)) {m:Nat} (hm:(m:Int)<(v.rdH a).p):
  v'.plE t m 1=0/\v'.ldE (t+1+m)=0:=by
 obtain ⟨h1,h2,h3⟩:=YCT hj b;subst hO;have:=(Cpd.copy c hs.nd hs.rch hs.cp h1 (t:=t) (by rw [h3];exact ht)).2.2.2 m;rw [h2,ha] at this;exact this hm
set_option maxHeartbeats 3200000 in
theorem ZQS (hC:Ynt w S K M q v to O v') (c:ZrG v rs L to) (hf:XKC v L) (hs:CpS v rs L to O k 0 v') (hk:k<O.length):
  Calls Tryz.prog 135 #[.pointer (some ⟨K,0,none⟩),.int .i64 ((to:Int)+Xmc v (O.take k))] w (Y7m w S K M q v rs L to O k):=by
 obtain ⟨ob,hob⟩:∃ ob,ob=O.getD k 0:=⟨_,rfl⟩;have hobk:O[k]=ob:=by rw [hob,List.getD_eq_getElem?_getD,List.getElem?_eq_getElem hk];rfl
 obtain ⟨t,ht⟩:∃ t:Nat,(t:Int)=to+Xmc v (O.take k):=⟨((to:Int)+Xmc v (O.take k)).toNat,by have:=YB0 v (O.take k);omega⟩;have hr:=hs.rch _ (List.getElem_mem hk);rw [hobk] at hr;have hrd:=c.mks.sound.rd _ hr;obtain ⟨-,-,p,f,cc,hh,hsz⟩:=J7F hrd;have hosz:v.osz ob=((1+p+f+cc:Nat):Int):=by unfold Vm.osz;rw [hh,show Z3o ⟨p,f,cc⟩=1+(p:Int)+f+cc from if_pos (JJj hsz)];push_cast;rfl
 have hcp0:=Cpd.copy c hs.nd hs.rch hs.cp hk ht;rw [hobk] at hcp0;have HRD:=hid (fun (W:World) (g:Gr w W)=>ZkF (hC.vm.gr g) (t:Int));rw [hcp0.1,hcp0.2.1,hh] at HRD;have HSZ:=hid (fun W=>ZUg ⟨p,f,cc⟩ W);rw [show Z3o ⟨p,f,cc⟩=1+(p:Int)+f+cc from if_pos (JJj hsz)] at HSZ;have hplen:(X7I v ob).length=p:=by rw [JjJ,hh];rfl
 have htot:(to:Int)+Xmc v (O.take (k+1))=(t:Int)+(1+p+f+cc):=by
  rw [VZm v hk,hobk,hosz,ht];push_cast;omega
 have hlast:(t:Int)+(1+p+f+cc)<=v.n:=by
  have h1:=c.sum hs.nd hs.rch;have h2:=ZWV v O (k+1);have:=c.top;omega
 have hn2:=c.ok.n2;have c0:=hC.rc.cell (j:=0) rfl;have HC:=hid hC;have HS:=hid hs;have HCX:=hid (And.intro c hf);have HOB:=hid (And.intro hob (And.intro (show ∀ h:k<O.length,O[k]=ob from fun _=>hobk) (And.intro hr (And.intro hh (And.intro hsz hplen)))));have HK:=hid hk;have HT:=hid ht;have HTOT:=hid htot;have hKl:=hC.lt;rw [<-ht];have hplast:p<=255:=by omega
 unfold X79 at HRD HSZ;unfold spV at HRD;clear hC hs c hf hob hobk hr hrd hh hosz hcp0 hplen htot ht hk;go_enter Tryz.func135,Tryz.ntmps135
 go_upto_region 2 with (first
  | (go_at_call 100;refine (HRD.o _ (Gr.refl w)).mono ?_;rintro e w1 ⟨rfl,hg1⟩;have HG1:=hid hg1;have HH1:=hid (Rec.new w1 33 [.int .i64 p,.int .i64 f,.int .i64 cc]);clear hg1))
 have e0:=HH1.o.cell (j:=0) rfl;have el:=HH1.o.lt;have hz1:=HG1.o.size
 have HI0:Hid (QRU w (w1.alloc (.cells #[.int .i64 p,.int .i64 f,.int .i64 cc] 33)) S (ZOk S w) K M q w1.heap.size v rs L to O k ob p f cc 0 O v'):=⟨
  ⟨⟨(HC.o.gr (HG1.o.alloc _)).rc,(HC.o.gr (HG1.o.alloc _)).mp,(HC.o.vm.cut.gr (HG1.o.alloc _)),fun h=>HC.o.nK h.1,fun h=>HC.o.nM h.1⟩,HS.o,by simp [X4e],fun b hb=>.inl hb.1,HH1.o,fun h=>by have:=h.2;omega,hz1,(HG1.o.alloc _).touch _⟩⟩
 obtain ⟨hb,hhb⟩:∃ hb,hb=w1.heap.size:=⟨_,rfl⟩;rw [<-hhb] at e0 el HI0 ⊢;clear hhb;go_wp2
 go_loopw [22] (fun s22 wr=>∃ (i:Nat) (Oi:List Int) (vi:Vm) (Si:Nat->Prop),i<=p/\Hid (QRU w wr S Si K M q hb v rs L to O k ob p f cc i Oi vi)/\s22=.int .i64 i) (fun s22 _=>p-(intOf s22).toNat)
 case atStart=>exact ⟨0,O,v',_,by omega,HI0,rfl⟩
 case round=>
  obtain ⟨i,Oi,vi,Si,hi,HI,rfl⟩:=hrel;clear e0 el HI0 c0;obtain ⟨X,hX⟩:=XlQ O ((X7I v ob).take i);rw [<-HI.o.oi] at hX;have hkl:k<Oi.length:=by rw [hX,List.length_append];have:=HK.o;omega
  have hOk:Oi[k]=ob:=by
   have:=HOB.o.2.1 HK.o;simp only [hX,List.getElem_append_left HK.o];exact this
  have htk:(t:Int)=to+Xmc v (Oi.take k):=by rw [HT.o,hX,List.take_append_of_le_length (Nat.le_of_lt HK.o)]
  by_cases hlast:i=p
  ·subst hlast;have x0:=HI.o.rh.cell (j:=0) rfl;have x1:=HI.o.rh.cell (j:=1) rfl;have x2:=HI.o.rh.cell (j:=2) rfl;have hnx:=Cpd.next HI.o.st.cp HI.o.st.kn hkl (by rw [hOk,HOB.o.2.2.2.1])
   have hoi:Oi=X4e O (X7I v (O.getD k 0)):=by rw [<-HOB.o.1,HI.o.oi,List.take_of_length_le (by rw [HOB.o.2.2.2.2.2];exact Nat.le_refl _)]
   have HNX:=hid hnx;have HOI:=hid hoi;have HKL:=hid hkl;clear hnx hoi hX hkl hOk htk;go_wp2_with (go_at_call 90;refine (HSZ.o _).mono ?_;rintro e w3 ⟨rfl,hg3⟩;have HG3:=hid hg3;clear hg3);go_ret;have hc:=HI.o.cat.gr HG3.o;refine ⟨vi,?_,HI.o.t.trans (HG3.o.touch _),?_,?_⟩
   ·rw [HTOT.o];rfl
   ·rw [<-HOI.o];exact ⟨hc.rc,hc.mp,hc.vm.mono HI.o.sub,fun h=>h.elim HC.o.nK (fun h=>by have:=hKl.1;omega),fun h=>h.elim HC.o.nM (fun h=>by have:=hKl.2;omega)⟩
   ·rw [<-HOI.o];exact ⟨HI.o.st.nd,HI.o.st.rch,HNX.o.1,HNX.o.2,by have:=HKL.o;omega⟩
  ·have hcp:=Cpd.copy HCX.o.1 HI.o.st.nd HI.o.st.rch HI.o.st.cp hkl htk;rw [hOk] at hcp;have hip:(i:Int)<(v.rdH ob).p:=by rw [HOB.o.2.2.2.1];show (i:Int)<(p:Int);omega
   obtain ⟨pp1,pp2⟩:=hcp.2.2.1 rfl i (Nat.le_refl _) hip;have hpt:=HCX.o.1.mks.sound.pt _ HOB.o.2.2.1 i hip;have hpv:=ZbX hpt;have HPT:=hid (fun (W:World) (g:Gr wr W)=>ZZi (HI.o.cat.vm.gr g) (t:Int) i);rw [pp1,pp2] at HPT;have hpi:i<(X7I v ob).length:=by rw [HOB.o.2.2.2.2.2];omega
   have hpa:=YxN v ob hpi;have hsn:=V37 hpi;rw [hpa] at hsn
   have hpr:v.ldV (ob+1+i)=0\/Rch v rs (v.ldV (ob+1+i):Nat):=by
    by_cases h0:v.ldV (ob+1+i)=0
    ·exact .inl h0
    ·right;have hh:=HOB.o.2.2.1;exact hh.step ⟨HCX.o.1.mks.sound.rd _ hh,i,hip,hpt,by rw [hpv.1];exact h0,by rw [hpv.1]⟩
   have hle:=hpv.2.1;obtain ⟨pv,hpve⟩:∃ pv,pv=v.ldV (ob+1+i):=⟨_,rfl⟩;rw [<-hpve] at HPT hsn hpr hle;have hnd':=QE5 HI.o.st.nd (pv:Int)
   have hrch':∀ b∈Yfl Oi (pv:Int),Rch v rs b:=fun b hb=>by
    rcases Q9S.1 hb with h | ⟨rfl,h0⟩
    ·exact HI.o.st.rch b h
    ·exact hpr.resolve_left (by omega)
   obtain ⟨xN,hxN,hx2⟩:∃ xN:Nat,(xN:Int)=YQE v (Yfl Oi (pv:Int)) to pv/\xN<=2147483647:=by
    by_cases h0:pv=0
    ·refine ⟨0,?_,by omega⟩;rw [h0,YPv v _ (fun h=>by have:=(QXB (HCX.o.1.mks.sound.rd _ (hrch' _ (by rw [h0];exact h)))).1;omega)];rfl
    ·have h1:=VEW v (to:Int) (Q9S (O:=Oi).2 (.inr ⟨rfl,(by omega:(pv:Int)≠0)⟩));have h2:=HCX.o.1.sum hnd' hrch';have h3:=HCX.o.1.top;have h4:=QCw v (pv:Int);exact ⟨(YQE v (Yfl Oi (pv:Int)) to pv).toNat,by omega,by omega⟩
   have HTK:=hid (fun (W:World) (g:Gr wr W)=>Zz2 (HI.o.cat.gr g) HCX.o.1 HCX.o.2 HI.o.st hpr hle);unfold Qaa at HTK;rw [<-hxN] at HTK;have HPVE:=hid hpve;have HXN:=hid (And.intro hxN hx2);have HSN:=hid hsn;have HKL:=hid (And.intro hkl (And.intro htk (And.intro hX (show ∀ h:k<Oi.length,Oi[k]=ob from fun _=>hOk))));have HIP:=hid hip;have y0:=HI.o.cat.rc.cell (j:=0) rfl;have yl:=HI.o.cat.rc.lt;have x0:=HI.o.rh.cell (j:=0) rfl;have HLAST:=hid hlast;have hiI:(i:Int)<(p:Int):=by omega
   have x0l:=HI.o.rh.lt;unfold spV at HPT;clear hcp hip pp1 pp2 hpt hpv hpi hpa hsn hpr hle hpve hnd' hrch' hxN hx2 hkl htk hX hOk hlast;go_upto_region 6 with (go_at_call 111;refine (HPT.o _ (Gr.refl _)).mono ?_;rintro e w2 ⟨rfl,hg2⟩;have HG2:=hid hg2;have y0':=(hg2.cell yl 0).trans y0;clear hg2);have KS:Hid (∀ W',Gr w2 W'->W'.cell? ⟨K,0,none⟩=some (.pointer (some ⟨q,0,none⟩))):=⟨fun W' h=>(h.cell (Nat.lt_of_lt_of_le yl HG2.o.size) 0).trans y0'⟩;obtain ⟨Sx,hSx⟩:∃ Sx:World->Prop,Sx=fun W'=>W'.cell? ⟨K,0,none⟩=some (.pointer (some ⟨q,0,none⟩)):=⟨_,rfl⟩;have z1:∀ p':ZJV Sx,p'.w.cell? ⟨K,0,none⟩=some (.pointer (some ⟨q,0,none⟩)):=fun p=>ZJV.get hSx p;have hS0:Sx w2.drew:=by rw [hSx];exact y0'
   have HSX:=hid hSx;have inst:Inhabited (ZJV Sx):=⟨⟨_,hS0⟩⟩;clear hSx y0 y0' x0 x0l;refine Vv2 Sx 10 [([0,1,2,3,4,5,6,7,8],9),([],10)] [] (by kernel_rfl) (by kernel_rfl) hS0 ?_;refine XGW ?_;simp only [XZy,List.getElem?_cons_zero,List.getElem?_cons_succ]
   repeat (go_big_quiet_step (fail))
   refine wpQuiet_nil ?_;go_wp2_with (go_at_call 134;refine (HTK.o _ HG2.o.drew).mono ?_;rintro e w3 ⟨v2,rfl,ht3,hc3,hs3⟩;have HT3:=hid ht3;have HC3:=hid hc3;have HS3:=hid hs3;have HP3:=hid (CpS.field HCX.o.1 hs3 HKL.o.1 rfl (HKL.o.2.2.2 HKL.o.1) HKL.o.2.1 HIP.o);have u0:=hc3.rc.cell (j:=0) rfl;clear ht3 hc3 hs3);refine ⟨.inr (ZJV.of (by rw [HSX.o];exact u0)),?_⟩;refine XGW ?_;simp only [XZy,List.getElem?_cons_zero,List.getElem?_cons_succ];refine wpQuiet_nil ?_;go_wp2_with (go_at_call 112;have hsp:=QRl HC3.o.vm HP3.o.1 HXN.o.2;unfold spV at hsp;refine hsp.mono ?_;rintro e w4 ⟨rfl,ht4,hv4⟩;have HT4:=hid ht4;have HV4:=hid hv4;clear ht4 hv4);refine ⟨.inl trivial,?_⟩;refine Z9U ?_;refine wpQuiet_nil ?_;refine NoPanic.normal ?_;clear z1 hS0 inst u0;go_wp2;have hzr:=HI.o.t.size;have hz2:=HG2.o.size;have hz3:=HT3.o.size;have hz4:=HT4.o.size;have hzd:w2.drew.heap.size=w2.heap.size:=rfl;have hbl:=HI.o.rh.lt;have hKr:=HI.o.cat.lt;go_round
   case rel=>
    have hst:=Cpd.set HCX.o.1 HS3.o.nd HS3.o.rch HS3.o.cp HS3.o.kn (YCT HKL.o.1 (pv:Int)).1 (t:=(t:Int)) (by rw [(YCT HKL.o.1 (pv:Int)).2.2];exact HKL.o.2.1) (by rw [(YCT HKL.o.1 (pv:Int)).2.1,HKL.o.2.2.2 HKL.o.1];exact HIP.o)
     (by rw [(YCT HKL.o.1 (pv:Int)).2.1,HKL.o.2.2.2 HKL.o.1,<-HPVE.o];by_cases h0:(pv:Int)=0;(· exact .inl h0);(· exact .inr (Q9S.2 (.inr ⟨rfl,h0⟩)))) (x:=xN) (by rw [(YCT HKL.o.1 (pv:Int)).2.1,HKL.o.2.2.2 HKL.o.1,<-HPVE.o];exact HXN.o.1) (by have:=HXN.o.2;omega)
    refine ⟨i+1,Yfl Oi (pv:Int),v2.st ((t:Int)+1+i) xN,plus (plus Si w2.drew) w3,by have:=HLAST.o;omega,⟨⟨⟨?_,?_,HV4.o,?_,?_⟩,⟨HS3.o.nd,HS3.o.rch,hst.1,hst.2,.inl (YCT HKL.o.1 (pv:Int)).1⟩,?_,?_,?_,?_,HI.o.lh,?_⟩⟩,by go_num⟩
    ·exact HC3.o.rc.touch HT4.o HC3.o.nK
    ·exact HC3.o.mp.touch HT4.o HC3.o.nM
    ·exact fun h=>h.elim HC3.o.nK (fun h=>by have:=HC3.o.lt.1;omega)
    ·exact fun h=>h.elim HC3.o.nM (fun h=>by have:=HC3.o.lt.2;omega)
    ·rw [HSN.o,QwE,<-HI.o.oi]
    ·intro b hb;rcases hb with (h | h) | h
     ·exact HI.o.sub b h
     ·right;omega
     ·right;omega
    ·refine (((HI.o.rh.gr HG2.o.drew).touch HT3.o (fun h=>?_))).touch HT4.o (fun h=>?_)
     ·have:=HI.o.lh;rcases h with (h | h) | h
      ·omega
      ·omega
      ·exact HI.o.nh h
     ·rcases h with h | h
      ·exact HI.o.nh h
      ·omega
    ·intro h;rcases h with (h | h) | h
     ·exact HI.o.nh h
     ·omega
     ·omega
    ·have t2:=HI.o.t.trans (HG2.o.drew.touch _)
     have t3:=t2.trans' HT3.o (fun b hb h=>by
      rcases h with h | h
      ·exact .inl h
      ·exact (HI.o.sub b h).elim .inr (fun h=>by omega))
     refine t3.trans' HT4.o (fun b hb h=>?_);rcases h with h | h
     ·exact (HI.o.sub b h).elim .inr (fun h=>by omega)
     ·omega
   case measure=>simp [intOf];omega
end
end
end
section
section
open Go.RowKit
inductive YCi where
 | fin (qs:List Nat)
 | one (qs:List Nat) (k:Nat) (t:YCi)
 | two (qs:List Nat) (k1:Nat) (t1:YCi) (k2:Nat) (t2:YCi)
def YCi.len:YCi->Nat
 | .fin qs=>qs.length
 | .one qs _ t=>qs.length+(t.len+1)
 | .two qs _ t1 _ _=>qs.length+(t1.len+1)
def ZFy (md:Region.Mode) (ops:Array Oper):List Nat->Array Bool->Option (Array Bool)
 | [],listed=>some listed
 | k :: r,listed=>if (Region.ready md ops listed).contains k&&Region.free md ops listed k&&((ops[k]?).any QK6) then ZFy md ops r (listed.setIfInBounds k true) else none
def X0z (md:Region.Mode) (ops:Array Oper):YCi->Array Bool->Bool
 | .fin qs,listed=>match ZFy md ops qs listed with
  | some l=>(Region.ready md ops l).isEmpty
  | none=>false
 | .one qs k t,listed=>match ZFy md ops qs listed with
  | some l=>decide (Region.ready md ops l=[k])&&X0z md ops t (l.setIfInBounds k true)
  | none=>false
 | .two qs k1 t1 k2 t2,listed=>match ZFy md ops qs listed with
  | some l=>decide (Region.ready md ops l=[k1,k2])&&decide (t1.len=t2.len)&&X0z md ops t1 (l.setIfInBounds k1 true)&&X0z md ops t2 (l.setIfInBounds k2 true)
  | none=>false
def JVQ (P:Program) (l:List Oper) (S:World->Prop) (Q:Exit->Act->World->Prop):YCi->Act->World->Prop
 | .fin qs,a,w=>wpQuiet P l.toArray S (fun a'=>Q .normal a' w) (XZy l qs) a
 | .one qs k t,a,w=>wpQuiet P l.toArray S (fun a'=>wpList P l.toArray (Exit.then (fun a2 w2=>S w2/\JVQ P l S Q t a2 w2) Q) (XZy l [k]) a' w) (XZy l qs) a
 | .two qs k1 t1 k2 t2,a,w=>wpQuiet P l.toArray S (fun a'=>wpList P l.toArray (Exit.then (fun a2 w2=>S w2/\JVQ P l S Q t1 a2 w2) Q) (XZy l [k1]) a' w/\wpList P l.toArray (Exit.then (fun a2 w2=>S w2/\JVQ P l S Q t2 a2 w2) Q) (XZy l [k2]) a' w) (XZy l qs) a
section
variable {P:Program} {l:List Oper} {Q:Exit->Act->World->Prop} {md:Region.Mode} {S:World->Prop} {z:Nat}
theorem V9C (hsel:Region.noSelect l.toArray=true) (hQ:∀ c a b w,Q (.panic c) b w->Q (.panic c) a w) (hz:Xzl md l.toArray z=true) {w:World} (hS:S w) {K:Act->Prop} {f:Nat} {l':Array Bool}
  (hK:∀ a,ZVQ md l.toArray l'->K a->Vnh P md l.toArray Q S z f l' a w):
  ∀ (qs:List Nat) (listed:Array Bool) (a:Act),ZFy md l.toArray qs listed=some l'->ZVQ md l.toArray listed->wpQuiet P l.toArray S K (XZy l qs) a →
   Vnh P md l.toArray Q S z (qs.length+f) listed a w
 | [],listed,a,hB,hc,h=>by
  simp only [ZFy,Option.some.injEq] at hB;subst hB;simpa using hK a hc h
 | k :: qs,listed,a,hB,hc,h=>by
  simp only [ZFy] at hB
  split at hB
  ·rename_i hb;simp only [Bool.and_eq_true] at hb;obtain ⟨⟨hr,hf⟩,hq⟩:=hb;cases ho:l.toArray[k]? with
   | none=>rw [ho] at hq;cases hq
   | some o=>
    rw [ho] at hq;have hq:QK6 o=true:=hq;have hr':k∈Region.ready md l.toArray listed:=by simpa using hr
    rw [XJH ho] at h;simp only [wpQuiet] at h
    have hy:∃ v,YieldsIf P l.toArray S o v a/\wpQuiet P l.toArray S K (XZy l qs) (a.put o.dst v):=by
     split at h
     ·rename_i hw;obtain ⟨v,h1,h2⟩:=h;exact ⟨v,XIs hq hw h1,h2⟩
     ·rename_i hw;exact ⟨undef,.inr ⟨by simpa using hw,rfl⟩,h⟩
    obtain ⟨v,hy,hK'⟩:=hy;have hlen:(k :: qs).length+f=(qs.length+f)+1:=by simp;omega
    rw [hlen];exact JDV ho (Region.noSelect_spec hsel) (fun c a w h=>hQ c a _ w h) hz _ listed a w hc (Region.free_spec ho hf) hr' hy hS (V9C hsel hQ hz hS hK qs _ _ hB (hc.set hr') hK')
  ·cases hB
theorem Z7W (hsel:Region.noSelect l.toArray=true) (hQ:∀ c a b w,Q (.panic c) b w->Q (.panic c) a w) (hz:Xzl md l.toArray z=true):
  ∀ (t:YCi) (listed:Array Bool) (a:Act) (w:World),X0z md l.toArray t listed=true->ZVQ md l.toArray listed->S w->JVQ P l S Q t a w->Vnh P md l.toArray Q S z t.len listed a w
 | .fin qs,listed,a,w,hB,hc,hS,h=>by
  simp only [X0z] at hB
  split at hB
  ·rename_i l' hl;exact V9C (f:=0) (K:=fun a'=>Q .normal a' w) hsel hQ hz hS (fun a _ h=>⟨by simpa using hB,h⟩) qs listed a hl hc h
  ·cases hB
 | .one qs k t,listed,a,w,hB,hc,hS,h=>by
  simp only [X0z] at hB
  split at hB
  ·rename_i l' hl;simp only [Bool.and_eq_true,decide_eq_true_eq] at hB;obtain ⟨hr,hB'⟩:=hB;refine V9C hsel hQ hz hS (fun a hc h=>?_) qs listed a hl hc h;have hkr:k∈Region.ready md l.toArray l':=by rw [hr];simp
   refine ⟨fun h0=>(by rw [hr] at h0;cases h0),fun i hi=>?_⟩;rw [hr] at hi;obtain rfl:i=k:=by simpa using hi
   obtain ⟨_,o,ho,_⟩:=mem_ready.1 hkr;rw [XJH ho] at h;exact X8H ho (fun a2 w2 h2=>⟨.inr h2.1,Z7W hsel hQ hz t _ a2 w2 hB' (hc.set hkr) h2.1 h2.2⟩) h
  ·cases hB
 | .two qs k1 t1 k2 t2,listed,a,w,hB,hc,hS,h=>by
  simp only [X0z] at hB
  split at hB
  ·rename_i l' hl;simp only [Bool.and_eq_true,decide_eq_true_eq] at hB;obtain ⟨⟨⟨hr,hlen⟩,hB1⟩,hB2⟩:=hB;refine V9C hsel hQ hz hS (fun a hc h=>?_) qs listed a hl hc h;refine ⟨fun h0=>(by rw [hr] at h0;cases h0),fun i hi=>?_⟩;have hkr:i∈Region.ready md l.toArray l':=hi;rw [hr] at hi;obtain ⟨_,o,ho,_⟩:=mem_ready.1 hkr;have hi:i=k1\/i=k2:=by simpa using hi
   rcases hi with rfl | rfl
   ·have h:=h.1;rw [XJH ho] at h;exact X8H ho (fun a2 w2 h2=>⟨.inr h2.1,Z7W hsel hQ hz t1 _ a2 w2 hB1 (hc.set hkr) h2.1 h2.2⟩) h
   ·have h:=h.2;rw [XJH ho] at h;rw [hlen];exact X8H ho (fun a2 w2 h2=>⟨.inr h2.1,Z7W hsel hQ hz t2 _ a2 w2 hB2 (hc.set hkr) h2.1 h2.2⟩) h
  ·cases hB
theorem JzF {id:Nat} {a:Act} {w:World} (S:World->Prop) (t:YCi) (hm:P.follows .mixedOrders=true)
  (hB:(Region.noSelect l.toArray&&X0z .any l.toArray t (Array.replicate l.toArray.size false)&&t.len==l.toArray.size)=true) (hS:S w.drew)
  (h:JVQ P l (fun w'=>∃ p:ZJV S,w'=p.w) (NoPanic Q) t a w.drew):(Code.region id l.toArray true).wp P Q a w:=by
 simp only [Bool.and_eq_true,beq_iff_eq] at hB;obtain ⟨⟨hsel,hB⟩,hlen⟩:=hB;refine wp_region_noPanic (wp_region_any hm ?_);have hz:Xzl .any l.toArray l.toArray.size=true:=by unfold Xzl;simp
 have:=Z7W (P:=P) (Q:=NoPanic Q) (S:=fun w'=>∃ p:ZJV S,w'=p.w) (md:=.any) hsel (fun c a b w h=>h) hz t _ a w.drew hB (ZVQ.none .any l.toArray) (ZJV.of hS) h;rw [hlen] at this;exact Zmi _ _ _ _ this
end
section
variable {F:Fence} {n:Nat}
def Yz8 (F:Fence) (n:Nat) (P:Program) (l:List Oper) (S:World->Prop) (Q:Exit->Act->World->Prop):YCi->Act->World->Prop
 | .fin qs,a,w=>wpQuiet P l.toArray S (fun a'=>Q .normal a' w) (XZy l qs) a
 | .one qs k t,a,w=>wpQuiet P l.toArray S (fun a'=>wpListIn F n P l.toArray (Exit.then (fun a2 w2=>S w2/\Yz8 F n P l S Q t a2 w2) Q) (XZy l [k]) a' w) (XZy l qs) a
 | .two qs k1 t1 k2 t2,a,w=>wpQuiet P l.toArray S (fun a'=>wpListIn F n P l.toArray (Exit.then (fun a2 w2=>S w2/\Yz8 F n P l S Q t1 a2 w2) Q) (XZy l [k1]) a' w/\wpListIn F n P l.toArray (Exit.then (fun a2 w2=>S w2/\Yz8 F n P l S Q t2 a2 w2) Q) (XZy l [k2]) a' w) (XZy l qs) a
section
variable {P:Program} {l:List Oper} {Q:Exit->Act->World->Prop} {md:Region.Mode} {S:World->Prop} {z:Nat}
theorem ZAo (hF:∀ f,F.fn f) (hnd:XH2 l.toArray=true) (hsel:Region.noSelect l.toArray=true) (hQ:∀ c a b w,Q (.panic c) b w->Q (.panic c) a w) (hz:Xzl md l.toArray z=true) {w:World} (hS:S w) {K:Act->Prop} {f:Nat} {l':Array Bool}
  (hK:∀ a,ZVQ md l.toArray l'->K a->Vxn F n P md l.toArray Q S z f l' a w):
  ∀ (qs:List Nat) (listed:Array Bool) (a:Act),ZFy md l.toArray qs listed=some l'->ZVQ md l.toArray listed->wpQuiet P l.toArray S K (XZy l qs) a →
   Vxn F n P md l.toArray Q S z (qs.length+f) listed a w
 | [],listed,a,hB,hc,h=>by
  simp only [ZFy,Option.some.injEq] at hB;subst hB;simpa using hK a hc h
 | k :: qs,listed,a,hB,hc,h=>by
  simp only [ZFy] at hB
  split at hB
  ·rename_i hb;simp only [Bool.and_eq_true] at hb;obtain ⟨⟨hr,hf⟩,hq⟩:=hb;cases ho:l.toArray[k]? with
   | none=>rw [ho] at hq;cases hq
   | some o=>
    rw [ho] at hq;have hq:QK6 o=true:=hq;have hr':k∈Region.ready md l.toArray listed:=by simpa using hr
    rw [XJH ho] at h;simp only [wpQuiet] at h
    have hy:∃ v,YieldsIf P l.toArray S o v a/\wpQuiet P l.toArray S K (XZy l qs) (a.put o.dst v):=by
     split at h
     ·rename_i hw;obtain ⟨v,h1,h2⟩:=h;exact ⟨v,XIs hq hw h1,h2⟩
     ·rename_i hw;exact ⟨undef,.inr ⟨by simpa using hw,rfl⟩,h⟩
    obtain ⟨v,hy,hK'⟩:=hy;have hlen:(k :: qs).length+f=(qs.length+f)+1:=by simp;omega
    rw [hlen];exact Jio hF hnd ho (Region.noSelect_spec hsel) (fun c a w h=>hQ c a _ w h) hz _ listed a w hc (Region.free_spec ho hf) hr' hy hS (ZAo hF hnd hsel hQ hz hS hK qs _ _ hB (hc.set hr') hK')
  ·cases hB
theorem JL0 (hF:∀ f,F.fn f) (hnd:XH2 l.toArray=true) (hsel:Region.noSelect l.toArray=true) (hQ:∀ c a b w,Q (.panic c) b w->Q (.panic c) a w) (hz:Xzl md l.toArray z=true):
  ∀ (t:YCi) (listed:Array Bool) (a:Act) (w:World),X0z md l.toArray t listed=true->ZVQ md l.toArray listed->S w->Yz8 F n P l S Q t a w->Vxn F n P md l.toArray Q S z t.len listed a w
 | .fin qs,listed,a,w,hB,hc,hS,h=>by
  simp only [X0z] at hB
  split at hB
  ·rename_i l' hl;exact ZAo (n:=n) (f:=0) (K:=fun a'=>Q .normal a' w) hF hnd hsel hQ hz hS (fun a _ h=>⟨by simpa using hB,h⟩) qs listed a hl hc h
  ·cases hB
 | .one qs k t,listed,a,w,hB,hc,hS,h=>by
  simp only [X0z] at hB
  split at hB
  ·rename_i l' hl;simp only [Bool.and_eq_true,decide_eq_true_eq] at hB;obtain ⟨hr,hB'⟩:=hB;refine ZAo hF hnd hsel hQ hz hS (fun a hc h=>?_) qs listed a hl hc h;have hkr:k∈Region.ready md l.toArray l':=by rw [hr];simp
   refine ⟨fun h0=>(by rw [hr] at h0;cases h0),fun i hi=>?_⟩;rw [hr] at hi;obtain rfl:i=k:=by simpa using hi
   obtain ⟨_,o,ho,_⟩:=mem_ready.1 hkr;rw [XJH ho] at h;exact ZRK ho (fun a2 w2 h2=>⟨.inr h2.1,JL0 hF hnd hsel hQ hz t _ a2 w2 hB' (hc.set hkr) h2.1 h2.2⟩) h
  ·cases hB
 | .two qs k1 t1 k2 t2,listed,a,w,hB,hc,hS,h=>by
  simp only [X0z] at hB
  split at hB
  ·rename_i l' hl;simp only [Bool.and_eq_true,decide_eq_true_eq] at hB;obtain ⟨⟨⟨hr,hlen⟩,hB1⟩,hB2⟩:=hB;refine ZAo hF hnd hsel hQ hz hS (fun a hc h=>?_) qs listed a hl hc h;refine ⟨fun h0=>(by rw [hr] at h0;cases h0),fun i hi=>?_⟩;have hkr:i∈Region.ready md l.toArray l':=hi;rw [hr] at hi;obtain ⟨_,o,ho,_⟩:=mem_ready.1 hkr;have hi:i=k1\/i=k2:=by simpa using hi
   rcases hi with rfl | rfl
   ·have h:=h.1;rw [XJH ho] at h;exact ZRK ho (fun a2 w2 h2=>⟨.inr h2.1,JL0 hF hnd hsel hQ hz t1 _ a2 w2 hB1 (hc.set hkr) h2.1 h2.2⟩) h
   ·have h:=h.2;rw [XJH ho] at h;rw [hlen];exact ZRK ho (fun a2 w2 h2=>⟨.inr h2.1,JL0 hF hnd hsel hQ hz t2 _ a2 w2 hB2 (hc.set hkr) h2.1 h2.2⟩) h
  ·cases hB
theorem Jav {id:Nat} {a:Act} {w:World} (S:World->Prop) (t:YCi) (hF:∀ f,F.fn f) (hm:P.follows .mixedOrders=true)
  (hB:(XH2 l.toArray&&Region.noSelect l.toArray&&X0z .any l.toArray t (Array.replicate l.toArray.size false)&&t.len==l.toArray.size)=true) (hS:S w.drew)
  (h:Yz8 F n P l (fun w'=>∃ p:ZJV S,w'=p.w) (NoPanic Q) t a w.drew):(Code.region id l.toArray true).wpIn F n P Q a w:=by
 simp only [Bool.and_eq_true,beq_iff_eq] at hB;obtain ⟨⟨⟨hnd,hsel⟩,hB⟩,hlen⟩:=hB;refine wpIn_mono (wpIn_region_any hm ?_) NoPanic.imp;have hz:Xzl .any l.toArray l.toArray.size=true:=by unfold Xzl;simp
 have:=JL0 (F:=F) (n:=n) (P:=P) (Q:=NoPanic Q) (S:=fun w'=>∃ p:ZJV S,w'=p.w) (md:=.any) hF hnd hsel (fun c a b w h=>h) hz t _ a w.drew hB (ZVQ.none .any l.toArray) (ZJV.of hS) h;rw [hlen] at this;exact J9t _ _ _ _ this
theorem YAC {qs:List Nat} {a:Act} {w:World} (h:wpQuiet P l.toArray S (fun a'=>Q .normal a' w) (XZy l qs) a):Yz8 F n P l S Q (.fin qs) a w:=h
theorem VyF {qs:List Nat} {k:Nat} {t:YCi} {a:Act} {w:World} (h:wpQuiet P l.toArray S (fun a'=>wpListIn F n P l.toArray (Exit.then (fun a2 w2=>S w2/\Yz8 F n P l S Q t a2 w2) Q) (XZy l [k]) a' w) (XZy l qs) a):Yz8 F n P l S Q (.one qs k t) a w:=h
theorem QtW {qs:List Nat} {k1 k2:Nat} {t1 t2:YCi} {a:Act} {w:World} (h:wpQuiet P l.toArray S (fun a'=>wpListIn F n P l.toArray (Exit.then (fun a2 w2=>S w2/\Yz8 F n P l S Q t1 a2 w2) Q) (XZy l [k1]) a' w/\wpListIn F n P l.toArray (Exit.then (fun a2 w2=>S w2/\Yz8 F n P l S Q t2 a2 w2) Q) (XZy l [k2]) a' w) (XZy l qs) a):Yz8 F n P l S Q (.two qs k1 t1 k2 t2) a w:=h
end
end
end
end
section
section
open Go.RowKit Word
theorem YV8 (k:Nat) (hk:k<=10):2 ^ k<=1024:=Nat.pow_le_pow_right (by decide) hk
theorem QCZ {n:Int} (h:Y1d n=true):∃ k:Nat,k<=10/\n=((2 ^ k:Nat):Int):=by
 simp [Y1d] at h;rcases h with rfl | rfl | rfl | rfl | rfl | rfl | rfl | rfl | rfl | rfl | rfl
 ·exact ⟨0,by decide,rfl⟩
 ·exact ⟨1,by decide,rfl⟩
 ·exact ⟨2,by decide,rfl⟩
 ·exact ⟨3,by decide,rfl⟩
 ·exact ⟨4,by decide,rfl⟩
 ·exact ⟨5,by decide,rfl⟩
 ·exact ⟨6,by decide,rfl⟩
 ·exact ⟨7,by decide,rfl⟩
 ·exact ⟨8,by decide,rfl⟩
 ·exact ⟨9,by decide,rfl⟩
 ·exact ⟨10,by decide,rfl⟩
theorem XB7 {x k:Nat} (hk:k<=63) (hx:x<18446744073709551616):x &&& (18446744073709551615-(2 ^ k-1))=x/2 ^ k*2 ^ k:=by
 have h2:2 ^ k<=2 ^ 63:=Nat.pow_le_pow_right (by decide) hk;have h3:0<2 ^ k:=Nat.two_pow_pos k
 have e:18446744073709551615-(2 ^ k-1)=(2 ^ (64-k)-1)*2 ^ k:=by
  rw [Nat.sub_mul,<-Nat.pow_add,show 64-k+k=64 by omega]
  show _=18446744073709551616-1*2 ^ k
  omega
 rw [e];apply Nat.eq_of_testBit_eq;intro i;rw [Nat.testBit_and,Nat.testBit_mul_two_pow,Nat.testBit_mul_two_pow,Nat.testBit_div_two_pow,Nat.testBit_two_pow_sub_one];by_cases hi:k<=i
 ·rw [decide_eq_true hi,show i-k+k=i by omega];by_cases h64:i<64
  ·rw [decide_eq_true (show i-k<64-k by omega)];simp
  ·have:x.testBit i=false:=Nat.testBit_lt_two_pow (Nat.lt_of_lt_of_le (show x<2 ^ 64 from hx) (Nat.pow_le_pow_right (by decide) (by omega)));rw [this];simp
 ·rw [decide_eq_false (show ¬ i>=k by omega)];simp
theorem ZgG {x k:Nat} (hk:k<=10) (hx:x<9223372036854775808):bits .andNot .i64 (x:Int) ((2 ^ k:Nat)-1:Int)=((x/2 ^ k*2 ^ k:Nat):Int):=by
 have hp:=YV8 k hk;have h3:0<2 ^ k:=Nat.two_pow_pos k
 have h1:(BitVec.ofInt 64 (x:Int)).toNat=x:=by
  rw [BitVec.ofInt_natCast,BitVec.toNat_ofNat];exact Nat.mod_eq_of_lt (by omega)
 have e:((2 ^ k:Nat)-1:Int)=((2 ^ k-1:Nat):Int):=by omega
 have h2:(BitVec.ofInt 64 ((2 ^ k:Nat)-1:Int)).toNat=2 ^ k-1:=by
  rw [e,BitVec.ofInt_natCast,BitVec.toNat_ofNat];exact Nat.mod_eq_of_lt (by omega)
 show IntKind.i64.wrap ((BitVec.ofInt 64 (x:Int) &&& ~~~ BitVec.ofInt 64 ((2 ^ k:Nat)-1:Int)).toNat:Int)=_
 rw [BitVec.toNat_and,BitVec.toNat_not,h1,h2];have:2 ^ 64-1-(2 ^ k-1)=18446744073709551615-(2 ^ k-1):=rfl;rw [this,XB7 (by omega) (by omega)];have hle:x/2 ^ k*2 ^ k<=x:=Nat.div_mul_le_self x _;exact IntWalk.i64_in _ (by omega)
set_option maxHeartbeats 800000 in
theorem JRC (n:Nat) (hn:n<=1152921504606846976) {u:Int} (hu:Y1d u=true) (w:World):
  Calls Tryz.prog 278 #[.int .i64 n,.int .i64 u] w fun e w'=>e=.returned (.bool true)/\w=w':=by
 have hb:=Quq hu;have HP:Hid (XuW u=true):=⟨by rw [XYi] at hu;simp at hu;exact hu.1⟩;clear hu;have d1:decide ((n:Int)<=1152921504606846976)=true:=decide_eq_true (by omega);go_enter Tryz.func278,Tryz.ntmps278;go_wp2_with (go_at_call 152;refine (VWY u (by omega) _).mono ?_;rintro e w1 ⟨rfl,rfl⟩;rw [HP.o]);go_ret;exact ⟨rfl,rfl⟩
theorem Xnz (n B:Nat) (hn:n<=1152921504606846976) (hB:Y1d B=true) (w:World):
  Calls Tryz.prog 245 #[.int .i64 n,.int .i64 B] w fun e w'=>e=.returned (.int .i64 ((n+B-1)/B*B:Nat))/\w=w':=by
 have hb:=Quq hB;obtain ⟨k,hk,e⟩:=QCZ hB;have e':B=2 ^ k:=Int.ofNat.inj e
 have HE:Hid (bits .andNot .i64 ((n:Int)+(B:Int)-1) ((B:Int)-1)=(((n+B-1)/B*B:Nat):Int)):=⟨by
  have:=ZgG (x:=n+B-1) hk (by omega);rw [<-e'] at this
  rw [<-this];congr 1;omega⟩
 have HB:=hid hB;clear hB e e';go_enter Tryz.func245,Tryz.ntmps245;go_wp2_with (go_at_call 278;refine (JRC n hn HB.o _).mono ?_;rintro e w1 ⟨rfl,rfl⟩);go_ret;exact ⟨ZzN HE.o,rfl⟩
end
end
section
section
open Go.RowKit Word
structure Cf where
 fr:Nat
 tp:Nat
 to:Nat
 lm:Nat
 bk:Nat
 st:Nat
 ah:Nat
def cfV (c:Cf):Value:=.agg #[.int .i64 c.fr,.int .i64 c.tp,.int .i64 c.to,.int .i64 c.lm,.int .i64 c.bk,.int .i64 c.st,.int .i64 c.ah]
def upN (n B:Nat):Nat:=(n+B-1)/B*B
structure VeB (pg n:Nat) (c:Cf):Prop where
 bk:Y1d c.bk=true
 st:1<=c.st/\c.st<=4096
 ah:c.ah<=16
 fr:pg<=c.fr
 tp:c.fr<=c.tp
 tn:c.tp<=n
 to:pg<=c.to
 lm:c.to<=c.lm
 ln:c.lm<=n
 af:c.fr%pg=0
 at_:c.to%pg=0
 al:c.lm%pg=0
 ap:¬ (c.fr<upN c.tp pg/\c.to<c.lm/\c.fr<c.lm/\c.to<upN c.tp pg)
section
variable {w:World} {S:Nat->Prop} {q:Nat} {v:Vm}
set_option maxHeartbeats 1600000 in
theorem VBT {b cp:Nat} {lo md hi:Nat->Nat} (hb:b<w.heap.size)
  (hc:∀ j,j<7->w.cell? ⟨b,j*3,none⟩=some (.int .i64 (lo j))/\w.cell? ⟨b,j*3+1,none⟩=some (.int .i64 (md j))/\w.cell? ⟨b,j*3+2,none⟩=some (.int .i64 (hi j)))
  (ho:∀ j,j<7->lo j<=md j/\md j<=hi j):V4y Tryz.prog 244 #[.slice (some ⟨b,0,none⟩) 7 cp] w (.bool true):=by
 have HC:=hid hc;have HO:=hid ho;clear hc ho;unfold V4y;go_enter Tryz.func244,Tryz.ntmps244;go_wp2
 go_loopw [7] (fun s7 wr=>∃ j:Nat,j<=7/\Hid (Gr w wr)/\s7=.int .i64 j) (fun s7 _=>7-(intOf s7).toNat)
 case atStart=>exact ⟨0,by omega,⟨Gr.refl w⟩,rfl⟩
 case round=>
  obtain ⟨j,hj,HG,rfl⟩:=hrel;by_cases hlast:j=7
  ·subst hlast;go_wp2;go_ret;exact ⟨rfl,HG.o⟩
  ·obtain ⟨k0,k1,k2⟩:=HC.o j (by omega);obtain ⟨o1,o2⟩:=HO.o j (by omega);have c0:=(HG.o.cell hb _).trans k0;have c1:=(HG.o.cell hb _).trans k1;have c2:=(HG.o.cell hb _).trans k2;have hjI:(j:Int)<7:=by omega
   have d0:decide ((md j:Int)<(lo j:Int))=false:=decide_eq_false (by omega);have d1:decide ((hi j:Int)<(md j:Int))=false:=decide_eq_false (by omega);have HL:=hid hlast;clear hlast k0 k1 k2;generalize lo j=x at *
   generalize md j=y at *
   generalize hi j=z at *
   go_wp2;go_round
   case rel=>exact ⟨j+1,by have:=HL.o;omega,⟨HG.o.alloc _⟩,by go_num⟩
   case measure=>have:=HL.o;simp [intOf];omega
theorem JcE {a b c d:Prop} (h:¬ (a/\b/\c/\d)):¬ a\/(a/\¬ b)\/(a/\b/\¬ c)\/(a/\b/\c/\¬ d):=by
 by_cases ha:a
 ·by_cases hb:b
  ·by_cases hc:c
   ·exact .inr (.inr (.inr ⟨ha,hb,hc,fun hd=>h ⟨ha,hb,hc,hd⟩⟩))
   ·exact .inr (.inr (.inl ⟨ha,hb,hc⟩))
  ·exact .inr (.inl ⟨ha,hb⟩)
 ·exact .inl ha
set_option maxHeartbeats 1600000 in
theorem QzK (hV:QXZ w S q v) {c:Cf} (hc:VeB v.pl.pg v.n c):Calls Tryz.prog 192 #[.pointer (some ⟨q,0,none⟩),cfV c] w fun e w'=>e=.returned (.int .i64 0)/\Gr w w':=by
 have hpg:=hV.ok.page;have hn2:=hV.ok.n2;have hpB:=hV.ok.pl.pg;obtain ⟨fr,tp,to,lm,bk,st,ah⟩:=c;obtain ⟨h1,h2,h3,h4,h5,h6,h7,h8,h9,h10,h11,h12,h13⟩:=hc;dsimp only at h1 h2 h3 h4 h5 h6 h7 h8 h9 h10 h11 h12 h13;have hbp:=Quq h1
 have hpow:XuW bk=true:=by
  have:=XYi bk;rw [h1] at this;exact (Bool.and_eq_true_iff.1 this.symm).1
 have HPW:=hid (fun W=>VWY (bk:Int) (by omega) W);rw [hpow] at HPW;have HPG:=hid (fun (W:World) (g:Gr w W)=>VML (hV.gr g));have HWD:=hid (fun (W:World) (g:Gr w W)=>Xwn (hV.gr g));have HUP:=hid (fun W=>Xnz tp v.pl.pg (by omega) hpB W);obtain ⟨pg,hpge⟩:∃ pg,pg=v.pl.pg:=⟨_,rfl⟩;obtain ⟨n,hne⟩:∃ n,n=v.n:=⟨_,rfl⟩;rw [<-hpge] at HPG HUP hpg h4 h7 h10 h11 h12 h13;rw [<-hne] at HWD hn2 h6 h9
 have HWI:=hid (fun (W:World) (b:Nat) (cp:Nat) (R:Rec W b 246 [.int .i64 1,.int .i64 bk,.int .i64 1024,.int .i64 1,.int .i64 st,.int .i64 4096,.int .i64 0,.int .i64 ah,.int .i64 16,.int .i64 pg,.int .i64 fr,.int .i64 n,.int .i64 fr,.int .i64 tp,.int .i64 n,.int .i64 pg,.int .i64 to,.int .i64 n,.int .i64 to,.int .i64 lm,.int .i64 n])=>
  VBT (w:=W) (b:=b) (cp:=cp) (lo:=fun j=>[1,1,0,pg,fr,pg,to].getD j 0) (md:=fun j=>[bk,st,ah,fr,tp,to,lm].getD j 0) (hi:=fun j=>[1024,4096,16,n,n,n,n].getD j 0) R.lt
   (fun j hj=>by
    rcases (by omega:j=0\/j=1\/j=2\/j=3\/j=4\/j=5\/j=6) with rfl | rfl | rfl | rfl | rfl | rfl | rfl <;> exact ⟨R.cell rfl,R.cell rfl,R.cell rfl⟩)
   (fun j hj=>by
    rcases (by omega:j=0\/j=1\/j=2\/j=3\/j=4\/j=5\/j=6) with rfl | rfl | rfl | rfl | rfl | rfl | rfl <;> (refine ⟨?_,?_⟩ <;> simp <;> omega)))
 have m1:((fr:Int)).tmod (pg:Int)=0:=by rw [<-Int.ofNat_tmod,h10];rfl
 have m2:((to:Int)).tmod (pg:Int)=0:=by rw [<-Int.ofNat_tmod,h11];rfl
 have m3:((lm:Int)).tmod (pg:Int)=0:=by rw [<-Int.ofNat_tmod,h12];rfl
 have R0:=Rec.new w 116 [.int .i64 fr,.int .i64 tp,.int .i64 to,.int .i64 lm,.int .i64 bk,.int .i64 st,.int .i64 ah];have HAP:=hid (JcE h13)
 have hup:upN tp pg<=1048576:=by
  unfold upN;have:=Nat.div_mul_le_self (tp+pg-1) pg;omega
 obtain ⟨up,hupe⟩:∃ up,up=upN tp pg:=⟨_,rfl⟩;rw [<-hupe] at HAP hup;rw [show (tp+pg-1)/pg*pg=up from hupe.symm] at HUP;have b0:((pg:Int)==0)=false:=by simp;omega
 have b1:(pg:Int)≠0:=by omega
 unfold cfV;have HR0:=hid R0;have z0:=R0.cell (j:=0) rfl;have z1:=R0.cell (j:=1) rfl;have z2:=R0.cell (j:=2) rfl;have z3:=R0.cell (j:=3) rfl;have z4:=R0.cell (j:=4) rfl;have z5:=R0.cell (j:=5) rfl;have z6:=R0.cell (j:=6) rfl;have zl:=R0.lt;obtain ⟨W1,hW1⟩:∃ W1,W1=w.alloc (.cells #[.int .i64 fr,.int .i64 tp,.int .i64 to,.int .i64 lm,.int .i64 bk,.int .i64 st,.int .i64 ah] 116):=⟨_,rfl⟩;have HGW:Hid (Gr w W1):=⟨by rw [hW1];exact (Gr.refl w).alloc _⟩;clear hpge hne hupe R0 hV h13 hpow hpB h1 h10 h11 h12;go_enter Tryz.func192,Tryz.ntmps192;go_upto_region 1 with (fail);rw [<-hW1] at z0 z1 z2 z3 z4 z5 z6 zl HR0 ⊢;clear hW1
 go_upto_region 6 with (first
  | (go_at_call 136;refine (HPG.o _ HGW.o).mono ?_;rintro e w1 ⟨rfl,rfl⟩)
  | (go_at_call 52;refine (HWD.o _ HGW.o).mono ?_;rintro e w1 ⟨rfl,rfl⟩)
  | (go_at_call 152;refine (HPW.o _).mono ?_;rintro e w1 ⟨rfl,rfl⟩)
  | (go_at_call 244;refine (HWI.o _ _ _ (Rec.new _ _ _)).mono ?_;rintro e w2 ⟨rfl,hg2⟩;have HG2:=hid (((Gr.refl _).alloc _).trans hg2);have HR2:=hid (HR0.o.gr HG2.o);have y0:=HR2.o.cell (j:=0) rfl;have y1:=HR2.o.cell (j:=1) rfl;have y2:=HR2.o.cell (j:=2) rfl;have y3:=HR2.o.cell (j:=3) rfl;have yl:=HR2.o.lt;clear hg2))
 go_quiet (fail);go_upto_region 9 with (go_at_call 245;refine (HUP.o _).mono ?_;rintro e w1 ⟨rfl,rfl⟩);have hG:=HGW.o.trans HG2.o;rcases HAP.o with h | ⟨h,h'⟩ | ⟨h,h',h''⟩ | ⟨h,h',h'',h3⟩
 ·have e0:decide ((fr:Int)<(up:Int))=false:=decide_eq_false (by omega);have f0:decide (fr<up)=false:=decide_eq_false h;go_wp2;go_ret;exact ⟨rfl,hG.drewN _⟩
 ·have e0:decide ((fr:Int)<(up:Int))=true:=decide_eq_true (by omega);have e1:decide ((to:Int)<(lm:Int))=false:=decide_eq_false (by omega);have f0:decide (fr<up)=true:=decide_eq_true h;have f1:decide (to<lm)=false:=decide_eq_false h';go_wp2;go_ret;exact ⟨rfl,hG.drewN _⟩
 ·have e0:decide ((fr:Int)<(up:Int))=true:=decide_eq_true (by omega);have e1:decide ((to:Int)<(lm:Int))=true:=decide_eq_true (by omega);have e2:decide ((fr:Int)<(lm:Int))=false:=decide_eq_false (by omega);have f0:decide (fr<up)=true:=decide_eq_true h;have f1:decide (to<lm)=true:=decide_eq_true h';have f2:decide (fr<lm)=false:=decide_eq_false h'';go_wp2;go_ret;exact ⟨rfl,hG.drewN _⟩
 ·have e0:decide ((fr:Int)<(up:Int))=true:=decide_eq_true (by omega);have e1:decide ((to:Int)<(lm:Int))=true:=decide_eq_true (by omega);have e2:decide ((fr:Int)<(lm:Int))=true:=decide_eq_true (by omega);have e3:decide ((to:Int)<(up:Int))=false:=decide_eq_false (by omega);have f0:decide (fr<up)=true:=decide_eq_true h;have f1:decide (to<lm)=true:=decide_eq_true h';have f2:decide (fr<lm)=true:=decide_eq_true h'';have f3:decide (to<up)=false:=decide_eq_false h3;go_wp2;go_ret;exact ⟨rfl,hG.drewN _⟩
end
end
end
section
section
section
open Go.RowKit Word
def YxD (T:Nat->Prop) (w:World) (A:Option Addr) (l:List Int):Prop:=∀ i (h:i<l.length),∃ b o,A=some ⟨b,o,none⟩/\b<w.heap.size/\¬ T b/\w.cell? ⟨b,o+i,none⟩=some (.int .i64 l[i])
theorem YxD.touch {T S:Nat->Prop} {w w':World} {A:Option Addr} {l:List Int} (h:YxD T w A l) (t:XF4 S w w') (hs:∀ b,b<w.heap.size->S b->T b):YxD T w' A l:=fun i hi=>by
 obtain ⟨b,o,e,hb,hT,hc⟩:=h i hi;exact ⟨b,o,e,Nat.lt_of_lt_of_le hb t.size,hT,(t.cell hb (fun x=>hT (hs b hb x)) _).trans hc⟩
theorem YxD.gr {T:Nat->Prop} {w w':World} {A:Option Addr} {l:List Int} (h:YxD T w A l) (t:Gr w w'):YxD T w' A l:=h.touch (t.touch (fun _=>False)) (fun _ _ h=>h.elim)
theorem YxD.mono {T T':Nat->Prop} {w:World} {A:Option Addr} {l:List Int} (h:YxD T w A l) (hs:∀ b,b<w.heap.size->T' b->T b):YxD T' w A l:=fun i hi=>by
 obtain ⟨b,o,e,hb,hT,hc⟩:=h i hi;exact ⟨b,o,e,hb,fun x=>hT (hs b hb x),hc⟩
def zs (l:List Int):List Value:=l.map fun x=>.int .i64 x
theorem JbU {l:List Int} {i:Nat} (h:i<l.length):(zs l)[i]?=some (.int .i64 l[i]):=by simp [zs,h]
structure QH2 (w:World) (S:Nat->Prop) (s:Nat) (l:List Int) (R:Nat) (lost:Bool):Prop where
 ss:S s
 r1:1<=R/\R<=4096
 le:l.length<=R
 row:∃ vl hi,Rec w s 261 [vl,.int .i64 R,.int .i64 hi,.bool lost]/\w.ownsRow 0 3 1 vl l.length (zs l)/\∀ g,vl.ownBlock=some g->S g
theorem QH2.touch {S T:Nat->Prop} {w w':World} {s:Nat} {l:List Int} {R:Nat} {b:Bool} (h:QH2 w S s l R b) (t:XF4 T w w') (hS:∀ k,S k->k<w.heap.size->¬ T k):QH2 w' S s l R b:=by
 obtain ⟨h1,h2,h3,vl,hi,hr,ho,hs⟩:=h;exact ⟨h1,h2,h3,vl,hi,hr.touch t (hS _ h1 hr.lt),Zs2 ho t (fun g hg=>hS g (hs g hg) (Vvr ho hg).2),hs⟩
theorem QH2.gr {S:Nat->Prop} {w w':World} {s:Nat} {l:List Int} {R:Nat} {b:Bool} (h:QH2 w S s l R b) (t:Gr w w'):QH2 w' S s l R b:=h.touch (t.touch (fun _=>False)) (fun _ _ _ h=>h)
theorem QH2.mono {S T:Nat->Prop} {w:World} {s:Nat} {l:List Int} {R:Nat} {b:Bool} (h:QH2 w S s l R b) (hT:∀ k,S k->T k):QH2 w T s l R b:=by
 obtain ⟨h1,h2,h3,vl,hi,hr,ho,hs⟩:=h;exact ⟨hT _ h1,h2,h3,vl,hi,hr,ho,fun g hg=>hT g (hs g hg)⟩
theorem QH2.cut {S:Nat->Prop} {w:World} {s:Nat} {l:List Int} {R:Nat} {b:Bool} (h:QH2 w S s l R b):QH2 w (ZOk S w) s l R b:=by
 obtain ⟨h1,h2,h3,vl,hi,hr,ho,hs⟩:=h;exact ⟨⟨h1,hr.lt⟩,h2,h3,vl,hi,hr,ho,fun g hg=>⟨hs g hg,(Vvr ho hg).2⟩⟩
section
variable {w:World} {S:Nat->Prop} {s R:Nat} {l:List Int} {lost:Bool}
theorem JIb (h:QH2 w S s l R lost):Calls Tryz.prog 277 #[.pointer (some ⟨s,0,none⟩)] w fun e w'=>e=.returned (.int .i64 (l.length:Nat))/\w=w':=by
 obtain ⟨h1,h2,h3,vl,hi,hr,ho,hs⟩:=h;obtain ⟨A,c,rfl,hc1,hc2⟩:=ZfN ho;have c0:=hr.cell (j:=0) rfl;clear hr ho hs;go_enter Tryz.func277,Tryz.ntmps277;go_wp2;go_ret;exact ⟨rfl,rfl⟩
theorem XPh (h:QH2 w S s l R lost):Calls Tryz.prog 187 #[.pointer (some ⟨s,0,none⟩)] w fun e w'=>e=.returned (.bool lost)/\w=w':=by
 obtain ⟨h1,h2,h3,vl,hi,hr,ho,hs⟩:=h;have c3:=hr.cell (j:=3) rfl;clear hr ho hs;go_enter Tryz.func187,Tryz.ntmps187;go_wp2;go_ret;exact ⟨rfl,rfl⟩
theorem Qf8 (h:QH2 w S s l R lost):Calls Tryz.prog 188 #[.pointer (some ⟨s,0,none⟩)] w fun e w'=>e=.returned (.tuple #[])/\XF4 S w w'/\QH2 w' S s l R false:=by
 obtain ⟨h1,h2,h3,vl,hi,hr,ho,hs⟩:=h;have c3:=hr.cell (j:=3) rfl;have f3:=hr.free 3;have HR:=hid hr;have HO:=hid ho;have HS:=hid hs;clear hr ho hs;go_enter Tryz.func188,Tryz.ntmps188;go_wp2;refine bodyPost_end (results_none rfl _ _ _) rfl ?_;exact ⟨rfl,(XF4.refl S w).setCell (a:=⟨s,3,none⟩) (fun _=>h1) _,h1,h2,h3,vl,hi,Rec.set HR.o 3 _,VDR HO.o _ (fun g hg=>YnK HO.o HR.o (by decide) hg rfl),HS.o⟩
def Xjk (w:World) (S:Nat->Prop) (s:Nat) (l:List Int) (R:Nat) (lost:Bool) (e:Ending) (w':World):Prop:=
 (l=[]/\e=.returned (.tuple #[.int .i64 0,.bool false])/\w=w')\/(∃ l' a,l=l'++[a]/\e=.returned (.tuple #[.int .i64 a,.bool true])/\XF4 S w w'/\QH2 w' S s l' R lost)
set_option maxHeartbeats 800000 in
theorem ZtN (h:QH2 w S s l R lost):Calls Tryz.prog 243 #[.pointer (some ⟨s,0,none⟩)] w (Xjk w S s l R lost):=by
 have HL:=hid (JIb h);obtain ⟨h1,h2,h3,vl,hi,hr,ho,hs⟩:=h;rcases List.eq_nil_or_concat l with rfl | ⟨l',a,rfl⟩
 ·clear hr ho hs;go_enter Tryz.func243,Tryz.ntmps243;go_wp2_with (go_at_call 277;refine HL.o.mono ?_;rintro e w1 ⟨rfl,rfl⟩);go_ret2;exact .inl ⟨rfl,rfl,rfl⟩
 ·rw [List.concat_eq_append] at *
  have hlen:(l'++[a]).length=l'.length+1:=by simp
  rw [hlen] at HL ho h3;obtain ⟨g,c,rfl,-,hc1,hc2,-⟩:=YTP ho (by omega);unfold maxLen at hc2;have c0:=hr.cell (j:=0) rfl;have f0:=hr.free 0;have kb:=ZBn ho (j:=l'.length) (u:=.int .i64 a) (by simp [zs]);have HR:=hid hr;have HO:=hid ho;have HS:=hid hs;obtain ⟨N,hN⟩:∃ N,N=l'.length:=⟨_,rfl⟩;rw [<-hN] at HL c0 kb h3 hc1;have HN:=hid hN;clear hr ho hs hlen hN;go_enter Tryz.func243,Tryz.ntmps243;go_wp2_with (go_at_call 277;refine HL.o.mono ?_;rintro e w1 ⟨rfl,rfl⟩);go_ret2;refine .inr ⟨l',a,rfl,rfl,(XF4.refl S w).setCell (a:=⟨s,0,none⟩) (fun _=>h1) _,h1,h2,by have:=HN.o;omega,.slice (some ⟨g,0,none⟩) N c,hi,Rec.set HR.o 0 _,?_,fun g' hg=>HS.o g' hg⟩;have ho':=HO.o;rw [show zs (l'++[a])=zs l'++[.int .i64 a] by unfold zs;rw [List.map_append];rfl] at ho';have hp:=JTC ho';rw [HN.o];exact VDR hp _ (fun g' hg=>YnK hp HR.o (by decide) hg rfl)
def Zxv (w:World) (R:Int) (e:Ending) (w':World):Prop:=
 ((R<1\/4096<R)/\e=.returned (.tuple #[.pointer none,.int .i64 5])/\w=w') ∨
 (1<=R/\R<=4096/\e=.returned (.tuple #[.pointer (some ⟨w.heap.size,0,none⟩),.int .i64 0])/\Gr w w'/\QH2 w' (fun k=>w.heap.size<=k) w.heap.size [] R.toNat false)
theorem VgV (R:Int) (w:World):Calls Tryz.prog 122 #[.int .i64 R] w (Zxv w R):=by
 rcases (by omega:R<1\/(1<=R/\4096<R)\/(1<=R/\R<=4096)) with h | h | h
 ·have d0:decide (R<1)=true:=decide_eq_true h;go_enter Tryz.func122,Tryz.ntmps122;go_wp2;go_ret2;exact .inl ⟨.inl h,rfl,rfl⟩
 ·have d0:decide (R<1)=false:=decide_eq_false (by omega);have d1:decide (4096<R)=true:=decide_eq_true h.2;go_enter Tryz.func122,Tryz.ntmps122;go_wp2;go_ret2;exact .inl ⟨.inr h.2,rfl,rfl⟩
 ·obtain ⟨m,rfl⟩:∃ m:Nat,R=m:=⟨R.toNat,by omega⟩;have d0:decide ((m:Int)<1)=false:=decide_eq_false (by omega);have d1:decide (4096<(m:Int))=false:=decide_eq_false (by omega);go_enter Tryz.func122,Tryz.ntmps122;go_wp2;go_ret2;refine .inr ⟨h.1,h.2,rfl,(Gr.refl w).alloc _,Nat.le_refl _,?_,Nat.zero_le _,.slice none 0 0,0,?_,Vm9 _ _ _ _,(fun g hg=>by cases hg)⟩
  ·rw [Int.toNat_natCast];omega
  ·rw [Int.toNat_natCast];exact Rec.new w _ _
theorem J0c:(Tryz.prog.info? 3).map (fun i=>(i.zero,i.size,i.bytes))=some (some (.int .i64 0),1,8):=by kernel_rfl
def Jva (w:World) (S:Nat->Prop) (s:Nat) (l:List Int) (R:Nat) (lost:Bool) (a:Int) (e:Ending) (w':World):Prop:=
 (R<=l.length/\e=.returned (.bool false)/\XF4 S w w'/\QH2 w' (plus S w) s l R true)\/(l.length<R/\e=.returned (.bool true)/\XF4 S w w'/\QH2 w' (plus S w) s (l++[a]) R lost)
set_option maxHeartbeats 1600000 in
theorem Y4L (h:QH2 w S s l R lost) (a:Int):Calls Tryz.prog 242 #[.pointer (some ⟨s,0,none⟩),.int .i64 a] w (Jva w S s l R lost a):=by
 obtain ⟨h1,h2,h3,vl,hi,hr,ho,hs⟩:=h;obtain ⟨A,c,rfl,hc1,hc2⟩:=ZfN ho;unfold maxLen at hc2;have hmax:=V9O Tryz.prog;have c0:=hr.cell (j:=0) rfl;have c1:=hr.cell (j:=1) rfl;have c3:=hr.cell (j:=3) rfl;have f3:=hr.free 3;have hsl:=hr.lt;have HR:=hid hr;have HO:=hid ho;have HS:=hid hs;obtain ⟨N,hN⟩:∃ N,N=l.length:=⟨_,rfl⟩;rw [<-hN] at c0 h3 hc1;have HN:=hid hN;have z0:∀ m,(w.drewN m).cell? ⟨s,0,none⟩=some (.slice A N c):=fun m=>c0;have z1:∀ m,(w.drewN m).cell? ⟨s,1,none⟩=some (.int .i64 R):=fun m=>c1;have z3:∀ m,(w.drewN m).cell? ⟨s,3,none⟩=some (.bool lost):=fun m=>c3;have zf:∀ m,(w.drewN m).frozen? ⟨s,3,none⟩=false:=fun m=>f3;clear hr ho hs hN;by_cases hfull:R<=N
 ·have d0:decide (R<=N)=true:=decide_eq_true hfull;go_enter Tryz.func242,Tryz.ntmps242;go_wp2;go_quiet (fail);go_wp2;go_ret;have hg:Gr w (w.drewN nq):=(Gr.refl w).drewN nq;refine .inl ⟨by rw [<-HN.o];exact hfull,rfl,(hg.touch S).setCell (a:=⟨s,3,none⟩) (fun _=>h1) _,.inl h1,h2,by rw [<-HN.o];exact h3,_,hi,Rec.set (HR.o.gr hg) 3 _,VDR (Y9I HO.o hg) _ (fun g hg'=>YnK HO.o HR.o (by decide) hg' rfl),fun g hg'=>.inl (HS.o g hg')⟩
 ·have d0:decide (R<=N)=false:=decide_eq_false hfull;obtain ⟨ii,hii,hi0,hi1,hi2⟩:=info_parts J0c;go_enter Tryz.func242,Tryz.ntmps242;go_wp2;go_quiet (fail);have hg:Gr w (w.drewN nq):=(Gr.refl w).drewN nq;have HG:=hid hg;have ho1:=Y9I HO.o hg;rw [<-HN.o] at ho1;have HO1:=hid ho1;have HR1:=hid (HR.o.gr hg);clear hg ho1 z0 z1 z3 zf;go_wp2_with (at_builtin;refine wpList_append_lies _ rfl _ _ 48 rfl 0 3 ii _ 1 8 Tryz.underlying48 hii hi0 hi1 hi2 rfl (by decide) (.slice A N c) N (zs l) rfl (HO1.o.alloc _) ⟨(w.drewN nq).heap.size,0,none⟩ 1 1 [.int .i64 a] rfl rfl (World.news_of_block (cs:=#[.int .i64 a]) (t:=3) (fr:=(0,0)) (heap_alloc_new (w.drewN nq) (.cells #[.int .i64 a] 3))) (by simp [Value.oneCell']) (by omega) (by unfold maxLen;omega) (by omega) (Nat.zero_le _) ((w.drewN nq).heap.size+1) (by simp) ?_;intro g2 c2 w2 hown2 hgrow2 hat2 hlt2;have t2:XF4 (fun k=>(Value.slice A N c).ownBlock=some k) (w.drewN nq) w2:=(((Gr.refl _).alloc _).touch _).trans (VxQ hgrow2 _ (fun k e _=>e));have HR2:=hid (HR1.o.touch t2 (fun e=>YnK HO1.o HR1.o (by decide) e rfl rfl));have k0:=HR2.o.cell (j:=0) rfl;have kf:=HR2.o.free 0;have HT2:=hid t2;have HO2:=hid hown2;have HA2:=hid (And.intro hat2 hlt2);clear hown2 hgrow2 hat2 hlt2 t2);obtain ⟨W3,hW3⟩:∃ W3,W3=w2.setCell ⟨s,0,none⟩ (.slice (some ⟨g2,0,none⟩) (N+1) c2):=⟨_,rfl⟩;rw [<-hW3];have R3:Rec W3 s 261 [.slice (some ⟨g2,0,none⟩) (N+1) c2,.int .i64 R,.int .i64 hi,.bool lost]:=by rw [hW3];exact Rec.set HR2.o 0 _
  have O3:=VDR (q:=s) (j:=0) HO2.o (.slice (some ⟨g2,0,none⟩) (N+1) c2) (fun g hg=>YnK HO2.o HR2.o (by decide) hg rfl);rw [<-hW3] at O3
  have T3:XF4 S w W3:=by
   rw [hW3];exact ((HG.o.touch S).trans (HT2.o.mono (fun k _ hk=>HS.o k (by rw [<-HN.o];exact hk)))).setCell (a:=⟨s,0,none⟩) (fun _=>h1) _
  have y0:=R3.cell (j:=0) rfl;have y2:=R3.cell (j:=2) rfl;have yf:=R3.free 2;have HW3:=hid (And.intro R3 (And.intro O3 T3));have hsz:(w.drewN nq).heap.size=w.heap.size:=rfl;clear hW3 R3 O3 T3 k0 kf c0 c1 c3 f3;obtain ⟨Sx,hSx⟩:∃ Sx:World->Prop,Sx=fun W'=>W'.cell? ⟨s,0,none⟩=some (.slice (some ⟨g2,0,none⟩) (N+1) c2)/\W'.cell? ⟨s,2,none⟩=some (.int .i64 hi):=⟨_,rfl⟩;have x0:∀ p':ZJV Sx,p'.w.cell? ⟨s,0,none⟩=some (.slice (some ⟨g2,0,none⟩) (N+1) c2):=fun p'=>(ZJV.get hSx p').1;have x2:∀ p':ZJV Sx,p'.w.cell? ⟨s,2,none⟩=some (.int .i64 hi):=fun p'=>(ZJV.get hSx p').2;have hS0:Sx W3.drew:=by rw [hSx];exact ⟨y0,y2⟩
  clear hSx;have inst:Inhabited (ZJV Sx):=⟨⟨_,hS0⟩⟩;refine Vv2 Sx 13 [([0,1,2,3,4,5,6,7,8,9,10,11,12],13)] [] (by kernel_rfl) (by kernel_rfl) hS0 ?_;refine XGW ?_;simp only [XZy,List.getElem?_cons_zero,List.getElem?_cons_succ]
  repeat (go_big_quiet_step (fail))
  refine wpQuiet_nil ?_;go_wp2;refine ⟨.inl trivial,?_⟩;refine Z9U ?_;refine wpQuiet_nil ?_;refine NoPanic.normal ?_;clear x0 x2 hS0 inst;clear Sx;go_wp2;go_ret;obtain ⟨R3,O3,T3⟩:=HW3.o;have hA2:=HA2.o;refine .inr ⟨by rw [<-HN.o];omega,rfl,(T3.setCell (a:=⟨s,2,none⟩) (fun _=>h1) _).drew,.inl h1,h2,by rw [List.length_append,<-HN.o];simp;omega,.slice (some ⟨g2,0,none⟩) (N+1) c2,max hi ((N:Int)+1),Rec.gr (Rec.set R3 2 _) (Gr.refl _).drew,?_,fun g hg=>?_⟩
  ·rw [List.length_append,<-HN.o,show zs (l++[a])=zs l++[.int .i64 a] by unfold zs;rw [List.map_append];rfl];exact Y9I (VDR O3 _ (fun g hg=>YnK O3 R3 (by decide) hg rfl)) (Gr.refl _).drew
  ·cases hg;rcases hA2.1 with h | h
   ·exact .inl (HS.o _ (by rw [<-HN.o];exact h))
   ·right
    show w.heap.size<=g2
    omega
end
end
end
section
section
open Go.RowKit Word
structure V5d (w:World) (r g:Nat) (rs:List Int):Prop where
 rcd:Rec w r 179 [.slice (some ⟨g,0,none⟩) rs.length rs.length]
 row:w.ownsRow 0 3 1 (.slice (some ⟨g,0,none⟩) rs.length rs.length) rs.length (zs rs)
 ne:rs≠[]
 le:rs.length<=64
theorem YR5 (l:List Int) (i:Nat) (a:Int):(zs l).set i (.int .i64 a)=zs (l.set i a):=by unfold zs;rw [List.map_set]
theorem V5d.touch {S:Nat->Prop} {w w':World} {r g:Nat} {rs:List Int} (h:V5d w r g rs) (t:XF4 S w w') (h1:¬ S r) (h2:¬ S g):V5d w' r g rs:=
 ⟨h.rcd.touch t h1,Zs2 h.row t (fun g' hg=>by cases hg;exact h2),h.ne,h.le⟩
theorem V5d.gr {w w':World} {r g:Nat} {rs:List Int} (h:V5d w r g rs) (t:Gr w w'):V5d w' r g rs:=⟨h.rcd.gr t,Y9I h.row t,h.ne,h.le⟩
theorem V5d.lt {w:World} {r g:Nat} {rs:List Int} (h:V5d w r g rs):r<w.heap.size/\g<w.heap.size:=⟨h.rcd.lt,(Vvr h.row rfl).2⟩
theorem V5d.dif {w:World} {r g:Nat} {rs:List Int} (h:V5d w r g rs):g≠r:=YnK h.row h.rcd (by decide) rfl rfl
theorem V5d.set {w:World} {r g:Nat} {rs:List Int} (h:V5d w r g rs) (i:Nat) (a:Int):V5d (w.setCell ⟨g,i,none⟩ (.int .i64 a)) r g (rs.set i a):=by
 have hl:(rs.set i a).length=rs.length:=List.length_set;refine ⟨?_,?_,fun e=>h.ne ?_,by rw [hl];exact h.le⟩
 ·rw [hl];exact VDR h.rcd _ (fun g' hg e=>by cases hg;exact h.dif e.symm)
 ·rw [hl];have:=(World.ownsRow.stored h.row i (.int .i64 a)).1;rw [YR5] at this;exact this
 ·have:(rs.set i a).length=0:=by rw [e];rfl
  rw [hl] at this;exact List.eq_nil_of_length_eq_zero this
theorem V5d.cell {w:World} {r g:Nat} {rs:List Int} (h:V5d w r g rs) {i:Nat} (hi:i<rs.length):w.cell? ⟨g,i,none⟩=some (.int .i64 rs[i]):=ZBn h.row (JbU hi)
section
variable {w:World} {r g:Nat} {rs:List Int}
def slE (rs:List Int) (i:Int):Int:=if 0<=i/\i<rs.length then 0 else 17
theorem Vs4 (h:V5d w r g rs) {b:Nat} {i:Int} (hc:w.cell? ⟨b,0,none⟩=some (.int .i64 i)):Calls Tryz.prog 165 #[.pointer (some ⟨r,0,none⟩),.slice (some ⟨b,0,none⟩) 1 1] w fun e w'=>e=.returned (.int .i64 (slE rs i))/\w=w':=by
 have c0:=h.rcd.cell (j:=0) rfl;have hle:=h.le;have hbl:=ZQf hc;clear h;obtain ⟨n,hn⟩:∃ n,n=rs.length:=⟨_,rfl⟩;unfold slE;rw [<-hn] at c0 hle ⊢;rcases (by omega:i<0\/(0<=i/\(n:Int)<=i)\/(0<=i/\i<n)) with h1 | h1 | h1
 ·have d0:decide (i<0)=true:=decide_eq_true h1;have e0:(if 0<=i/\i<(n:Int) then (0:Int) else 17)=17:=if_neg (by omega);rw [e0];go_enter Tryz.func165,Tryz.ntmps165;go_wp2
  go_loopw [11] (fun s11 wr=>wr=w/\s11=.int .i64 0) (fun _ _=>0)
  case atStart=>exact ⟨rfl,rfl⟩
  case round=>
   obtain ⟨rfl,rfl⟩:=hrel;go_wp2;go_ret;exact ⟨rfl,rfl⟩
 ·obtain ⟨h1,h2⟩:=h1;have d0:decide (i<0)=false:=decide_eq_false (by omega);have d1:decide ((n:Int)<=i)=true:=decide_eq_true h2;have e0:(if 0<=i/\i<(n:Int) then (0:Int) else 17)=17:=if_neg (by omega);rw [e0];go_enter Tryz.func165,Tryz.ntmps165;go_wp2
  go_loopw [11] (fun s11 wr=>wr=w/\s11=.int .i64 0) (fun _ _=>0)
  case atStart=>exact ⟨rfl,rfl⟩
  case round=>
   obtain ⟨rfl,rfl⟩:=hrel;go_wp2;go_ret;exact ⟨rfl,rfl⟩
 ·obtain ⟨h1,h2⟩:=h1;have d0:decide (i<0)=false:=decide_eq_false (by omega);have d1:decide ((n:Int)<=i)=false:=decide_eq_false (by omega);have e0:(if 0<=i/\i<(n:Int) then (0:Int) else 17)=0:=if_pos ⟨h1,h2⟩;rw [e0];go_enter Tryz.func165,Tryz.ntmps165;go_wp2
  go_loopw [11] (fun s11 wr=>∃ j:Nat,j<=1/\wr=w/\s11=.int .i64 j) (fun s11 _=>1-(intOf s11).toNat)
  case atStart=>exact ⟨0,by omega,by simp⟩
  case round=>
   obtain ⟨j,hj,rfl,rfl⟩:=hrel;rcases (by omega:j=0\/j=1) with rfl | rfl
   ·go_wp2;go_round
    case rel=>exact ⟨1,by omega,trivial,by go_num⟩
    case measure=>simp [intOf]
   ·go_wp2;go_ret;exact ⟨rfl,rfl⟩
theorem YeU (h:V5d w r g rs):Calls Tryz.prog 191 #[.pointer (some ⟨r,0,none⟩)] w fun e w'=>e=.returned (.int .i64 (rs.length:Nat))/\w=w':=by
 have c0:=h.rcd.cell (j:=0) rfl;clear h;go_enter Tryz.func191,Tryz.ntmps191;go_wp2;go_ret;exact ⟨rfl,rfl⟩
theorem Jwg (h:V5d w r g rs) {i:Nat} (hi:i<rs.length):Calls Tryz.prog 106 #[.pointer (some ⟨r,0,none⟩),.int .i64 i] w fun e w'=>e=.returned (.tuple #[.int .i64 rs[i],.int .i64 0])/\Gr w w':=by
 have HC:=hid (Vs4 (h.gr ((Gr.refl w).alloc (.cells #[.int .i64 i] 3))) (b:=w.heap.size) (i:=i) ((Rec.new w 3 [.int .i64 i]).cell (j:=0) rfl));rw [show slE rs i=0 from if_pos ⟨by omega,by omega⟩] at HC;have h':=h.gr ((Gr.refl w).alloc (.cells #[.int .i64 i] 3));have c0:=h'.rcd.cell (j:=0) rfl;have c1:=h'.cell hi;have hle:=h'.le;obtain ⟨x,hx⟩:∃ x,x=rs[i]:=⟨_,rfl⟩;rw [<-hx] at c1 ⊢;obtain ⟨n,hn⟩:∃ n,n=rs.length:=⟨_,rfl⟩;rw [<-hn] at c0 hle hi;clear h h' hx hn;go_enter Tryz.func106,Tryz.ntmps106;go_wp2_with (go_at_call 165;refine HC.o.mono ?_;rintro e w1 ⟨rfl,rfl⟩);go_ret2;exact ⟨rfl,(Gr.refl w).alloc _⟩
theorem VHr (h:V5d w r g rs) {i:Nat} (hi:i<rs.length) {a:Int} (ha:0<=a):Calls Tryz.prog 94 #[.pointer (some ⟨r,0,none⟩),.int .i64 i,.int .i64 a] w fun e w'=>e=.returned (.int .i64 0)/\XF4 (fun k=>k=g) w w'/\V5d w' r g (rs.set i a):=by
 have HC:=hid (Vs4 (h.gr ((Gr.refl w).alloc (.cells #[.int .i64 i] 3))) (b:=w.heap.size) (i:=i) ((Rec.new w 3 [.int .i64 i]).cell (j:=0) rfl));rw [show slE rs i=0 from if_pos ⟨by omega,by omega⟩] at HC;have h':=h.gr ((Gr.refl w).alloc (.cells #[.int .i64 i] 3));have HR:=hid h';have c0:=h'.rcd.cell (j:=0) rfl;have c1:=h'.cell hi;have cf:=QxS h'.row i;have hle:=h'.le;have d0:decide (a<0)=false:=decide_eq_false (by omega);obtain ⟨n,hn⟩:∃ n,n=rs.length:=⟨_,rfl⟩;rw [<-hn] at c0 hle hi;clear h h' hn;go_enter Tryz.func94,Tryz.ntmps94;go_wp2_with (go_at_call 165;refine HC.o.mono ?_;rintro e w1 ⟨rfl,rfl⟩);go_ret;exact ⟨rfl,XF4.setCell (S:=fun k=>k=g) (((Gr.refl w).alloc _).touch _) (a:=⟨g,i,none⟩) (fun _=>rfl) _,HR.o.set i a⟩
theorem YSY (n:Nat):(madeCells #[.int .i64 0] n).toList=zs (List.replicate n 0):=by
 unfold madeCells zs;apply List.ext_getElem
 ·simp
 ·intro i h1 h2;simp [Nat.mod_one]
theorem QEf:(Tryz.prog.info? 3).map (fun i=>(i.zero,i.size,i.bytes))=some (some (.int .i64 0),1,8):=by kernel_rfl
set_option maxHeartbeats 800000 in
theorem YuH {n:Nat} (h1:1<=n) (h2:n<=64) (w:World):Calls Tryz.prog 48 #[.int .i64 n] w fun e w'=>∃ r g,e=.returned (.tuple #[.pointer (some ⟨r,0,none⟩),.int .i64 0])/\Gr w w'/\V5d w' r g (List.replicate n 0)/\w.heap.size<=r/\w.heap.size<=g:=by
 obtain ⟨i0,hi,hz0,hz1,hz2⟩:=info_parts QEf;have HB:Hid (i0.bytes*n<=281474976710656):=⟨by rw [hz2];omega⟩;have HM:Hid (n<=maxLen):=⟨by unfold maxLen;omega⟩;have d0:decide ((n:Int)<1)=false:=decide_eq_false (by omega);have d1:decide (64<(n:Int))=false:=decide_eq_false (by omega);go_enter Tryz.func48,Tryz.ntmps48;go_wp2_with (at_make;refine wpList_make_full _ rfl _ _ 48 rfl w.heap.size 3 i0 (.int .i64 0) 1 Tryz.underlying48 hi hz0 hz1 .i64 .i64 _ _ n rfl rfl ?h1 ?h2 HB.o HM.o (Nat.le_refl _) ?h3)
 case h1=>omega
 case h2=>omega
 case h3=>
  intro w1 hown hgrow;have hg1:Gr w w1:=(JEA hgrow (fun _=>False) (fun k e _=>by cases e)).gr;have HO:=hid hown;have HG:=hid hg1;clear hown hgrow hg1;go_wp2;go_ret2;obtain ⟨g,c,hv,hg2,-,-⟩:=YS7 HO.o (by omega);simp only [Value.slice.injEq,Option.some.injEq,Addr.mk.injEq,and_true,true_and] at hv;have hl:(List.replicate n (0:Int)).length=n:=List.length_replicate;refine ⟨w1.heap.size,w.heap.size,Qh8 rfl rfl,HG.o.alloc _,⟨?_,?_,fun e=>?_,by rw [hl];exact h2⟩,HG.o.size,Nat.le_refl _⟩
  ·rw [hl];exact Rec.new w1 _ _
  ·rw [hl];have:=Y9I (XZg HO.o) ((Gr.refl w1).alloc (.cells #[.slice (some ⟨w.heap.size,0,none⟩) n n] 179));rw [YSY] at this;exact this
  ·have:=congrArg List.length e;rw [hl] at this;simp at this;omega
set_option maxHeartbeats 800000 in
theorem Qgq {n b cap:Nat} {l:List Int} (hn:n=l.length) (hn0:n≠0) (hb:b<w.heap.size) (hc:∀ i (h:i<l.length),w.cell? ⟨b,i,none⟩=some (.int .i64 l[i])) (hl:n<=64):
  Calls Tryz.prog 127 #[.slice (some ⟨b,0,none⟩) n cap] w fun e w'=>∃ g c,e=.returned (.slice (some ⟨g,0,none⟩) n c)/\Gr w w'/\w.heap.size<=g/\w'.ownsRow 0 3 1 (.slice (some ⟨g,0,none⟩) n c) n (zs l):=by
 obtain ⟨i0,hi,hz0,hz1,hz2⟩:=info_parts QEf;have hsn:=Lib.run_eql_slice_nil (P:=Tryz.prog) w 48 3 (some ⟨b,0,none⟩) n cap 0 0 Tryz.underlying48
 have hown:(w.alloc (.cells #[] 3)).ownsRow w.heap.size 3 1 (.slice (some ⟨w.heap.size,0,none⟩) 0 0) 0 []:=
  ⟨rfl,.inr ⟨w.heap.size,0,#[],rfl,Nat.le_refl _,heap_alloc_new w _,Nat.le_refl _,by unfold maxLen;omega,rfl,rfl⟩⟩
 have hcell:∀ (j:Nat) (u:Value),(zs l)[j]?=some u->(w.alloc (.cells #[] 3)).cell? (Addr.add ⟨b,0,none⟩ j)=some u:=fun j u hj=>by
  have hjl:j<l.length:=by
   rcases Nat.lt_or_ge j l.length with h | h
   ·exact h
   ·rw [List.getElem?_eq_none (by simpa [zs] using h)] at hj;cases hj
  rw [JbU hjl] at hj;cases hj;have e:Addr.add ⟨b,0,none⟩ j=⟨b,j,none⟩:=by unfold Addr.add;split <;> simp_all
  rw [e,World.cell?_alloc_lt (h:=hb),hc j hjl]
 have h1c:∀ u∈zs l,u.oneCell'=true:=fun u hu=>by
  obtain ⟨i,_,rfl⟩:=List.mem_map.1 hu;rfl
 have HO:=hid hown;have HC:=hid hcell;have H1:=hid h1c;have HL:=hid (show n=(zs l).length by rw [hn];simp [zs]);have HN0:=hid hn0;clear hown hcell h1c hn0 hc hn;go_enter Tryz.func127,Tryz.ntmps127;go_wp2_with (at_builtin;(refine wpList_append_own _ rfl _ _ 48 rfl w.heap.size 3 i0 (.int .i64 0) 1 8 Tryz.underlying48 hi hz0 hz1 hz2 rfl (by decide) _ _ _ rfl HO.o ⟨b,0,none⟩ n cap (zs l) rfl (by rw [<-HL.o];omega) HC.o H1.o (by unfold maxLen;omega) (by omega) (by simp) ?_);intro v' w1 hown1 hgrow _;obtain ⟨g,c,hv,hg1,hg2,hg3⟩:=YS7 hown1 (by have:=HN0.o;omega);subst hv);go_ret;have hgrow':(w.alloc (.cells #[] 3)).grownBy w1 (some w.heap.size):=hgrow;refine ⟨g,c,by simp,?_,hg1,by simpa using XZg hown1⟩;refine XF4.gr ((((Gr.refl w).alloc _).touch _).trans' (JEA hgrow' (fun k=>k=w.heap.size) (fun k e _=>by cases e;rfl)) ?_);rintro i hi rfl;omega
theorem ZbJ (h:V5d w r g rs):Calls Tryz.prog 54 #[.pointer (some ⟨r,0,none⟩)] w fun e w'=>∃ g c,e=.returned (.slice (some ⟨g,0,none⟩) rs.length c)/\Gr w w'/\w.heap.size<=g/\w'.ownsRow 0 3 1 (.slice (some ⟨g,0,none⟩) rs.length c) rs.length (zs rs):=by
 have c0:=h.rcd.cell (j:=0) rfl;have HCL:=hid (Qgq (w:=w) (b:=g) (cap:=rs.length) rfl (fun e=>h.ne (List.eq_nil_of_length_eq_zero e)) h.lt.2 (fun i hi=>h.cell hi) h.le);clear h;go_enter Tryz.func54,Tryz.ntmps54;go_wp2_with (go_at_call 127;refine HCL.o.mono ?_;rintro e w1 ⟨g1,c1,rfl,hg1,hg2,ho⟩;have HG1:=hid hg1;have HG2:=hid hg2;have HO1:=hid ho;clear hg1 hg2 ho);go_ret;exact ⟨g1,c1,rfl,HG1.o,HG2.o,HO1.o⟩
end
end
end
section
section
open Go.RowKit Word
section
variable {w:World} {r g:Nat} {rs:List Int}
def ZCk (g r:Nat) (rs:List Int) (i:Nat) (out:List Int) (J:Nat->World->List Int->Prop) (e:Ending) (W':World):Prop:=
 ∃ b:Int,e=.returned (.int .i64 b)/\V5d W' r g (out++rs.drop i)/\∀ W'',XF4 (fun k=>k=g) W' W''->J (i+1) W'' (out++[max b 0])
theorem V3M {out rs:List Int} {i:Nat} (hi:i<rs.length) (ho:out.length=i) (b:Int):(out++rs.drop i).set i b=(out++[b])++rs.drop (i+1):=by
 subst ho;rw [List.set_append_right _ _ (Nat.le_refl _),Nat.sub_self,List.drop_eq_getElem_cons hi,List.set_cons_zero,List.append_assoc];rfl
theorem Vy9 {out rs:List Int} {i:Nat} (hi:i<rs.length) (ho:out.length=i) (h:i<(out++rs.drop i).length):(out++rs.drop i)[i]=rs[i]:=by
 subst ho;simp
set_option maxHeartbeats 3200000 in
theorem ZOv {F:Nat} {pre caps:Array Value} (J:Nat->World->List Int->Prop) (hcf:∀ args w,(callFunc F args).run Tryz.prog w=.ok (.enter F args) w)
  (h:V5d w r g rs) (h0:J 0 w [])
  (hz:∀ i (hi:i<rs.length) W out,out.length=i->J i W out->rs[i]=0->J (i+1) W (out++[0]))
  (hF:∀ i (hi:i<rs.length) W out,out.length=i->J i W out->V5d W r g (out++rs.drop i)->rs[i]≠0->∀ W0,Gr W W0->Calls Tryz.prog F (pre++#[.int .i64 rs[i]]++caps) W0 (ZCk g r rs i out J)):
  Calls Tryz.prog 87 #[.pointer (some ⟨r,0,none⟩),.func (.func F) pre caps] w fun e w'=>e=.returned (.tuple #[])/\∃ out,out.length=rs.length/\J rs.length w' out/\V5d w' r g out:=by
 have hle:=h.le;obtain ⟨n,hn⟩:∃ n,n=rs.length:=⟨_,rfl⟩;have c0:=h.rcd.cell (j:=0) rfl;have HN:=hid hn;have HR:=hid h;have HJ0:=hid h0;have HZ:=hid hz;have HF:=hid hF;rw [<-hn] at c0 hle ⊢;clear h h0 hz hF hn;go_enter Tryz.func87,Tryz.ntmps87;go_wp2
 go_loopw [13] (fun s13 wr=>∃ (i:Nat) (out:List Int),i<=n/\Hid (out.length=i)/\Hid (J i wr out)/\Hid (V5d wr r g (out++rs.drop i))/\s13=.int .i64 i) (fun s13 _=>n-(intOf s13).toNat)
 case atStart=>exact ⟨0,[],by omega,⟨rfl⟩,HJ0,HR,rfl⟩
 case round=>
  obtain ⟨i,out,hi,HO,HJ,HT,rfl⟩:=hrel;clear c0;by_cases hlast:i=n
  ·subst hlast;go_wp2;refine bodyPost_end (results_none rfl _ _ _) rfl ?_;refine ⟨rfl,out,HO.o,HJ.o,?_⟩;have:=HT.o;rw [HN.o,List.drop_length,List.append_nil] at this;exact this
  ·have hil:i<rs.length:=by have:=HN.o;omega
   have hlen:(out++rs.drop i).length=n:=by have:=HO.o;have:=HN.o;simp;omega
   have hiI:(i:Int)<(n:Int):=by omega
   have c1:=HT.o.cell (i:=i) (by rw [hlen];omega);rw [Vy9 hil HO.o] at c1;obtain ⟨a,ha⟩:∃ a,a=rs[i]:=⟨_,rfl⟩;have HA:=hid ha;have HIL:=hid hil;have HLL:=hid hlen;have HNL:=hid hlast;rw [<-ha] at c1;clear ha hlast;by_cases ha0:a=0
   ·subst ha0;clear hlen;go_wp2;go_round
    case rel=>
     refine ⟨i+1,out++[0],by have:=HNL.o;omega,⟨by have:=HO.o;simp [this]⟩,⟨HZ.o i HIL.o _ out HO.o HJ.o HA.o.symm⟩,⟨?_⟩,by go_num⟩;have:=HT.o;rw [List.drop_eq_getElem_cons HIL.o,<-HA.o] at this;simpa using this
    case measure=>have:=HNL.o;simp [intOf];omega
   ·have d0:(a !=0)=true:=by simpa using ha0
    have HCALL:=hid (HF.o i HIL.o wr out HO.o HJ.o HT.o (by rw [<-HA.o];exact ha0) _ (Gr.refl wr).drew);rw [<-HA.o] at HCALL;unfold ZCk at HCALL;have y0:=HT.o.rcd.cell (j:=0) rfl;rw [hlen] at y0;have hrl:=HT.o.lt;clear hlen;go_upto_region 5 with (fail);obtain ⟨Sx,hSx⟩:∃ Sx:World->Prop,Sx=fun W'=>W'.cell? ⟨r,0,none⟩=some (.slice (some ⟨g,0,none⟩) n n):=⟨_,rfl⟩;have x0:∀ p':ZJV Sx,p'.w.cell? ⟨r,0,none⟩=some (.slice (some ⟨g,0,none⟩) n n):=fun p'=>ZJV.get hSx p';have hS0:Sx wr.drew:=by rw [hSx];exact y0
    have HSX:=hid hSx;clear hSx;have inst:Inhabited (ZJV Sx):=⟨⟨_,hS0⟩⟩;have hmax:=V9O Tryz.prog;refine Vv2 Sx 10 [([0,1,2,3,4,5,6],7),([8,9],10)] [] (by kernel_rfl) (by kernel_rfl) hS0 ?_;refine XGW ?_;simp only [XZy,List.getElem?_cons_zero,List.getElem?_cons_succ]
    repeat (go_big_quiet_step (fail))
    refine wpQuiet_nil ?_;go_wp2_with (refine HCALL.o.mono ?_;rintro e w3 ⟨b,rfl,hr3,hj3⟩;have HR3:=hid hr3;have HJ3:=hid hj3;have z0:=hr3.rcd.cell (j:=0) rfl;have z1:=hr3.cell (i:=i) (by rw [HLL.o];have:=HNL.o;omega);have zf:=QxS hr3.row i;rw [HLL.o] at z0;clear hr3 hj3);refine ⟨.inr (ZJV.of (by rw [HSX.o];exact z0)),?_⟩;refine XGW ?_;simp only [XZy,List.getElem?_cons_zero,List.getElem?_cons_succ]
    repeat (go_big_quiet_step (fail))
    refine wpQuiet_nil ?_;go_wp2;refine ⟨.inl trivial,?_⟩;refine Z9U ?_;refine wpQuiet_nil ?_;refine NoPanic.normal ?_;clear x0 hS0 inst;go_wp2;go_round
    case rel=>
     refine ⟨i+1,out++[max b 0],by have:=HNL.o;omega,⟨by have:=HO.o;simp [this]⟩,⟨HJ3.o _ ?_⟩,⟨?_⟩,by go_num⟩
     ·exact XF4.setCell (S:=fun k=>k=g) (XF4.refl _ _) (a:=⟨g,i,none⟩) (fun _=>rfl) _
     ·have:=HR3.o.set i (max b 0);rw [V3M HIL.o HO.o] at this;exact this
    case measure=>have:=HNL.o;simp [intOf];omega
end
end
end
end
end Go.Proofs.YtmjoodkiiekjcaaGreatDoor
