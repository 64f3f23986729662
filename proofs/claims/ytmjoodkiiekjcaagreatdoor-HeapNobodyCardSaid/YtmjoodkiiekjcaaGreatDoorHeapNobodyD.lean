/- Part 4 of what HeapNobody leans on: my own lemmas, merged by shake.py. -/
import Derived.Test.YtmjoodkiiekjcaaGreatDoorHeapNobodyC
import Derived.Laws.OwnMore
namespace Go.Proofs.YtmjoodkiiekjcaaGreatDoor
set_option maxRecDepth 100000
section
section
section
open Go.RowKit Word
def Rec (w:World) (q T:Nat) (xs:List Value):Prop:=w.ownsRow 0 T xs.length (.slice (some ⟨q,0,none⟩) 1 1) 1 xs
theorem Rec.cell {w:World} {q T:Nat} {xs:List Value} (h:Rec w q T xs) {j:Nat} {u:Value} (hj:xs[j]?=some u):w.cell? ⟨q,j,none⟩=some u:=ZBn h hj
theorem Rec.free {w:World} {q T:Nat} {xs:List Value} (h:Rec w q T xs) (j:Nat):w.frozen? ⟨q,j,none⟩=false:=QxS h j
theorem Rec.lt {w:World} {q T:Nat} {xs:List Value} (h:Rec w q T xs):q<w.heap.size:=(Vvr h rfl).2
theorem Rec.new (w:World) (T:Nat) (xs:List Value):Rec (w.alloc (.cells xs.toArray T)) w.heap.size T xs:=by
 have:=World.ownsRow_lit (base:=0) (e:=T) (size:=xs.length) w xs.toArray 1 (Nat.zero_le _) (by unfold maxLen;omega) (by simp);exact this
theorem Rec.set {w:World} {q T:Nat} {xs:List Value} (h:Rec w q T xs) (j:Nat) (u:Value):Rec (w.setCell ⟨q,j,none⟩ u) q T (xs.set j u):=by
 have:=(World.ownsRow.stored h j u).1;unfold Rec;rw [List.length_set];exact this
theorem Rec.touch {S:Nat->Prop} {w w':World} {q T:Nat} {xs:List Value} (h:Rec w q T xs) (t:XF4 S w w') (hS:¬ S q):Rec w' q T xs:=Zs2 h t (fun g hg=>by cases hg;exact hS)
theorem Rec.gr {w w':World} {q T:Nat} {xs:List Value} (h:Rec w q T xs) (t:Gr w w'):Rec w' q T xs:=Y9I h t
theorem QiW {w:World} {base E size:Nat} {v:Value} {n:Nat} {xs:List Value} (h:w.ownsRow base E size v n xs) {g:Nat} (hg:v.ownBlock=some g):∃ cur,w.heap[g]?=some (.cells cur E (0,0)):=by
 obtain ⟨_,⟨rfl,_⟩ | ⟨g',cap,cur,rfl,_,h3,_⟩⟩:=h
 ·cases hg
 ·cases hg;exact ⟨cur,h3⟩
theorem YnK {w:World} {b1 b2 E1 E2 s1 s2:Nat} {v1 v2:Value} {n1 n2:Nat} {xs1 xs2:List Value} (h1:w.ownsRow b1 E1 s1 v1 n1 xs1) (h2:w.ownsRow b2 E2 s2 v2 n2 xs2) (he:E1≠E2) {g1 g2:Nat} (hg1:v1.ownBlock=some g1) (hg2:v2.ownBlock=some g2):g1≠g2:=by
 intro e;subst e;obtain ⟨c1,e1⟩:=QiW h1 hg1;obtain ⟨c2,e2⟩:=QiW h2 hg2;rw [e1] at e2;simp only [Option.some.injEq,Obj.cells.injEq] at e2;exact he e2.2.1
theorem ZfN {w:World} {base E size:Nat} {v:Value} {n:Nat} {xs:List Value} (h:w.ownsRow base E size v n xs):∃ A c,v=.slice A n c/\n<=c/\c<=maxLen:=by
 obtain ⟨_,⟨rfl,rfl⟩ | ⟨g',cap,cur,rfl,_,_,h4,h5,_⟩⟩:=h
 ·exact ⟨none,0,rfl,Nat.le_refl _,Nat.zero_le _⟩
 ·exact ⟨_,_,rfl,h4,h5⟩
theorem VDR {w:World} {base E size:Nat} {v:Value} {n:Nat} {xs:List Value} (h:w.ownsRow base E size v n xs) {q j:Nat} (u:Value) (hq:∀ g,v.ownBlock=some g->g≠q):(w.setCell ⟨q,j,none⟩ u).ownsRow base E size v n xs:=
 ZIq h (fun g hg=>Below.heap_setCell _ _ _ _ (hq g hg))
theorem JTC {w:World} {base E:Nat} {g n c:Nat} {xs:List Value} {x:Value} (h:w.ownsRow base E 1 (.slice (some ⟨g,0,none⟩) (n+1) c) (n+1) (xs++[x])):w.ownsRow base E 1 (.slice (some ⟨g,0,none⟩) n c) n xs:=by
 obtain ⟨h1,⟨h,_⟩ | ⟨g',cap,cur,e1,e2,e3,e4,e5,e6,e7⟩⟩:=h
 ·cases h
 ·simp only [Value.slice.injEq,Option.some.injEq,Addr.mk.injEq,and_true,true_and] at e1;obtain ⟨rfl,rfl⟩:=e1;have hl:xs.length=n:=by simp at h1;omega
  refine ⟨by rw [hl,Nat.mul_one],.inr ⟨g,c,cur,rfl,e2,e3,by omega,e5,e6,?_⟩⟩;rw [Nat.mul_one] at e7 ⊢;have:cur.toList.take n=(cur.toList.take (n+1)).take n:=by rw [List.take_take];congr 1;omega
  rw [this,e7,<-hl,List.take_left]
end
end
section
section
open Go.RowKit
theorem VcC (z:Value) (n:Nat):(Builtin.zeroCells #[z] n).toList=List.replicate n z:=by
 unfold Builtin.zeroCells;apply List.ext_getElem
 ·simp
 ·intro j h1 h2;simp [Nat.mod_one]
section
variable {P:Program} (w:World)
theorem JNG (t it ty e:TypeId) (k:IntKind) (base:Nat) (i:TypeInfo) (z:Value) (ht:P.underlying t=some (.slice e)) (hit:P.underlying it=some (.int k)) (hi:P.info? e=some i) (hz:i.zero=some z)
  (hsize:i.size=1) (hzs:z.cells=#[z]) (hz1:z.oneCell'=true)
  (v:Value) (n:Nat) (xs:List Value) (hown:w.ownsRow base e 1 v n xs) (m:Nat) (hm:0<m) (h63:n+m<=maxLen) (hbytes:(n+m)*i.bytes<=140737488355328) (hbase:base<=w.heap.size):
  ∃ g cap w',(Builtin.append_ #[t,it] ty #[v,.int .i64 m]).run P w=.ok (.slice (some ⟨g,0,none⟩) (n+m) cap) w' ∧
   w'.ownsRow base e 1 (.slice (some ⟨g,0,none⟩) (n+m) cap) (n+m) (xs++List.replicate m z)/\w.grownBy w' v.ownBlock/\(v.ownBlock=some g\/g=w.heap.size)/\g<w'.heap.size:=by
 have hsmall:n+m<=9223372036854775807:=by simp only [maxLen] at h63;omega
 have hmb:(m:Int)*(i.bytes:Int)<=281474976710656:=by
  have h1:m*i.bytes<=(n+m)*i.bytes:=Nat.mul_le_mul_right _ (by omega);have h2:((m*i.bytes:Nat):Int)=(m:Int)*(i.bytes:Int):=by push_cast;rfl
  omega
 have hw:IntKind.i64.wrap (m:Int)=(m:Int):=IntWalk.i64_in _ (by omega);have hm0:¬ (m:Int)<0:=by omega
 have hmb':¬ (281474976710656:Int)<(m:Int)*(i.bytes:Int):=by omega
 have hai:∀ (w:World),(asInt (Value.int .i64 (m:Int))).run P w=.ok (m:Int) w:=fun _=>by simp [asInt,asIntOf]
 have hmle:¬ (m:Int)<=0:=by omega
 have hmm:max (m:Int) 0=(m:Int):=by omega
 have hmn:¬ m=0:=by omega
 have hne:¬ m*i.size=0:=by rw [hsize];omega
 have hl:xs.length=n:=by have:=hown.1;omega
 have hxl:(xs++List.replicate m z).length=n+m:=by simp [hl]
 have grown:∀ (old:Nat) (row:Option Nat),
   (w.drew.alloc (.cells ((xs++List.replicate m z).toArray++Builtin.zeroCells z.cells (grownCap w (n+m) old e-(n+m))) e)).ownsRow base e 1
    (.slice (some ⟨w.heap.size,0,none⟩) (n+m) (grownCap w (n+m) old e)) (n+m) (xs++List.replicate m z) ∧
   w.grownBy (w.drew.alloc (.cells ((xs++List.replicate m z).toArray++Builtin.zeroCells z.cells (grownCap w (n+m) old e-(n+m))) e)) row:=by
  intro old row;have hge:=grownCap_ge w (n+m) old e;have hcm:grownCap w (n+m) old e<=maxLen:=grownCap_le_maxLen w (n+m) old e h63;refine ⟨⟨by omega,.inr ⟨w.heap.size,_,_,rfl,hbase,heap_alloc_new w.drew _,hge,hcm,?_,?_⟩⟩,⟨rfl,rfl,rfl,by simp,fun k hk _=>Below.heap_alloc w.drew _ k hk⟩⟩
  ·rw [Array.size_append,size_zeroCells,hzs,List.size_toArray,hxl];simp;omega
  ·rw [Array.toList_append,List.toList_toArray,Nat.mul_one,<-hxl];exact List.take_left
 have hzc:Builtin.zeroCells z.cells m=(List.replicate m z).toArray:=by rw [hzs];apply Array.ext';rw [VcC]
 rcases hown.2 with ⟨rfl,rfl⟩ | ⟨g,cap,cur,rfl,hbg,hg,hnc,hcm,hcs,htake⟩
 ·obtain rfl:xs=[]:=List.eq_nil_of_length_eq_zero hl;have h48':¬ (281474976710656<Builtin.nextslicecap m 0*i.bytes):=by rw [nextslicecap_zero hm];have:=hbytes;simp only [Nat.zero_add] at this;omega
  have h63':¬ (9223372036854775807<(m:Int)):=by omega
  have hgr:=grown 0 none;simp only [Nat.zero_add,List.nil_append] at hgr ⊢;refine ⟨_,_,_,?_,hgr.1,?_,.inr rfl,by simp⟩
  ·simp [Builtin.append_,run_underlying ht,run_underlying hit,sizeOf,typeInfo,zeroValue,hi,hz,hw,hm0,hmb',h63',h48',Question.forced,run_firstCells_none,newRow,grownCap,hsize,hai,hmm,hmn];rw [hzc];simp
  ·exact hgr.2
 ·by_cases hroom:n+m<=cap
  ·have hfit:n*i.size+0+(List.replicate m z).length<=cur.size:=by rw [hsize,hcs];simp;omega
   have hst:=run_storeCells_at P g (n*i.size) e (List.replicate m z) 0 cur w hg (by simpa using hfit) (fun u hu=>by rw [List.eq_of_mem_replicate hu];exact hz1);simp only [Nat.add_zero,hsize,Nat.mul_one] at hst;refine ⟨g,cap,w.setRow g (cur.toList.take n++List.replicate m z++cur.toList.drop (n+(List.replicate m z).length)).toArray,?_,⟨by omega,.inr ⟨g,cap,_,rfl,hbg,setRow_heap w g cur _ e _ hg,hroom,hcm,?_,?_⟩⟩,⟨rfl,rfl,rfl,by simp,fun k _ hk=>setRow_other w g k _ (fun e=>hk (by simp [Value.ownBlock,e]))⟩,.inl rfl,?_⟩
   ·simp [Builtin.append_,run_underlying ht,run_underlying hit,sizeOf,typeInfo,zeroValue,hi,hz,hw,hm0,hmb',hsize,hai,hmn,hroom,hzc,Addr.add_lit];simp at hst;simp [hst]
   ·rw [Nat.mul_one] at hcs;simp;omega
   ·rw [Nat.mul_one] at htake hcs;rw [Nat.mul_one,List.toList_toArray,htake,List.append_assoc,<-List.append_assoc,<-hxl];exact List.take_left
   ·simp;exact (Array.getElem?_eq_some_iff.1 hg).1
  ·have h48':¬ (281474976710656<Builtin.nextslicecap (n+m) cap*i.bytes):=by have:=growslice_fits (show cap<n+m by omega) hbytes;omega
   have h63':¬ (9223372036854775807<((n:Int)+(m:Int))):=by omega
   have holds:∀ j u,xs[j]?=some u->w.cell? ((⟨g,0,none⟩:Addr).add j)=some u:=hown.cells (g:=g) rfl;have hfo:=run_firstCells_some (P:=P) w.drew i.size n ⟨g,0,none⟩ n cap xs (by rw [hsize,hl];omega) (by simpa using holds);rw [hsize] at hfo;have hgr:=grown cap (Value.ownBlock (.slice (some ⟨g,0,none⟩) n cap));refine ⟨_,_,_,?_,hgr.1,hgr.2,.inr rfl,by simp⟩;simp [Builtin.append_,run_underlying ht,run_underlying hit,sizeOf,typeInfo,zeroValue,hi,hz,hw,hm0,hmb',h63',h48',Question.forced,hfo,newRow,grownCap,hsize,hai,hmm,hmn,hroom,hzc];congr 2;apply Array.ext';simp
theorem Z2Z {o:Oper} {a:Act} {K:Act->World->Prop} {Q:Exit->Act->World->Prop} (s x:Operand) (t it:TypeId)
  (ho:o.op=.call { callee:=.builtin .append,args:=#[s,x],argTypes:=#[t,it] }) (e:TypeId) (k:IntKind) (base:Nat) (i:TypeInfo) (z:Value) (ht:P.underlying t=some (.slice e)) (hit:P.underlying it=some (.int k)) (hi:P.info? e=some i) (hz:i.zero=some z)
  (hsize:i.size=1) (hzs:z.cells=#[z]) (hz1:z.oneCell'=true)
  (v:Value) (n:Nat) (xs:List Value) (hs:a.eval s=v) (hown:w.ownsRow base e 1 v n xs) (m:Nat) (hx:a.eval x=.int .i64 m) (hm:0<m) (h63:n+m<=maxLen) (hbytes:(n+m)*i.bytes<=140737488355328) (hbase:base<=w.heap.size)
  (h:∀ g cap w',w'.ownsRow base e 1 (.slice (some ⟨g,0,none⟩) (n+m) cap) (n+m) (xs++List.replicate m z)->w.grownBy w' v.ownBlock->(v.ownBlock=some g\/g=w.heap.size)->g<w'.heap.size->K (a.put o.dst (.slice (some ⟨g,0,none⟩) (n+m) cap)) w'):o.wp P a w K Q:=by
 obtain ⟨g,cap,w',hr,h2,h3,h4,h5⟩:=JNG (P:=P) w t it o.type e k base i z ht hit hi hz hsize hzs hz1 v n xs hown m hm h63 hbytes hbase;unfold Oper.wp execOp;simp only [ho,resolve,invoke,builtin,Sem.run_bind,Sem.run_pure,Result.andThen_ok,List.map_toArray,List.map_cons,List.map_nil,hs,hx,hr];exact h g cap w' h2 h3 h4 h5
theorem ZfD {ops:Array Oper} {rest:List Oper} {o:Oper} {a:Act} {Q:Exit->Act->World->Prop} (hgd:o.guard=none) (s x:Operand) (t it:TypeId)
  (ho:o.op=.call { callee:=.builtin .append,args:=#[s,x],argTypes:=#[t,it] }) (e:TypeId) (k:IntKind) (base:Nat) (i:TypeInfo) (z:Value) (ht:P.underlying t=some (.slice e)) (hit:P.underlying it=some (.int k)) (hi:P.info? e=some i) (hz:i.zero=some z)
  (hsize:i.size=1) (hzs:z.cells=#[z]) (hz1:z.oneCell'=true)
  (v:Value) (n:Nat) (xs:List Value) (hs:a.eval s=v) (hown:w.ownsRow base e 1 v n xs) (m:Nat) (hx:a.eval x=.int .i64 m) (hm:0<m) (h63:n+m<=maxLen) (hbytes:(n+m)*i.bytes<=140737488355328) (hbase:base<=w.heap.size)
  (h:∀ g cap w',w'.ownsRow base e 1 (.slice (some ⟨g,0,none⟩) (n+m) cap) (n+m) (xs++List.replicate m z)->w.grownBy w' v.ownBlock->(v.ownBlock=some g\/g=w.heap.size)->g<w'.heap.size->wpList P ops Q rest (a.put o.dst (.slice (some ⟨g,0,none⟩) (n+m) cap)) w'):wpList P ops Q (o :: rest) a w:=
 wpList_plain hgd fun _ hK=>Z2Z w s x t it ho e k base i z ht hit hi hz hsize hzs hz1 v n xs hs hown m hx hm h63 hbytes hbase fun g cap w' h2 h3 h4 h5=>hK _ _ (h g cap w' h2 h3 h4 h5)
theorem YNv (t e:TypeId) (base:Nat) (i:TypeInfo) (z:Value) (ht:P.underlying t=some (.slice e)) (hi:P.info? e=some i) (hz:i.zero=some z)
  (hzs:z.cells=#[z]) (hz1:z.oneCell'=true) {g cap N:Nat} {xs:List Value} (hown:w.ownsRow base e 1 (.slice (some ⟨g,0,none⟩) N cap) N xs) (o n c:Nat) (hn:0<n) (hon:o+n<=N):
  ∃ w',(∀ ty,(Builtin.clear_ #[t] ty #[.slice (some ⟨g,o,none⟩) n c]).run P w=.ok (.tuple #[]) w')/\w'.ownsRow base e 1 (.slice (some ⟨g,0,none⟩) N cap) N (xs.take o++List.replicate n z++xs.drop (o+n))/\w.grownBy w' (some g):=by
 have hzc:Builtin.zeroCells z.cells n=(List.replicate n z).toArray:=by rw [hzs];apply Array.ext';rw [VcC]
 obtain ⟨hl,⟨h',_⟩ | ⟨g',cap',cur,h',hb,hg,hnc,hcm,hcs,htake⟩⟩:=hown
 ·simp at h'
 ·simp only [Value.slice.injEq,Option.some.injEq,Addr.mk.injEq,and_true,true_and] at h';obtain ⟨rfl,rfl⟩:=h';rw [Nat.mul_one] at hl hcs htake;have hst:=run_storeCells_at P g o e (List.replicate n z) 0 cur w hg (by simp;omega) (fun u hu=>by rw [List.eq_of_mem_replicate hu];exact hz1);simp only [Nat.add_zero,List.length_replicate] at hst;have hn0:n≠0:=by omega
  have hlen:xs.length=N:=hl;refine ⟨_,fun ty=>?_,⟨by simp;omega,.inr ⟨g,cap,(cur.toList.take o++List.replicate n z++cur.toList.drop (o+n)).toArray,rfl,hb,setRow_heap w g cur _ e _ hg,hnc,hcm,by simp;omega,?_⟩⟩,⟨rfl,rfl,rfl,by simp,fun k _ hk=>setRow_other w g k _ (fun e=>hk (by simp [e]))⟩⟩
  ·simp [Builtin.clear_,run_underlying ht,zeroValue,typeInfo,hi,hz,hzc,hn0];simp at hst;simp [hst]
  ·rw [Nat.mul_one,List.toList_toArray,<-htake];apply List.ext_getElem?;intro j;rw [List.getElem?_take];by_cases hj:j<N
   ·rw [if_pos hj];by_cases h1:j<o
    ·rw [List.append_assoc,List.append_assoc,List.getElem?_append_left (by simp;omega),List.getElem?_append_left (by simp;omega),List.getElem?_take,List.getElem?_take,if_pos h1,if_pos h1,List.getElem?_take,if_pos hj]
    ·by_cases h2:j<o+n
     ·rw [List.append_assoc,List.append_assoc,List.getElem?_append_right (by simp;omega),List.getElem?_append_left (by simp;omega),List.getElem?_append_right (by simp;omega),List.getElem?_append_left (by simp;omega)];congr 1;simp;omega
     ·rw [List.getElem?_append_right (by simp;omega),List.getElem?_append_right (by simp;omega),List.getElem?_drop,List.getElem?_drop,List.getElem?_take,if_pos (by simp;omega)];congr 1;simp;omega
   ·rw [if_neg hj,List.getElem?_eq_none (by simp;omega)]
end
end
end
section
section
open Go.RowKit Word
structure Pl where
 pg:Nat
 rm:Nat
 tk:List Bool
 bk:List Nat
 wd:List Nat
def Pl.used (p:Pl):Nat:=cnt (at_ p.tk) p.tk.length
structure QIq (p:Pl):Prop where
 pg:Y1d p.pg=true
 pg2:p.pg<=256
 rm:1<=p.rm/\p.rm<=4096
 wl:p.wd.length=p.tk.length*p.pg
 w64:∀ x∈p.wd,x<18446744073709551616
 nd:p.bk.Nodup
 bl:∀ f∈p.bk,f<p.tk.length/\at_ p.tk f=false
 us:p.used+p.bk.length=p.tk.length
 le:p.tk.length<=p.rm
def VPA (l:List Nat):List Value:=l.map fun x=>.int .u64 (x:Nat)
def VfO (l:List Nat):List Value:=l.map fun x=>.int .i64 (x:Nat)
def JMo (w:World) (S:Nat->Prop) (q:Nat) (p:Pl):Prop:=
 ∃ vw vt vb hi ts,Rec w q 254 [vw,vt,vb,.int .i64 p.rm,.int .i64 p.pg,.int .i64 p.used,.int .i64 hi,.int .i64 ts] ∧
  w.ownsRow 0 34 1 vw p.wd.length (VPA p.wd)/\w.ownsRow 0 4 1 vt p.tk.length (p.tk.map Value.bool)/\w.ownsRow 0 3 1 vb p.bk.length (VfO p.bk) ∧
  (∀ g,vw.ownBlock=some g->S g)/\(∀ g,vt.ownBlock=some g->S g)/\(∀ g,vb.ownBlock=some g->S g)
def plus (S:Nat->Prop) (w:World) (k:Nat):Prop:=S k\/w.heap.size<=k
structure Z9Y (w:World) (S:Nat->Prop) (q:Nat) (p:Pl):Prop where
 ok:QIq p
 sq:S q
 row:JMo w S q p
theorem Z9Y.touch {S T:Nat->Prop} {w w':World} {q:Nat} {p:Pl} (h:Z9Y w S q p) (t:XF4 T w w') (hS:∀ k,S k->k<w.heap.size->¬ T k):Z9Y w' S q p:=by
 obtain ⟨h1,h2,vw,vt,vb,hi,ts,hr,o1,o2,o3,s1,s2,s3⟩:=h;exact ⟨h1,h2,vw,vt,vb,hi,ts,hr.touch t (hS _ h2 hr.lt),Zs2 o1 t (fun g hg=>hS g (s1 g hg) (Vvr o1 hg).2),Zs2 o2 t (fun g hg=>hS g (s2 g hg) (Vvr o2 hg).2),Zs2 o3 t (fun g hg=>hS g (s3 g hg) (Vvr o3 hg).2),s1,s2,s3⟩
theorem Z9Y.gr {S:Nat->Prop} {w w':World} {q:Nat} {p:Pl} (h:Z9Y w S q p) (t:Gr w w'):Z9Y w' S q p:=h.touch (t.touch (fun _=>False)) (fun _ _ _ h=>h)
theorem ZpD {l:List Nat} {i:Nat} (h:i<l.length):(VPA l)[i]?=some (.int .u64 (l[i]:Nat)):=by simp [VPA,h]
theorem XS1 {l:List Nat} {i:Nat} (h:i<l.length):(VfO l)[i]?=some (.int .i64 (l[i]:Nat)):=by simp [VfO,h]
theorem Yeu {l:List Bool} {i:Nat} (h:i<l.length):(l.map Value.bool)[i]?=some (.bool (at_ l i)):=by simp [at_,h]
section
variable {w:World} {S:Nat->Prop} {q:Nat} {p:Pl}
theorem J7n (hP:Z9Y w S q p):Calls Tryz.prog 200 #[.pointer (some ⟨q,0,none⟩)] w fun e w'=>e=.returned (.int .i64 p.pg)/\w=w':=by
 obtain ⟨vw,vt,vb,hi,ts,hr,-⟩:=hP.row;have c4:=hr.cell (j:=4) rfl;clear hr hP;go_enter Tryz.func200,Tryz.ntmps200;go_wp2;go_ret;exact ⟨rfl,rfl⟩
def YHh (p:Pl) (f:Int):Int:=if decide (0<=f)&&at_ p.tk f.toNat then 0 else 6
set_option maxHeartbeats 800000 in
theorem QtA (hP:Z9Y w S q p) (f:Int):Calls Tryz.prog 251 #[.pointer (some ⟨q,0,none⟩),.int .i64 f] w fun e w'=>e=.returned (.int .i64 (YHh p f))/\w=w':=by
 obtain ⟨vw,vt,vb,hi,ts,hr,-,ot,-⟩:=hP.row;have c1:=hr.cell (j:=1) rfl;obtain ⟨A,c,rfl,hc1,hc2⟩:=ZfN ot;unfold maxLen at hc2;have hlr:=hP.ok.le;have hrm:=hP.ok.rm.2;by_cases h0:f<0
 ·have E:YHh p f=6:=by unfold YHh;rw [decide_eq_false (by omega)];rfl
  rw [E];have d0:decide (f<0)=true:=decide_eq_true h0;clear hr hP ot E;go_enter Tryz.func251,Tryz.ntmps251;go_wp2;go_ret;exact ⟨rfl,rfl⟩
 ·obtain ⟨j,rfl⟩:∃ j:Nat,f=j:=⟨f.toNat,by omega⟩;have d0:decide ((j:Int)<0)=false:=decide_eq_false h0;by_cases h1:p.tk.length<=j
  ·have E:YHh p j=6:=by unfold YHh;rw [Int.toNat_natCast,JWT h1,Bool.and_false];rfl
   rw [E];have d1:decide (p.tk.length<=j)=true:=decide_eq_true h1;clear hr hP ot E;go_enter Tryz.func251,Tryz.ntmps251;go_wp2;go_ret;exact ⟨rfl,rfl⟩
  ·have d1:decide (p.tk.length<=j)=false:=decide_eq_false h1;obtain ⟨g,c',e1,-,-,-,-⟩:=YTP ot (by omega);simp only [Value.slice.injEq,true_and] at e1;obtain ⟨rfl,rfl⟩:=e1;have k:=ZBn ot (Yeu (i:=j) (by omega));have hj:(j:Int)<(p.tk.length:Int):=by omega
   cases hb:at_ p.tk j with
   | true=>
    have E:YHh p j=0:=by unfold YHh;rw [Int.toNat_natCast,hb,decide_eq_true (by omega)];rfl
    rw [E];rw [hb] at k;clear hr hP ot E hb;go_enter Tryz.func251,Tryz.ntmps251;go_wp2;go_ret;exact ⟨rfl,rfl⟩
   | false=>
    have E:YHh p j=6:=by unfold YHh;rw [Int.toNat_natCast,hb,Bool.and_false];rfl
    rw [E];rw [hb] at k;clear hr hP ot E hb;go_enter Tryz.func251,Tryz.ntmps251;go_wp2;go_ret;exact ⟨rfl,rfl⟩
theorem QLE (hP:Z9Y w S q p) {f:Nat} (hf:f<p.tk.length):f*p.pg+p.pg<=p.wd.length/\p.wd.length<=1048576:=by
 have h1:=hP.ok.wl;have h2:=hP.ok.le;have h3:=hP.ok.rm.2;have h4:=hP.ok.pg2;constructor
 ·rw [h1,<-Nat.succ_mul];exact Nat.mul_le_mul_right _ hf
 ·rw [h1];exact Nat.le_trans (Nat.mul_le_mul (Nat.le_trans h2 h3) h4) (by decide)
theorem XlR (hP:Z9Y w S q p) {f:Nat} (hf:f<p.tk.length):∃ g c hi ts vt vb,Rec w q 254 [.slice (some ⟨g,0,none⟩) p.wd.length c,vt,vb,.int .i64 p.rm,.int .i64 p.pg,.int .i64 p.used,.int .i64 hi,.int .i64 ts] ∧
  w.ownsRow 0 34 1 (.slice (some ⟨g,0,none⟩) p.wd.length c) p.wd.length (VPA p.wd)/\w.ownsRow 0 4 1 vt p.tk.length (p.tk.map Value.bool)/\w.ownsRow 0 3 1 vb p.bk.length (VfO p.bk) ∧
  S g/\(∀ g,vt.ownBlock=some g->S g)/\(∀ g,vb.ownBlock=some g->S g)/\p.wd.length<=c/\c<=9223372036854775807:=by
 obtain ⟨h1,h2,vw,vt,vb,hi,ts,hr,o1,o2,o3,s1,s2,s3⟩:=hP;have hpg:=Quq h1.pg
 have hne:p.wd.length≠0:=by
  rw [h1.wl];have:1<=p.tk.length*p.pg:=Nat.mul_pos (by omega) (by omega);omega
 obtain ⟨g,c,rfl,-,h3,h4,-⟩:=YTP o1 hne;unfold maxLen at h4;exact ⟨g,c,hi,ts,vt,vb,hr,o1,o2,o3,s1 g rfl,s2,s3,h3,by omega⟩
set_option maxHeartbeats 800000 in
theorem QAq {g c n pg:Nat} {vt vb v3 v5 v6 v7:Value} (hr:Rec w q 254 [.slice (some ⟨g,0,none⟩) n c,vt,vb,v3,.int .i64 pg,v5,v6,v7]) (hc:n<=c) (hc2:c<=9223372036854775807)
  {f:Nat} (hp:1<=pg) (h1:f*pg+pg<=n) (h2:n<=1048576):Calls Tryz.prog 282 #[.pointer (some ⟨q,0,none⟩),.int .i64 f] w fun e w'=>e=.returned (.slice (some ⟨g,f*pg,none⟩) pg pg)/\w=w':=by
 have c0:=hr.cell (j:=0) rfl;have c4:=hr.cell (j:=4) rfl;obtain ⟨t,ht⟩:∃ t,t=f*pg:=⟨_,rfl⟩;rw [<-ht] at h1 ⊢;have hmul:(f:Int)*(pg:Int)=(t:Int):=by rw [ht];push_cast;rfl
 have hw:IntKind.i64.wrap ((f:Int)*(pg:Int))=(t:Int):=by rw [hmul];exact IntWalk.i64_in _ (by omega)
 have b1:(t:Int)+(pg:Int)<=(c:Int):=by omega
 have n0:¬ pg=0:=by omega
 have n1:¬ t+pg=t:=by omega
 clear hr ht;go_enter Tryz.func282,Tryz.ntmps282;go_wp2;go_ret;refine ⟨?_,rfl⟩
 show Ending.returned (.slice (some ⟨g,t,none⟩) (t+pg-t) (t+pg-t))=_
 rw [Nat.add_sub_cancel_left]
def VIj (p:Pl) (f a:Int):Int:=if YHh p f=0 then (if 0<=a/\a<p.pg then 0 else 11) else 6
theorem ZNg {p:Pl} {f:Int} (h:YHh p f=0):∃ j:Nat,f=j/\j<p.tk.length/\at_ p.tk j=true:=by
 unfold YHh at h;cases hb:(decide (0<=f)&&at_ p.tk f.toNat) with
 | false=>rw [hb] at h;cases h
 | true=>
  simp at hb;exact ⟨f.toNat,by omega,XaX hb.2,hb.2⟩
theorem VZN (p:Pl) (f:Int):YHh p f=0\/YHh p f=6:=by unfold YHh;split <;> simp
def YvI (w:World) (S:Nat->Prop) (q:Nat) (p:Pl) (f a:Int) (e:Ending) (w':World):Prop:=w=w' ∧
 ((VIj p f a≠0/\e=.returned (.tuple #[.pointer none,.int .i64 (VIj p f a)])) ∨
  (VIj p f a=0/\∃ g:Nat,S g/\e=.returned (.tuple #[.pointer (some ⟨g,f.toNat*p.pg+a.toNat,none⟩),.int .i64 0])/\w.cell? ⟨g,f.toNat*p.pg+a.toNat,none⟩=some (.int .u64 (p.wd.getD (f.toNat*p.pg+a.toNat) 0:Nat))/\w.frozen? ⟨g,f.toNat*p.pg+a.toNat,none⟩=false ∧
   ∀ x:Nat,x<18446744073709551616->Z9Y (w.setCell ⟨g,f.toNat*p.pg+a.toNat,none⟩ (.int .u64 x)) S q { p with wd:=p.wd.set (f.toNat*p.pg+a.toNat) x }))
theorem YEA (l:List Nat) (i x:Nat):(VPA l).set i (.int .u64 (x:Nat))=VPA (l.set i x):=by unfold VPA;rw [List.map_set]
theorem QTa {p:Pl} (h:QIq p) (i x:Nat) (hx:x<18446744073709551616):QIq { p with wd:=p.wd.set i x }:=
 ⟨h.pg,h.pg2,h.rm,by simp [h.wl],fun y hy=>by rcases List.mem_or_eq_of_mem_set hy with h1 | h1;exact h.w64 y h1;exact h1 ▸ hx,h.nd,h.bl,h.us,h.le⟩
set_option maxHeartbeats 800000 in
theorem VoF (hP:Z9Y w S q p) (f a:Int):Calls Tryz.prog 288 #[.pointer (some ⟨q,0,none⟩),.int .i64 f,.int .i64 a] w (YvI w S q p f a):=by
 have HP:=hid hP;rcases VZN p f with hc | hc
 ·obtain ⟨j,rfl,hj,hat⟩:=ZNg hc;obtain ⟨g,c,hi,ts,vt,vb,hr,o1,o2,o3,sg,s2,s3,hc1,hc2⟩:=XlR hP hj;obtain ⟨hf1,hf2⟩:=QLE hP hj;have c4:=hr.cell (j:=4) rfl;have hpg:=Quq hP.ok.pg;have HR:=hid hr;have HC:=hid hc;have HO1:=hid o1;have HS:=hid (And.intro sg (And.intro s2 s3));have HO2:=hid o2;have HO3:=hid o3;have hp2:=hP.ok.pg2;clear hr o1 o2 o3 sg s2 s3 hP;by_cases ha0:a<0
  ·have E:VIj p j a=11:=by unfold VIj;rw [if_pos hc,if_neg (by omega)]
   have HE:=hid E;have d0:decide (a<0)=true:=decide_eq_true ha0;clear hc E;go_enter Tryz.func288,Tryz.ntmps288;go_wp2_with (go_at_call 251;refine (QtA HP.o j).mono ?_;rintro e w1 ⟨rfl,rfl⟩;rw [HC.o]);go_ret2;exact ⟨rfl,.inl ⟨by rw [HE.o];decide,by rw [HE.o];rfl⟩⟩
  ·obtain ⟨b,rfl⟩:∃ b:Nat,a=b:=⟨a.toNat,by omega⟩;have d0:decide ((b:Int)<0)=false:=decide_eq_false ha0;by_cases ha1:p.pg<=b
   ·have E:VIj p j b=11:=by unfold VIj;rw [if_pos hc,if_neg (by omega)]
    have HE:=hid E;have d1:decide (p.pg<=b)=true:=decide_eq_true ha1;clear hc E;go_enter Tryz.func288,Tryz.ntmps288;go_wp2_with (go_at_call 251;refine (QtA HP.o j).mono ?_;rintro e w1 ⟨rfl,rfl⟩;rw [HC.o]);go_ret2;exact ⟨rfl,.inl ⟨by rw [HE.o];decide,by rw [HE.o];rfl⟩⟩
   ·have E:VIj p j b=0:=by unfold VIj;rw [if_pos hc,if_pos (by omega)]
    have HE:=hid E;have d1:decide (p.pg<=b)=false:=decide_eq_false ha1;have hlt:(b:Int)<(p.pg:Int):=by omega
    clear hc E;go_enter Tryz.func288,Tryz.ntmps288
    go_wp2_with (first
     | (go_at_call 251;refine (QtA HP.o j).mono ?_;rintro e w1 ⟨rfl,rfl⟩;rw [HC.o])
     | (go_at_call 282;refine (QAq HR.o hc1 hc2 (by omega) hf1 hf2).mono ?_;rintro e w1 ⟨rfl,rfl⟩))
    go_ret2;obtain ⟨i,hi'⟩:∃ i,i=j*p.pg+b:=⟨_,rfl⟩;have hil:i<p.wd.length:=by omega
    have k:=ZBn HO1.o (ZpD hil);refine ⟨rfl,.inr ⟨HE.o,g,HS.o.1,by rw [Int.toNat_natCast,Int.toNat_natCast];rfl,?_,QxS HO1.o _,fun x hx=>?_⟩⟩
    ·rw [Int.toNat_natCast,Int.toNat_natCast,<-hi',k,List.getD_eq_getElem?_getD,List.getElem?_eq_getElem hil];rfl
    ·rw [Int.toNat_natCast,Int.toNat_natCast,<-hi'];have hst:=(World.ownsRow.stored HO1.o i (.int .u64 (x:Nat))).1;rw [YEA] at hst;refine ⟨QTa HP.o.ok i x hx,HP.o.sq,_,vt,vb,hi,ts,VDR HR.o _ (fun g' hg'=>?_),by simpa using hst,VDR HO2.o _ (fun g' hg'=>?_),VDR HO3.o _ (fun g' hg'=>?_),fun g' hg'=>by cases hg';exact HS.o.1,HS.o.2.1,HS.o.2.2⟩
     ·exact YnK HR.o HO1.o (by decide) hg' rfl
     ·exact YnK HO2.o HO1.o (by decide) hg' rfl
     ·exact YnK HO3.o HO1.o (by decide) hg' rfl
 ·have E:VIj p f a=6:=by unfold VIj;rw [if_neg (by omega)]
  have HE:=hid E;have HC:=hid hc;clear hP hc E;go_enter Tryz.func288,Tryz.ntmps288;go_wp2_with (go_at_call 251;refine (QtA HP.o f).mono ?_;rintro e w1 ⟨rfl,rfl⟩;rw [HC.o]);go_ret2;exact ⟨rfl,.inl ⟨by rw [HE.o];decide,by rw [HE.o];rfl⟩⟩
def Q0D (p:Pl) (f a:Int):Nat:=if VIj p f a=0 then p.wd.getD (f.toNat*p.pg+a.toNat) 0 else 0
def QrR (p:Pl) (f a:Int) (x:Nat):Pl:=if VIj p f a=0 then { p with wd:=p.wd.set (f.toNat*p.pg+a.toNat) x } else p
theorem Xn2 (hP:Z9Y w S q p) (f a:Int):Calls Tryz.prog 259 #[.pointer (some ⟨q,0,none⟩),.int .i64 f,.int .i64 a] w fun e w'=>e=.returned (.tuple #[.int .u64 (Q0D p f a:Nat),.int .i64 (VIj p f a)])/\w=w':=by
 have HP:=hid hP;clear hP;by_cases hc:VIj p f a=0
 ·have HC:=hid hc;have HV:Hid (Q0D p f a=p.wd.getD (f.toNat*p.pg+a.toNat) 0):=⟨by unfold Q0D;rw [if_pos hc]⟩;clear hc;go_enter Tryz.func259,Tryz.ntmps259;go_wp2_with (go_at_call 288;refine (VoF HP.o f a).mono ?_;rintro e w1 ⟨rfl,⟨h,-⟩ | ⟨-,g,-,rfl,k,-,-⟩⟩;(exact absurd HC.o h));go_ret2;exact ⟨Qh8 (by rw [HV.o,List.getD_eq_getElem?_getD];rfl) (Yhd HC.o.symm),rfl⟩
 ·have HC:=hid hc;obtain ⟨c,hce⟩:∃ c,c=VIj p f a:=⟨_,rfl⟩;have hc0:(c !=0)=true:=by rw [hce];simpa using hc
  have HCE:=hid hce.symm;have HV:Hid (Q0D p f a=0):=⟨by unfold Q0D;rw [if_neg hc]⟩;clear hc hce;go_enter Tryz.func259,Tryz.ntmps259;go_wp2_with (go_at_call 288;refine (VoF HP.o f a).mono ?_;rintro e w1 ⟨rfl,⟨-,rfl⟩ | ⟨h,-⟩⟩;rotate_left;(exact absurd h HC.o);rw [HCE.o]);go_ret2;exact ⟨Qh8 (by rw [HV.o];rfl) (Yhd HCE.o.symm),rfl⟩
def JmU (w:World) (S:Nat->Prop) (q:Nat) (p:Pl) (f a:Int) (x:Nat) (e:Ending) (w':World):Prop:=e=.returned (.int .i64 (VIj p f a))/\XF4 S w w'/\Z9Y w' S q (QrR p f a x)
theorem YBJ (hP:Z9Y w S q p) (f a:Int) (x:Nat) (hx:x<18446744073709551616):Calls Tryz.prog 260 #[.pointer (some ⟨q,0,none⟩),.int .i64 f,.int .i64 a,.int .u64 x] w (JmU w S q p f a x):=by
 have HP:=hid hP;clear hP;by_cases hc:VIj p f a=0
 ·have HC:=hid hc;have HV:Hid (QrR p f a x={ p with wd:=p.wd.set (f.toNat*p.pg+a.toNat) x }):=⟨by unfold QrR;rw [if_pos hc]⟩;clear hc;go_enter Tryz.func260,Tryz.ntmps260;go_wp2_with (go_at_call 288;refine (VoF HP.o f a).mono ?_;rintro e w1 ⟨rfl,⟨h,-⟩ | ⟨-,g,sg,rfl,k,kf,hs⟩⟩;(exact absurd HC.o h);have HSG:=hid (And.intro sg hs);clear sg hs);go_ret;exact ⟨ZzN HC.o.symm,(XF4.refl S w).setCell (fun _=>HSG.o.1) _,by rw [HV.o];exact HSG.o.2 x hx⟩
 ·have HC:=hid hc;obtain ⟨c,hce⟩:∃ c,c=VIj p f a:=⟨_,rfl⟩;have hc0:(c==0)=false:=by rw [hce];simpa using hc
  have HCE:=hid hce.symm;have HV:Hid (QrR p f a x=p):=⟨by unfold QrR;rw [if_neg hc]⟩;clear hc hce;go_enter Tryz.func260,Tryz.ntmps260;go_wp2_with (go_at_call 288;refine (VoF HP.o f a).mono ?_;rintro e w1 ⟨rfl,⟨-,rfl⟩ | ⟨h,-⟩⟩;rotate_left;(exact absurd h HC.o);rw [HCE.o]);go_ret;exact ⟨ZzN HCE.o.symm,XF4.refl S w,by rw [HV.o];exact HP.o⟩
end
end
end
section
section
open Go.RowKit Word
def Y4M (n:Int):Bool:=decide (1<=n)&&decide (n<=4096)
def Jnk (n:Int):Bool:=Y1d n&&decide (n<=256)
def Pl.none (pg rm:Nat):Pl:=⟨pg,rm,[],[],[]⟩
theorem Xgr {pg rm:Nat} (h1:Y4M rm=true) (h2:Jnk pg=true):QIq (Pl.none pg rm):=by
 unfold Y4M at h1;unfold Jnk at h2;simp at h1 h2;exact ⟨h2.1,by show pg<=256;omega,by show 1<=rm/\rm<=4096;omega,by simp [Pl.none],fun x h=>(by cases h),List.nodup_nil,fun f h=>(by cases h),rfl,Nat.zero_le _⟩
def VuW (w:World) (n k:Int) (e:Ending) (w':World):Prop:=
 ((Y4M n&&Jnk k)=false/\e=.returned (.tuple #[.pointer none,.int .i64 5])/\w=w') ∨
 ((Y4M n&&Jnk k)=true/\e=.returned (.tuple #[.pointer (some ⟨w.heap.size,0,none⟩),.int .i64 0])/\Gr w w'/\Z9Y w' (fun b=>w.heap.size<=b) w.heap.size (Pl.none k.toNat n.toNat))
set_option maxHeartbeats 1600000 in
theorem XXu (n k:Int) (hk:k<=9223372036854775807) (w:World):Calls Tryz.prog 116 #[.int .i64 n,.int .i64 k] w (VuW w n k):=by
 have hpart:((Y4M n&&Jnk k)=false/\(decide (n<1)=true\/(decide (n<1)=false/\decide (4096<n)=true)\/(decide (n<1)=false/\decide (4096<n)=false/\XuW k=false)\/(decide (n<1)=false/\decide (4096<n)=false/\XuW k=true/\decide (256<k)=true))) ∨
   ((Y4M n&&Jnk k)=true/\decide (n<1)=false/\decide (4096<n)=false/\XuW k=true/\decide (256<k)=false):=by
  have hb:=XYi k;unfold Y4M Jnk;rw [hb];by_cases h1:n<1
  ·exact .inl ⟨by rw [decide_eq_false (show ¬ 1<=n by omega)];rfl,.inl (decide_eq_true h1)⟩
  ·by_cases h2:4096<n
   ·exact .inl ⟨by rw [decide_eq_false (show ¬ n<=4096 by omega)];simp,.inr (.inl ⟨decide_eq_false h1,decide_eq_true h2⟩)⟩
   ·rw [decide_eq_true (show 1<=n by omega),decide_eq_true (show n<=4096 by omega)];cases hp:XuW k with
    | false=>exact .inl ⟨rfl,.inr (.inr (.inl ⟨decide_eq_false h1,decide_eq_false h2,rfl⟩))⟩
    | true=>
     by_cases h3:256<k
     ·exact .inl ⟨by rw [decide_eq_false (show ¬ k<=256 by omega)];simp,.inr (.inr (.inr ⟨decide_eq_false h1,decide_eq_false h2,rfl,decide_eq_true h3⟩))⟩
     ·exact .inr ⟨by rw [decide_eq_true (show k<=1024 by omega),decide_eq_true (show k<=256 by omega)];rfl,decide_eq_false h1,decide_eq_false h2,rfl,decide_eq_false h3⟩
 rcases hpart with ⟨hf,hw⟩ | ⟨ht,h1,h2,h3,h4⟩
 ·have HF:=hid hf;obtain ⟨b,hb⟩:∃ b,b=XuW k:=⟨_,rfl⟩;have HB:=hid hb.symm;rw [<-hb] at hw;clear hf hb;rcases hw with h1 | ⟨h1,h2⟩ | ⟨h1,h2,rfl⟩ | ⟨h1,h2,rfl,h3⟩
  all_goals
   go_enter Tryz.func116,Tryz.ntmps116;go_wp2_with (go_at_call 152;refine (VWY k hk _).mono ?_;rintro e w1 ⟨rfl,rfl⟩;rw [HB.o]);go_ret2;exact .inl ⟨HF.o,rfl,rfl⟩
 ·have HF:=hid ht;have HB:=hid h3;have hn:=of_decide_eq_false h1;obtain ⟨m,rfl⟩:∃ m:Nat,n=m:=⟨n.toNat,by omega⟩;have hk1:=(Bool.and_eq_true_iff.1 (Bool.and_eq_true_iff.1 ht).2).1;have hkb:=Quq hk1;obtain ⟨g,rfl⟩:∃ g:Nat,k=g:=⟨k.toNat,by omega⟩;clear ht h3 hn hk1;go_enter Tryz.func116,Tryz.ntmps116;go_wp2_with (go_at_call 152;refine (VWY _ hk _).mono ?_;rintro e w1 ⟨rfl,rfl⟩;rw [HB.o]);go_ret2;obtain ⟨hr,hp⟩:=Bool.and_eq_true_iff.1 HF.o;refine .inr ⟨HF.o,rfl,(Gr.refl _).alloc _,?_⟩;rw [Int.toNat_natCast,Int.toNat_natCast];refine ⟨Xgr hr hp,Nat.le_refl _,.slice none 0 0,.slice none 0 0,.slice none 0 0,0,0,Rec.new _ _ _,Vm9 _ _ _ _,Vm9 _ _ _ _,Vm9 _ _ _ _,(fun g h=>by cases h),(fun g h=>by cases h),(fun g h=>by cases h)⟩
def Pl.next (p:Pl):Nat:=if p.bk=[] then p.tk.length else p.bk.getLastD 0
def JA7 (l:List Nat) (i n:Nat):List Nat:=l.take i++List.replicate n 0++l.drop (i+n)
def Pl.fresh (p:Pl):Pl:=if p.bk=[] then { p with tk:=p.tk++[false],wd:=p.wd++List.replicate p.pg 0 } else { p with bk:=p.bk.dropLast }
def Pl.take (p:Pl):Pl:={ p.fresh with tk:=p.fresh.tk.set p.next true,wd:=JA7 p.fresh.wd (p.next*p.pg) p.pg }
theorem YGK {l:List Nat} {i n:Nat} (h:i+n<=l.length):(JA7 l i n).length=l.length:=by unfold JA7;simp;omega
theorem YMA {l:List Nat} {i n:Nat} (h:i+n<=l.length) (j:Nat):(JA7 l i n).getD j 0=if i<=j/\j<i+n then 0 else l.getD j 0:=by
 unfold JA7;simp only [List.getD_eq_getElem?_getD];by_cases h1:j<i
 ·rw [if_neg (by omega),List.append_assoc,List.getElem?_append_left (by simp;omega),List.getElem?_take,if_pos h1]
 ·by_cases h2:j<i+n
  ·rw [if_pos (by omega),List.append_assoc,List.getElem?_append_right (by simp;omega),List.getElem?_append_left (by simp;omega),List.getElem?_replicate]
   split <;> rfl
  ·rw [if_neg (by omega),List.getElem?_append_right (by simp;omega),List.getElem?_drop];congr 2;simp;omega
theorem YWy:(Tryz.prog.info? 3).map (fun i=>(i.zero,i.size,i.bytes))=some (some (.int .i64 0),1,8):=by kernel_rfl
theorem Vck:(Tryz.prog.info? 4).map (fun i=>(i.zero,i.size,i.bytes))=some (some (.bool false),1,1):=by kernel_rfl
theorem Xuv (l:List Bool):cnt (at_ (l++[false])) (l++[false]).length=cnt (at_ l) l.length:=by
 have h1:(l++[false]).length=l.length+1:=by simp
 rw [h1,Z10];have h2:at_ (l++[false]) l.length=false:=by simp [at_]
 have h3:cnt (at_ (l++[false])) l.length=cnt (at_ l) l.length:=XmU (fun i hi=>by simp [at_,List.getD_eq_getElem?_getD,List.getElem?_append_left hi]);rw [h2,h3];rfl
def JQN (w:World) (S:Nat->Prop) (q:Nat) (p:Pl) (e:Ending) (w':World):Prop:=e=.returned (.int .i64 (p.next:Nat))/\XF4 S w w'/\JMo w' (plus S w) q p.fresh
section
variable {w:World} {S:Nat->Prop} {q:Nat} {p:Pl}
set_option maxHeartbeats 1600000 in
theorem VPE (hP:Z9Y w S q p) (hb:p.bk≠[]):Calls Tryz.prog 281 #[.pointer (some ⟨q,0,none⟩)] w (JQN w S q p):=by
 obtain ⟨ok,sq,vw,vt,vb,hi,ts,hr,o1,o2,o3,s1,s2,s3⟩:=hP;obtain ⟨bi,f,hbf⟩:∃ bi f,p.bk=bi++[f]:=⟨p.bk.dropLast,p.bk.getLast hb,(List.dropLast_concat_getLast hb).symm⟩;have hN:p.next=f:=by unfold Pl.next;rw [if_neg hb,hbf];simp
 have hF:p.fresh={ p with bk:=bi }:=by unfold Pl.fresh;rw [if_neg hb,hbf];simp
 have hbl:p.bk.length<=4096:=by have:=ok.us;have:=ok.le;have:=ok.rm.2;omega
 have hlen:p.bk.length=bi.length+1:=by rw [hbf];simp
 obtain ⟨gb,cb,rfl,-,hc1,hc2,hgl⟩:=YTP o3 (by omega);have k:=ZBn o3 (XS1 (i:=bi.length) (by omega));have hfk:p.bk[bi.length]'(by omega)=f:=by simp [hbf]
 rw [hfk] at k;have o3':=o3;rw [hbf] at o3';have e1:(bi++[f]).length=bi.length+1:=by simp
 have e2:VfO (bi++[f])=VfO bi++[.int .i64 (f:Nat)]:=by simp [VfO]
 rw [e1,e2] at o3';have hpop:=JTC o3';have c2:=hr.cell (j:=2) rfl;rw [hlen] at c2 hc1;have cf:=hr.free 2;have HF:=hid hF;have HN:=hid hN;have HR:=hid hr;have H1:=hid o1;have H2:=hid o2;have H3:=hid hpop;have HO3:=hid o3;unfold maxLen at hc2;obtain ⟨N,hN'⟩:∃ N,N=bi.length:=⟨_,rfl⟩;rw [<-hN'] at c2 hlen k hc1;have HNN:=hid hN';clear hr o1 o2 o3 o3' hbf hF hN e1 e2 hpop hb hfk hN';go_enter Tryz.func281,Tryz.ntmps281;go_wp2;go_ret;refine ⟨by rw [HN.o];rfl,(XF4.refl S w).setCell (fun _=>sq) _,?_⟩;rw [HF.o];refine ⟨vw,vt,.slice (some ⟨gb,0,none⟩) N cb,hi,ts,HR.o.set 2 _,VDR H1.o _ (fun g hg=>?_),VDR H2.o _ (fun g hg=>?_),?_,fun g hg=>.inl (s1 g hg),fun g hg=>.inl (s2 g hg),fun g hg=>.inl (s3 g hg)⟩
 ·exact YnK H1.o HR.o (by decide) hg rfl
 ·exact YnK H2.o HR.o (by decide) hg rfl
 ·have:=H3.o;rw [<-HNN.o] at this
  show World.ownsRow _ 0 _ 1 _ bi.length _
  rw [<-HNN.o];exact VDR this _ (fun g hg=>YnK this HR.o (by decide) hg rfl)
set_option maxHeartbeats 3200000 in
theorem Yqu (hP:Z9Y w S q p) (hb:p.bk=[]):Calls Tryz.prog 281 #[.pointer (some ⟨q,0,none⟩)] w (JQN w S q p):=by
 obtain ⟨ok,sq,vw,vt,vb,hi,ts,hr,o1,o2,o3,s1,s2,s3⟩:=hP;obtain ⟨iu,hiu,hu0,hu1,hu2⟩:=info_parts ZiX;obtain ⟨ib,hib,hb0,hb1,hb2⟩:=info_parts Vck;have hN:p.next=p.tk.length:=by unfold Pl.next;rw [if_pos hb]
 have hF:p.fresh={ p with tk:=p.tk++[false],wd:=p.wd++List.replicate p.pg 0 }:=by unfold Pl.fresh;rw [if_pos hb]
 obtain ⟨Ab,cb,rfl,hcb1,hcb2⟩:=ZfN o3;obtain ⟨At,ct,rfl,hct1,hct2⟩:=ZfN o2;obtain ⟨Aw,cw,rfl,hcw1,hcw2⟩:=ZfN o1;have hbl:p.bk.length=0:=by rw [hb];rfl
 have htl:p.tk.length<=4096:=Nat.le_trans ok.le ok.rm.2;have hpg:=Quq ok.pg;have hpg2:=ok.pg2;have hwl:p.wd.length<=1048576:=by rw [ok.wl];exact Nat.le_trans (Nat.mul_le_mul htl hpg2) (by decide)
 have c0:=hr.cell (j:=0) rfl;have c1:=hr.cell (j:=1) rfl;have c2:=hr.cell (j:=2) rfl;have c4:=hr.cell (j:=4) rfl;have cf:=fun j=>hr.free j;rw [hbl] at c2;have hql:=hr.lt;have HF:=hid hF;have HN:=hid hN;have HR:=hid hr;have H1:=hid o1;have H2:=hid o2;have H3:=hid o3;have HB:=hid (And.intro hb hbl);unfold maxLen at hcb2 hct2 hcw2;obtain ⟨N,hN'⟩:∃ N,N=p.tk.length:=⟨_,rfl⟩;have HNN:=hid hN';rw [<-hN'] at c1 htl;obtain ⟨M,hM'⟩:∃ M,M=p.wd.length:=⟨_,rfl⟩;have HMM:=hid hM';rw [<-hM'] at c0 hwl;have hcf1:=cf 1;have hcf0:=cf 0;have HS:=hid (And.intro s1 (And.intro s2 s3))
 have h0t:∀ g,(Value.slice At N ct).ownBlock=some g->g≠q:=fun g hg=>by
  have:=YnK o2 hr (by decide) (g1:=g) (g2:=q) (by cases At <;> simp [Value.ownBlock] at hg ⊢;exact hg) rfl;exact this
 clear hr o1 o2 o3 hF hN hb hN' hM' s1 s2 s3 cf;go_enter Tryz.func281,Tryz.ntmps281;go_wp2_with (at_builtin;refine wpList_append_lies _ rfl _ _ 216 rfl 0 4 ib _ 1 1 Tryz.underlying216 hib hb0 hb1 hb2 rfl (by decide) (.slice At N ct) N (p.tk.map Value.bool) rfl (by rw [HNN.o];exact H2.o.alloc _) ⟨w.heap.size,0,none⟩ 1 1 [.bool false] rfl rfl (World.news_of_block (cs:=#[.bool false]) (t:=4) (fr:=(0,0)) (heap_alloc_new w _)) (by simp [Value.oneCell']) (by omega) (by unfold maxLen;omega) (by omega) (Nat.zero_le _) (w.heap.size+1) (by simp) ?_;intro g2 ct2 w2 hown2 hgrow2 hat2 hlt2;have t2:XF4 (fun k=>(Value.slice At N ct).ownBlock=some k) w w2:=(((Gr.refl w).alloc _).touch _).trans (VxQ hgrow2 _ (fun k e _=>e));have HR2:=hid (HR.o.touch t2 (fun e=>h0t q e rfl));have d1:=HR2.o.cell (j:=1) rfl;have df1:=HR2.o.free 1;have HT2:=hid t2;have HO2:=hid hown2;have HA2:=hid (And.intro hat2 hlt2);clear hown2 hgrow2 hat2 hlt2 t2);obtain ⟨W3,hW3⟩:∃ W3,W3=w2.setCell ⟨q,1,none⟩ (.slice (some ⟨g2,0,none⟩) (N+1) ct2):=⟨_,rfl⟩;rw [<-hW3];have R3:=HR2.o.set 1 (.slice (some ⟨g2,0,none⟩) (N+1) ct2);rw [<-hW3] at R3
 have T3:W3.ownsRow 0 4 1 (.slice (some ⟨g2,0,none⟩) (N+1) ct2) (N+1) (p.tk.map Value.bool++[.bool false]):=by
  rw [hW3];exact VDR HO2.o _ (fun g hg=>YnK HO2.o HR2.o (by decide) hg rfl)
 have hne1:∀ g,(Value.slice Aw p.wd.length cw).ownBlock=some g->¬ (Value.slice At N ct).ownBlock=some g:=fun g hg e=>YnK H1.o (by rw [HNN.o] at e;exact H2.o) (by decide) hg (by rw [HNN.o] at e;exact e) rfl;have hne3:∀ g,(Value.slice Ab p.bk.length cb).ownBlock=some g->¬ (Value.slice At N ct).ownBlock=some g:=fun g hg e=>YnK H3.o (by rw [HNN.o] at e;exact H2.o) (by decide) hg (by rw [HNN.o] at e;exact e) rfl;have U2:=Zs2 H1.o HT2.o hne1
 have U3:W3.ownsRow 0 34 1 (.slice Aw p.wd.length cw) p.wd.length (VPA p.wd):=by
  rw [hW3];exact VDR U2 _ (fun g hg=>YnK U2 HR2.o (by decide) hg rfl)
 have B2:=Zs2 H3.o HT2.o hne3
 have B3:W3.ownsRow 0 3 1 (.slice Ab p.bk.length cb) p.bk.length (VfO p.bk):=by
  rw [hW3];exact VDR B2 _ (fun g hg=>YnK B2 HR2.o (by decide) hg rfl)
 have tt3:XF4 S w W3:=by
  rw [hW3];refine (HT2.o.mono (T:=S) (fun k _ h=>?_)).setCell (fun _=>sq) _;rw [HNN.o] at h;exact HS.o.2.1 k h
 have HW:=hid (And.intro R3 (And.intro T3 (And.intro U3 (And.intro B3 tt3))));have y0:=R3.cell (j:=0) rfl;have y4:=R3.cell (j:=4) rfl;have yf:=R3.free 0;rw [<-HMM.o] at y0 U3;have HU:=hid U3;clear hW3 R3 T3 U3 U2 B2 B3 tt3 hne1 hne3 c0 c1 c2 c4 hcf0 hcf1 d1 df1 h0t;obtain ⟨Sx,hSx⟩:∃ Sx:World->Prop,Sx=fun W'=>W'.cell? ⟨q,0,none⟩=some (.slice Aw M cw)/\W'.cell? ⟨q,4,none⟩=some (.int .i64 p.pg):=⟨_,rfl⟩;have x0:∀ p':ZJV Sx,p'.w.cell? ⟨q,0,none⟩=some (.slice Aw M cw):=fun p'=>(ZJV.get hSx p').1;have x4:∀ p':ZJV Sx,p'.w.cell? ⟨q,4,none⟩=some (.int .i64 p.pg):=fun p'=>(ZJV.get hSx p').2;have hS0:Sx W3.drew:=by rw [hSx];exact ⟨y0,y4⟩
 have HSX:=hid hSx;clear hSx;have inst:Inhabited (ZJV Sx):=⟨⟨_,hS0⟩⟩;refine Vv2 Sx 12 [([0,1,2,3,4,5,6,7,8],9),([10,11],12)] [] (by kernel_rfl) (by kernel_rfl) hS0 ?_;refine XGW ?_;simp only [XZy,List.getElem?_cons_zero,List.getElem?_cons_succ]
 repeat (go_big_quiet_step (fail))
 refine wpQuiet_nil ?_;go_wp2_with (at_builtin;refine ZfD _ rfl _ _ 123 3 rfl 34 .i64 0 iu _ Tryz.underlying123 Tryz.underlying3 hiu hu0 hu1 rfl (by decide) (.slice Aw M cw) M (VPA p.wd) rfl (Y9I HU.o (Gr.refl W3).drew) p.pg rfl (by omega) (by unfold maxLen;omega) (by rw [hu2];omega) (Nat.zero_le _) ?_;intro g4 c4 w4 hown4 hgrow4 hat4 hlt4)
 go_frame
 have t4:XF4 (fun k=>(Value.slice Aw M cw).ownBlock=some k) W3 w4:=((Gr.refl W3).drew.touch _).trans (VxQ hgrow4 _ (fun k e _=>e));have hq4:¬ (Value.slice Aw M cw).ownBlock=some q:=fun e=>YnK HU.o HW.o.1 (by decide) e rfl rfl;have R4:=HW.o.1.touch t4 hq4;have HR4:=hid R4;have z0:=R4.cell (j:=0) rfl;have z4:=R4.cell (j:=4) rfl;have zf:=R4.free 0;have HT4:=hid t4;have HO4:=hid hown4;have HA4:=hid hat4;rw [<-HMM.o] at z0;clear R4 t4 hown4 hgrow4 hat4 hq4;refine ⟨.inr (ZJV.of (by rw [HSX.o];exact ⟨z0,z4⟩)),?_⟩;refine XGW ?_;simp only [XZy,List.getElem?_cons_zero,List.getElem?_cons_succ]
 repeat (go_big_quiet_step (fail))
 refine wpQuiet_nil ?_;go_wp2;refine ⟨.inl trivial,?_⟩;refine Z9U ?_;refine wpQuiet_nil ?_;refine NoPanic.normal ?_;go_wp2;go_ret;obtain ⟨R3,T3,U3,B3,tt3⟩:=HW.o;have hs3:=tt3.size;have T4:=Zs2 T3 HT4.o (fun g hg e=>YnK T3 HU.o (by decide) hg e rfl);have B4:=Zs2 B3 HT4.o (fun g hg e=>YnK B3 HU.o (by decide) hg e rfl);have hat2:=HA2.o;have hat4:=HA4.o;refine ⟨by rw [HN.o,<-HNN.o];rfl,(tt3.trans' HT4.o (fun k hk h=>?_)).setCell (fun _=>sq) _,?_⟩
 ·rw [HMM.o] at h;exact HS.o.1 k h
 ·rw [HF.o];have hu:({ p with tk:=p.tk++[false],wd:=p.wd++List.replicate p.pg 0 }:Pl).used=p.used:=Xuv p.tk;refine ⟨.slice (some ⟨g4,0,none⟩) (M+p.pg) c4,.slice (some ⟨g2,0,none⟩) (N+1) ct2,.slice Ab p.bk.length cb,hi,ts,?_,?_,?_,VDR B4 _ (fun g hg=>YnK B4 HR4.o (by decide) hg rfl),fun g hg=>?_,fun g hg=>?_,fun g hg=>.inl (HS.o.2.2 g hg)⟩
  ·rw [hu];exact HR4.o.set 0 _
  ·have:=VDR (q:=q) (j:=0) HO4.o (.slice (some ⟨g4,0,none⟩) (M+p.pg) c4) (fun g hg=>YnK HO4.o HR4.o (by decide) hg rfl);have e1:(p.wd++List.replicate p.pg 0).length=M+p.pg:=by rw [HMM.o];simp
   have e2:VPA (p.wd++List.replicate p.pg 0)=VPA p.wd++List.replicate p.pg (.int .u64 0):=by unfold VPA;rw [List.map_append,List.map_replicate];rfl
   show World.ownsRow _ 0 _ 1 _ (p.wd++List.replicate p.pg 0).length (VPA (p.wd++List.replicate p.pg 0))
   rw [e1,e2];exact this
  ·have:=VDR (q:=q) (j:=0) T4 (.slice (some ⟨g4,0,none⟩) (M+p.pg) c4) (fun g hg=>YnK T4 HR4.o (by decide) hg rfl)
   show World.ownsRow _ 0 _ 1 _ (p.tk++[false]).length ((p.tk++[false]).map Value.bool)
   rw [List.map_append,show (p.tk++[false]).length=N+1 by rw [HNN.o];simp];exact this
  ·cases hg;rcases hat4 with h | h
   ·rw [HMM.o] at h;exact .inl (HS.o.1 _ h)
   ·right;show w.heap.size<=g4;have:W3.drew.heap.size=W3.heap.size:=rfl;omega
  ·cases hg;rcases hat2.1 with h | h
   ·rw [HNN.o] at h;exact .inl (HS.o.2.1 _ h)
   ·right;show w.heap.size<=g2;omega
theorem VKq (hP:Z9Y w S q p):Calls Tryz.prog 281 #[.pointer (some ⟨q,0,none⟩)] w (JQN w S q p):=by
 by_cases hb:p.bk=[]
 ·exact Yqu hP hb
 ·exact VPE hP hb
theorem Z3f (hP:QIq p):p.next<p.fresh.tk.length/\p.fresh.wd.length=p.fresh.tk.length*p.pg/\at_ p.fresh.tk p.next=false:=by
 unfold Pl.next Pl.fresh
 by_cases hb:p.bk=[]
 ·rw [if_pos hb,if_pos hb];refine ⟨by simp,by simp [hP.wl,Nat.succ_mul],by simp [at_]⟩
 ·rw [if_neg hb,if_neg hb]
  have hm:p.bk.getLastD 0∈p.bk:=by
   obtain ⟨bi,x,hbx⟩:∃ bi x,p.bk=bi++[x]:=⟨p.bk.dropLast,p.bk.getLast hb,(List.dropLast_concat_getLast hb).symm⟩;rw [hbx];simp
  have:=hP.bl _ hm;exact ⟨this.1,hP.wl,this.2⟩
theorem QXV {l:List Bool} {k i:Nat} {x:Bool} (hk:k<l.length):at_ (l.set k x) i=if i=k then x else at_ l i:=XRU l k i x hk
theorem Jso {l:List Bool} {i:Nat} (hi:i<l.length) (h:at_ l i=false):cnt (at_ (l.set i true)) l.length=cnt (at_ l) l.length+1:=by
 have key:∀ k,k<=l.length->cnt (at_ (l.set i true)) k=cnt (at_ l) k+if i<k then 1 else 0:=by
  intro k
  induction k with
  | zero=>intro _;rfl
  | succ k ih=>
   intro hk;rw [Z10,Z10,ih (by omega),QXV hi];by_cases e:k=i
   ·subst e;rw [if_pos rfl,h,if_neg (Nat.lt_irrefl _),if_pos (Nat.lt_succ_self _)];simp
   ·rw [if_neg e];by_cases h1:i<k
    ·rw [if_pos h1,if_pos (by omega)];omega
    ·rw [if_neg h1,if_neg (by omega)];omega
 rw [key _ (Nat.le_refl _),if_pos hi]
theorem V4E {l:List Bool} {i:Nat} (hi:i<l.length) (h:at_ l i=true):cnt (at_ (l.set i false)) l.length+1=cnt (at_ l) l.length:=by
 have h2:=Jso (l:=l.set i false) (i:=i) (by simpa using hi) (by rw [QXV hi,if_pos rfl]);rw [List.set_set,List.length_set] at h2
 have:l.set i true=l:=by
  apply List.ext_getElem (by simp);intro j h1 h3;rw [List.getElem_set]
  split
  ·rename_i e;subst e;simpa [at_,hi] using h.symm
  ·rfl
 rw [this] at h2;exact h2.symm
theorem ZGf (h:QIq p) (hroom:p.used<p.rm):QIq p.take:=by
 obtain ⟨h1,h2,h3⟩:=Z3f h
 have hul:p.fresh.used=p.used:=by
  unfold Pl.used Pl.fresh
  split
  ·exact Xuv p.tk
  ·rfl
 have hf:(p.next*p.pg)+p.pg<=p.fresh.wd.length:=by rw [h2,<-Nat.succ_mul];exact Nat.mul_le_mul_right _ h1
 have e0:p.take.pg=p.pg/\p.take.rm=p.rm/\p.take.bk=p.fresh.bk:=by unfold Pl.take Pl.fresh;split <;> exact ⟨rfl,rfl,rfl⟩
 have e1:p.take.tk=p.fresh.tk.set p.next true:=rfl
 have e2:p.take.wd=JA7 p.fresh.wd (p.next*p.pg) p.pg:=rfl
 have eu:p.take.used=p.used+1:=by
  rw [<-hul];unfold Pl.used;rw [e1,List.length_set];exact Jso h1 h3
 refine ⟨by rw [e0.1];exact h.pg,by rw [e0.1];exact h.pg2,by rw [e0.2.1];exact h.rm,by rw [e0.1,e2,YGK hf,h2,e1,List.length_set],fun x hx=>?_,?_,fun f hf'=>?_,?_,?_⟩
 ·rw [e2] at hx;unfold JA7 at hx
  have hold:∀ y∈p.fresh.wd,y<18446744073709551616:=fun y hy=>by
   unfold Pl.fresh at hy
   split at hy
   ·rcases List.mem_append.1 hy with hy | hy
    ·exact h.w64 y hy
    ·rw [List.eq_of_mem_replicate hy];decide
   ·exact h.w64 y hy
  rcases List.mem_append.1 hx with hx | hx
  ·rcases List.mem_append.1 hx with hx | hx
   ·exact hold x (List.mem_of_mem_take hx)
   ·rw [List.eq_of_mem_replicate hx];decide
  ·exact hold x (List.mem_of_mem_drop hx)
 ·rw [e0.2.2];unfold Pl.fresh
  split
  ·exact h.nd
  ·exact h.nd.sublist (List.dropLast_sublist _)
 ·rw [e0.2.2] at hf';rw [e1,List.length_set];unfold Pl.fresh at hf' h1 ⊢;unfold Pl.next at h1 ⊢
  by_cases hb:p.bk=[]
  ·rw [if_pos hb] at hf';rw [hb] at hf';cases hf'
  ·rw [if_neg hb] at hf' h1 ⊢;rw [if_neg hb] at h1 ⊢;have hm:=(List.dropLast_sublist _).subset hf';have hb2:=h.bl f hm;refine ⟨hb2.1,?_⟩;rw [QXV h1,if_neg,hb2.2];intro e;obtain ⟨bi,x,hbx⟩:∃ bi x,p.bk=bi++[x]:=⟨p.bk.dropLast,p.bk.getLast hb,(List.dropLast_concat_getLast hb).symm⟩;have hnd:=h.nd;rw [hbx] at hf' e hnd;simp at hf' e;subst e;rw [List.nodup_append] at hnd;exact hnd.2.2 f hf' f (by simp) rfl
 ·rw [eu,e0.2.2,e1,List.length_set];unfold Pl.fresh;have:=h.us
  split
  ·rename_i hb;rw [hb] at this;simp [hb] at this ⊢;omega
  ·rename_i hb;have:=List.length_pos_iff.2 hb;simp;omega
 ·rw [e0.2.1,e1,List.length_set];unfold Pl.fresh;have:=h.us
  split
  ·rename_i hb;rw [hb] at this;simp at this ⊢;omega
  ·exact h.le
theorem Yoc (p:Pl):p.fresh.pg=p.pg/\p.fresh.rm=p.rm/\p.fresh.used=p.used:=by
 unfold Pl.fresh
 split
 ·exact ⟨rfl,rfl,Xuv p.tk⟩
 ·exact ⟨rfl,rfl,rfl⟩
theorem VaR (h:QIq p):p.take.used=p.used+1:=by
 obtain ⟨h1,h2,h3⟩:=Z3f h
 have hul:p.fresh.used=p.used:=by
  unfold Pl.used Pl.fresh
  split
  ·exact Xuv p.tk
  ·rfl
 have e1:p.take.tk=p.fresh.tk.set p.next true:=rfl
 rw [<-hul];unfold Pl.used;rw [e1,List.length_set];exact Jso h1 h3
def Xun (w:World) (S:Nat->Prop) (q:Nat) (p:Pl) (e:Ending) (w':World):Prop:=
 (p.used=p.rm/\e=.returned (.tuple #[.int .i64 0,.int .i64 14])/\Gr w w') ∨
 (p.used<p.rm/\e=.returned (.tuple #[.int .i64 (p.next:Nat),.int .i64 0])/\XF4 S w w'/\Z9Y w' (plus S w) q p.take)
theorem X9u (h:QIq p):p.used<=p.rm:=by have:=h.us;have:=h.le;omega
set_option maxHeartbeats 3200000 in
theorem JVJ (hP:Z9Y w S q p):Calls Tryz.prog 247 #[.pointer (some ⟨q,0,none⟩)] w (Xun w S q p):=by
 have HP:=hid hP;have hok:=hP.ok;have hul:=X9u hok;have hrm:=hok.rm;obtain ⟨vw,vt,vb,hi,ts,hr,-⟩:=hP.row;have c3:=hr.cell (j:=3) rfl;have c5:=hr.cell (j:=5) rfl;have hql:=hr.lt;obtain ⟨u,hu⟩:∃ u,u=p.used:=⟨_,rfl⟩;have HU:=hid hu;rw [<-hu] at c5 hul;obtain ⟨R,hR⟩:∃ R,R=p.rm:=⟨_,rfl⟩;have HRM:=hid hR;rw [<-hR] at c3 hul hrm;have hr0:((R:Int)==0)=false:=beq_eq_false_iff_ne.2 (by omega);have z3:∀ m,(w.drewN m).cell? ⟨q,3,none⟩=some (.int .i64 R):=fun m=>((Gr.refl w).drewN m |>.cell hql _).trans c3;have z5:∀ m,(w.drewN m).cell? ⟨q,5,none⟩=some (.int .i64 u):=fun m=>((Gr.refl w).drewN m |>.cell hql _).trans c5;have hpg:=Quq hok.pg;have hok':=hid hok;clear hr hP hu hR hok;by_cases hfull:u=R
 ·have d1:((u:Int)==(R:Int))=true:=by rw [hfull];simp
  have HFL:=hid hfull;clear hfull;go_enter Tryz.func247,Tryz.ntmps247;go_wp2;go_quiet (fail);go_wp2;go_ret2;exact .inl ⟨by rw [<-HU.o,<-HRM.o];exact HFL.o,rfl,(Gr.refl w).drewN _⟩
 ·have d1:((u:Int)==(R:Int))=false:=beq_eq_false_iff_ne.2 (by omega);go_enter Tryz.func247,Tryz.ntmps247;go_wp2;go_quiet (fail);go_wp2_with (go_at_call 281;refine (VKq (HP.o.gr ((Gr.refl w).drewN nq))).mono ?_;rintro e w2 ⟨rfl,ht2,hr2⟩;have HT2:=hid ht2;have HR2:=hid hr2;clear ht2 hr2);obtain ⟨vw2,vt2,vb2,hi2,ts2,R2,o1,o2,o3,s1,s2,s3⟩:=HR2.o;obtain ⟨n1,n2,n3⟩:=Z3f hok'.o;obtain ⟨f1,f2,f3⟩:=Yoc p;have hf:p.next*p.pg+p.pg<=p.fresh.wd.length:=by rw [n2,<-Nat.succ_mul];exact Nat.mul_le_mul_right _ n1
  have htl:p.fresh.tk.length<=4096:=by
   have h1:=(ZGf hok'.o (by rw [<-HU.o,<-HRM.o];omega)).le;have h2:p.take.tk.length=p.fresh.tk.length:=List.length_set ..;have h3:p.take.rm=p.rm:=f2;rw [h2,h3,<-HRM.o] at h1;omega
  have hwl:p.fresh.wd.length<=1048576:=by rw [n2];exact Nat.le_trans (Nat.mul_le_mul htl hok'.o.pg2) (by decide)
  obtain ⟨g2,cw,rfl,-,hc1,hc2,-⟩:=YTP o1 (by omega);obtain ⟨gt,ct,rfl,-,hd1,hd2,-⟩:=YTP o2 (by omega);unfold maxLen at hc2 hd2;obtain ⟨iu,hiu,hu0,hu1,hu2⟩:=info_parts ZiX;obtain ⟨w3,hcl,o1',hg3⟩:=YNv (P:=Tryz.prog) w2 123 34 0 iu _ Tryz.underlying123 hiu hu0 rfl (by decide) o1 (p.next*p.pg) p.pg p.pg (by omega) hf;rw [f1,f2,f3,<-HU.o,<-HRM.o] at R2;have t3:=VxQ hg3 (fun k=>k=g2) (fun k e _=>(Option.some.inj e).symm);have R3:=R2.touch t3 (YnK R2 o1 (by decide) rfl rfl);have T3:=Zs2 o2 t3 (fun g hg=>YnK o2 o1 (by decide) hg rfl);have B3:=Zs2 o3 t3 (fun g hg=>YnK o3 o1 (by decide) hg rfl);have hqg:q≠gt:=YnK R2 o2 (by decide) rfl rfl;have hgq:gt≠q:=fun e=>hqg e.symm;have HR2':=hid R2;have k1:=R3.cell (j:=1) rfl;have k5:=R3.cell (j:=5) rfl;have k6:=R3.cell (j:=6) rfl;have k7:=R3.cell (j:=7) rfl;have kf:=fun j=>R3.free j;have kf5:=kf 5;have kf6:=kf 6;have kf7:=kf 7;have kt:=ZBn T3 (Yeu n1);have ktf:=QxS T3 p.next
  have hnl:(p.next:Int)<(p.fresh.tk.length:Int):=by omega
  have HW3:=hid (And.intro R3 (And.intro o1' (And.intro T3 (And.intro B3 t3))));have HS2:=hid (And.intro s1 (And.intro s2 s3));have HNL:=hid (And.intro n1 (And.intro n2 n3));have HFS:=hid (And.intro f1 (And.intro f2 f3));clear R2 o1 o2 o3 s1 s2 s3 o1' hg3 R3 T3 B3 t3 n1 n2 n3 f1 f2 f3 kf c3 c5 z3 z5 HR2;generalize hnx:p.next=f at *
  have HNX:=hid hnx;clear hnx;have hmax:=V9O Tryz.prog;go_wp2_with (go_at_call 282;refine (QAq HR2'.o hc1 (by omega) (by omega) hf hwl).mono ?_;rintro e w1 ⟨rfl,rfl⟩);obtain ⟨W5,hW5⟩:∃ W5,W5=((w3.setCell ⟨gt,f,none⟩ (.bool true)).setCell ⟨q,5,none⟩ (.int .i64 ((u:Int)+1))).setCell ⟨q,7,none⟩ (.int .i64 (wrap64 (ts2+1))):=⟨_,rfl⟩;rw [<-hW5];obtain ⟨R3,U3,T3,B3,t3⟩:=HW3.o;have R4:=VDR (q:=gt) (j:=f) R3 (.bool true) (fun g hg=>by cases hg;exact hqg)
  have R5:Rec W5 q 254 [.slice (some ⟨g2,0,none⟩) p.fresh.wd.length cw,.slice (some ⟨gt,0,none⟩) p.fresh.tk.length ct,vb2,.int .i64 R,.int .i64 p.pg,.int .i64 ((u:Int)+1),.int .i64 hi2,.int .i64 (wrap64 (ts2+1))]:=by
   rw [hW5];exact (Rec.set R4 5 _).set 7 _
  have U4:=VDR (q:=gt) (j:=f) U3 (.bool true) (fun g hg=>YnK U3 T3 (by decide) hg rfl);have U5:=VDR (q:=q) (j:=7) (VDR (q:=q) (j:=5) U4 (.int .i64 ((u:Int)+1)) (fun g hg=>YnK U4 R4 (by decide) hg rfl)) (.int .i64 (wrap64 (ts2+1))) (fun g hg=>YnK U4 R4 (by decide) hg rfl);have T4:=(World.ownsRow.stored T3 f (.bool true)).1;have T5:=VDR (q:=q) (j:=7) (VDR (q:=q) (j:=5) T4 (.int .i64 ((u:Int)+1)) (fun g hg=>YnK T4 R4 (by decide) hg rfl)) (.int .i64 (wrap64 (ts2+1))) (fun g hg=>YnK T4 R4 (by decide) hg rfl);have B4:=VDR (q:=gt) (j:=f) B3 (.bool true) (fun g hg=>YnK B3 T3 (by decide) hg rfl);have B5:=VDR (q:=q) (j:=7) (VDR (q:=q) (j:=5) B4 (.int .i64 ((u:Int)+1)) (fun g hg=>YnK B4 R4 (by decide) hg rfl)) (.int .i64 (wrap64 (ts2+1))) (fun g hg=>YnK B4 R4 (by decide) hg rfl);rw [<-hW5] at U5 T5 B5;have sq:=HP.o.sq
  have tt5:XF4 (plus S (w.drewN nq)) w2 W5:=by
   rw [hW5];exact (((t3.mono (fun k _ h=>by rw [show k=g2 from h];exact HS2.o.1 g2 rfl)).setCell (fun _=>HS2.o.2.1 gt rfl) _).setCell (fun _=>.inl sq) _).setCell (fun _=>.inl sq) _
  have HW5:=hid (And.intro R5 (And.intro U5 (And.intro T5 (And.intro B5 tt5))));have y5:=R5.cell (j:=5) rfl;have y6:=R5.cell (j:=6) rfl;have yf:=R5.free 6;clear hW5 R3 U3 T3 B3 t3 R4 R5 U4 U5 T4 T5 B4 B5 tt5 k1 k5 k6 k7 kf5 kf6 kf7 kt ktf hcl HW3;obtain ⟨Sx,hSx⟩:∃ Sx:World->Prop,Sx=fun W'=>W'.cell? ⟨q,5,none⟩=some (.int .i64 ((u:Int)+1))/\W'.cell? ⟨q,6,none⟩=some (.int .i64 hi2):=⟨_,rfl⟩;have x5:∀ p':ZJV Sx,p'.w.cell? ⟨q,5,none⟩=some (.int .i64 ((u:Int)+1)):=fun p'=>(ZJV.get hSx p').1;have x6:∀ p':ZJV Sx,p'.w.cell? ⟨q,6,none⟩=some (.int .i64 hi2):=fun p'=>(ZJV.get hSx p').2;have hS0:Sx W5.drew:=by rw [hSx];exact ⟨y5,y6⟩
  clear hSx;have inst:Inhabited (ZJV Sx):=⟨⟨_,hS0⟩⟩;refine Vv2 Sx 12 [([0,1,2,3,4,5,6,7,8,9,10,11],12)] [] (by kernel_rfl) (by kernel_rfl) hS0 ?_;refine XGW ?_;simp only [XZy,List.getElem?_cons_zero,List.getElem?_cons_succ]
  repeat (go_big_quiet_step (fail))
  refine wpQuiet_nil ?_;go_wp2;refine ⟨.inl trivial,?_⟩;refine Z9U ?_;refine wpQuiet_nil ?_;refine NoPanic.normal ?_;go_wp2;go_ret2;obtain ⟨R5,U5,T5,B5,tt5⟩:=HW5.o;obtain ⟨n1,n2,n3⟩:=HNL.o;have hur:p.used<p.rm:=by rw [<-HU.o,<-HRM.o];omega
  refine .inr ⟨hur,by rw [HNX.o];rfl,?_,ZGf hok'.o hur,.inl sq,?_⟩
  ·refine (XF4.setCell (a:=⟨q,6,none⟩) ((((Gr.refl w).drewN nq).touch S).trans' (HT2.o.trans' tt5 (fun k hk h=>?_)) (fun k _ h=>h)) (fun _=>sq) _).drew;rcases h with h | h
   ·exact h
   ·exact absurd hk (Nat.not_lt_of_le h)
  ·have U6:=fun v=>Y9I (VDR (q:=q) (j:=6) U5 v (fun g hg=>YnK U5 R5 (by decide) hg rfl)) (Gr.refl _).drew;have T6:=fun v=>Y9I (VDR (q:=q) (j:=6) T5 v (fun g hg=>YnK T5 R5 (by decide) hg rfl)) (Gr.refl _).drew;have B6:=fun v=>Y9I (VDR (q:=q) (j:=6) B5 v (fun g hg=>YnK B5 R5 (by decide) hg rfl)) (Gr.refl _).drew;have eu:p.take.used=u+1:=by rw [VaR hok'.o,<-HU.o]
   have ew:p.take.wd=JA7 p.fresh.wd (f*p.pg) p.pg:=by rw [<-HNX.o];rfl
   have et:p.take.tk=p.fresh.tk.set f true:=by rw [<-HNX.o];rfl
   have ewl:p.take.wd.length=p.fresh.wd.length:=by rw [ew,YGK hf]
   have eul:VPA (JA7 p.fresh.wd (f*p.pg) p.pg)=List.take (f*p.pg) (VPA p.fresh.wd)++List.replicate p.pg (Value.int IntKind.u64 0)++List.drop (f*p.pg+p.pg) (VPA p.fresh.wd):=by
    unfold JA7 VPA;rw [List.map_append,List.map_append,List.map_replicate,List.map_take,List.map_drop];rfl
   have er:p.take.rm=R:=by rw [HRM.o];exact HFS.o.2.1
   have ep:p.take.pg=p.pg:=HFS.o.1;have eb:p.take.bk=p.fresh.bk:=rfl;have hss:∀ g,plus S (w.drewN nq) g->plus S w g:=fun g h=>h;refine ⟨.slice (some ⟨g2,0,none⟩) p.fresh.wd.length cw,.slice (some ⟨gt,0,none⟩) p.fresh.tk.length ct,vb2,max hi2 ((u:Int)+1),wrap64 (ts2+1),?_,?_,?_,?_,fun g hg=>hss g (HS2.o.1 g hg),fun g hg=>hss g (HS2.o.2.1 g hg),fun g hg=>hss g (HS2.o.2.2 g hg)⟩
   rotate_left
   ·rw [ewl,ew,eul];exact U6 _
   ·rw [et,List.length_set,List.map_set];exact T6 _
   ·rw [eb];exact B6 _
   ·rw [eu,er,ep];exact (R5.set 6 _).gr (Gr.refl _).drew
def Pl.give (p:Pl) (f:Nat):Pl:={ p with tk:=p.tk.set f false,bk:=p.bk++[f] }
theorem XvH {f:Nat} (hf:at_ p.tk f=true):(p.give f).used+1=p.used:=by
 show cnt (at_ (p.tk.set f false)) (p.tk.set f false).length+1=_
 rw [List.length_set];exact V4E (XaX hf) hf
theorem Q60 (h:QIq p) {f:Nat} (hf:at_ p.tk f=true):QIq (p.give f):=by
 have hl:=XaX hf;refine ⟨h.pg,h.pg2,h.rm,by show _=(p.tk.set f false).length*_;rw [List.length_set];exact h.wl,h.w64,?_,fun g hg=>?_,?_,by show (p.tk.set f false).length<=_;rw [List.length_set];exact h.le⟩
 ·show (p.bk++[f]).Nodup
  rw [List.nodup_append];refine ⟨h.nd,by simp,fun a ha b hb=>?_⟩;simp at hb;subst hb;rintro rfl;have:=(h.bl a ha).2;rw [hf] at this;cases this
 ·show g<(p.tk.set f false).length/\at_ (p.tk.set f false) g=false
  rw [List.length_set,QXV hl];rcases List.mem_append.1 hg with hg | hg
  ·have:=h.bl g hg;refine ⟨this.1,?_⟩
   split
   ·rfl
   ·exact this.2
  ·simp at hg;subst hg;exact ⟨hl,by rw [if_pos rfl]⟩
 ·have h1:=XvH hf;have h2:=h.us
  show _+(p.bk++[f]).length=(p.tk.set f false).length
  rw [List.length_set,List.length_append];simp;omega
def VkD (w:World) (S:Nat->Prop) (q:Nat) (p:Pl) (f:Nat) (e:Ending) (w':World):Prop:=e=.returned (.int .i64 0)/\XF4 S w w'/\Z9Y w' (plus S w) q (p.give f)
set_option maxHeartbeats 3200000 in
theorem XDh (hP:Z9Y w S q p) {f:Nat} (hf:at_ p.tk f=true):Calls Tryz.prog 204 #[.pointer (some ⟨q,0,none⟩),.int .i64 f] w (VkD w S q p f):=by
 have HP:=hid hP;have hok:=hP.ok;have hfl:=XaX hf;have HC:Hid (YHh p f=0):=⟨by unfold YHh;rw [Int.toNat_natCast,hf,decide_eq_true (by omega)];rfl⟩;have hu1:=XvH hf;have hul:=X9u hok;have hrm:=hok.rm;have hbl:=hok.us;have htl:=hok.le;obtain ⟨vw,vt,vb,hi,ts,hr,o1,o2,o3,s1,s2,s3⟩:=hP.row;obtain ⟨gt,ct,rfl,-,hd1,hd2,-⟩:=YTP o2 (by omega);obtain ⟨Ab,cb,rfl,hcb1,hcb2⟩:=ZfN o3;unfold maxLen at hd2 hcb2;obtain ⟨ii,hii,hi0,hi1,hi2⟩:=info_parts YWy;have hqg:q≠gt:=YnK hr o2 (by decide) rfl rfl;have hgq:gt≠q:=fun e=>hqg e.symm;have c1:=hr.cell (j:=1) rfl;have c2:=hr.cell (j:=2) rfl;have c5:=hr.cell (j:=5) rfl;have cf:=fun j=>hr.free j;have cf2:=cf 2;have cf5:=cf 5;have kt:=ZBn o2 (Yeu hfl);have ktf:=QxS o2 f;obtain ⟨N,hN⟩:∃ N,N=p.bk.length:=⟨_,rfl⟩;have HN:=hid hN;rw [<-hN] at c2 hbl;obtain ⟨u,hu⟩:∃ u,u=p.used:=⟨_,rfl⟩;have HU:=hid hu;rw [<-hu] at c5 hul hu1 hbl hr;have hu2:1<=u:=by omega
 have hfI:(f:Int)<(p.tk.length:Int):=by omega
 have HR:=hid hr;have H1:=hid o1;have H2:=hid o2;have H3:=hid o3;have HS:=hid (And.intro s1 (And.intro s2 s3));have HF:=hid hf;have hok':=hid hok;have B1:=VDR (q:=gt) (j:=f) o3 (.bool false) (fun g hg=>YnK o3 o2 (by decide) hg rfl);have R1:=VDR (q:=gt) (j:=f) hr (.bool false) (fun g hg=>by cases hg;exact hqg);rw [<-hN] at B1;have HB1:=hid B1;have HR1:=hid R1;have h0t:∀ g,(Value.slice Ab N cb).ownBlock=some g->g≠q:=fun g hg=>YnK o3 hr (by decide) (by rw [<-hN];exact hg) rfl;clear hr o1 o2 o3 hP hf hN hu hok cf s1 s2 s3 B1 R1;go_enter Tryz.func204,Tryz.ntmps204
 go_wp2_with (first
  | (go_at_call 251;refine (QtA HP.o f).mono ?_;rintro e w1 ⟨rfl,rfl⟩;rw [HC.o])
  | (at_builtin;refine wpList_append_lies _ rfl _ _ 48 rfl 0 3 ii _ 1 8 Tryz.underlying48 hii hi0 hi1 hi2 rfl (by decide) (.slice Ab N cb) N (VfO p.bk) rfl (HB1.o.alloc _) ⟨w.heap.size,0,none⟩ 1 1 [.int .i64 (f:Nat)] rfl rfl (World.news_of_block (cs:=#[.int .i64 (f:Nat)]) (t:=3) (fr:=(0,0)) (by have:=heap_alloc_new (w.setCell ⟨gt,f,none⟩ (.bool false)) (.cells #[.int .i64 (f:Nat)] 3);simpa using this)) (by simp [Value.oneCell']) (by omega) (by unfold maxLen;omega) (by omega) (Nat.zero_le _) (w.heap.size+1) (by simp) ?_;intro g2 c2' w2 hown2 hgrow2 hat2 hlt2;have t2:XF4 (fun k=>(Value.slice Ab N cb).ownBlock=some k) (w.setCell ⟨gt,f,none⟩ (.bool false)) w2:=(((Gr.refl _).alloc _).touch _).trans (VxQ hgrow2 _ (fun k e _=>e));have HR2:=hid (Zs2 HR1.o t2 (fun g hg e=>by cases hg;exact h0t q e rfl));have d2:=ZBn HR2.o (j:=2) rfl;have df2:=QxS HR2.o 2;have d5:=ZBn HR2.o (j:=5) rfl;have df5:=QxS HR2.o 5;have HT2:=hid t2;have HO2:=hid hown2;have HA2:=hid (And.intro hat2 hlt2);clear hown2 hgrow2 hat2 hlt2 t2))
 go_ret;have hat2:=HA2.o;have U1:=VDR (q:=gt) (j:=f) H1.o (.bool false) (fun g hg=>YnK H1.o H2.o (by decide) hg rfl);have hnu:∀ g,vw.ownBlock=some g->¬ (Value.slice Ab N cb).ownBlock=some g:=fun g hg e=>YnK H1.o H3.o (by decide) hg (by rw [<-HN.o];exact e) rfl;have U2:=Zs2 U1 HT2.o hnu;have T1:=(World.ownsRow.stored H2.o f (.bool false)).1;have T2:=Zs2 T1 HT2.o (fun g hg e=>YnK H2.o H3.o (by decide) hg (by rw [<-HN.o];exact e) rfl);have hsz:(w.setCell ⟨gt,f,none⟩ (.bool false)).heap.size=w.heap.size:=by simp
 have tt:XF4 S w w2:=((XF4.refl S w).setCell (a:=⟨gt,f,none⟩) (fun _=>HS.o.2.1 gt rfl) (.bool false)).trans' HT2.o (fun k _ h=>HS.o.2.2 k (by rw [<-HN.o];exact h));refine ⟨rfl,(tt.setCell (a:=⟨q,2,none⟩) (fun _=>HP.o.sq) _).setCell (a:=⟨q,5,none⟩) (fun _=>HP.o.sq) _,Q60 hok'.o HF.o,.inl HP.o.sq,?_⟩;have R2:=HR2.o;have e1:(p.give f).used=u-1:=by have:=XvH HF.o;have:=HU.o;omega
 have e2:(((u-1:Nat)):Int)=(u:Int)-1:=by omega
 have e3:(p.give f).tk=p.tk.set f false:=rfl;have e4:(p.give f).bk=p.bk++[f]:=rfl;have U3:=fun a b=>VDR (q:=q) (j:=5) (VDR (q:=q) (j:=2) U2 a (fun g hg=>YnK U2 R2 (by decide) hg rfl)) b (fun g hg=>YnK U2 R2 (by decide) hg rfl);have T3:=fun a b=>VDR (q:=q) (j:=5) (VDR (q:=q) (j:=2) T2 a (fun g hg=>YnK T2 R2 (by decide) hg rfl)) b (fun g hg=>YnK T2 R2 (by decide) hg rfl);have B3:=fun a b=>VDR (q:=q) (j:=5) (VDR (q:=q) (j:=2) HO2.o a (fun g hg=>YnK HO2.o R2 (by decide) hg rfl)) b (fun g hg=>YnK HO2.o R2 (by decide) hg rfl);refine ⟨vw,.slice (some ⟨gt,0,none⟩) p.tk.length ct,.slice (some ⟨g2,0,none⟩) (N+1) c2',hi,ts,?_,?_,?_,?_,fun g hg=>.inl (HS.o.1 g hg),fun g hg=>.inl (HS.o.2.1 g hg),fun g hg=>?_⟩
 ·rw [e1,e2];have R2':Rec w2 q 254 _:=R2;exact (R2'.set 2 _).set 5 _
 ·exact U3 _ _
 ·rw [e3,List.length_set,List.map_set];exact T3 _ _
 ·rw [e4,show (p.bk++[f]).length=N+1 by rw [HN.o];simp,show VfO (p.bk++[f])=VfO p.bk++[.int .i64 (f:Nat)] by unfold VfO;rw [List.map_append];rfl];exact B3 _ _
 ·cases hg;rcases hat2.1 with h | h
  ·exact .inl (HS.o.2.2 _ (by rw [<-HN.o];exact h))
  ·right;show w.heap.size<=g2;omega
end
end
end
end
section
section
section
open Go.RowKit Word
def JRl (l:List Nat):List Value:=l.map fun x=>.int .u32 (x:Nat)
def Vvx (pt:List Nat) (k:Nat):List Nat:=(List.range 256).map fun i=>pt.getD (256*k+i) 0
def nz (l:List Nat):Nat:=cnt (fun i=>l.getD i 0 !=0) l.length
def V8D (pt:List Nat) (k:Nat):List Value:=JRl (Vvx pt k)++[.int .i64 (nz (Vvx pt k):Nat)]
def Xdz (L:List (Option Nat)):List Value:=L.map fun b=>.pointer (b.map fun b=>⟨b,0,none⟩)
def QmJ (n:Nat):Nat:=(n+255)/256
structure Zym (pt:List Nat):Prop where
 n1:1<=pt.length
 n2:pt.length<=524288
 lt:∀ x∈pt,x<4294967296
structure XZC (w:World) (S:Nat->Prop) (q:Nat) (pt:List Nat):Prop where
 ok:Zym pt
 sq:S q
 row:∃ g c L,Rec w q 257 [.slice (some ⟨g,0,none⟩) (QmJ pt.length) c,.int .i64 pt.length,.int .i64 (nz pt:Nat)]/\QmJ pt.length<=c/\c<=maxLen/\S g ∧
  w.ownsRow 0 342 1 (.slice (some ⟨g,0,none⟩) (QmJ pt.length) c) (QmJ pt.length) (Xdz L) ∧
  (∀ k,k<QmJ pt.length->match L.getD k none with
   | none=>∀ i,i<256->pt.getD (256*k+i) 0=0
   | some b=>S b/\Rec w b 345 (V8D pt k)) ∧
  (∀ k j b,L.getD k none=some b->L.getD j none=some b->k=j)
theorem ZJU (pt:List Nat) (k:Nat):(Vvx pt k).length=256:=by simp [Vvx]
theorem XL0 (pt:List Nat) (k:Nat) {i:Nat} (h:i<256):(Vvx pt k).getD i 0=pt.getD (256*k+i) 0:=by simp [Vvx,List.getD_eq_getElem?_getD,h]
theorem QvL (pt:List Nat) (k:Nat) {i:Nat} (h:i<256):(V8D pt k)[i]?=some (.int .u32 (pt.getD (256*k+i) 0:Nat)):=by
 unfold V8D JRl;rw [List.getElem?_append_left (by simp [ZJU,h])];simp [Vvx,h]
theorem XMj (pt:List Nat) (k:Nat):(V8D pt k)[256]?=some (.int .i64 (nz (Vvx pt k):Nat)):=by
 unfold V8D JRl;rw [List.getElem?_append_right (by simp [ZJU])];simp [ZJU]
theorem XZC.touch {S T:Nat->Prop} {w w':World} {q:Nat} {pt:List Nat} (h:XZC w S q pt) (t:XF4 T w w') (hS:∀ k,S k->k<w.heap.size->¬ T k):XZC w' S q pt:=by
 obtain ⟨ok,sq,g,c,L,hr,h1,h2,sg,ho,ht,hd⟩:=h;refine ⟨ok,sq,g,c,L,hr.touch t (hS q sq hr.lt),h1,h2,sg,Zs2 ho t (fun b hb=>by cases hb;exact hS g sg (Vvr ho rfl).2),fun k hk=>?_,hd⟩;have:=ht k hk;cases hl:L.getD k none with
 | none=>rw [hl] at this;exact this
 | some b=>rw [hl] at this;exact ⟨this.1,this.2.touch t (hS b this.1 this.2.lt)⟩
theorem XZC.gr {S:Nat->Prop} {w w':World} {q:Nat} {pt:List Nat} (h:XZC w S q pt) (t:Gr w w'):XZC w' S q pt:=h.touch (t.touch (fun _=>False)) (fun _ _ _ h=>h)
theorem XZC.mono {S T:Nat->Prop} {w:World} {q:Nat} {pt:List Nat} (h:XZC w S q pt) (hT:∀ k,S k->T k):XZC w T q pt:=by
 obtain ⟨ok,sq,g,c,L,hr,h1,h2,sg,ho,ht,hd⟩:=h;refine ⟨ok,hT _ sq,g,c,L,hr,h1,h2,hT _ sg,ho,fun k hk=>?_,hd⟩;have:=ht k hk;cases hl:L.getD k none with
 | none=>rw [hl] at this;exact this
 | some b=>rw [hl] at this;exact ⟨hT _ this.1,this.2⟩
theorem Z4C {n:Nat} (h:n<=524288):QmJ n<=2048:=by unfold QmJ;omega
theorem JOV {n p:Nat} (h:p<n):p/256<QmJ n:=by unfold QmJ;omega
theorem Q39 {L:List (Option Nat)} {k:Nat} (h:k<L.length):(Xdz L)[k]?=some (.pointer ((L.getD k none).map fun b=>⟨b,0,none⟩)):=by
 simp [Xdz,List.getD_eq_getElem?_getD,h]
section
variable {w:World} {S:Nat->Prop} {q:Nat} {pt:List Nat}
set_option maxHeartbeats 800000 in
theorem QR1 (hM:XZC w S q pt) {p:Nat} (hp:p<pt.length):Calls Tryz.prog 280 #[.pointer (some ⟨q,0,none⟩),.int .i64 p] w fun e w'=>e=.returned (.int .u32 (pt.getD p 0:Nat))/\w=w':=by
 obtain ⟨ok,sq,g,c,L,hr,h1,h2,sg,ho,ht,hd⟩:=hM;have hn:=Z4C ok.n2;have hk:=JOV hp;have hLl:L.length=QmJ pt.length:=by have:=ho.1;simp [Xdz] at this;exact this
 have c0:=hr.cell (j:=0) rfl;have k0:=ZBn ho (Q39 (L:=L) (k:=p/256) (by omega));have hh:=ht _ hk;obtain ⟨k,hkk⟩:∃ k,k=p/256:=⟨_,rfl⟩;obtain ⟨i,hii⟩:∃ i,i=p%256:=⟨_,rfl⟩;have hpk:256*k+i=p:=by omega
 have hi:i<256:=by omega
 have e1:(p:Int)/256=(k:Int):=by omega
 have e2:(p:Int)%256=(i:Int):=by omega
 rw [<-hkk] at k0 hk hh;have hpb:(p:Int)<=524288:=by have:=ok.n2;omega
 have hkI:(k:Int)<(QmJ pt.length:Int):=by omega
 have hiI:(i:Int)<256:=by omega
 unfold maxLen at h2;cases hl:L.getD k none with
 | none=>
  rw [hl] at hh k0;have E:=hid (hh i hi);rw [hpk] at E;rw [E.o];clear hr ho ht hh hd hii hkk hpk hl;go_enter Tryz.func280,Tryz.ntmps280;go_wp2;go_ret;exact ⟨rfl,rfl⟩
 | some b=>
  rw [hl] at hh k0;have k1:=hh.2.cell (QvL pt k hi);rw [hpk] at k1;clear hp;generalize pt.getD p 0=x at k1 ⊢;clear hr ho ht hh hd hii hkk hpk hl;go_enter Tryz.func280,Tryz.ntmps280;go_wp2;go_ret;exact ⟨rfl,rfl⟩
def pgE (pt:List Nat) (p:Int):Int:=if 0<=p/\p<pt.length then 0 else 11
def Z5O (pt:List Nat) (l:List Int):Int:=if l.all (fun p=>decide (pgE pt p=0)) then 0 else 11
theorem Z7Q (pt:List Nat) (p:Int):(decide (p<0)=true/\pgE pt p=11)\/(decide (p<0)=false/\decide ((pt.length:Int)<=p)=true/\pgE pt p=11)\/(decide (p<0)=false/\decide ((pt.length:Int)<=p)=false/\pgE pt p=0):=by
 unfold pgE;by_cases h0:p<0
 ·exact .inl ⟨decide_eq_true h0,if_neg (by omega)⟩
 ·by_cases h1:(pt.length:Int)<=p
  ·exact .inr (.inl ⟨decide_eq_false h0,decide_eq_true h1,if_neg (by omega)⟩)
  ·exact .inr (.inr ⟨decide_eq_false h0,decide_eq_false h1,if_pos (by omega)⟩)
theorem QP1 {pt:List Nat} {l:List Int} (h:∀ i,i<l.length->pgE pt (l.getD i 0)=0):Z5O pt l=0:=by
 unfold Z5O;rw [if_pos];rw [List.all_eq_true];intro x hx;obtain ⟨i,hi,rfl⟩:=List.mem_iff_getElem.1 hx;have:=h i hi;rw [List.getD_eq_getElem?_getD,List.getElem?_eq_getElem hi] at this;exact decide_eq_true this
theorem YU3 {pt:List Nat} {l:List Int} {i:Nat} (hi:i<l.length) (h:pgE pt (l.getD i 0)=11):Z5O pt l=11:=by
 unfold Z5O;rw [if_neg];rw [List.all_eq_true];intro ha;have:=ha l[i] (List.getElem_mem hi);rw [List.getD_eq_getElem?_getD,List.getElem?_eq_getElem hi] at h;rw [Option.getD_some] at h;rw [h] at this;exact absurd this (by decide)
theorem XaF (hM:XZC w S q pt) {b n:Nat} {l:List Int} (hn:l.length=n) (hn2:n<=2) (hc:∀ i,i<n->w.cell? ⟨b,i,none⟩=some (.int .i64 (l.getD i 0))):Calls Tryz.prog 279 #[.pointer (some ⟨q,0,none⟩),.slice (some ⟨b,0,none⟩) n n] w fun e w'=>e=.returned (.int .i64 (Z5O pt l))/\w=w':=by
 obtain ⟨ok,sq,g,c,L,hr,-⟩:=hM;have c1:=hr.cell (j:=1) rfl;have HC:=hid hc;clear hr hc;go_enter Tryz.func279,Tryz.ntmps279;go_wp2
 go_loop [11] (fun i=>∃ k:Nat,k<=n/\i=.int .i64 k/\Hid (∀ i,i<k->pgE pt (l.getD i 0)=0)) (fun i=>n-(intOf i).toNat)
 case atStart=>exact ⟨0,by omega,rfl,⟨fun i h=>by omega⟩⟩
 case round=>
  obtain ⟨k,hk,rfl,hk1⟩:=hrel;by_cases hlt:k<n
  ·have hcell:=HC.o k hlt;have hq:=Z7Q pt (l.getD k 0);have H1:=hid (fun h=>YU3 (pt:=pt) (l:=l) (i:=k) (by omega) h)
   have H2:Hid (pgE pt (l.getD k 0)=0->∀ i,i<k+1->pgE pt (l.getD i 0)=0):=⟨fun h i hi=>by
    by_cases e:i=k
    ·subst e;exact h
    ·exact hk1.o i (by omega)⟩
   generalize l.getD k 0=p at hcell hq H1 H2;clear hk1 HC hn;rcases hq with ⟨d0,E⟩ | ⟨d0,d1,E⟩ | ⟨d0,d1,E⟩
   ·have E:=hid E;go_wp2;go_ret;exact ⟨ZzN (by rw [H1.o E.o]),rfl⟩
   ·have E:=hid E;go_wp2;go_ret;exact ⟨ZzN (by rw [H1.o E.o]),rfl⟩
   ·have E:=hid E;go_wp2;go_round
    case rel=>exact ⟨k+1,by omega,by go_num,⟨H2.o E.o⟩⟩
    case measure=>simp [intOf];omega
  ·obtain rfl:k=n:=by omega
   have E:=hid (QP1 (pt:=pt) (l:=l) (by rw [hn];exact hk1.o));clear hk1 HC hn;go_wp2;go_ret;exact ⟨ZzN (by rw [E.o]),rfl⟩
end
end
end
section
section
open Go.RowKit Word
theorem VT9:(Tryz.zeroCells345).toList=JRl (List.replicate 256 0)++[.int .i64 0]:=by kernel_rfl
theorem Vqt (l:List Nat):nz l=cnt (at_ (l.map fun x=>x !=0)) l.length:=by
 unfold nz;refine XmU fun i hi=>?_;simp [at_,hi]
theorem Zav {l:List Nat} {i x:Nat} (hi:i<l.length) (h:l.getD i 0=0) (hx:x≠0):nz (l.set i x)=nz l+1:=by
 have hm:(l.map fun x=>x !=0).length=l.length:=List.length_map _;rw [Vqt,Vqt,List.length_set,List.map_set,<-hm];have:(x !=0)=true:=by simp [hx]
 rw [this];refine Jso (by simpa using hi) ?_;rw [List.getD_eq_getElem?_getD,List.getElem?_eq_getElem hi] at h;simp [at_,hi];simpa using h
theorem VtU {l:List Nat} {i:Nat} (hi:i<l.length) (h:l.getD i 0≠0):nz (l.set i 0)+1=nz l:=by
 have hm:(l.map fun x=>x !=0).length=l.length:=List.length_map _;rw [Vqt,Vqt,List.length_set,List.map_set,<-hm];have:((0:Nat) !=0)=false:=rfl;rw [this];refine V4E (by simpa using hi) ?_;rw [List.getD_eq_getElem?_getD,List.getElem?_eq_getElem hi] at h;simp [at_,hi];simpa using h
theorem Z2A {l:List Nat} (h:nz l=0) {i:Nat} (hi:i<l.length):l.getD i 0=0:=by
 have:=VMy h i hi;simpa using this
theorem Yig (l:List Nat):nz l<=l.length:=QMh _ _
theorem JiO {pt:List Nat} {k i x:Nat} (hp:256*k+i<pt.length):Vvx (pt.set (256*k+i) x) k=(Vvx pt k).set i x:=by
 apply List.ext_getElem
 ·simp [Vvx]
 ·intro j h1 h2;have hj:j<256:=by simpa [Vvx] using h1
  simp only [Vvx,List.getElem_map,List.getElem_range,List.getElem_set,List.getD_eq_getElem?_getD,List.getElem?_set];by_cases e:i=j
  ·subst e;simp [hp]
  ·rw [if_neg (by omega),if_neg e]
theorem QhQ {pt:List Nat} {k i x j:Nat} (hi:i<256) (hj:j≠k):Vvx (pt.set (256*k+i) x) j=Vvx pt j:=by
 apply List.ext_getElem
 ·simp [Vvx]
 ·intro y h1 h2;have hy:y<256:=by simpa [Vvx] using h1
  simp only [Vvx,List.getElem_map,List.getElem_range,List.getD_eq_getElem?_getD,List.getElem?_set];rw [if_neg (by omega)]
theorem VXI {pt:List Nat} {k i x t:Nat} (hp:256*k+i<pt.length) (hi:i<256) (ht:nz ((Vvx pt k).set i x)=t):
  V8D (pt.set (256*k+i) x) k=((V8D pt k).set i (.int .u32 x)).set 256 (.int .i64 t):=by
 unfold V8D;rw [JiO hp,ht];have hl:(JRl (Vvx pt k)).length=256:=by simp [JRl,ZJU]
 rw [List.set_append_left _ _ (by omega),List.set_append_right _ _ (by simp [hl])];simp [JRl,List.map_set,ZJU]
theorem JQh {pt:List Nat} {k i x j:Nat} (hi:i<256) (hj:j≠k):V8D (pt.set (256*k+i) x) j=V8D pt j:=by
 unfold V8D;rw [QhQ hi hj]
section
variable {w:World} {S:Nat->Prop} {q:Nat} {pt:List Nat}
set_option maxHeartbeats 800000 in
theorem XyQ {g n c:Nat} {m:Nat} {k i:Nat} (c0:w.cell? ⟨q,0,none⟩=some (.slice (some ⟨g,0,none⟩) n c)) (c2:w.cell? ⟨q,2,none⟩=some (.int .i64 m))
  (f2:w.frozen? ⟨q,2,none⟩=false) (cg:w.cell? ⟨g,k,none⟩=some (.pointer none)) (fg:w.frozen? ⟨g,k,none⟩=false) (hqg:q≠g) (hq:q<w.heap.size) (hg:g<w.heap.size)
  (hk:k<n) (hn:n<=2048) (hi:i<256) (hm:m<=524288) {x:Nat} (hx:x≠0) {p:Nat} (hp:p=256*k+i):Calls Tryz.prog 250 #[.pointer (some ⟨q,0,none⟩),.int .i64 p,.int .u32 x] w fun e w'=>e=.returned (.tuple #[]) ∧
   w'=((w.setCell ⟨g,k,none⟩ (.pointer (some ⟨w.heap.size,0,none⟩))).setCell ⟨q,2,none⟩ (.int .i64 (m+1))).alloc
   (Obj.cells ((Tryz.zeroCells345.setIfInBounds i (.int .u32 x)).setIfInBounds 256 (.int .i64 1)) 345):=by
 have e1:(p:Int)/256=(k:Int):=by omega
 have e2:(p:Int)%256=(i:Int):=by omega
 have b1:(p:Int)<=524288:=by omega
 have hkI:(k:Int)<(n:Int):=by omega
 have hiI:(i:Int)<256:=by omega
 have d0:((x:Int)==0)=false:=by simpa using hx
 have hz:∀ h,(Tryz.zeroCells345.setIfInBounds i (.int .u32 x))[256]'h=.int .i64 0:=by
  intro h;rw [Array.getElem_setIfInBounds_ne _ (by omega)];have hl:(Tryz.zeroCells345).toList.length=257:=by rw [VT9];simp [JRl]
  rw [<-Array.getElem_toList]
  ·have:(Tryz.zeroCells345).toList[256]?=some (.int .i64 0):=by rw [VT9,List.getElem?_append_right (by simp [JRl])];simp [JRl]
   rw [List.getElem?_eq_getElem (by omega)] at this;exact Option.some.inj this
  ·have hl:(Tryz.zeroCells345).toList.length=257:=by rw [VT9];simp [JRl]
   rw [Array.length_toList] at hl;rw [hl];omega
 clear hp;go_enter Tryz.func250,Tryz.ntmps250;go_wp2
 go_end0
 exact ⟨rfl,rfl⟩
def Xzk (w:World) (b i x t' q m' g k:Nat):World:=
 if t'=0 then (((w.setCell ⟨b,i,none⟩ (.int .u32 x)).setCell ⟨b,256,none⟩ (.int .i64 t')).setCell ⟨q,2,none⟩ (.int .i64 m')).setCell ⟨g,k,none⟩ (.pointer none)
 else ((w.setCell ⟨b,i,none⟩ (.int .u32 x)).setCell ⟨b,256,none⟩ (.int .i64 t')).setCell ⟨q,2,none⟩ (.int .i64 m')
set_option maxHeartbeats 1600000 in
theorem YAa {g n c b:Nat} {m t t' m':Nat} {y:Value} {k i:Nat} (c0:w.cell? ⟨q,0,none⟩=some (.slice (some ⟨g,0,none⟩) n c)) (c2:w.cell? ⟨q,2,none⟩=some (.int .i64 m))
  (f2:w.frozen? ⟨q,2,none⟩=false) (cg:w.cell? ⟨g,k,none⟩=some (.pointer (some ⟨b,0,none⟩))) (fg:w.frozen? ⟨g,k,none⟩=false)
  (cb:w.cell? ⟨b,i,none⟩=some y) (cn:w.cell? ⟨b,256,none⟩=some (.int .i64 t)) (fi:w.frozen? ⟨b,i,none⟩=false) (fn:w.frozen? ⟨b,256,none⟩=false)
  (hqg:q≠g) (hbg:b≠g) (hbq:b≠q) (hk:k<n) (hn:n<=2048) (hi:i<256) (hm:m<=524288) (hm':m'<=524288) (ht:t<=256) (ht':t'<=256) {x:Nat} (hx:x<4294967296)
  (hby:if x=0 then t' + 1=t/\m' + 1=m else t'=t+1/\m'=m+1) {p:Nat} (hp:p=256*k+i):Calls Tryz.prog 250 #[.pointer (some ⟨q,0,none⟩),.int .i64 p,.int .u32 x] w fun e w'=>e=.returned (.tuple #[]) ∧
   w'=Xzk w b i x t' q m' g k:=by
 have e1:(p:Int)/256=(k:Int):=by omega
 have e2:(p:Int)%256=(i:Int):=by omega
 have b1:(p:Int)<=524288:=by omega
 have hkI:(k:Int)<(n:Int):=by omega
 have hiI:(i:Int)<256:=by omega
 have hi6:¬ i=256:=by omega
 clear hp;by_cases h0:x=0
 ·rw [if_pos h0] at hby;subst h0;obtain ⟨rfl,rfl⟩:=hby;have a1:(t':Int)+1 + -1=(t':Int):=by omega
  have a2:(m':Int)+1 + -1=(m':Int):=by omega
  by_cases h1:t'=0
  ·subst h1;have E:Xzk w b i 0 0 q m' g k=_:=if_pos rfl;rw [E];clear E;go_enter Tryz.func250,Tryz.ntmps250;go_wp2
   go_end0
   exact ⟨rfl,rfl⟩
  ·have d1:((t':Int)==0)=false:=by simpa using h1
   have E:Xzk w b i 0 t' q m' g k=_:=if_neg h1;rw [E];clear E;go_enter Tryz.func250,Tryz.ntmps250;go_wp2
   go_end0
   exact ⟨rfl,rfl⟩
 ·rw [if_neg h0] at hby;obtain ⟨rfl,rfl⟩:=hby;have d0:((x:Int)==0)=false:=by simpa using h0
  have d1:(((t+1:Nat):Int)==0)=false:=by simp;omega
  have E:Xzk w b i x (t+1) q (m+1) g k=_:=if_neg (by omega);rw [E];clear E;go_enter Tryz.func250,Tryz.ntmps250;go_wp2
  go_end0
  exact ⟨rfl,rfl⟩
end
end
end
section
section
open Go.RowKit Word
theorem QON {w:World} {q T:Nat} {xs ys:List Value} (h:Rec w q T xs) (e:xs=ys):Rec w q T ys:=e ▸ h
theorem Zym.set {pt:List Nat} (h:Zym pt) (p:Nat) {x:Nat} (hx:x<4294967296):Zym (pt.set p x):=
 ⟨by rw [List.length_set];exact h.n1,by rw [List.length_set];exact h.n2,fun y hy=>by
  rcases List.mem_or_eq_of_mem_set hy with h' | h'
  ·exact h.lt y h'
  ·subst h';exact hx⟩
theorem Q81 {l:List Nat} {p x:Nat} (hp:p<l.length) (j:Nat):(l.set p x).getD j 0=if p=j then x else l.getD j 0:=by
 simp only [List.getD_eq_getElem?_getD,List.getElem?_set];by_cases e:p=j
 ·subst e;simp [hp]
 ·simp [e]
theorem JfP {l:List (Option Nat)} {p:Nat} {x:Option Nat} (hp:p<l.length) (j:Nat):(l.set p x).getD j none=if p=j then x else l.getD j none:=by
 simp only [List.getD_eq_getElem?_getD,List.getElem?_set];by_cases e:p=j
 ·subst e;simp [hp]
 ·simp [e]
theorem Jna (L:List (Option Nat)) (k:Nat) (b:Option Nat):Xdz (L.set k b)=(Xdz L).set k (.pointer (b.map fun b=>⟨b,0,none⟩)):=by
 unfold Xdz;rw [List.map_set]
theorem ZXw {l:List Nat} {n:Nat} (hl:l.length=n) (h:∀ i,i<n->l.getD i 0=0):l=List.replicate n 0:=by
 apply List.ext_getElem
 ·rw [hl,List.length_replicate]
 ·intro y y1 y2;have:=h y (by omega);rw [List.getD_eq_getElem?_getD,List.getElem?_eq_getElem y1] at this;rw [List.getElem_replicate];exact this
theorem YPV (n:Nat):nz (List.replicate n 0)=0:=by
 refine Z6o fun i hi=>?_;rw [List.length_replicate] at hi;simp [List.getD_eq_getElem?_getD,hi]
theorem Y8u {pt:List Nat} {k:Nat} (h:∀ i,i<256->pt.getD (256*k+i) 0=0):V8D pt k=JRl (List.replicate 256 0)++[.int .i64 0]:=by
 unfold V8D;rw [ZXw (ZJU pt k) (fun y hy=>by rw [XL0 _ _ hy];exact h y hy),YPV];rfl
def XsB (w:World) (S:Nat->Prop) (q:Nat) (pt:List Nat) (p x:Nat) (w':World):Prop:=XF4 S w w'/\XZC w' (plus S w) q (pt.set p x)
section
variable {w:World} {S:Nat->Prop} {q:Nat} {pt:List Nat}
theorem QkK (hM:XZC w S q pt) {p x:Nat} (hp:p<pt.length) (hx:x<4294967296) (hxx:if x=0 then pt.getD p 0≠0 else pt.getD p 0=0):
  Calls Tryz.prog 250 #[.pointer (some ⟨q,0,none⟩),.int .i64 p,.int .u32 x] w fun e w'=>e=.returned (.tuple #[])/\XsB w S q pt p x w':=by
 obtain ⟨ok,sq,g,c,L,hr,h1,h2,sg,ho,ht,hd⟩:=hM;have hn:=Z4C ok.n2;have hk:=JOV hp;have hLl:L.length=QmJ pt.length:=by have:=ho.1;simp [Xdz] at this;exact this
 obtain ⟨k,hkk⟩:∃ k,k=p/256:=⟨_,rfl⟩;obtain ⟨i,hii⟩:∃ i,i=p%256:=⟨_,rfl⟩;have hpk:p=256*k+i:=by omega
 have hi:i<256:=by omega
 rw [<-hkk] at hk;have hkL:k<L.length:=by omega
 clear hkk hii;have cg:=ZBn ho (Q39 hkL);have fg:=QxS ho k;have c0:=hr.cell (j:=0) rfl;have c2:=hr.cell (j:=2) rfl;have f2:=hr.free 2;have hqg:q≠g:=YnK hr ho (by decide) rfl rfl;have hgq:g≠q:=fun e=>hqg e.symm;have hnz:=Yig pt;have hn2:=ok.n2;have hql:=hr.lt;have hgl:=(Vvr ho rfl).2;have hok':=ok.set p hx;have hlen:(pt.set p x).length=pt.length:=List.length_set;have hh:=ht k hk;cases hl:L.getD k none with
 | none=>
  rw [hl] at hh cg;have h0:pt.getD p 0=0:=by rw [hpk];exact hh i hi
  have hx0:x≠0:=by
   intro e;subst e;rw [if_pos rfl] at hxx;exact hxx h0
  refine (XyQ c0 c2 f2 cg fg hqg hql hgl hk hn hi (by omega) hx0 hpk).mono ?_;rintro e w' ⟨rfl,rfl⟩;refine ⟨rfl,((XF4.refl S w).setCell (a:=⟨g,k,none⟩) (fun _=>sg) _ |>.setCell (a:=⟨q,2,none⟩) (fun _=>sq) _).alloc _,hok',.inl sq,g,c,L.set k (some w.heap.size),?_,by rw [hlen];exact h1,h2,.inl sg,?_,fun j hj=>?_,fun a b y ha hb=>?_⟩
  ·have r1:=(VDR (q:=g) (j:=k) hr (.pointer (some ⟨w.heap.size,0,none⟩)) (fun y hy=>by cases hy;exact hqg));have r2:Rec _ _ _ _:=Rec.set (q:=q) r1 2 (.int .i64 ((nz pt:Nat)+1));refine QON (r2.gr ((Gr.refl _).alloc _)) ?_;rw [Zav hp h0 hx0,hlen];rfl
  ·rw [hlen,Jna];exact Y9I (VDR (World.ownsRow.stored ho k _).1 _ (fun y hy=>by cases hy;exact hgq)) ((Gr.refl _).alloc _)
  ·rw [hlen] at hj;rw [JfP hkL];by_cases e:k=j
   ·subst e;rw [if_pos rfl];refine ⟨.inr (Nat.le_refl _),?_⟩
    have hs:∀ (W:World) (Z:Array Value) (xs:List Value) (N:Nat),W.heap.size=N->Z.toList=xs->Rec (W.alloc (.cells Z 345)) N 345 xs:=by
     rintro W Z xs N rfl rfl;exact Rec.new W _ _
    refine hs _ _ _ _ (by simp) ?_;rw [Array.toList_setIfInBounds,Array.toList_setIfInBounds,VT9,hpk,VXI (by omega) hi rfl]
    have:nz ((Vvx pt k).set i x)=1:=by
     rw [Zav (by rw [ZJU];exact hi) (by rw [XL0 _ _ hi];exact hh i hi) hx0,ZXw (ZJU pt k) (fun y hy=>by rw [XL0 _ _ hy];exact hh y hy),YPV]
    rw [this,Y8u hh];rfl
   ·rw [if_neg e];have hh':=ht j hj;cases hl':L.getD j none with
    | none=>
     rw [hl'] at hh';intro y hy;rw [Q81 hp,if_neg (by omega)];exact hh' y hy
    | some b=>
     rw [hl'] at hh';refine ⟨.inl hh'.1,?_⟩;rw [hpk,JQh hi (fun h=>e h.symm)];have hbg:b≠g:=YnK hh'.2 ho (by decide) rfl rfl;have hbq:b≠q:=YnK hh'.2 hr (by decide) rfl rfl;have r1:=VDR (q:=g) (j:=k) hh'.2 (.pointer (some ⟨w.heap.size,0,none⟩)) (fun y hy=>by cases hy;exact hbg);exact Rec.gr (VDR r1 _ (fun y hy=>by cases hy;exact hbq)) ((Gr.refl _).alloc _)
  ·rw [JfP hkL] at ha hb
   have hne:∀ j,L.getD j none≠some w.heap.size:=fun j hj=>by
    by_cases hj':j<QmJ pt.length
    ·have:=ht j hj';rw [hj] at this;exact absurd this.2.lt (Nat.lt_irrefl _)
    ·rw [List.getD_eq_getElem?_getD,List.getElem?_eq_none (by omega)] at hj;cases hj
   by_cases e1:k=a <;> by_cases e2:k=b
   ·rw [<-e1,e2]
   ·rw [if_pos e1] at ha;rw [if_neg e2] at hb;cases ha;exact absurd hb (hne b)
   ·rw [if_neg e1] at ha;rw [if_pos e2] at hb;cases hb;exact absurd ha (hne a)
   ·rw [if_neg e1] at ha;rw [if_neg e2] at hb;exact hd _ _ _ ha hb
 | some b=>
  rw [hl] at hh cg;obtain ⟨sb,hb⟩:=hh;have hbg:b≠g:=YnK hb ho (by decide) rfl rfl;have hgb:g≠b:=fun e=>hbg e.symm;have hbq:b≠q:=YnK hb hr (by decide) rfl rfl;have hqb:q≠b:=fun e=>hbq e.symm;have cb:=hb.cell (QvL pt k hi);have cn:=hb.cell (XMj pt k);have hti:i<(Vvx pt k).length:=by rw [ZJU];exact hi
  have htat:(Vvx pt k).getD i 0=pt.getD p 0:=by rw [XL0 _ _ hi,hpk]
  have hby:if x=0 then nz ((Vvx pt k).set i x)+1=nz (Vvx pt k)/\nz (pt.set p x)+1=nz pt else nz ((Vvx pt k).set i x)=nz (Vvx pt k)+1/\nz (pt.set p x)=nz pt+1:=by
   by_cases e:x=0
   ·rw [if_pos e] at hxx ⊢;subst e;exact ⟨VtU hti (by rw [htat];exact hxx),VtU hp hxx⟩
   ·rw [if_neg e] at hxx ⊢;exact ⟨Zav hti (by rw [htat];exact hxx) e,Zav hp hxx e⟩
  have l1:=Yig (Vvx pt k);have l2:=Yig ((Vvx pt k).set i x);rw [List.length_set] at l2;rw [ZJU] at l1 l2;have l3:=Yig (pt.set p x);rw [hlen] at l3;refine (YAa c0 c2 f2 cg fg cb cn (hb.free i) (hb.free 256) hqg hbg hbq hk hn hi (by omega) (m':=nz (pt.set p x)) (by omega) l1 l2 hx hby hpk).mono ?_;rintro e w' ⟨rfl,rfl⟩;obtain ⟨t',ht'⟩:∃ t',t'=nz ((Vvx pt k).set i x):=⟨_,rfl⟩;rw [<-ht'];have hrow:=VXI (pt:=pt) (k:=k) (i:=i) (x:=x) (t:=t') (by omega) hi ht'.symm;rw [<-hpk] at hrow
  -- the world behind the first three stores
  obtain ⟨W,hW⟩:∃ W,W=((w.setCell ⟨b,i,none⟩ (.int .u32 x)).setCell ⟨b,256,none⟩ (.int .i64 t')).setCell ⟨q,2,none⟩ (.int .i64 (nz (pt.set p x):Nat)):=⟨_,rfl⟩;have TW:XF4 S w W:=by rw [hW];exact ((XF4.refl S w).setCell (a:=⟨b,i,none⟩) (fun _=>sb) _ |>.setCell (a:=⟨b,256,none⟩) (fun _=>sb) _).setCell (a:=⟨q,2,none⟩) (fun _=>sq) _
  have RQ:Rec W q 257 [.slice (some ⟨g,0,none⟩) (QmJ pt.length) c,.int .i64 pt.length,.int .i64 (nz (pt.set p x):Nat)]:=by
   rw [hW];have r1:=VDR (q:=b) (j:=i) hr (.int .u32 x) (fun y hy=>by cases hy;exact hqb);have r2:=VDR (q:=b) (j:=256) r1 (.int .i64 t') (fun y hy=>by cases hy;exact hqb);exact Rec.set r2 2 _
  have RG:W.ownsRow 0 342 1 (.slice (some ⟨g,0,none⟩) (QmJ pt.length) c) (QmJ pt.length) (Xdz L):=by
   rw [hW];exact VDR (VDR (VDR ho _ (fun y hy=>by cases hy;exact hgb)) _ (fun y hy=>by cases hy;exact hgb)) _ (fun y hy=>by cases hy;exact hgq)
  have RB:Rec W b 345 (V8D (pt.set p x) k):=by
   rw [hW,hrow];exact VDR (Rec.set (Rec.set hb i _) 256 _) _ (fun y hy=>by cases hy;exact hbq)
  have RO:∀ j y,j≠k->j<QmJ pt.length->L.getD j none=some y->S y/\Rec W y 345 (V8D (pt.set p x) j):=fun j y hj hj2 hy=>by
   have:=ht j hj2;rw [hy] at this;refine ⟨this.1,?_⟩;rw [hpk,JQh hi hj,hW];have hyb:y≠b:=fun e=>hj (hd _ _ _ (by rw [e] at hy;exact hy) hl);have hyq:y≠q:=YnK this.2 hr (by decide) rfl rfl;exact VDR (VDR (VDR this.2 _ (fun z hz=>by cases hz;exact hyb)) _ (fun z hz=>by cases hz;exact hyb)) _ (fun z hz=>by cases hz;exact hyq)
  have RN:∀ j,j≠k->j<QmJ pt.length->L.getD j none=none->∀ y,y<256->(pt.set p x).getD (256*j+y) 0=0:=fun j hj hj2 hy y hy2=>by
   have:=ht j hj2;rw [hy] at this;rw [Q81 hp,if_neg (by omega)];exact this y hy2
  unfold Xzk;by_cases h0:t'=0
  ·rw [if_pos h0,<-hW];refine ⟨rfl,TW.setCell (a:=⟨g,k,none⟩) (fun _=>sg) _,hok',.inl sq,g,c,L.set k none,?_,by rw [hlen];exact h1,h2,.inl sg,?_,fun j hj=>?_,fun a y z ha hz=>?_⟩
   ·rw [hlen];exact VDR RQ _ (fun y hy=>by cases hy;exact hqg)
   ·rw [hlen,Jna];exact (World.ownsRow.stored RG k _).1
   ·rw [hlen] at hj;rw [JfP hkL];by_cases e:k=j
    ·subst e;rw [if_pos rfl];intro y hy;have:=Z2A (l:=(Vvx pt k).set i x) (by rw [<-ht'];exact h0) (i:=y) (by rw [List.length_set,ZJU];exact hy);rw [<-JiO (by omega),XL0 _ _ hy,<-hpk] at this;exact this
    ·rw [if_neg e];cases hl':L.getD j none with
     | none=>exact RN j (fun h=>e h.symm) hj hl'
     | some y=>
      have:=RO j y (fun h=>e h.symm) hj hl';have hyg:y≠g:=YnK this.2 RG (by decide) rfl rfl;exact ⟨.inl this.1,VDR this.2 _ (fun z hz=>by cases hz;exact hyg)⟩
   ·rw [JfP hkL] at ha hz;by_cases e1:k=a
    ·rw [if_pos e1] at ha;cases ha
    ·by_cases e2:k=y
     ·rw [if_pos e2] at hz;cases hz
     ·rw [if_neg e1] at ha;rw [if_neg e2] at hz;exact hd _ _ _ ha hz
  ·rw [if_neg h0,<-hW];refine ⟨rfl,TW,hok',.inl sq,g,c,L,?_,by rw [hlen];exact h1,h2,.inl sg,?_,fun j hj=>?_,hd⟩
   ·rw [hlen];exact RQ
   ·rw [hlen];exact RG
   ·rw [hlen] at hj;by_cases e:k=j
    ·subst e;rw [hl];exact ⟨.inl sb,RB⟩
    ·cases hl':L.getD j none with
     | none=>exact RN j (fun h=>e h.symm) hj hl'
     | some y=>
      have:=RO j y (fun h=>e h.symm) hj hl';exact ⟨.inl this.1,this.2⟩
end
end
end
section
section
open Go.RowKit Word
def frE (pt:List Nat) (p:Int):Int:=if pgE pt p=0 then (if pt.getD p.toNat 0=0 then 12 else 0) else 11
def frV (pt:List Nat) (p:Int):Int:=if frE pt p=0 then (pt.getD p.toNat 0:Nat)-1 else 0
section
variable {w:World} {S:Nat->Prop} {q:Nat} {pt:List Nat}
theorem ZLB (hM:XZC w S q pt) {b:Nat} {p:Int} (hc:w.cell? ⟨b,0,none⟩=some (.int .i64 p)):Calls Tryz.prog 279 #[.pointer (some ⟨q,0,none⟩),.slice (some ⟨b,0,none⟩) 1 1] w fun e w'=>e=.returned (.int .i64 (pgE pt p))/\w=w':=by
 have:=XaF hM (b:=b) (n:=1) (l:=[p]) rfl (by omega) (fun i hi=>by
  obtain rfl:i=0:=by omega
  exact hc)
 refine this.mono ?_;rintro e w' ⟨rfl,rfl⟩;refine ⟨ZzN ?_,rfl⟩;unfold Z5O;rcases Z7Q pt p with h | h | h
 ·simp [h.2]
 ·simp [h.2.2]
 ·simp [h.2.2]
theorem JkS {pt:List Nat} {p:Int} (h:pgE pt p=0):∃ j:Nat,p=j/\j<pt.length:=by
 unfold pgE at h
 split at h
 ·exact ⟨p.toNat,by omega,by omega⟩
 ·cases h
theorem XAh (pt:List Nat) (p:Int):pgE pt p=0\/pgE pt p=11:=by unfold pgE;split <;> simp
set_option maxHeartbeats 800000 in
theorem Qit (hM:XZC w S q pt) (p:Int):Calls Tryz.prog 246 #[.pointer (some ⟨q,0,none⟩),.int .i64 p] w fun e w'=>e=.returned (.tuple #[.int .i64 (frV pt p),.int .i64 (frE pt p)])/\Gr w w':=by
 have HM:=hid hM;rcases XAh pt p with h0 | h0
 ·obtain ⟨j,rfl,hj⟩:=JkS h0
  have hl:pt.getD j 0<4294967296:=by
   rw [List.getD_eq_getElem?_getD,List.getElem?_eq_getElem hj];exact hM.ok.lt _ (List.getElem_mem hj)
  have HV:Hid (frE pt j=if pt.getD j 0=0 then 12 else 0):=⟨by unfold frE;rw [if_pos h0,Int.toNat_natCast]⟩;have HF:Hid (frV pt j=if frE pt j=0 then ((pt.getD j 0:Nat):Int)-1 else 0):=⟨by unfold frV;rw [Int.toNat_natCast]⟩;have HG:=hid (fun (w':World) (h:Gr w w')=>QR1 (hM.gr h) hj);have H0:=hid h0;clear hM hj h0;generalize pt.getD j 0=x at HV HF HG hl;by_cases hx:x=0
  ·subst hx;have E1:=HV.o;rw [if_pos rfl] at E1;have E2:=HF.o;rw [E1,if_neg (by decide)] at E2;have HE:=hid (And.intro E1 E2);clear E1 E2 HV HF;go_enter Tryz.func246,Tryz.ntmps246
   go_wp2_with (first
    | (go_at_call 279;refine (ZLB (HM.o.gr ((Gr.refl w).alloc _)) (p:=j) (World.cell?_alloc_at _ _ _ 0 rfl)).mono ?_;rintro e w1 ⟨rfl,rfl⟩;rw [H0.o])
    | (go_at_call 280;refine (HG.o _ ((Gr.refl w).alloc _)).mono ?_;rintro e w1 ⟨rfl,rfl⟩))
   go_ret2;exact ⟨Qh8 (Yhd (by rw [HE.o.2])) (Yhd (by rw [HE.o.1])),(Gr.refl w).alloc _⟩
  ·have E1:=HV.o;rw [if_neg hx] at E1;have E2:=HF.o;rw [E1,if_pos rfl] at E2;have HE:=hid (And.intro E1 E2);have d0:((x:Int)==0)=false:=by simpa using hx
   clear E1 E2 HV HF;go_enter Tryz.func246,Tryz.ntmps246
   go_wp2_with (first
    | (go_at_call 279;refine (ZLB (HM.o.gr ((Gr.refl w).alloc _)) (p:=j) (World.cell?_alloc_at _ _ _ 0 rfl)).mono ?_;rintro e w1 ⟨rfl,rfl⟩;rw [H0.o])
    | (go_at_call 280;refine (HG.o _ ((Gr.refl w).alloc _)).mono ?_;rintro e w1 ⟨rfl,rfl⟩))
   go_ret2;exact ⟨Qh8 (Yhd (by rw [HE.o.2])) (Yhd (by rw [HE.o.1])),(Gr.refl w).alloc _⟩
 ·have E1:frE pt p=11:=by unfold frE;rw [if_neg (by rw [h0];decide)]
  have E2:frV pt p=0:=by unfold frV;rw [if_neg (by rw [E1];decide)]
  have HE:=hid (And.intro E1 E2);have H0:=hid h0;clear E1 E2 h0 hM;go_enter Tryz.func246,Tryz.ntmps246;go_wp2_with (go_at_call 279;refine (ZLB (HM.o.gr ((Gr.refl w).alloc _)) (p:=p) (World.cell?_alloc_at _ _ _ 0 rfl)).mono ?_;rintro e w1 ⟨rfl,rfl⟩;rw [H0.o]);go_ret2;exact ⟨Qh8 (Yhd (by rw [HE.o.2])) (Yhd (by rw [HE.o.1])),(Gr.refl w).alloc _⟩
set_option maxHeartbeats 800000 in
theorem YTd (hM:XZC w S q pt) {p f:Nat} (hp:p<pt.length) (h0:pt.getD p 0=0) (hf:f<4096):Calls Tryz.prog 248 #[.pointer (some ⟨q,0,none⟩),.int .i64 p,.int .i64 f] w fun e w'=>e=.returned (.int .i64 0)/\XsB w S q pt p (f+1) w':=by
 have HM:=hid hM;have HI:Hid (pgE pt p=0):=⟨by unfold pgE;rw [if_pos ⟨by omega,by omega⟩]⟩;have HG:=hid (fun (w':World) (h:Gr w w')=>QR1 (hM.gr h) hp);have HS:=hid (fun (w':World) (h:Gr w w')=>QkK (hM.gr h) (x:=f+1) hp (by omega) (by rw [if_neg (by omega)];exact h0));rw [h0] at HG;have b1:((f:Int)+1)%4294967296=(f:Int)+1:=by omega
 have b2:(f:Int)%4294967296=(f:Int):=by omega
 clear hM hp h0;go_enter Tryz.func248,Tryz.ntmps248
 go_wp2_with (first
  | (go_at_call 279;refine (ZLB (HM.o.gr ((Gr.refl w).alloc _)) (p:=p) (World.cell?_alloc_at _ _ _ 0 rfl)).mono ?_;rintro e w1 ⟨rfl,rfl⟩;rw [HI.o])
  | (go_at_call 280;refine (HG.o _ ((Gr.refl w).alloc _)).mono ?_;rintro e w1 ⟨rfl,rfl⟩)
  | (go_at_call 250;refine (HS.o _ ((Gr.refl w).alloc _)).mono ?_;rintro e w1 ⟨rfl,hs1⟩;have HE:=hid hs1;clear hs1))
 go_ret;obtain ⟨t1,t2⟩:=HE.o;exact ⟨rfl,(((Gr.refl w).alloc _).touch S).trans t1,t2.mono (fun k hk=>hk.imp id (fun h=>Nat.le_trans ((Gr.refl w).alloc _).size h))⟩
def QcT (w:World) (S:Nat->Prop) (q:Nat) (pt:List Nat) (p:Int) (w':World):Prop:=(frE pt p≠0/\Gr w w')\/(frE pt p=0/\XsB w S q pt p.toNat 0 w')
theorem ZsE {pt:List Nat} {p:Int} (h:frE pt p=0):∃ j:Nat,p=j/\j<pt.length/\pt.getD j 0≠0:=by
 unfold frE at h
 split at h
 ·rename_i h0;obtain ⟨j,rfl,hj⟩:=JkS h0;refine ⟨j,rfl,hj,fun e=>?_⟩;rw [Int.toNat_natCast,if_pos e] at h;cases h
 ·cases h
theorem XlB (pt:List Nat) (p:Int):0<=frE pt p/\frE pt p<=12:=by unfold frE;split <;> (try split) <;> omega
set_option maxHeartbeats 800000 in
theorem Yzj (hM:XZC w S q pt) (p:Int):Calls Tryz.prog 203 #[.pointer (some ⟨q,0,none⟩),.int .i64 p] w fun e w'=>e=.returned (.tuple #[.int .i64 (frV pt p),.int .i64 (frE pt p)])/\QcT w S q pt p w':=by
 have HM:=hid hM;by_cases h0:frE pt p=0
 ·have HZ:=hid h0;obtain ⟨j,rfl,hj,hx⟩:=ZsE h0;have HS:=hid (fun (w':World) (h:Gr w w')=>QkK (hM.gr h) (x:=0) hj (by omega) (by rw [if_pos rfl];exact hx));clear h0 hM hj hx;go_enter Tryz.func203,Tryz.ntmps203
  go_wp2_with (first
   | (go_at_call 246;refine (Qit HM.o j).mono ?_;rintro e w1 ⟨rfl,hg1⟩;rw [HZ.o];have HG1:=hid hg1;clear hg1)
   | (go_at_call 250;refine (HS.o _ HG1.o).mono ?_;rintro e w2 ⟨rfl,hs1⟩;have HE:=hid hs1;clear hs1))
  go_ret2;obtain ⟨t1,t2⟩:=HE.o;refine ⟨Qh8 rfl (Yhd (by rw [HZ.o])),.inr ⟨HZ.o,(HG1.o.touch S).trans t1,?_⟩⟩;rw [Int.toNat_natCast];exact t2.mono (fun k hk=>hk.imp id (fun h=>Nat.le_trans HG1.o.size h))
 ·have HZ:=hid h0;have hr:=XlB pt p;have HV:Hid (frE pt p=frE pt p):=⟨rfl⟩;obtain ⟨x,hx⟩:∃ x,x=frE pt p:=⟨_,rfl⟩;have HX:=hid hx;rw [<-hx] at h0 hr;have d0:(x==0)=false:=by simpa using h0
  clear hM hx;go_enter Tryz.func203,Tryz.ntmps203;go_wp2_with (go_at_call 246;refine (Qit HM.o p).mono ?_;rintro e w1 ⟨rfl,hg1⟩;rw [<-HX.o];have HG1:=hid hg1;clear hg1);go_ret2;exact ⟨Qh8 rfl (Yhd (by rw [HX.o])),.inl ⟨HZ.o,HG1.o⟩⟩
theorem Zym.new {n:Nat} (h1:1<=n) (h2:n<=524288):Zym (List.replicate n 0):=
 ⟨by simpa using h1,by simpa using h2,fun x hx=>by rw [List.eq_of_mem_replicate hx];decide⟩
theorem VBu (n i:Nat):(List.replicate n 0).getD i 0=0:=by
 rw [List.getD_eq_getElem?_getD,List.getElem?_replicate]
 split <;> rfl
theorem Qr3:(Tryz.prog.info? 342).map (fun i=>(i.zero,i.size,i.bytes))=some (some (.pointer none),1,8):=by kernel_rfl
theorem JxF (n:Nat):(madeCells #[.pointer none] n).toList=Xdz (List.replicate n none):=by
 unfold madeCells Xdz;apply List.ext_getElem
 ·simp
 ·intro i h1 h2;simp [Nat.mod_one]
theorem XZg {w:World} {base E size:Nat} {v:Value} {n:Nat} {xs:List Value} (h:w.ownsRow base E size v n xs):w.ownsRow 0 E size v n xs:=by
 obtain ⟨h1,h | ⟨g,c,cur,e1,e2,h⟩⟩:=h
 ·exact ⟨h1,.inl h⟩
 ·exact ⟨h1,.inr ⟨g,c,cur,e1,Nat.zero_le _,h⟩⟩
set_option maxHeartbeats 800000 in
theorem J3k {n:Nat} (h1:1<=n) (h2:n<=524288):Calls Tryz.prog 117 #[.int .i64 n] w fun e w'=>∃ q,e=.returned (.tuple #[.pointer (some ⟨q,0,none⟩),.int .i64 0])/\Gr w w'/\XZC w' (fun k=>w.heap.size<=k) q (List.replicate n 0):=by
 obtain ⟨i0,hi,hz0,hz1,hz2⟩:=info_parts Qr3;have e1:((n:Int)+256-1)/256=(QmJ n:Int):=by unfold QmJ;omega
 have b0:QmJ n<=2048:=Z4C h2;have HB:Hid (i0.bytes*QmJ n<=281474976710656):=⟨by rw [hz2];omega⟩;have HM:Hid (QmJ n<=maxLen):=⟨by unfold maxLen;omega⟩;go_enter Tryz.func117,Tryz.ntmps117;go_wp2_with (at_make;refine wpList_make_full _ rfl _ _ 255 rfl w.heap.size 342 i0 (.pointer none) 1 Tryz.underlying255 hi hz0 hz1 .i64 .i64 _ _ (QmJ n) rfl rfl ?h1 ?h2 HB.o HM.o (Nat.le_refl _) ?h3)
 case h1=>omega
 case h2=>omega
 case h3=>
  intro w1 hown hgrow;have hg1:Gr w w1:=(JEA hgrow (fun _=>False) (fun k e _=>by cases e)).gr;have HO:=hid (XZg hown);have HG:=hid hg1;clear hown hgrow hg1;go_wp2;go_ret2;have hl:(List.replicate n 0).length=n:=List.length_replicate;have hown:=HO.o;rw [JxF] at hown;refine ⟨_,Qh8 rfl rfl,HG.o.alloc _,Zym.new h1 h2,HG.o.size,w.heap.size,QmJ n,List.replicate (QmJ n) none,?_,by rw [hl];exact Nat.le_refl _,HM.o,Nat.le_refl _,?_,fun k hk=>?_,fun k j b hk=>?_⟩
  ·rw [hl,YPV];exact Rec.new w1 _ _
  ·rw [hl];exact Y9I hown ((Gr.refl _).alloc _)
  ·rw [List.getD_eq_getElem?_getD,List.getElem?_replicate];rw [hl] at hk;rw [if_pos hk];exact fun i _=>VBu n _
  ·rw [List.getD_eq_getElem?_getD,List.getElem?_replicate] at hk
   split at hk <;> cases hk
end
end
end
end
end Go.Proofs.YtmjoodkiiekjcaaGreatDoor
