/- Part 4 of what ListNobody leans on: my own lemmas, merged by shake.py. -/
import Derived.Test.YteihjlcmjecmfaaGreatDoorListNobodyC
import Derived.Laws.OwnMore
namespace Go.Proofs.YteihjlcmjecmfaaGreatDoor
open _root_.Go.Proofs.Tryz
set_option maxHeartbeats 3200000
set_option maxRecDepth 100000
section
open Go.RowKit Word
def Rec(w:World)(q T:Nat)(xs:List Value):Prop:=w.ownsRow 0 T xs.length (.slice (some ⟨q,0,none⟩) 1 1) 1 xs
theorem Rec.cell{w:World}{q T:Nat}{xs:List Value}(h:Rec w q T xs){j:Nat}{u:Value}(hj:xs[j]?=some u):w.cell? ⟨q,j,none⟩=some u:=ZBn h hj
theorem Rec.cc{w : World}{q T : Nat}{xs : List Value}(h : Rec w q T xs)(j : Nat){u : Value}(hj : xs[j]? = some u := by exact rfl) : w.cell? ⟨q,j,none⟩ = some u := h.cell hj
theorem Rec.free{w:World}{q T:Nat}{xs:List Value}(h:Rec w q T xs)(j:Nat):w.frozen? ⟨q,j,none⟩=false:=QxS h j
theorem Rec.lt{w:World}{q T:Nat}{xs:List Value}(h:Rec w q T xs):q<w.heap.size:=(Vvr h rfl).2
theorem Rec.new(w:World)(T:Nat)(xs:List Value):Rec (w.alloc (.cells xs.toArray T)) w.heap.size T xs:=by
 have:=World.ownsRow_lit (base:=0) (e:=T) (size:=xs.length) w xs.toArray 1 (ζh _) (by unfold maxLen;omega) (by simp);exact this
theorem Rec.set{w:World}{q T:Nat}{xs:List Value}(h:Rec w q T xs)(j:Nat)(u:Value):Rec (w.setCell ⟨q,j,none⟩ u) q T (xs.set j u):=by
 have:=(World.ownsRow.stored h j u).1;unfold Rec;rw[υ];exact this
theorem Rec.touch{S:Nat->Prop}{w w':World}{q T:Nat}{xs:List Value}(h:Rec w q T xs)(t:XF4 S w w')(hS:¬S q):Rec w' q T xs:=Zs2 h t (λg hg=>by cases hg;exact hS)
theorem Rec.gr{w w':World}{q T:Nat}{xs:List Value}(h:Rec w q T xs)(t:Gr w w'):Rec w' q T xs:=Y9I h t
theorem QiW{w:World}{base E size:Nat}{v:Value}{n:Nat}{xs:List Value}(h:w.ownsRow base E size v n xs){g:Nat}(hg:v.ownBlock=some g):∃cur,w.heap[g]?=some (.cells cur E (0,0)):=by
 obtain⟨_,⟨rfl,_⟩|⟨g',cap,cur,rfl,_,h3,_⟩⟩:=h
 ·cases hg
 ·cases hg;exact⟨cur,h3⟩
theorem YnK{w:World}{b1 b2 E1 E2 s1 s2:Nat}{v1 v2:Value}{n1 n2:Nat}{xs1 xs2:List Value}(h1:w.ownsRow b1 E1 s1 v1 n1 xs1)(h2:w.ownsRow b2 E2 s2 v2 n2 xs2)(he:E1≠E2){g1 g2:Nat}(hg1:v1.ownBlock=some g1)(hg2:v2.ownBlock=some g2):g1≠g2:=by
 intro e;subst e;obtain⟨c1,e1⟩:=QiW h1 hg1;obtain⟨c2,e2⟩:=QiW h2 hg2;rw[e1]at e2;simp only[Option.some.injEq,Obj.cells.injEq]at e2;exact he e2.2.1
theorem ZfN{w:World}{base E size:Nat}{v:Value}{n:Nat}{xs:List Value}(h:w.ownsRow base E size v n xs):∃A c,v=.slice A n c/\n<=c/\c<=maxLen:=by
 obtain⟨_,⟨rfl,rfl⟩|⟨g',cap,cur,rfl,_,_,h4,h5,_⟩⟩:=h
 ·exact⟨none,0,rfl,π _,ζh _⟩
 ·exact⟨_,_,rfl,h4,h5⟩
theorem VDR{w:World}{base E size:Nat}{v:Value}{n:Nat}{xs:List Value}(h:w.ownsRow base E size v n xs){q j:Nat}(u:Value)(hq:∀g,v.ownBlock=some g->g≠q):(w.setCell ⟨q,j,none⟩ u).ownsRow base E size v n xs:=
 ZIq h (λg hg=>Below.heap_setCell _ _ _ _ (hq g hg))
theorem JTC{w:World}{base E:Nat}{g n c:Nat}{xs:List Value}{x:Value}(h:w.ownsRow base E 1 (.slice (some ⟨g,0,none⟩) (n+1) c) (n+1) (xs++[x])):w.ownsRow base E 1 (.slice (some ⟨g,0,none⟩) n c) n xs:=by
 obtain⟨h1,⟨h,_⟩|⟨g',cap,X,e1,e2,e3,e4,e5,e6,e7⟩⟩:=h
 ·cases h
 ·simp only[Value.slice.injEq,Option.some.injEq,Addr.mk.injEq,and_true,true_and]at e1;obtain⟨rfl,rfl⟩:=e1;have hl:xs.length=n:=by simp at h1;omega
  refine⟨by rw[hl,ξz],.inr ⟨g,c,X,rfl,e2,e3,by omega,e5,e6,?_⟩⟩;rw[ξz]at e7⊢;have:X.toList.take n=(X.toList.take (n+1)).take n:=by rw[List.take_take];congr 1;omega
  rw[this,e7,<-hl,List.take_left]
end
section
open Go.RowKit
theorem VcC(z:Value)(n:Nat):(Builtin.zeroCells #[z] n).toList=List.replicate n z:=by
 unfold Builtin.zeroCells;apply ζ9
 ·simp
 ·intro j h1 h2;simp[ψi]
section
variable {P:Program} (w:World)
theorem JNG(t it ty e:TypeId)(k:IntKind)(base:Nat)(i:TypeInfo)(z:Value)(ht:P.underlying t=some (.slice e))(hit:P.underlying it=some (.int k))(hi:P.info? e=some i)(hz:i.zero=some z)
  (hsize:i.size=1) (hzs:z.cells=#[z]) (hz1:z.oneCell'=true)
  (v:Value) (n:Nat) (xs:List Value) (hown:w.ownsRow base e 1 v n xs) (m:Nat) (hm:0<m) (h63:n+m<=maxLen) (hbytes:(n+m)*i.bytes<=140737488355328) (hbase:base<=w.heap.size):
  ∃g cap w',(Builtin.append_ #[t,it] ty #[v,.int .i64 m]).run P w=.ok (.slice (some ⟨g,0,none⟩) (n+m) cap) w' ∧
   w'.ownsRow base e 1 (.slice (some ⟨g,0,none⟩) (n+m) cap) (n+m) (xs++List.replicate m z)/\w.grownBy w' v.ownBlock/\(v.ownBlock=some g\/g=w.heap.size)/\g<w'.heap.size:=by
 have hsmall:n+m<=9223372036854775807:=by simp only[maxLen]at h63;omega
 have hmb:(m:Int)*(i.bytes:Int)<=281474976710656:=by
  have h1:m*i.bytes<=(n+m)*i.bytes:=ζl _ Ω;have h2:((m*i.bytes:Nat):Int)=(m:Int)*(i.bytes:Int):=by push_cast;rfl
  omega
 have hw:IntKind.i64.wrap (m:Int)=(m:Int):=ζA _ Ω;have A:¬(m:Int)<0:=Ω
 have J:¬(281474976710656:Int)<(m:Int)*(i.bytes:Int):=Ω
 have D:∀(w:World),(asInt (Value.int .i64 (m:Int))).run P w=.ok (m:Int) w:=λ_=>by simp[asInt,asIntOf]
 have hmle:¬(m:Int)<=0:=Ω
 have Xe:max (m:Int) 0=(m:Int):=Ω
 have I:¬m=0:=Ω
 have hne:¬m*i.size=0:=by rw[hsize];omega
 have hl:xs.length=n:=by have:=hown.1;omega
 have O:(xs++List.replicate m z).length=n+m:=by simp[hl]
 have grown:∀(Y:Nat) (Xb:Option Nat),
   (w.drew.alloc (.cells ((xs++List.replicate m z).toArray++Builtin.zeroCells z.cells (grownCap w (n+m) Y e-(n+m))) e)).ownsRow base e 1
    (.slice (some ⟨w.heap.size,0,none⟩) (n+m) (grownCap w (n+m) Y e)) (n+m) (xs++List.replicate m z) ∧
   w.grownBy (w.drew.alloc (.cells ((xs++List.replicate m z).toArray++Builtin.zeroCells z.cells (grownCap w (n+m) Y e-(n+m))) e)) Xb:=by
  intro Y Xb;have Xf:=grownCap_ge w (n+m) Y e;have Xa:grownCap w (n+m) Y e<=maxLen:=grownCap_le_maxLen w (n+m) Y e h63;refine⟨⟨by omega,.inr ⟨w.heap.size,_,_,rfl,hbase,heap_alloc_new w.drew _,Xf,Xa,?_,?_⟩⟩,⟨rfl,rfl,rfl,by simp,λk hk _=>Below.heap_alloc w.drew _ k hk⟩⟩
  ·rw[Array.size_append,size_zeroCells,hzs,ξa,O];simp;omega
  ·rw[Array.toList_append,ψo,ξz,<-O];exact List.take_left
 have E:Builtin.zeroCells z.cells m=(List.replicate m z).toArray:=by rw[hzs];apply Array.ext';rw[VcC]
 rcases hown.2 with⟨rfl,rfl⟩|⟨g,cap,V,rfl,Xg,hg,hnc,Xa,G,M⟩
 ·obtain rfl:xs=[]:=ζv hl;have U:¬(281474976710656<Builtin.nextslicecap m 0*i.bytes):=by rw[nextslicecap_zero hm];have:=hbytes;simp only[ξN]at this;omega
  have N:¬(9223372036854775807<(m:Int)):=Ω
  have Z:=grown 0 none;simp only[ξN,ξb]at Z⊢;refine⟨_,_,_,?_,Z.1,?_,.inr rfl,by simp⟩
  ·simp[Builtin.append_,run_underlying ht,run_underlying hit,sizeOf,typeInfo,zeroValue,hi,hz,hw,A,J,N,U,Question.forced,run_firstCells_none,newRow,grownCap,hsize,D,Xe,I];rw[E];simp
  ·exact Z.2
 ·by_cases X:n+m<=cap
  ·have Xd:n*i.size+0+(List.replicate m z).length<=V.size:=by rw[hsize,G];simp;omega
   have B:=run_storeCells_at P g (n*i.size) e (List.replicate m z) 0 V w hg (by simpa using Xd) (λu hu=>by rw[ξn hu];exact hz1);simp only[ξj,hsize,ξz]at B;refine⟨g,cap,w.setRow g (V.toList.take n++List.replicate m z++V.toList.drop (n+(List.replicate m z).length)).toArray,?_,⟨by omega,.inr ⟨g,cap,_,rfl,Xg,setRow_heap w g V _ e _ hg,X,Xa,?_,?_⟩⟩,⟨rfl,rfl,rfl,by simp,λk _ hk=>setRow_other w g k _ (λe=>hk (by simp[Value.ownBlock,e]))⟩,.inl rfl,?_⟩
   ·simp[Builtin.append_,run_underlying ht,run_underlying hit,sizeOf,typeInfo,zeroValue,hi,hz,hw,A,J,hsize,D,I,X,E,Addr.add_lit];simp at B;simp[B]
   ·rw[ξz]at G;simp;omega
   ·rw[ξz]at M G;rw[ξz,ψo,M,ζX,<-ζX,<-O];exact List.take_left
   ·simp;exact(ζn.1 hg).1
  ·have U:¬(281474976710656<Builtin.nextslicecap (n+m) cap*i.bytes):=by have:=growslice_fits (show cap<n+m by omega) hbytes;omega
   have N:¬(9223372036854775807<((n:Int)+(m:Int))):=Ω
   have L:∀j u,xs[j]?=some u->w.cell? ((⟨g,0,none⟩:Addr).add j)=some u:=hown.cells (g:=g) rfl;have Xc:=run_firstCells_some (P:=P) w.drew i.size n ⟨g,0,none⟩ n cap xs (by rw[hsize,hl];omega) (by simpa using L);rw[hsize]at Xc;have Z:=grown cap (Value.ownBlock (.slice (some ⟨g,0,none⟩) n cap));refine⟨_,_,_,?_,Z.1,Z.2,.inr rfl,by simp⟩;simp[Builtin.append_,run_underlying ht,run_underlying hit,sizeOf,typeInfo,zeroValue,hi,hz,hw,A,J,N,U,Question.forced,Xc,newRow,grownCap,hsize,D,Xe,I,X,E];congr 2;apply Array.ext';simp
theorem Z2Z{o:Oper}{a:Act}{K:Act->World->Prop}{Q:Exit->Act->World->Prop}(s x:Operand)(t it:TypeId)
  (ho:o.op=.call {callee:=.builtin .append,args:=#[s,x],argTypes:=#[t,it]}) (e:TypeId) (k:IntKind) (base:Nat) (i:TypeInfo) (z:Value) (ht:P.underlying t=some (.slice e)) (hit:P.underlying it=some (.int k)) (hi:P.info? e=some i) (hz:i.zero=some z)
  (hsize:i.size=1) (hzs:z.cells=#[z]) (hz1:z.oneCell'=true)
  (v:Value) (n:Nat) (xs:List Value) (hs:a.eval s=v) (hown:w.ownsRow base e 1 v n xs) (m:Nat) (hx:a.eval x=.int .i64 m) (hm:0<m) (h63:n+m<=maxLen) (hbytes:(n+m)*i.bytes<=140737488355328) (hbase:base<=w.heap.size)
  (h:∀g cap w',w'.ownsRow base e 1 (.slice (some ⟨g,0,none⟩) (n+m) cap) (n+m) (xs++List.replicate m z)->w.grownBy w' v.ownBlock->(v.ownBlock=some g\/g=w.heap.size)->g<w'.heap.size->K (a.put o.dst (.slice (some ⟨g,0,none⟩) (n+m) cap)) w'):o.wp P a w K Q:=by
 obtain⟨g,cap,w',hr,h2,h3,h4,h5⟩:=JNG (P:=P) w t it o.type e k base i z ht hit hi hz hsize hzs hz1 v n xs hown m hm h63 hbytes hbase;unfold Oper.wp execOp;simp only[ho,resolve,invoke,builtin,Sem.run_bind,Sem.run_pure,Result.andThen_ok,List.map_toArray,ξX,List.map_nil,hs,hx,hr];exact h g cap w' h2 h3 h4 h5
theorem ZfD{ops:Array Oper}{rest:List Oper}{o:Oper}{a:Act}{Q:Exit->Act->World->Prop}(hgd:o.guard=none)(s x:Operand)(t it:TypeId)
  (ho:o.op=.call {callee:=.builtin .append,args:=#[s,x],argTypes:=#[t,it]}) (e:TypeId) (k:IntKind) (base:Nat) (i:TypeInfo) (z:Value) (ht:P.underlying t=some (.slice e)) (hit:P.underlying it=some (.int k)) (hi:P.info? e=some i) (hz:i.zero=some z)
  (hsize:i.size=1) (hzs:z.cells=#[z]) (hz1:z.oneCell'=true)
  (v:Value) (n:Nat) (xs:List Value) (hs:a.eval s=v) (hown:w.ownsRow base e 1 v n xs) (m:Nat) (hx:a.eval x=.int .i64 m) (hm:0<m) (h63:n+m<=maxLen) (hbytes:(n+m)*i.bytes<=140737488355328) (hbase:base<=w.heap.size)
  (h:∀g cap w',w'.ownsRow base e 1 (.slice (some ⟨g,0,none⟩) (n+m) cap) (n+m) (xs++List.replicate m z)->w.grownBy w' v.ownBlock->(v.ownBlock=some g\/g=w.heap.size)->g<w'.heap.size->wpList P ops Q rest (a.put o.dst (.slice (some ⟨g,0,none⟩) (n+m) cap)) w'):wpList P ops Q (o :: rest) a w:=
 wpList_plain hgd λ_ hK=>Z2Z w s x t it ho e k base i z ht hit hi hz hsize hzs hz1 v n xs hs hown m hx hm h63 hbytes hbase λg cap w' h2 h3 h4 h5=>hK _ _ (h g cap w' h2 h3 h4 h5)
theorem YNv(t e:TypeId)(base:Nat)(i:TypeInfo)(z:Value)(ht:P.underlying t=some (.slice e))(hi:P.info? e=some i)(hz:i.zero=some z)
  (hzs:z.cells=#[z]) (hz1:z.oneCell'=true) {g cap N:Nat} {xs:List Value} (hown:w.ownsRow base e 1 (.slice (some ⟨g,0,none⟩) N cap) N xs) (o n c:Nat) (hn:0<n) (hon:o+n<=N):
  ∃w',(∀ty,(Builtin.clear_ #[t] ty #[.slice (some ⟨g,o,none⟩) n c]).run P w=.ok (.tuple #[]) w')/\w'.ownsRow base e 1 (.slice (some ⟨g,0,none⟩) N cap) N (xs.take o++List.replicate n z++xs.drop (o+n))/\w.grownBy w' (some g):=by
 have O:Builtin.zeroCells z.cells n=(List.replicate n z).toArray:=by rw[hzs];apply Array.ext';rw[VcC]
 obtain⟨hl,⟨h',_⟩|⟨g',cap',Y,h',hb,hg,J,U,M,X⟩⟩:=hown
 ·simp at h'
 ·simp only[Value.slice.injEq,Option.some.injEq,Addr.mk.injEq,and_true,true_and]at h';obtain⟨rfl,rfl⟩:=h';rw[ξz]at hl M X;have Z:=run_storeCells_at P g o e (List.replicate n z) 0 Y w hg (by simp;omega) (λu hu=>by rw[ξn hu];exact hz1);simp only[ξj,ζC]at Z;have V:n≠0:=Ω
  have hlen:xs.length=N:=hl;refine⟨_,λty=>?_,⟨by simp;omega,.inr ⟨g,cap,(Y.toList.take o++List.replicate n z++Y.toList.drop (o+n)).toArray,rfl,hb,setRow_heap w g Y _ e _ hg,J,U,by simp;omega,?_⟩⟩,⟨rfl,rfl,rfl,by simp,λk _ hk=>setRow_other w g k _ (λe=>hk (by simp[e]))⟩⟩
  ·simp[Builtin.clear_,run_underlying ht,zeroValue,typeInfo,hi,hz,O,V];simp at Z;simp[Z]
  ·rw[ξz,ψo,<-X];apply List.ext_getElem?;intro j;rw[ξE];by_cases hj:j<N
   ·rw[μ hj];by_cases h1:j<o
    ·rw[ζX,ζX,ζB (by simp;omega),ζB (by simp;omega),ξE,ξE,μ h1,μ h1,ξE,μ hj]
    ·by_cases h2:j<o+n
     ·rw[ζX,ζX,ζQ (by simp;omega),ζB (by simp;omega),ζQ (by simp;omega),ζB (by simp;omega)];congr 1;simp;omega
     ·rw[ζQ (by simp;omega),ζQ (by simp;omega),List.getElem?_drop,List.getElem?_drop,ξE,μ (by simp;omega)];congr 1;simp;omega
   ·rw[ϑ hj,ζf (by simp;omega)]
end
end
section
open Go.RowKit Word
structure Pl where
 pg:Nat
 rm:Nat
 tk:List Bool
 bk:List Nat
 wd:List Nat
def Pl.used(p:Pl):Nat:=cnt (at_ p.tk) p.tk.length
structure QIq(p:Pl):Prop where
 pg:Y1d p.pg=true
 pg2:p.pg<=256
 rm:1<=p.rm/\p.rm<=4096
 wl:p.wd.length=p.tk.length*p.pg
 w64:∀x∈p.wd,x<18446744073709551616
 nd:p.bk.Nodup
 bl:∀f∈p.bk,f<p.tk.length/\at_ p.tk f=false
 us:p.used+p.bk.length=p.tk.length
 le:p.tk.length<=p.rm
def VPA(l:List Nat):List Value:=l.map λx=>.int .u64 (x:Nat)
def VfO(l:List Nat):List Value:=l.map λx=>.int .i64 (x:Nat)
def JMo(w:World)(S:Nat->Prop)(q:Nat)(p:Pl):Prop:=
 ∃vw vt vb hi ts,Rec w q 200 [vw,vt,vb,.int .i64 p.rm,.int .i64 p.pg,.int .i64 p.used,.int .i64 hi,.int .i64 ts] ∧
  w.ownsRow 0 22 1 vw p.wd.length (VPA p.wd)/\w.ownsRow 0 4 1 vt p.tk.length (p.tk.map Value.bool)/\w.ownsRow 0 3 1 vb p.bk.length (VfO p.bk) ∧
  (∀g,vw.ownBlock=some g->S g)/\(∀g,vt.ownBlock=some g->S g)/\(∀g,vb.ownBlock=some g->S g)
def plus(S:Nat->Prop)(w:World)(k:Nat):Prop:=S k\/w.heap.size<=k
structure Z9Y(w:World)(S:Nat->Prop)(q:Nat)(p:Pl):Prop where
 ok:QIq p
 sq:S q
 row:JMo w S q p
theorem Z9Y.touch{S T:Nat->Prop}{w w':World}{q:Nat}{p:Pl}(h:Z9Y w S q p)(t:XF4 T w w')(hS:∀k,S k->k<w.heap.size->¬T k):Z9Y w' S q p:=by
 obtain⟨h1,h2,vw,vt,vb,hi,ts,hr,o1,o2,o3,s1,s2,s3⟩:=h;exact⟨h1,h2,vw,vt,vb,hi,ts,hr.touch t (hS _ h2 hr.lt),Zs2 o1 t (λg hg=>hS g (s1 g hg) (Vvr o1 hg).2),Zs2 o2 t (λg hg=>hS g (s2 g hg) (Vvr o2 hg).2),Zs2 o3 t (λg hg=>hS g (s3 g hg) (Vvr o3 hg).2),s1,s2,s3⟩
theorem Z9Y.gr{S:Nat->Prop}{w w':World}{q:Nat}{p:Pl}(h:Z9Y w S q p)(t:Gr w w'):Z9Y w' S q p:=h.touch (t.touch (λ_=>False)) (λ_ _ _ h=>h)
theorem ZpD{l:List Nat}{i:Nat}(h:i<l.length):(VPA l)[i]?=some (.int .u64 (l[i]:Nat)):=by simp[VPA,h]
theorem XS1{l:List Nat}{i:Nat}(h:i<l.length):(VfO l)[i]?=some (.int .i64 (l[i]:Nat)):=by simp[VfO,h]
theorem Yeu{l:List Bool}{i:Nat}(h:i<l.length):(l.map Value.bool)[i]?=some (.bool (at_ l i)):=by simp[at_,h]
section
variable {w:World} {S:Nat->Prop} {q:Nat} {p:Pl}
theorem J7n(hP:Z9Y w S q p):Calls prog 163 #[.pointer (some ⟨q,0,none⟩)] w λe w'=>e=.returned (.int .i64 p.pg)/\w=w':=by
 obtain⟨vw,vt,vb,hi,ts,hr,-⟩:=hP.row;have c4:=hr.cc 4;clear hr hP;go_enter func163,ntmps163;go_wp2;go_ret;exact⟨rfl,rfl⟩
def YHh(p:Pl)(f:Int):Int:=if decide (0<=f)&&at_ p.tk f.toNat then 0 else 6
theorem QtA(hP:Z9Y w S q p)(f:Int):Calls prog 202 #[.pointer (some ⟨q,0,none⟩),.int .i64 f] w λe w'=>e=.returned (.int .i64 (YHh p f))/\w=w':=by
 obtain⟨vw,vt,vb,hi,ts,hr,-,ot,-⟩:=hP.row;have c1:=hr.cc 1;obtain⟨A,c,rfl,hc1,X⟩:=ZfN ot;unfold maxLen at X;have hlr:=hP.ok.le;have hrm:=hP.ok.rm.2;by_cases h0:f<0
 ·have E:YHh p f=6:=by unfold YHh;rw[ψ Ω];rfl
  rw[E];have d0:decide (f<0)=true:=κ h0;clear hr hP ot E;go_enter func202,ntmps202;go_wp2;go_ret;exact⟨rfl,rfl⟩
 ·obtain⟨j,rfl⟩:∃j:Nat,f=j:=⟨f.toNat,by omega⟩;have d0:decide ((j:Int)<0)=false:=ψ h0;by_cases h1:p.tk.length<=j
  ·have E:YHh p j=6:=by unfold YHh;rw[τ,JWT h1,ξ2];rfl
   rw[E];have d1:decide (p.tk.length<=j)=true:=κ h1;clear hr hP ot E;go_enter func202,ntmps202;go_wp2;go_ret;exact⟨rfl,rfl⟩
  ·have d1:decide (p.tk.length<=j)=false:=ψ h1;obtain⟨g,c',e1,-,-,-,-⟩:=YTP ot Ω;simp only[Value.slice.injEq,true_and]at e1;obtain⟨rfl,rfl⟩:=e1;have k:=ZBn ot (Yeu (i:=j) Ω);have hj:(j:Int)<(p.tk.length:Int):=Ω
   cases hb:at_ p.tk j with
   | true=>
    have E:YHh p j=0:=by unfold YHh;rw[τ,hb,κ Ω];rfl
    rw[E];rw[hb]at k;clear hr hP ot E hb;go_enter func202,ntmps202;go_wp2;go_ret;exact⟨rfl,rfl⟩
   | false=>
    have E:YHh p j=6:=by unfold YHh;rw[τ,hb,ξ2];rfl
    rw[E];rw[hb]at k;clear hr hP ot E hb;go_enter func202,ntmps202;go_wp2;go_ret;exact⟨rfl,rfl⟩
theorem QLE(hP:Z9Y w S q p){f:Nat}(hf:f<p.tk.length):f*p.pg+p.pg<=p.wd.length/\p.wd.length<=1048576:=by
 have h1:=hP.ok.wl;have h2:=hP.ok.le;have h3:=hP.ok.rm.2;have h4:=hP.ok.pg2;constructor
 ·rw[h1,<-ζ6];exact ζl _ hf
 ·rw[h1];exact ζb (ψD (ζb h2 h3) h4) (by decide)
theorem XlR(hP:Z9Y w S q p){f:Nat}(hf:f<p.tk.length):∃g c hi ts vt vb,Rec w q 200 [.slice (some ⟨g,0,none⟩) p.wd.length c,vt,vb,.int .i64 p.rm,.int .i64 p.pg,.int .i64 p.used,.int .i64 hi,.int .i64 ts] ∧
  w.ownsRow 0 22 1 (.slice (some ⟨g,0,none⟩) p.wd.length c) p.wd.length (VPA p.wd)/\w.ownsRow 0 4 1 vt p.tk.length (p.tk.map Value.bool)/\w.ownsRow 0 3 1 vb p.bk.length (VfO p.bk) ∧
  S g/\(∀g,vt.ownBlock=some g->S g)/\(∀g,vb.ownBlock=some g->S g)/\p.wd.length<=c/\c<=9223372036854775807:=by
 obtain⟨h1,h2,vw,vt,vb,hi,ts,hr,o1,o2,o3,s1,s2,s3⟩:=hP;have hpg:=Quq h1.pg
 have X:p.wd.length≠0:=by
  rw[h1.wl];have:1<=p.tk.length*p.pg:=Nat.mul_pos Ω Ω;omega
 obtain⟨g,c,rfl,-,h3,h4,-⟩:=YTP o1 X;unfold maxLen at h4;exact⟨g,c,hi,ts,vt,vb,hr,o1,o2,o3,s1 g rfl,s2,s3,h3,by omega⟩
theorem QAq{g c n pg:Nat}{vt vb v3 v5 v6 v7:Value}(hr:Rec w q 200 [.slice (some ⟨g,0,none⟩) n c,vt,vb,v3,.int .i64 pg,v5,v6,v7])(hc:n<=c)(hc2:c<=9223372036854775807)
  {f:Nat} (hp:1<=pg) (h1:f*pg+pg<=n) (h2:n<=1048576):Calls prog 225 #[.pointer (some ⟨q,0,none⟩),.int .i64 f] w λe w'=>e=.returned (.slice (some ⟨g,f*pg,none⟩) pg pg)/\w=w':=by
 have c0:=hr.cc 0;have c4:=hr.cc 4;obtain⟨t,ht⟩:∃t,t=f*pg:=⟨_,rfl⟩;rw[<-ht]at h1⊢;have X:(f:Int)*(pg:Int)=(t:Int):=by rw[ht];push_cast;rfl
 have hw:IntKind.i64.wrap ((f:Int)*(pg:Int))=(t:Int):=by rw[X];exact ζA _ Ω
 have b1:(t:Int)+(pg:Int)<=(c:Int):=Ω
 have n0:¬pg=0:=Ω
 have n1:¬t+pg=t:=Ω
 clear hr ht;go_enter func225,ntmps225;go_wp2;go_ret;refine⟨?_,rfl⟩
 show Ending.returned (.slice (some ⟨g,t,none⟩) (t+pg-t) (t+pg-t))=_
 rw[ξS]
def VIj(p:Pl)(f a:Int):Int:=if YHh p f=0 then (if 0<=a/\a<p.pg then 0 else 11)else 6
theorem ZNg{p:Pl}{f:Int}(h:YHh p f=0):∃j:Nat,f=j/\j<p.tk.length/\at_ p.tk j=true:=by
 unfold YHh at h;cases hb:(decide (0<=f)&&at_ p.tk f.toNat)with
 | false=>rw[hb]at h;cases h
 | true=>
  simp at hb;exact⟨f.toNat,by omega,XaX hb.2,hb.2⟩
theorem VZN(p:Pl)(f:Int):YHh p f=0\/YHh p f=6:=by unfold YHh;split <;> simp
def YvI(w:World)(S:Nat->Prop)(q:Nat)(p:Pl)(f a:Int)(e:Ending)(w':World):Prop:=w=w' ∧
 ((VIj p f a≠0/\e=.returned (.tuple #[.pointer none,.int .i64 (VIj p f a)])) ∨
  (VIj p f a=0/\∃g:Nat,S g/\e=.returned (.tuple #[.pointer (some ⟨g,f.toNat*p.pg+a.toNat,none⟩),.int .i64 0])/\w.cell? ⟨g,f.toNat*p.pg+a.toNat,none⟩=some (.int .u64 (p.wd.getD (f.toNat*p.pg+a.toNat) 0:Nat))/\w.frozen? ⟨g,f.toNat*p.pg+a.toNat,none⟩=false ∧
   ∀x:Nat,x<18446744073709551616->Z9Y (w.setCell ⟨g,f.toNat*p.pg+a.toNat,none⟩ (.int .u64 x)) S q {p with wd:=p.wd.set (f.toNat*p.pg+a.toNat) x}))
theorem YEA(l:List Nat)(i x:Nat):(VPA l).set i (.int .u64 (x:Nat))=VPA (l.set i x):=by unfold VPA;rw[ξG]
theorem QTa{p:Pl}(h:QIq p)(i x:Nat)(hx:x<18446744073709551616):QIq {p with wd:=p.wd.set i x}:=
 ⟨h.pg,h.pg2,h.rm,by simp[h.wl],λy hy=>by rcases ζp hy with h1|h1;exact h.w64 y h1;exact h1▸hx,h.nd,h.bl,h.us,h.le⟩
theorem VoF(hP:Z9Y w S q p)(f a:Int):Calls prog 231 #[.pointer (some ⟨q,0,none⟩),.int .i64 f,.int .i64 a] w (YvI w S q p f a):=by
 have HP:=hid hP;rcases VZN p f with hc|hc
 ·obtain⟨j,rfl,hj,hat⟩:=ZNg hc;obtain⟨g,c,hi,ts,vt,vb,hr,o1,o2,o3,sg,s2,s3,O,D⟩:=XlR hP hj;obtain⟨L,I⟩:=QLE hP hj;have c4:=hr.cc 4;have hpg:=Quq hP.ok.pg;have HR:=hid hr;have HC:=hid hc;have X:=hid o1;have HS:=hid (ν sg (ν s2 s3));have Z:=hid o2;have U:=hid o3;have hp2:=hP.ok.pg2;clear hr o1 o2 o3 sg s2 s3 hP;by_cases Y:a<0
  ·have E:VIj p j a=11:=by unfold VIj;rw[μ hc,ϑ Ω]
   have HE:=hid E;have d0:decide (a<0)=true:=κ Y;clear hc E;go_enter func231,ntmps231;go_wp2_with(go_at_call 202;refine(QtA HP.o j).mono ?_;rintro e w1 ⟨rfl,rfl⟩;rw[HC.o]);go_ret2;exact⟨rfl,.inl ⟨by rw[HE.o];decide,by rw[HE.o];rfl⟩⟩
  ·obtain⟨b,rfl⟩:∃b:Nat,a=b:=⟨a.toNat,by omega⟩;have d0:decide ((b:Int)<0)=false:=ψ Y;by_cases M:p.pg<=b
   ·have E:VIj p j b=11:=by unfold VIj;rw[μ hc,ϑ Ω]
    have HE:=hid E;have d1:decide (p.pg<=b)=true:=κ M;clear hc E;go_enter func231,ntmps231;go_wp2_with(go_at_call 202;refine(QtA HP.o j).mono ?_;rintro e w1 ⟨rfl,rfl⟩;rw[HC.o]);go_ret2;exact⟨rfl,.inl ⟨by rw[HE.o];decide,by rw[HE.o];rfl⟩⟩
   ·have E:VIj p j b=0:=by unfold VIj;rw[μ hc,μ Ω]
    have HE:=hid E;have d1:decide (p.pg<=b)=false:=ψ M;have hlt:(b:Int)<(p.pg:Int):=Ω
    clear hc E;go_enter func231,ntmps231
    go_wp2_with(first
     | (go_at_call 202;refine(QtA HP.o j).mono ?_;rintro e w1 ⟨rfl,rfl⟩;rw[HC.o])
     | (go_at_call 225;refine(QAq HR.o O D Ω L I).mono ?_;rintro e w1 ⟨rfl,rfl⟩))
    go_ret2;obtain⟨i,V⟩:∃i,i=j*p.pg+b:=⟨_,rfl⟩;have N:i<p.wd.length:=Ω
    have k:=ZBn X.o (ZpD N);refine⟨rfl,.inr ⟨HE.o,g,HS.o.1,by rw[τ,τ];rfl,?_,QxS X.o _,λx hx=>?_⟩⟩
    ·rw[τ,τ,<-V,k,φ,δ N];rfl
    ·rw[τ,τ,<-V];have J:=(World.ownsRow.stored X.o i (.int .u64 (x:Nat))).1;rw[YEA]at J;refine⟨QTa HP.o.ok i x hx,HP.o.sq,_,vt,vb,hi,ts,VDR HR.o _ (λg' hg'=>?_),by simpa using J,VDR Z.o _ (λg' hg'=>?_),VDR U.o _ (λg' hg'=>?_),λg' hg'=>by cases hg';exact HS.o.1,HS.o.2.1,HS.o.2.2⟩
     ·exact YnK HR.o X.o (by decide) hg' rfl
     ·exact YnK Z.o X.o (by decide) hg' rfl
     ·exact YnK U.o X.o (by decide) hg' rfl
 ·have E:VIj p f a=6:=by unfold VIj;rw[ϑ Ω]
  have HE:=hid E;have HC:=hid hc;clear hP hc E;go_enter func231,ntmps231;go_wp2_with(go_at_call 202;refine(QtA HP.o f).mono ?_;rintro e w1 ⟨rfl,rfl⟩;rw[HC.o]);go_ret2;exact⟨rfl,.inl ⟨by rw[HE.o];decide,by rw[HE.o];rfl⟩⟩
def Q0D(p:Pl)(f a:Int):Nat:=if VIj p f a=0 then p.wd.getD (f.toNat*p.pg+a.toNat) 0 else 0
def QrR(p:Pl)(f a:Int)(x:Nat):Pl:=if VIj p f a=0 then {p with wd:=p.wd.set (f.toNat*p.pg+a.toNat) x}else p
theorem Xn2(hP:Z9Y w S q p)(f a:Int):Calls prog 210 #[.pointer (some ⟨q,0,none⟩),.int .i64 f,.int .i64 a] w λe w'=>e=.returned (.tuple #[.int .u64 (Q0D p f a:Nat),.int .i64 (VIj p f a)])/\w=w':=by
 have HP:=hid hP;clear hP;by_cases hc:VIj p f a=0
 ·have HC:=hid hc;have HV:Hid (Q0D p f a=p.wd.getD (f.toNat*p.pg+a.toNat) 0):=⟨by unfold Q0D;rw[μ hc]⟩;clear hc;go_enter func210,ntmps210;go_wp2_with(go_at_call 231;refine(VoF HP.o f a).mono ?_;rintro e w1 ⟨rfl,⟨h,-⟩|⟨-,g,-,rfl,k,-,-⟩⟩;(exact absurd HC.o h));go_ret2;exact⟨Qh8 (by rw[HV.o,φ];rfl) (Yhd HC.o.symm),rfl⟩
 ·have HC:=hid hc;obtain⟨c,hce⟩:∃c,c=VIj p f a:=⟨_,rfl⟩;have hc0:(c !=0)=true:=by rw[hce];simpa using hc
  have X:=hid hce.symm;have HV:Hid (Q0D p f a=0):=⟨by unfold Q0D;rw[ϑ hc]⟩;clear hc hce;go_enter func210,ntmps210;go_wp2_with(go_at_call 231;refine(VoF HP.o f a).mono ?_;rintro e w1 ⟨rfl,⟨-,rfl⟩|⟨h,-⟩⟩;rotate_left;(exact absurd h HC.o);rw[X.o]);go_ret2;exact⟨Qh8 (by rw[HV.o];rfl) (Yhd X.o.symm),rfl⟩
def JmU(w:World)(S:Nat->Prop)(q:Nat)(p:Pl)(f a:Int)(x:Nat)(e:Ending)(w':World):Prop:=e=.returned (.int .i64 (VIj p f a))/\XF4 S w w'/\Z9Y w' S q (QrR p f a x)
theorem YBJ(hP:Z9Y w S q p)(f a:Int)(x:Nat)(hx:x<18446744073709551616):Calls prog 211 #[.pointer (some ⟨q,0,none⟩),.int .i64 f,.int .i64 a,.int .u64 x] w (JmU w S q p f a x):=by
 have HP:=hid hP;clear hP;by_cases hc:VIj p f a=0
 ·have HC:=hid hc;have HV:Hid (QrR p f a x={p with wd:=p.wd.set (f.toNat*p.pg+a.toNat) x}):=⟨by unfold QrR;rw[μ hc]⟩;clear hc;go_enter func211,ntmps211;go_wp2_with(go_at_call 231;refine(VoF HP.o f a).mono ?_;rintro e w1 ⟨rfl,⟨h,-⟩|⟨-,g,sg,rfl,k,kf,hs⟩⟩;(exact absurd HC.o h);have X:=hid (ν sg hs);clear sg hs);go_ret;exact⟨ZzN HC.o.symm,(XF4.refl S w).setCell (λ_=>X.o.1) _,by rw[HV.o];exact X.o.2 x hx⟩
 ·have HC:=hid hc;obtain⟨c,hce⟩:∃c,c=VIj p f a:=⟨_,rfl⟩;have hc0:(c==0)=false:=by rw[hce];simpa using hc
  have Y:=hid hce.symm;have HV:Hid (QrR p f a x=p):=⟨by unfold QrR;rw[ϑ hc]⟩;clear hc hce;go_enter func211,ntmps211;go_wp2_with(go_at_call 231;refine(VoF HP.o f a).mono ?_;rintro e w1 ⟨rfl,⟨-,rfl⟩|⟨h,-⟩⟩;rotate_left;(exact absurd h HC.o);rw[Y.o]);go_ret;exact⟨ZzN Y.o.symm,XF4.refl S w,by rw[HV.o];exact HP.o⟩
end
end
section
open Go.RowKit Word
def Y4M(n:Int):Bool:=decide (1<=n)&&decide (n<=4096)
def Jnk(n:Int):Bool:=Y1d n&&decide (n<=256)
def Pl.none(pg rm:Nat):Pl:=⟨pg,rm,[],[],[]⟩
theorem Xgr{pg rm:Nat}(h1:Y4M rm=true)(h2:Jnk pg=true):QIq (Pl.none pg rm):=by
 unfold Y4M at h1;unfold Jnk at h2;simp at h1 h2;exact⟨h2.1,by show pg<=256;omega,by show 1<=rm/\rm<=4096;omega,by simp[Pl.none],λx h=>(by cases h),ξ1,λf h=>(by cases h),rfl,ζh _⟩
def VuW(w:World)(n k:Int)(e:Ending)(w':World):Prop:=
 ((Y4M n&&Jnk k)=false/\e=.returned (.tuple #[.pointer none,.int .i64 5])/\w=w') ∨
 ((Y4M n&&Jnk k)=true/\e=.returned (.tuple #[.pointer (some ⟨w.heap.size,0,none⟩),.int .i64 0])/\Gr w w'/\Z9Y w' (λb=>w.heap.size<=b) w.heap.size (Pl.none k.toNat n.toNat))
theorem XXu(n k:Int)(hk:k<=9223372036854775807)(w:World):Calls prog 80 #[.int .i64 n,.int .i64 k] w (VuW w n k):=by
 have X:((Y4M n&&Jnk k)=false/\(decide (n<1)=true\/(decide (n<1)=false/\decide (4096<n)=true)\/(decide (n<1)=false/\decide (4096<n)=false/\XuW k=false)\/(decide (n<1)=false/\decide (4096<n)=false/\XuW k=true/\decide (256<k)=true))) ∨
   ((Y4M n&&Jnk k)=true/\decide (n<1)=false/\decide (4096<n)=false/\XuW k=true/\decide (256<k)=false):=by
  have hb:=XYi k;unfold Y4M Jnk;rw[hb];by_cases h1:n<1
  ·exact .inl ⟨by rw[ψ (show ¬1<=n by omega)];rfl,.inl (κ h1)⟩
  ·by_cases h2:4096<n
   ·exact .inl ⟨by rw[ψ (show ¬n<=4096 by omega)];simp,.inr (.inl ⟨ψ h1,κ h2⟩)⟩
   ·rw[κ (show 1<=n by omega),κ (show n<=4096 by omega)];cases hp:XuW k with
    | false=>exact .inl ⟨rfl,.inr (.inr (.inl ⟨ψ h1,ψ h2,rfl⟩))⟩
    | true=>
     by_cases h3:256<k
     ·exact .inl ⟨by rw[ψ (show ¬k<=256 by omega)];simp,.inr (.inr (.inr ⟨ψ h1,ψ h2,rfl,κ h3⟩))⟩
     ·exact .inr ⟨by rw[κ (show k<=1024 by omega),κ (show k<=256 by omega)];rfl,ψ h1,ψ h2,rfl,ψ h3⟩
 rcases X with⟨hf,hw⟩|⟨ht,h1,h2,h3,h4⟩
 ·have HF:=hid hf;obtain⟨b,hb⟩:∃b,b=XuW k:=⟨_,rfl⟩;have HB:=hid hb.symm;rw[<-hb]at hw;clear hf hb;rcases hw with h1|⟨h1,h2⟩|⟨h1,h2,rfl⟩|⟨h1,h2,rfl,h3⟩
  all_goals
   go_enter func80,ntmps80;go_wp2_with(go_at_call 119;refine(VWY k hk _).mono ?_;rintro e w1 ⟨rfl,rfl⟩;rw[HB.o]);go_ret2;exact .inl ⟨HF.o,rfl,rfl⟩
 ·have HF:=hid ht;have HB:=hid h3;have hn:=of_decide_eq_false h1;obtain⟨m,rfl⟩:∃m:Nat,n=m:=⟨n.toNat,by omega⟩;have Y:=(ζ0.1 (ζ0.1 ht).2).1;have hkb:=Quq Y;obtain⟨g,rfl⟩:∃g:Nat,k=g:=⟨k.toNat,by omega⟩;clear ht h3 hn Y;go_enter func80,ntmps80;go_wp2_with(go_at_call 119;refine(VWY _ hk _).mono ?_;rintro e w1 ⟨rfl,rfl⟩;rw[HB.o]);go_ret2;obtain⟨hr,hp⟩:=ζ0.1 HF.o;refine .inr ⟨HF.o,rfl,(Gr.refl _).alloc _,?_⟩;rw[τ,τ];refine⟨Xgr hr hp,π _,.slice none 0 0,.slice none 0 0,.slice none 0 0,0,0,Rec.new _ _ _,Vm9 _ _ _ _,Vm9 _ _ _ _,Vm9 _ _ _ _,(λg h=>by cases h),(λg h=>by cases h),(λg h=>by cases h)⟩
def Pl.next(p:Pl):Nat:=if p.bk=[]then p.tk.length else p.bk.getLastD 0
def JA7(l:List Nat)(i n:Nat):List Nat:=l.take i++List.replicate n 0++l.drop (i+n)
def Pl.fresh(p:Pl):Pl:=if p.bk=[]then {p with tk:=p.tk++[false],wd:=p.wd++List.replicate p.pg 0}else {p with bk:=p.bk.dropLast}
def Pl.take(p:Pl):Pl:={p.fresh with tk:=p.fresh.tk.set p.next true,wd:=JA7 p.fresh.wd (p.next*p.pg) p.pg}
theorem YGK{l:List Nat}{i n:Nat}(h:i+n<=l.length):(JA7 l i n).length=l.length:=by unfold JA7;simp;omega
theorem YMA{l:List Nat}{i n:Nat}(h:i+n<=l.length)(j:Nat):(JA7 l i n).getD j 0=if i<=j/\j<i+n then 0 else l.getD j 0:=by
 unfold JA7;simp only[φ];by_cases h1:j<i
 ·rw[ϑ Ω,ζX,ζB (by simp;omega),ξE,μ h1]
 ·by_cases h2:j<i+n
  ·rw[μ Ω,ζX,ζQ (by simp;omega),ζB (by simp;omega),ζD]
   split <;> rfl
  ·rw[ϑ Ω,ζQ (by simp;omega),List.getElem?_drop];congr 2;simp;omega
theorem YWy:(prog.info? 3).map (λi=>(i.zero,i.size,i.bytes))=some (some (.int .i64 0),1,8):=by kernel_rfl
theorem Vck:(prog.info? 4).map (λi=>(i.zero,i.size,i.bytes))=some (some (.bool false),1,1):=by kernel_rfl
theorem Vuv(l:List Bool):cnt (at_ (l++[false])) (l++[false]).length=cnt (at_ l) l.length:=by
 have h1:(l++[false]).length=l.length+1:=by simp
 rw[h1,Z10];have h2:at_ (l++[false]) l.length=false:=by simp[at_]
 have h3:cnt (at_ (l++[false])) l.length=cnt (at_ l) l.length:=XmU (λi hi=>by simp[at_,φ,ζB hi]);rw[h2,h3];rfl
def JQN(w:World)(S:Nat->Prop)(q:Nat)(p:Pl)(e:Ending)(w':World):Prop:=e=.returned (.int .i64 (p.next:Nat))/\XF4 S w w'/\JMo w' (plus S w) q p.fresh
section
variable {w:World} {S:Nat->Prop} {q:Nat} {p:Pl}
theorem VPE(hP:Z9Y w S q p)(hb:p.bk≠[]):Calls prog 224 #[.pointer (some ⟨q,0,none⟩)] w (JQN w S q p):=by
 obtain⟨ok,sq,vw,vt,vb,hi,ts,hr,o1,o2,o3,s1,s2,s3⟩:=hP;obtain⟨bi,f,X⟩:∃bi f,p.bk=bi++[f]:=⟨p.bk.dropLast,p.bk.getLast hb,(ξW hb).symm⟩;have hN:p.next=f:=by unfold Pl.next;rw[ϑ hb,X];simp
 have hF:p.fresh={p with bk:=bi}:=by unfold Pl.fresh;rw[ϑ hb,X];simp
 have hbl:p.bk.length<=4096:=by have:=ok.us;have:=ok.le;have:=ok.rm.2;omega
 have J:p.bk.length=bi.length+1:=by rw[X];simp
 obtain⟨gb,cb,rfl,-,V,I,hgl⟩:=YTP o3 Ω;have k:=ZBn o3 (XS1 (i:=bi.length) Ω);have O:p.bk[bi.length]' Ω=f:=by simp[X]
 rw[O]at k;have Y:=o3;rw[X]at Y;have e1:(bi++[f]).length=bi.length+1:=by simp
 have e2:VfO (bi++[f])=VfO bi++[.int .i64 (f:Nat)]:=by simp[VfO]
 rw[e1,e2]at Y;have Z:=JTC Y;have c2:=hr.cc 2;rw[J]at c2 V;have cf:=hr.free 2;have HF:=hid hF;have HN:=hid hN;have HR:=hid hr;have H1:=hid o1;have H2:=hid o2;have H3:=hid Z;have HO3:=hid o3;unfold maxLen at I;obtain⟨N,U⟩:∃N,N=bi.length:=⟨_,rfl⟩;rw[<-U]at c2 J k V;have M:=hid U;clear hr o1 o2 o3 Y X hF hN e1 e2 Z hb O U;go_enter func224,ntmps224;go_wp2;go_ret;refine⟨by rw[HN.o];rfl,(XF4.refl S w).setCell (λ_=>sq) _,?_⟩;rw[HF.o];refine⟨vw,vt,.slice (some ⟨gb,0,none⟩) N cb,hi,ts,HR.o.set 2 _,VDR H1.o _ (λg hg=>?_),VDR H2.o _ (λg hg=>?_),?_,λg hg=>.inl (s1 g hg),λg hg=>.inl (s2 g hg),λg hg=>.inl (s3 g hg)⟩
 ·exact YnK H1.o HR.o (by decide) hg rfl
 ·exact YnK H2.o HR.o (by decide) hg rfl
 ·have:=H3.o;rw[<-M.o]at this
  show World.ownsRow _ 0 _ 1 _ bi.length _
  rw[<-M.o];exact VDR this _ (λg hg=>YnK this HR.o (by decide) hg rfl)
theorem Yqu(hP:Z9Y w S q p)(hb:p.bk=[]):Calls prog 224 #[.pointer (some ⟨q,0,none⟩)] w (JQN w S q p):=by
 obtain⟨ok,sq,vw,vt,vb,hi,ts,hr,o1,o2,o3,s1,s2,s3⟩:=hP;obtain⟨iu,Ya,Yc,Xx,Xz⟩:=info_parts ZiX;obtain⟨ib,Xv,Yb,Yd,Yf⟩:=info_parts Vck;have hN:p.next=p.tk.length:=by unfold Pl.next;rw[μ hb]
 have hF:p.fresh={p with tk:=p.tk++[false],wd:=p.wd++List.replicate p.pg 0}:=by unfold Pl.fresh;rw[μ hb]
 obtain⟨Ab,cb,rfl,hcb1,Xr⟩:=ZfN o3;obtain⟨At,ct,rfl,hct1,Xt⟩:=ZfN o2;obtain⟨Aw,cw,rfl,hcw1,Xk⟩:=ZfN o1;have Xp:p.bk.length=0:=by rw[hb];rfl
 have Xs:p.tk.length<=4096:=ζb ok.le ok.rm.2;have hpg:=Quq ok.pg;have Xn:=ok.pg2;have Xw:p.wd.length<=1048576:=by rw[ok.wl];exact ζb (ψD Xs Xn) (by decide)
 have c0:=hr.cc 0;have c1:=hr.cc 1;have c2:=hr.cc 2;have c4:=hr.cc 4;have cf:=λj=>hr.free j;rw[Xp]at c2;have hql:=hr.lt;have HF:=hid hF;have HN:=hid hN;have HR:=hid hr;have H1:=hid o1;have H2:=hid o2;have H3:=hid o3;have HB:=hid (ν hb Xp);unfold maxLen at Xr Xt Xk;obtain⟨N,Xf⟩:∃N,N=p.tk.length:=⟨_,rfl⟩;have X:=hid Xf;rw[<-Xf]at c1 Xs;obtain⟨M,Xg⟩:∃M,M=p.wd.length:=⟨_,rfl⟩;have G:=hid Xg;rw[<-Xg]at c0 Xw;have Xm:=cf 1;have Xq:=cf 0;have HS:=hid (ν s1 (ν s2 s3))
 have Xh:∀g,(Value.slice At N ct).ownBlock=some g->g≠q:=λg hg=>by
  have:=YnK o2 hr (by decide) (g1:=g) (g2:=q) (by cases At <;> simp[Value.ownBlock]at hg⊢;exact hg) rfl;exact this
 clear hr o1 o2 o3 hF hN hb Xf Xg s1 s2 s3 cf;go_enter func224,ntmps224;go_wp2_with(at_builtin;refine wpList_append_lies _ rfl _ _ 198 rfl 0 4 ib _ 1 1 underlying198 Xv Yb Yd Yf rfl (by decide) (.slice At N ct) N (p.tk.map Value.bool) rfl (by rw[X.o];exact H2.o.alloc _) ⟨w.heap.size,0,none⟩ 1 1 [.bool false] rfl rfl (ξI (cs:=#[.bool false]) (t:=4) (fr:=(0,0)) (heap_alloc_new w _)) (by simp[Value.oneCell']) Ω (by unfold maxLen;omega) Ω (ζh _) (w.heap.size+1) (by simp) ?_;intro g2 A w2 E J U Xc;have t2:XF4 (λk=>(Value.slice At N ct).ownBlock=some k) w w2:=(((Gr.refl w).alloc _).touch _).trans (VxQ J _ (λk e _=>e));have O:=hid (HR.o.touch t2 (λe=>Xh q e rfl));have d1:=O.o.cc 1;have Xu:=O.o.free 1;have Xd:=hid t2;have Xl:=hid E;have Yg:=hid (ν U Xc);clear E J U Xc t2);obtain⟨W3,Y⟩:∃W3,W3=w2.setCell ⟨q,1,none⟩ (.slice (some ⟨g2,0,none⟩) (N+1) A):=⟨_,rfl⟩;rw[<-Y];have R3:=O.o.set 1 (.slice (some ⟨g2,0,none⟩) (N+1) A);rw[<-Y]at R3
 have T3:W3.ownsRow 0 4 1 (.slice (some ⟨g2,0,none⟩) (N+1) A) (N+1) (p.tk.map Value.bool++[.bool false]):=by
  rw[Y];exact VDR Xl.o _ (λg hg=>YnK Xl.o O.o (by decide) hg rfl)
 have Xb:∀g,(Value.slice Aw p.wd.length cw).ownBlock=some g->¬(Value.slice At N ct).ownBlock=some g:=λg hg e=>YnK H1.o (by rw[X.o]at e;exact H2.o) (by decide) hg (by rw[X.o]at e;exact e) rfl;have Xa:∀g,(Value.slice Ab p.bk.length cb).ownBlock=some g->¬(Value.slice At N ct).ownBlock=some g:=λg hg e=>YnK H3.o (by rw[X.o]at e;exact H2.o) (by decide) hg (by rw[X.o]at e;exact e) rfl;have U2:=Zs2 H1.o Xd.o Xb
 have U3:W3.ownsRow 0 22 1 (.slice Aw p.wd.length cw) p.wd.length (VPA p.wd):=by
  rw[Y];exact VDR U2 _ (λg hg=>YnK U2 O.o (by decide) hg rfl)
 have B2:=Zs2 H3.o Xd.o Xa
 have B3:W3.ownsRow 0 3 1 (.slice Ab p.bk.length cb) p.bk.length (VfO p.bk):=by
  rw[Y];exact VDR B2 _ (λg hg=>YnK B2 O.o (by decide) hg rfl)
 have I:XF4 S w W3:=by
  rw[Y];refine(Xd.o.mono (T:=S) (λk _ h=>?_)).setCell (λ_=>sq) _;rw[X.o]at h;exact HS.o.2.1 k h
 have HW:=hid (ν R3 (ν T3 (ν U3 (ν B3 I))));have y0:=R3.cc 0;have y4:=R3.cc 4;have yf:=R3.free 0;rw[<-G.o]at y0 U3;have HU:=hid U3;clear Y R3 T3 U3 U2 B2 B3 I Xb Xa c0 c1 c2 c4 Xq Xm d1 Xu Xh;obtain⟨Sx,D⟩:∃Sx:World->Prop,Sx=λW'=>W'.cell? ⟨q,0,none⟩=some (.slice Aw M cw)/\W'.cell? ⟨q,4,none⟩=some (.int .i64 p.pg):=⟨_,rfl⟩;have x0:∀p':ZJV Sx,p'.w.cell? ⟨q,0,none⟩=some (.slice Aw M cw):=λp'=>(ZJV.get D p').1;have x4:∀p':ZJV Sx,p'.w.cell? ⟨q,4,none⟩=some (.int .i64 p.pg):=λp'=>(ZJV.get D p').2;have Xo:Sx W3.drew:=by rw[D];exact⟨y0,y4⟩
 have Ye:=hid D;clear D;have inst:Inhabited (ZJV Sx):=⟨⟨_,Xo⟩⟩;refine Vv2 Sx 12 [([0,1,2,3,4,5,6,7,8],9),([10,11],12)] [] (by kernel_rfl) (by kernel_rfl) Xo ?_;refine XGW ?_;simp only[XZy,ζ,ξ]
 repeat(go_big_quiet_step (fail))
 refine θ ?_;go_wp2_with(at_builtin;refine ZfD _ rfl _ _ 61 3 rfl 22 .i64 0 iu _ underlying61 underlying3 Ya Yc Xx rfl (by decide) (.slice Aw M cw) M (VPA p.wd) rfl (Y9I HU.o (Gr.refl W3).drew) p.pg rfl Ω (by unfold maxLen;omega) (by rw[Xz];omega) (ζh _) ?_;intro g4 c4 w4 L V Z hlt4)
 go_frame
 have t4:XF4 (λk=>(Value.slice Aw M cw).ownBlock=some k) W3 w4:=((Gr.refl W3).drew.touch _).trans (VxQ V _ (λk e _=>e));have Xj:¬(Value.slice Aw M cw).ownBlock=some q:=λe=>YnK HU.o HW.o.1 (by decide) e rfl rfl;have R4:=HW.o.1.touch t4 Xj;have B:=hid R4;have z0:=R4.cc 0;have z4:=R4.cc 4;have zf:=R4.free 0;have Xe:=hid t4;have Xi:=hid L;have Xy:=hid Z;rw[<-G.o]at z0;clear R4 t4 L V Z Xj;refine⟨.inr (ZJV.of (by rw[Ye.o];exact⟨z0,z4⟩)),?_⟩;refine XGW ?_;simp only[XZy,ζ,ξ]
 repeat(go_big_quiet_step (fail))
 refine θ ?_;go_wp2;refine⟨.inl trivial,?_⟩;refine Z9U ?_;refine θ ?_;refine β ?_;go_wp2;go_ret;obtain⟨R3,T3,U3,B3,I⟩:=HW.o;have hs3:=I.size;have T4:=Zs2 T3 Xe.o (λg hg e=>YnK T3 HU.o (by decide) hg e rfl);have B4:=Zs2 B3 Xe.o (λg hg e=>YnK B3 HU.o (by decide) hg e rfl);have U:=Yg.o;have Z:=Xy.o;refine⟨by rw[HN.o,<-X.o];rfl,(I.trans' Xe.o (λk hk h=>?_)).setCell (λ_=>sq) _,?_⟩
 ·rw[G.o]at h;exact HS.o.1 k h
 ·rw[HF.o];have hu:({p with tk:=p.tk++[false],wd:=p.wd++List.replicate p.pg 0}:Pl).used=p.used:=Vuv p.tk;refine⟨.slice (some ⟨g4,0,none⟩) (M+p.pg) c4,.slice (some ⟨g2,0,none⟩) (N+1) A,.slice Ab p.bk.length cb,hi,ts,?_,?_,?_,VDR B4 _ (λg hg=>YnK B4 B.o (by decide) hg rfl),λg hg=>?_,λg hg=>?_,λg hg=>.inl (HS.o.2.2 g hg)⟩
  ·rw[hu];exact B.o.set 0 _
  ·have:=VDR (q:=q) (j:=0) Xi.o (.slice (some ⟨g4,0,none⟩) (M+p.pg) c4) (λg hg=>YnK Xi.o B.o (by decide) hg rfl);have e1:(p.wd++List.replicate p.pg 0).length=M+p.pg:=by rw[G.o];simp
   have e2:VPA (p.wd++List.replicate p.pg 0)=VPA p.wd++List.replicate p.pg (.int .u64 0):=by unfold VPA;rw[ζO,ψq];rfl
   show World.ownsRow _ 0 _ 1 _ (p.wd++List.replicate p.pg 0).length (VPA (p.wd++List.replicate p.pg 0))
   rw[e1,e2];exact this
  ·have:=VDR (q:=q) (j:=0) T4 (.slice (some ⟨g4,0,none⟩) (M+p.pg) c4) (λg hg=>YnK T4 B.o (by decide) hg rfl)
   show World.ownsRow _ 0 _ 1 _ (p.tk++[false]).length ((p.tk++[false]).map Value.bool)
   rw[ζO,show (p.tk++[false]).length=N+1 by rw[X.o];simp];exact this
  ·cases hg;rcases Z with h|h
   ·rw[G.o]at h;exact .inl (HS.o.1 _ h)
   ·right;show w.heap.size<=g4;have:W3.drew.heap.size=W3.heap.size:=rfl;omega
  ·cases hg;rcases U.1 with h|h
   ·rw[X.o]at h;exact .inl (HS.o.2.1 _ h)
   ·right;show w.heap.size<=g2;omega
theorem VKq(hP:Z9Y w S q p):Calls prog 224 #[.pointer (some ⟨q,0,none⟩)] w (JQN w S q p):=by
 by_cases hb:p.bk=[]
 ·exact Yqu hP hb
 ·exact VPE hP hb
theorem Z3f(hP:QIq p):p.next<p.fresh.tk.length/\p.fresh.wd.length=p.fresh.tk.length*p.pg/\at_ p.fresh.tk p.next=false:=by
 unfold Pl.next Pl.fresh
 by_cases hb:p.bk=[]
 ·rw[μ hb,μ hb];refine⟨by simp,by simp[hP.wl,ζ6],by simp[at_]⟩
 ·rw[ϑ hb,ϑ hb]
  have hm:p.bk.getLastD 0∈p.bk:=by
   obtain⟨bi,x,X⟩:∃bi x,p.bk=bi++[x]:=⟨p.bk.dropLast,p.bk.getLast hb,(ξW hb).symm⟩;rw[X];simp
  have:=hP.bl _ hm;exact⟨this.1,hP.wl,this.2⟩
theorem QXV{l:List Bool}{k i:Nat}{x:Bool}(hk:k<l.length):at_ (l.set k x) i=if i=k then x else at_ l i:=XRU l k i x hk
theorem Jso{l:List Bool}{i:Nat}(hi:i<l.length)(h:at_ l i=false):cnt (at_ (l.set i true)) l.length=cnt (at_ l) l.length+1:=by
 have X:∀k,k<=l.length->cnt (at_ (l.set i true)) k=cnt (at_ l) k+if i<k then 1 else 0:=by
  intro k
  induction k with
  | zero=>intro _;rfl
  | succ k ih=>
   intro hk;rw[Z10,Z10,ih Ω,QXV hi];by_cases e:k=i
   ·subst e;rw[μ rfl,h,ϑ (ζN _),μ (ξr _)];simp
   ·rw[ϑ e];by_cases h1:i<k
    ·rw[μ h1,μ Ω];omega
    ·rw[ϑ h1,ϑ Ω];omega
 rw[X _ (π _),μ hi]
theorem V4E{l:List Bool}{i:Nat}(hi:i<l.length)(h:at_ l i=true):cnt (at_ (l.set i false)) l.length+1=cnt (at_ l) l.length:=by
 have h2:=Jso (l:=l.set i false) (i:=i) (by simpa using hi) (by rw[QXV hi,μ rfl]);rw[ψp,υ]at h2
 have:l.set i true=l:=by
  apply ζ9 (by simp);intro j h1 h3;rw[ψg]
  split
  ·rename_i e;subst e;simpa[at_,hi]using h.symm
  ·rfl
 rw[this]at h2;exact h2.symm
theorem ZGf(h:QIq p)(hroom:p.used<p.rm):QIq p.take:=by
 obtain⟨h1,h2,h3⟩:=Z3f h
 have U:p.fresh.used=p.used:=by
  unfold Pl.used Pl.fresh
  split
  ·exact Vuv p.tk
  ·rfl
 have hf:(p.next*p.pg)+p.pg<=p.fresh.wd.length:=by rw[h2,<-ζ6];exact ζl _ h1
 have e0:p.take.pg=p.pg/\p.take.rm=p.rm/\p.take.bk=p.fresh.bk:=by unfold Pl.take Pl.fresh;split <;> exact⟨rfl,rfl,rfl⟩
 have e1:p.take.tk=p.fresh.tk.set p.next true:=rfl
 have e2:p.take.wd=JA7 p.fresh.wd (p.next*p.pg) p.pg:=rfl
 have eu:p.take.used=p.used+1:=by
  rw[<-U];unfold Pl.used;rw[e1,υ];exact Jso h1 h3
 refine⟨by rw[e0.1];exact h.pg,by rw[e0.1];exact h.pg2,by rw[e0.2.1];exact h.rm,by rw[e0.1,e2,YGK hf,h2,e1,υ],λx hx=>?_,?_,λf hf'=>?_,?_,?_⟩
 ·rw[e2]at hx;unfold JA7 at hx
  have X:∀y∈p.fresh.wd,y<18446744073709551616:=λy hy=>by
   unfold Pl.fresh at hy
   split at hy
   ·rcases ζj.1 hy with hy|hy
    ·exact h.w64 y hy
    ·rw[ξn hy];decide
   ·exact h.w64 y hy
  rcases ζj.1 hx with hx|hx
  ·rcases ζj.1 hx with hx|hx
   ·exact X x (ψj hx)
   ·rw[ξn hx];decide
  ·exact X x (List.mem_of_mem_drop hx)
 ·rw[e0.2.2];unfold Pl.fresh
  split
  ·exact h.nd
  ·exact h.nd.sublist (List.dropLast_sublist _)
 ·rw[e0.2.2]at hf';rw[e1,υ];unfold Pl.fresh at hf' h1⊢;unfold Pl.next at h1⊢
  by_cases hb:p.bk=[]
  ·rw[μ hb]at hf';rw[hb]at hf';cases hf'
  ·rw[ϑ hb]at hf' h1⊢;rw[ϑ hb]at h1⊢;have hm:=(List.dropLast_sublist _).subset hf';have Z:=h.bl f hm;refine⟨Z.1,?_⟩;rw[QXV h1,ϑ,Z.2];intro e;obtain⟨bi,x,J⟩:∃bi x,p.bk=bi++[x]:=⟨p.bk.dropLast,p.bk.getLast hb,(ξW hb).symm⟩;have Y:=h.nd;rw[J]at hf' e Y;simp at hf' e;subst e;rw[ξu]at Y;exact Y.2.2 f hf' f (by simp) rfl
 ·rw[eu,e0.2.2,e1,υ];unfold Pl.fresh;have:=h.us
  split
  ·rename_i hb;rw[hb]at this;simp[hb]at this⊢;omega
  ·rename_i hb;have:=List.length_pos_iff.2 hb;simp;omega
 ·rw[e0.2.1,e1,υ];unfold Pl.fresh;have:=h.us
  split
  ·rename_i hb;rw[hb]at this;simp at this⊢;omega
  ·exact h.le
theorem Yoc(p:Pl):p.fresh.pg=p.pg/\p.fresh.rm=p.rm/\p.fresh.used=p.used:=by
 unfold Pl.fresh
 split
 ·exact⟨rfl,rfl,Vuv p.tk⟩
 ·exact⟨rfl,rfl,rfl⟩
theorem VaR(h:QIq p):p.take.used=p.used+1:=by
 obtain⟨h1,h2,h3⟩:=Z3f h
 have X:p.fresh.used=p.used:=by
  unfold Pl.used Pl.fresh
  split
  ·exact Vuv p.tk
  ·rfl
 have e1:p.take.tk=p.fresh.tk.set p.next true:=rfl
 rw[<-X];unfold Pl.used;rw[e1,υ];exact Jso h1 h3
def Xun(w:World)(S:Nat->Prop)(q:Nat)(p:Pl)(e:Ending)(w':World):Prop:=
 (p.used=p.rm/\e=.returned (.tuple #[.int .i64 0,.int .i64 14])/\Gr w w') ∨
 (p.used<p.rm/\e=.returned (.tuple #[.int .i64 (p.next:Nat),.int .i64 0])/\XF4 S w w'/\Z9Y w' (plus S w) q p.take)
theorem X9u(h:QIq p):p.used<=p.rm:=by have:=h.us;have:=h.le;omega
theorem JVJ(hP:Z9Y w S q p):Calls prog 198 #[.pointer (some ⟨q,0,none⟩)] w (Xun w S q p):=by
 have HP:=hid hP;have V:=hP.ok;have Xg:=X9u V;have Xw:=V.rm;obtain⟨vw,vt,vb,hi,ts,hr,-⟩:=hP.row;have c3:=hr.cc 3;have c5:=hr.cc 5;have G:=hr.lt;obtain⟨u,hu⟩:∃u,u=p.used:=⟨_,rfl⟩;have HU:=hid hu;rw[<-hu]at c5 Xg;obtain⟨R,hR⟩:∃R,R=p.rm:=⟨_,rfl⟩;have Z:=hid hR;rw[<-hR]at c3 Xg Xw;have hr0:((R:Int)==0)=false:=ζy.2 Ω;have z3:∀m,(w.drewN m).cell? ⟨q,3,none⟩=some (.int .i64 R):=λm=>((Gr.refl w).drewN m |>.cell G _).trans c3;have z5:∀m,(w.drewN m).cell? ⟨q,5,none⟩=some (.int .i64 u):=λm=>((Gr.refl w).drewN m |>.cell G _).trans c5;have hpg:=Quq V.pg;have X:=hid V;clear hr hP hu hR V;by_cases Y:u=R
 ·have d1:((u:Int)==(R:Int))=true:=by rw[Y];simp
  have Yb:=hid Y;clear Y;go_enter func198,ntmps198;go_wp2;go_quiet (fail);go_wp2;go_ret2;exact .inl ⟨by rw[<-HU.o,<-Z.o];exact Yb.o,rfl,(Gr.refl w).drewN _⟩
 ·have d1:((u:Int)==(R:Int))=false:=ζy.2 Ω;go_enter func198,ntmps198;go_wp2;go_quiet (fail);go_wp2_with(go_at_call 224;refine(VKq (HP.o.gr ((Gr.refl w).drewN nq))).mono ?_;rintro e w2 ⟨rfl,Xj,Xc⟩;have Xl:=hid Xj;have Xh:=hid Xc;clear Xj Xc);obtain⟨vw2,vt2,B,I,J,R2,o1,o2,o3,s1,s2,s3⟩:=Xh.o;obtain⟨n1,n2,n3⟩:=Z3f X.o;obtain⟨f1,f2,f3⟩:=Yoc p;have hf:p.next*p.pg+p.pg<=p.fresh.wd.length:=by rw[n2,<-ζ6];exact ζl _ n1
  have Ya:p.fresh.tk.length<=4096:=by
   have h1:=(ZGf X.o (by rw[<-HU.o,<-Z.o];omega)).le;have h2:p.take.tk.length=p.fresh.tk.length:=υ ..;have h3:p.take.rm=p.rm:=f2;rw[h2,h3,<-Z.o]at h1;omega
  have Xo:p.fresh.wd.length<=1048576:=by rw[n2];exact ζb (ψD Ya X.o.pg2) (by decide)
  obtain⟨g2,cw,rfl,-,Xx,Yc,-⟩:=YTP o1 Ω;obtain⟨gt,ct,rfl,-,hd1,Xp,-⟩:=YTP o2 Ω;unfold maxLen at Yc Xp;obtain⟨iu,Xr,Xs,hu1,hu2⟩:=info_parts ZiX;obtain⟨w3,Xm,Xf,Xi⟩:=YNv (P:=prog) w2 61 22 0 iu _ underlying61 Xr Xs rfl (by decide) o1 (p.next*p.pg) p.pg p.pg Ω hf;rw[f1,f2,f3,<-HU.o,<-Z.o]at R2;have t3:=VxQ Xi (λk=>k=g2) (λk e _=>(Option.some.inj e).symm);have R3:=R2.touch t3 (YnK R2 o1 (by decide) rfl rfl);have T3:=Zs2 o2 t3 (λg hg=>YnK o2 o1 (by decide) hg rfl);have B3:=Zs2 o3 t3 (λg hg=>YnK o3 o1 (by decide) hg rfl);have Xe:q≠gt:=YnK R2 o2 (by decide) rfl rfl;have hgq:gt≠q:=λe=>Xe e.symm;have Xd:=hid R2;have k1:=R3.cc 1;have k5:=R3.cc 5;have k6:=R3.cc 6;have k7:=R3.cc 7;have kf:=λj=>R3.free j;have Xz:=kf 5;have Xq:=kf 6;have Xy:=kf 7;have kt:=ZBn T3 (Yeu n1);have Xv:=QxS T3 p.next
  have hnl:(p.next:Int)<(p.fresh.tk.length:Int):=Ω
  have Xa:=hid (ν R3 (ν Xf (ν T3 (ν B3 t3))));have U:=hid (ν s1 (ν s2 s3));have Xt:=hid (ν n1 (ν n2 n3));have D:=hid (ν f1 (ν f2 f3));clear R2 o1 o2 o3 s1 s2 s3 Xf Xi R3 T3 B3 t3 n1 n2 n3 f1 f2 f3 kf c3 c5 z3 z5 Xh;generalize hnx:p.next=f at *
  have L:=hid hnx;clear hnx;have hmax:=V9O prog;go_wp2_with(go_at_call 225;refine(QAq Xd.o Xx Ω Ω hf Xo).mono ?_;rintro e w1 ⟨rfl,rfl⟩);obtain⟨W5,M⟩:∃W5,W5=((w3.setCell ⟨gt,f,none⟩ (.bool true)).setCell ⟨q,5,none⟩ (.int .i64 ((u:Int)+1))).setCell ⟨q,7,none⟩ (.int .i64 (wrap64 (J+1))):=⟨_,rfl⟩;rw[<-M];obtain⟨R3,U3,T3,B3,t3⟩:=Xa.o;have R4:=VDR (q:=gt) (j:=f) R3 (.bool true) (λg hg=>by cases hg;exact Xe)
  have R5:Rec W5 q 200 [.slice (some ⟨g2,0,none⟩) p.fresh.wd.length cw,.slice (some ⟨gt,0,none⟩) p.fresh.tk.length ct,B,.int .i64 R,.int .i64 p.pg,.int .i64 ((u:Int)+1),.int .i64 I,.int .i64 (wrap64 (J+1))]:=by
   rw[M];exact(Rec.set R4 5 _).set 7 _
  have U4:=VDR (q:=gt) (j:=f) U3 (.bool true) (λg hg=>YnK U3 T3 (by decide) hg rfl);have U5:=VDR (q:=q) (j:=7) (VDR (q:=q) (j:=5) U4 (.int .i64 ((u:Int)+1)) (λg hg=>YnK U4 R4 (by decide) hg rfl)) (.int .i64 (wrap64 (J+1))) (λg hg=>YnK U4 R4 (by decide) hg rfl);have T4:=(World.ownsRow.stored T3 f (.bool true)).1;have T5:=VDR (q:=q) (j:=7) (VDR (q:=q) (j:=5) T4 (.int .i64 ((u:Int)+1)) (λg hg=>YnK T4 R4 (by decide) hg rfl)) (.int .i64 (wrap64 (J+1))) (λg hg=>YnK T4 R4 (by decide) hg rfl);have B4:=VDR (q:=gt) (j:=f) B3 (.bool true) (λg hg=>YnK B3 T3 (by decide) hg rfl);have B5:=VDR (q:=q) (j:=7) (VDR (q:=q) (j:=5) B4 (.int .i64 ((u:Int)+1)) (λg hg=>YnK B4 R4 (by decide) hg rfl)) (.int .i64 (wrap64 (J+1))) (λg hg=>YnK B4 R4 (by decide) hg rfl);rw[<-M]at U5 T5 B5;have sq:=HP.o.sq
  have N:XF4 (plus S (w.drewN nq)) w2 W5:=by
   rw[M];exact(((t3.mono (λk _ h=>by rw[show k=g2 from h];exact U.o.1 g2 rfl)).setCell (λ_=>U.o.2.1 gt rfl) _).setCell (λ_=>.inl sq) _).setCell (λ_=>.inl sq) _
  have Xk:=hid (ν R5 (ν U5 (ν T5 (ν B5 N))));have y5:=R5.cc 5;have y6:=R5.cc 6;have yf:=R5.free 6;clear M R3 U3 T3 B3 t3 R4 R5 U4 U5 T4 T5 B4 B5 N k1 k5 k6 k7 Xz Xq Xy kt Xv Xm Xa;obtain⟨Sx,O⟩:∃Sx:World->Prop,Sx=λW'=>W'.cell? ⟨q,5,none⟩=some (.int .i64 ((u:Int)+1))/\W'.cell? ⟨q,6,none⟩=some (.int .i64 I):=⟨_,rfl⟩;have x5:∀p':ZJV Sx,p'.w.cell? ⟨q,5,none⟩=some (.int .i64 ((u:Int)+1)):=λp'=>(ZJV.get O p').1;have x6:∀p':ZJV Sx,p'.w.cell? ⟨q,6,none⟩=some (.int .i64 I):=λp'=>(ZJV.get O p').2;have Xb:Sx W5.drew:=by rw[O];exact⟨y5,y6⟩
  clear O;have inst:Inhabited (ZJV Sx):=⟨⟨_,Xb⟩⟩;refine Vv2 Sx 12 [([0,1,2,3,4,5,6,7,8,9,10,11],12)] [] (by kernel_rfl) (by kernel_rfl) Xb ?_;refine XGW ?_;simp only[XZy,ζ,ξ]
  repeat(go_big_quiet_step (fail))
  refine θ ?_;go_wp2;refine⟨.inl trivial,?_⟩;refine Z9U ?_;refine θ ?_;refine β ?_;go_wp2;go_ret2;obtain⟨R5,U5,T5,B5,N⟩:=Xk.o;obtain⟨n1,n2,n3⟩:=Xt.o;have A:p.used<p.rm:=by rw[<-HU.o,<-Z.o];omega
  refine .inr ⟨A,by rw[L.o];rfl,?_,ZGf X.o A,.inl sq,?_⟩
  ·refine(XF4.setCell (a:=⟨q,6,none⟩) ((((Gr.refl w).drewN nq).touch S).trans' (Xl.o.trans' N (λk hk h=>?_)) (λk _ h=>h)) (λ_=>sq) _).drew;rcases h with h|h
   ·exact h
   ·exact absurd hk (ξi h)
  ·have U6:=λv=>Y9I (VDR (q:=q) (j:=6) U5 v (λg hg=>YnK U5 R5 (by decide) hg rfl)) (Gr.refl _).drew;have T6:=λv=>Y9I (VDR (q:=q) (j:=6) T5 v (λg hg=>YnK T5 R5 (by decide) hg rfl)) (Gr.refl _).drew;have B6:=λv=>Y9I (VDR (q:=q) (j:=6) B5 v (λg hg=>YnK B5 R5 (by decide) hg rfl)) (Gr.refl _).drew;have eu:p.take.used=u+1:=by rw[VaR X.o,<-HU.o]
   have ew:p.take.wd=JA7 p.fresh.wd (f*p.pg) p.pg:=by rw[<-L.o];rfl
   have et:p.take.tk=p.fresh.tk.set f true:=by rw[<-L.o];rfl
   have Xu:p.take.wd.length=p.fresh.wd.length:=by rw[ew,YGK hf]
   have Xn:VPA (JA7 p.fresh.wd (f*p.pg) p.pg)=List.take (f*p.pg) (VPA p.fresh.wd)++List.replicate p.pg (Value.int IntKind.u64 0)++List.drop (f*p.pg+p.pg) (VPA p.fresh.wd):=by
    unfold JA7 VPA;rw[ζO,ζO,ψq,List.map_take,List.map_drop];rfl
   have er:p.take.rm=R:=by rw[Z.o];exact D.o.2.1
   have ep:p.take.pg=p.pg:=D.o.1;have eb:p.take.bk=p.fresh.bk:=rfl;have E:∀g,plus S (w.drewN nq) g->plus S w g:=λg h=>h;refine⟨.slice (some ⟨g2,0,none⟩) p.fresh.wd.length cw,.slice (some ⟨gt,0,none⟩) p.fresh.tk.length ct,B,max I ((u:Int)+1),wrap64 (J+1),?_,?_,?_,?_,λg hg=>E g (U.o.1 g hg),λg hg=>E g (U.o.2.1 g hg),λg hg=>E g (U.o.2.2 g hg)⟩
   rotate_left
   ·rw[Xu,ew,Xn];exact U6 _
   ·rw[et,υ,ξG];exact T6 _
   ·rw[eb];exact B6 _
   ·rw[eu,er,ep];exact(R5.set 6 _).gr (Gr.refl _).drew
def Pl.give(p:Pl)(f:Nat):Pl:={p with tk:=p.tk.set f false,bk:=p.bk++[f]}
theorem XvH{f:Nat}(hf:at_ p.tk f=true):(p.give f).used+1=p.used:=by
 show cnt (at_ (p.tk.set f false)) (p.tk.set f false).length+1=_
 rw[υ];exact V4E (XaX hf) hf
theorem Q60(h:QIq p){f:Nat}(hf:at_ p.tk f=true):QIq (p.give f):=by
 have hl:=XaX hf;refine⟨h.pg,h.pg2,h.rm,by show _=(p.tk.set f false).length*_;rw[υ];exact h.wl,h.w64,?_,λg hg=>?_,?_,by show (p.tk.set f false).length<=_;rw[υ];exact h.le⟩
 ·show (p.bk++[f]).Nodup
  rw[ξu];refine⟨h.nd,by simp,λa ha b hb=>?_⟩;simp at hb;subst hb;rintro rfl;have:=(h.bl a ha).2;rw[hf]at this;cases this
 ·show g<(p.tk.set f false).length/\at_ (p.tk.set f false) g=false
  rw[υ,QXV hl];rcases ζj.1 hg with hg|hg
  ·have:=h.bl g hg;refine⟨this.1,?_⟩
   split
   ·rfl
   ·exact this.2
  ·simp at hg;subst hg;exact⟨hl,by rw[μ rfl]⟩
 ·have h1:=XvH hf;have h2:=h.us
  show _+(p.bk++[f]).length=(p.tk.set f false).length
  rw[υ,ζk];simp;omega
def VkD(w:World)(S:Nat->Prop)(q:Nat)(p:Pl)(f:Nat)(e:Ending)(w':World):Prop:=e=.returned (.int .i64 0)/\XF4 S w w'/\Z9Y w' (plus S w) q (p.give f)
theorem XDh(hP:Z9Y w S q p){f:Nat}(hf:at_ p.tk f=true):Calls prog 167 #[.pointer (some ⟨q,0,none⟩),.int .i64 f] w (VkD w S q p f):=by
 have HP:=hid hP;have Z:=hP.ok;have Xf:=XaX hf;have HC:Hid (YHh p f=0):=⟨by unfold YHh;rw[τ,hf,κ Ω];rfl⟩;have Xc:=XvH hf;have Xi:=X9u Z;have hrm:=Z.rm;have E:=Z.us;have htl:=Z.le;obtain⟨vw,vt,vb,hi,ts,hr,o1,o2,o3,s1,s2,s3⟩:=hP.row;obtain⟨gt,ct,rfl,-,hd1,Xd,-⟩:=YTP o2 Ω;obtain⟨Ab,cb,rfl,hcb1,D⟩:=ZfN o3;unfold maxLen at Xd D;obtain⟨ii,Xh,Xa,Xe,Xl⟩:=info_parts YWy;have L:q≠gt:=YnK hr o2 (by decide) rfl rfl;have hgq:gt≠q:=λe=>L e.symm;have c1:=hr.cc 1;have c2:=hr.cc 2;have c5:=hr.cc 5;have cf:=λj=>hr.free j;have cf2:=cf 2;have cf5:=cf 5;have kt:=ZBn o2 (Yeu Xf);have ktf:=QxS o2 f;obtain⟨N,hN⟩:∃N,N=p.bk.length:=⟨_,rfl⟩;have HN:=hid hN;rw[<-hN]at c2 E;obtain⟨u,hu⟩:∃u,u=p.used:=⟨_,rfl⟩;have HU:=hid hu;rw[<-hu]at c5 Xi Xc E hr;have hu2:1<=u:=Ω
 have hfI:(f:Int)<(p.tk.length:Int):=Ω
 have HR:=hid hr;have H1:=hid o1;have H2:=hid o2;have H3:=hid o3;have HS:=hid (ν s1 (ν s2 s3));have HF:=hid hf;have I:=hid Z;have B1:=VDR (q:=gt) (j:=f) o3 (.bool false) (λg hg=>YnK o3 o2 (by decide) hg rfl);have R1:=VDR (q:=gt) (j:=f) hr (.bool false) (λg hg=>by cases hg;exact L);rw[<-hN]at B1;have A:=hid B1;have Xg:=hid R1;have B:∀g,(Value.slice Ab N cb).ownBlock=some g->g≠q:=λg hg=>YnK o3 hr (by decide) (by rw[<-hN];exact hg) rfl;clear hr o1 o2 o3 hP hf hN hu Z cf s1 s2 s3 B1 R1;go_enter func167,ntmps167
 go_wp2_with(first
  | (go_at_call 202;refine(QtA HP.o f).mono ?_;rintro e w1 ⟨rfl,rfl⟩;rw[HC.o])
  | (at_builtin;refine wpList_append_lies _ rfl _ _ 66 rfl 0 3 ii _ 1 8 underlying66 Xh Xa Xe Xl rfl (by decide) (.slice Ab N cb) N (VfO p.bk) rfl (A.o.alloc _) ⟨w.heap.size,0,none⟩ 1 1 [.int .i64 (f:Nat)] rfl rfl (ξI (cs:=#[.int .i64 (f:Nat)]) (t:=3) (fr:=(0,0)) (by have:=heap_alloc_new (w.setCell ⟨gt,f,none⟩ (.bool false)) (.cells #[.int .i64 (f:Nat)] 3);simpa using this)) (by simp[Value.oneCell']) Ω (by unfold maxLen;omega) Ω (ζh _) (w.heap.size+1) (by simp) ?_;intro g2 Xk w2 J X Y V;have t2:XF4 (λk=>(Value.slice Ab N cb).ownBlock=some k) (w.setCell ⟨gt,f,none⟩ (.bool false)) w2:=(((Gr.refl _).alloc _).touch _).trans (VxQ X _ (λk e _=>e));have U:=hid (Zs2 Xg.o t2 (λg hg e=>by cases hg;exact B q e rfl));have d2:=ZBn U.o (j:=2) rfl;have df2:=QxS U.o 2;have d5:=ZBn U.o (j:=5) rfl;have df5:=QxS U.o 5;have M:=hid t2;have O:=hid J;have Xj:=hid (ν Y V);clear J X Y V t2))
 go_ret;have Y:=Xj.o;have U1:=VDR (q:=gt) (j:=f) H1.o (.bool false) (λg hg=>YnK H1.o H2.o (by decide) hg rfl);have Xb:∀g,vw.ownBlock=some g->¬(Value.slice Ab N cb).ownBlock=some g:=λg hg e=>YnK H1.o H3.o (by decide) hg (by rw[<-HN.o];exact e) rfl;have U2:=Zs2 U1 M.o Xb;have T1:=(World.ownsRow.stored H2.o f (.bool false)).1;have T2:=Zs2 T1 M.o (λg hg e=>YnK H2.o H3.o (by decide) hg (by rw[<-HN.o];exact e) rfl);have hsz:(w.setCell ⟨gt,f,none⟩ (.bool false)).heap.size=w.heap.size:=by simp
 have tt:XF4 S w w2:=((XF4.refl S w).setCell (a:=⟨gt,f,none⟩) (λ_=>HS.o.2.1 gt rfl) (.bool false)).trans' M.o (λk _ h=>HS.o.2.2 k (by rw[<-HN.o];exact h));refine⟨rfl,(tt.setCell (a:=⟨q,2,none⟩) (λ_=>HP.o.sq) _).setCell (a:=⟨q,5,none⟩) (λ_=>HP.o.sq) _,Q60 I.o HF.o,.inl HP.o.sq,?_⟩;have R2:=U.o;have e1:(p.give f).used=u-1:=by have:=XvH HF.o;have:=HU.o;omega
 have e2:(((u-1:Nat)):Int)=(u:Int)-1:=Ω
 have e3:(p.give f).tk=p.tk.set f false:=rfl;have e4:(p.give f).bk=p.bk++[f]:=rfl;have U3:=λa b=>VDR (q:=q) (j:=5) (VDR (q:=q) (j:=2) U2 a (λg hg=>YnK U2 R2 (by decide) hg rfl)) b (λg hg=>YnK U2 R2 (by decide) hg rfl);have T3:=λa b=>VDR (q:=q) (j:=5) (VDR (q:=q) (j:=2) T2 a (λg hg=>YnK T2 R2 (by decide) hg rfl)) b (λg hg=>YnK T2 R2 (by decide) hg rfl);have B3:=λa b=>VDR (q:=q) (j:=5) (VDR (q:=q) (j:=2) O.o a (λg hg=>YnK O.o R2 (by decide) hg rfl)) b (λg hg=>YnK O.o R2 (by decide) hg rfl);refine⟨vw,.slice (some ⟨gt,0,none⟩) p.tk.length ct,.slice (some ⟨g2,0,none⟩) (N+1) Xk,hi,ts,?_,?_,?_,?_,λg hg=>.inl (HS.o.1 g hg),λg hg=>.inl (HS.o.2.1 g hg),λg hg=>?_⟩
 ·rw[e1,e2];have G:Rec w2 q 200 _:=R2;exact(G.set 2 _).set 5 _
 ·exact U3 _ _
 ·rw[e3,υ,ξG];exact T3 _ _
 ·rw[e4,show (p.bk++[f]).length=N+1 by rw[HN.o];simp,show VfO (p.bk++[f])=VfO p.bk++[.int .i64 (f:Nat)]by unfold VfO;rw[ζO];rfl];exact B3 _ _
 ·cases hg;rcases Y.1 with h|h
  ·exact .inl (HS.o.2.2 _ (by rw[<-HN.o];exact h))
  ·right;show w.heap.size<=g2;omega
end
end
section
open Go.RowKit Word
def JRl(l:List Nat):List Value:=l.map λx=>.int .u32 (x:Nat)
def Vvx(pt:List Nat)(k:Nat):List Nat:=(List.range 256).map λi=>pt.getD (256*k+i) 0
def nz(l:List Nat):Nat:=cnt (λi=>l.getD i 0 !=0) l.length
def V8D(pt:List Nat)(k:Nat):List Value:=JRl (Vvx pt k)++[.int .i64 (nz (Vvx pt k):Nat)]
def Xdz(L:List (Option Nat)):List Value:=L.map λb=>.pointer (b.map λb=>⟨b,0,none⟩)
def QmJ(n:Nat):Nat:=(n+255)/256
structure Zym(pt:List Nat):Prop where
 n1:1<=pt.length
 n2:pt.length<=524288
 lt:∀x∈pt,x<4294967296
structure XZC(w:World)(S:Nat->Prop)(q:Nat)(pt:List Nat):Prop where
 ok:Zym pt
 sq:S q
 row:∃g c L,Rec w q 203 [.slice (some ⟨g,0,none⟩) (QmJ pt.length) c,.int .i64 pt.length,.int .i64 (nz pt:Nat)]/\QmJ pt.length<=c/\c<=maxLen/\S g ∧
  w.ownsRow 0 290 1 (.slice (some ⟨g,0,none⟩) (QmJ pt.length) c) (QmJ pt.length) (Xdz L) ∧
  (∀k,k<QmJ pt.length->match L.getD k none with
   | none=>∀i,i<256->pt.getD (256*k+i) 0=0
   | some b=>S b/\Rec w b 293 (V8D pt k)) ∧
  (∀k j b,L.getD k none=some b->L.getD j none=some b->k=j)
theorem ZJU(pt:List Nat)(k:Nat):(Vvx pt k).length=256:=by simp[Vvx]
theorem XL0(pt:List Nat)(k:Nat){i:Nat}(h:i<256):(Vvx pt k).getD i 0=pt.getD (256*k+i) 0:=by simp[Vvx,φ,h]
theorem QvL(pt:List Nat)(k:Nat){i:Nat}(h:i<256):(V8D pt k)[i]?=some (.int .u32 (pt.getD (256*k+i) 0:Nat)):=by
 unfold V8D JRl;rw[ζB (by simp[ZJU,h])];simp[Vvx,h]
theorem XMj(pt:List Nat)(k:Nat):(V8D pt k)[256]?=some (.int .i64 (nz (Vvx pt k):Nat)):=by
 unfold V8D JRl;rw[ζQ (by simp[ZJU])];simp[ZJU]
theorem XZC.touch{S T:Nat->Prop}{w w':World}{q:Nat}{pt:List Nat}(h:XZC w S q pt)(t:XF4 T w w')(hS:∀k,S k->k<w.heap.size->¬T k):XZC w' S q pt:=by
 obtain⟨ok,sq,g,c,L,hr,h1,h2,sg,ho,ht,hd⟩:=h;refine⟨ok,sq,g,c,L,hr.touch t (hS q sq hr.lt),h1,h2,sg,Zs2 ho t (λb hb=>by cases hb;exact hS g sg (Vvr ho rfl).2),λk hk=>?_,hd⟩;have:=ht k hk;cases hl:L.getD k none with
 | none=>rw[hl]at this;exact this
 | some b=>rw[hl]at this;exact⟨this.1,this.2.touch t (hS b this.1 this.2.lt)⟩
theorem XZC.gr{S:Nat->Prop}{w w':World}{q:Nat}{pt:List Nat}(h:XZC w S q pt)(t:Gr w w'):XZC w' S q pt:=h.touch (t.touch (λ_=>False)) (λ_ _ _ h=>h)
theorem XZC.mono{S T:Nat->Prop}{w:World}{q:Nat}{pt:List Nat}(h:XZC w S q pt)(hT:∀k,S k->T k):XZC w T q pt:=by
 obtain⟨ok,sq,g,c,L,hr,h1,h2,sg,ho,ht,hd⟩:=h;refine⟨ok,hT _ sq,g,c,L,hr,h1,h2,hT _ sg,ho,λk hk=>?_,hd⟩;have:=ht k hk;cases hl:L.getD k none with
 | none=>rw[hl]at this;exact this
 | some b=>rw[hl]at this;exact⟨hT _ this.1,this.2⟩
theorem Z4C{n:Nat}(h:n<=524288):QmJ n<=2048:=by unfold QmJ;omega
theorem JOV{n p:Nat}(h:p<n):p/256<QmJ n:=by unfold QmJ;omega
theorem Q39{L:List (Option Nat)}{k:Nat}(h:k<L.length):(Xdz L)[k]?=some (.pointer ((L.getD k none).map λb=>⟨b,0,none⟩)):=by
 simp[Xdz,φ,h]
section
variable {w:World} {S:Nat->Prop} {q:Nat} {pt:List Nat}
theorem QR1(hM:XZC w S q pt){p:Nat}(hp:p<pt.length):Calls prog 223 #[.pointer (some ⟨q,0,none⟩),.int .i64 p] w λe w'=>e=.returned (.int .u32 (pt.getD p 0:Nat))/\w=w':=by
 obtain⟨ok,sq,g,c,L,hr,h1,h2,sg,ho,ht,hd⟩:=hM;have hn:=Z4C ok.n2;have hk:=JOV hp;have hLl:L.length=QmJ pt.length:=by have:=ho.1;simp[Xdz]at this;exact this
 have c0:=hr.cc 0;have k0:=ZBn ho (Q39 (L:=L) (k:=p/256) Ω);have hh:=ht _ hk;obtain⟨k,Y⟩:∃k,k=p/256:=⟨_,rfl⟩;obtain⟨i,Z⟩:∃i,i=p%256:=⟨_,rfl⟩;have X:256*k+i=p:=Ω
 have hi:i<256:=Ω
 have e1:(p:Int)/256=(k:Int):=Ω
 have e2:(p:Int)%256=(i:Int):=Ω
 rw[<-Y]at k0 hk hh;have hpb:(p:Int)<=524288:=by have:=ok.n2;omega
 have hkI:(k:Int)<(QmJ pt.length:Int):=Ω
 have hiI:(i:Int)<256:=Ω
 unfold maxLen at h2;cases hl:L.getD k none with
 | none=>
  rw[hl]at hh k0;have E:=hid (hh i hi);rw[X]at E;rw[E.o];clear hr ho ht hh hd Z Y X hl;go_enter func223,ntmps223;go_wp2;go_ret;exact⟨rfl,rfl⟩
 | some b=>
  rw[hl]at hh k0;have k1:=hh.2.cell (QvL pt k hi);rw[X]at k1;clear hp;generalize pt.getD p 0=x at k1⊢;clear hr ho ht hh hd Z Y X hl;go_enter func223,ntmps223;go_wp2;go_ret;exact⟨rfl,rfl⟩
def pgE(pt:List Nat)(p:Int):Int:=if 0<=p/\p<pt.length then 0 else 11
def Z5O(pt:List Nat)(l:List Int):Int:=if l.all (λp=>decide (pgE pt p=0))then 0 else 11
theorem Z7Q(pt:List Nat)(p:Int):(decide (p<0)=true/\pgE pt p=11)\/(decide (p<0)=false/\decide ((pt.length:Int)<=p)=true/\pgE pt p=11)\/(decide (p<0)=false/\decide ((pt.length:Int)<=p)=false/\pgE pt p=0):=by
 unfold pgE;by_cases h0:p<0
 ·exact .inl ⟨κ h0,ϑ Ω⟩
 ·by_cases h1:(pt.length:Int)<=p
  ·exact .inr (.inl ⟨ψ h0,κ h1,ϑ Ω⟩)
  ·exact .inr (.inr ⟨ψ h0,ψ h1,μ Ω⟩)
theorem QP1{pt:List Nat}{l:List Int}(h:∀i,i<l.length->pgE pt (l.getD i 0)=0):Z5O pt l=0:=by
 unfold Z5O;rw[μ];rw[ξt];intro x hx;obtain⟨i,hi,rfl⟩:=ψF.1 hx;have:=h i hi;rw[φ,δ hi]at this;exact κ this
theorem YU3{pt:List Nat}{l:List Int}{i:Nat}(hi:i<l.length)(h:pgE pt (l.getD i 0)=11):Z5O pt l=11:=by
 unfold Z5O;rw[ϑ];rw[ξt];intro ha;have:=ha l[i] (χ hi);rw[φ,δ hi]at h;rw[ψe]at h;rw[h]at this;exact absurd this (by decide)
theorem XaF(hM:XZC w S q pt){b n:Nat}{l:List Int}(hn:l.length=n)(hn2:n<=2)(hc:∀i,i<n->w.cell? ⟨b,i,none⟩=some (.int .i64 (l.getD i 0))):Calls prog 222 #[.pointer (some ⟨q,0,none⟩),.slice (some ⟨b,0,none⟩) n n] w λe w'=>e=.returned (.int .i64 (Z5O pt l))/\w=w':=by
 obtain⟨ok,sq,g,c,L,hr,-⟩:=hM;have c1:=hr.cc 1;have HC:=hid hc;clear hr hc;go_enter func222,ntmps222;go_wp2
 go_loop [11] (λi=>∃k:Nat,k<=n/\i=.int .i64 k/\Hid (∀i,i<k->pgE pt (l.getD i 0)=0)) (λi=>n-(intOf i).toNat)
 case atStart=>exact⟨0,by omega,rfl,⟨λi h=>by omega⟩⟩
 case round=>
  obtain⟨k,hk,rfl,X⟩:=hrel;by_cases Z:k<n
  ·have Y:=HC.o k Z;have hq:=Z7Q pt (l.getD k 0);have H1:=hid (λh=>YU3 (pt:=pt) (l:=l) (i:=k) Ω h)
   have H2:Hid (pgE pt (l.getD k 0)=0->∀i,i<k+1->pgE pt (l.getD i 0)=0):=⟨λh i hi=>by
    by_cases e:i=k
    ·subst e;exact h
    ·exact X.o i Ω⟩
   generalize l.getD k 0=p at Y hq H1 H2;clear X HC hn;rcases hq with⟨d0,E⟩|⟨d0,d1,E⟩|⟨d0,d1,E⟩
   ·have E:=hid E;go_wp2;go_ret;exact⟨ZzN (by rw[H1.o E.o]),rfl⟩
   ·have E:=hid E;go_wp2;go_ret;exact⟨ZzN (by rw[H1.o E.o]),rfl⟩
   ·have E:=hid E;go_wp2;go_round
    case rel=>exact⟨k+1,by omega,by go_num,⟨H2.o E.o⟩⟩
    case measure=>simp[intOf];omega
  ·obtain rfl:k=n:=Ω
   have E:=hid (QP1 (pt:=pt) (l:=l) (by rw[hn];exact X.o));clear X HC hn;go_wp2;go_ret;exact⟨ZzN (by rw[E.o]),rfl⟩
end
end
section
open Go.RowKit Word
theorem VT9:(zeroCells293).toList=JRl (List.replicate 256 0)++[.int .i64 0]:=by kernel_rfl
theorem Vqt(l:List Nat):nz l=cnt (at_ (l.map λx=>x !=0)) l.length:=by
 unfold nz;refine XmU λi hi=>?_;simp[at_,hi]
theorem Zav{l:List Nat}{i x:Nat}(hi:i<l.length)(h:l.getD i 0=0)(hx:x≠0):nz (l.set i x)=nz l+1:=by
 have hm:(l.map λx=>x !=0).length=l.length:=ξ7 _;rw[Vqt,Vqt,υ,ξG,<-hm];have:(x !=0)=true:=by simp[hx]
 rw[this];refine Jso (by simpa using hi) ?_;rw[φ,δ hi]at h;simp[at_,hi];simpa using h
theorem VtU{l:List Nat}{i:Nat}(hi:i<l.length)(h:l.getD i 0≠0):nz (l.set i 0)+1=nz l:=by
 have hm:(l.map λx=>x !=0).length=l.length:=ξ7 _;rw[Vqt,Vqt,υ,ξG,<-hm];have:((0:Nat) !=0)=false:=rfl;rw[this];refine V4E (by simpa using hi) ?_;rw[φ,δ hi]at h;simp[at_,hi];simpa using h
theorem Z2A{l:List Nat}(h:nz l=0){i:Nat}(hi:i<l.length):l.getD i 0=0:=by
 have:=VMy h i hi;simpa using this
theorem Yig(l:List Nat):nz l<=l.length:=QMh _ _
theorem JiO{pt:List Nat}{k i x:Nat}(hp:256*k+i<pt.length):Vvx (pt.set (256*k+i) x) k=(Vvx pt k).set i x:=by
 apply ζ9
 ·simp[Vvx]
 ·intro j h1 h2;have hj:j<256:=by simpa[Vvx]using h1
  simp only[Vvx,ψx,List.getElem_range,ψg,φ,ξv];by_cases e:i=j
  ·subst e;simp[hp]
  ·rw[ϑ Ω,ϑ e]
theorem QhQ{pt:List Nat}{k i x j:Nat}(hi:i<256)(hj:j≠k):Vvx (pt.set (256*k+i) x) j=Vvx pt j:=by
 apply ζ9
 ·simp[Vvx]
 ·intro y h1 h2;have hy:y<256:=by simpa[Vvx]using h1
  simp only[Vvx,ψx,List.getElem_range,φ,ξv];rw[ϑ Ω]
theorem VXI{pt:List Nat}{k i x t:Nat}(hp:256*k+i<pt.length)(hi:i<256)(ht:nz ((Vvx pt k).set i x)=t):
  V8D (pt.set (256*k+i) x) k=((V8D pt k).set i (.int .u32 x)).set 256 (.int .i64 t):=by
 unfold V8D;rw[JiO hp,ht];have hl:(JRl (Vvx pt k)).length=256:=by simp[JRl,ZJU]
 rw[List.set_append_left _ _ Ω,List.set_append_right _ _ (by simp[hl])];simp[JRl,ξG,ZJU]
theorem JQh{pt:List Nat}{k i x j:Nat}(hi:i<256)(hj:j≠k):V8D (pt.set (256*k+i) x) j=V8D pt j:=by
 unfold V8D;rw[QhQ hi hj]
section
variable {w:World} {S:Nat->Prop} {q:Nat} {pt:List Nat}
theorem XyQ{g n c:Nat}{m:Nat}{k i:Nat}(c0:w.cell? ⟨q,0,none⟩=some (.slice (some ⟨g,0,none⟩) n c))(c2:w.cell? ⟨q,2,none⟩=some (.int .i64 m))
  (f2:w.frozen? ⟨q,2,none⟩=false) (cg:w.cell? ⟨g,k,none⟩=some (.pointer none)) (fg:w.frozen? ⟨g,k,none⟩=false) (hqg:q≠g) (hq:q<w.heap.size) (hg:g<w.heap.size)
  (hk:k<n) (hn:n<=2048) (hi:i<256) (hm:m<=524288) {x:Nat} (hx:x≠0) {p:Nat} (hp:p=256*k+i):Calls prog 201 #[.pointer (some ⟨q,0,none⟩),.int .i64 p,.int .u32 x] w λe w'=>e=.returned (.tuple #[]) ∧
   w'=((w.setCell ⟨g,k,none⟩ (.pointer (some ⟨w.heap.size,0,none⟩))).setCell ⟨q,2,none⟩ (.int .i64 (m+1))).alloc
   (Obj.cells ((zeroCells293.setIfInBounds i (.int .u32 x)).setIfInBounds 256 (.int .i64 1)) 293):=by
 have e1:(p:Int)/256=(k:Int):=Ω
 have e2:(p:Int)%256=(i:Int):=Ω
 have b1:(p:Int)<=524288:=Ω
 have hkI:(k:Int)<(n:Int):=Ω
 have hiI:(i:Int)<256:=Ω
 have d0:((x:Int)==0)=false:=by simpa using hx
 have hz:∀h,(zeroCells293.setIfInBounds i (.int .u32 x))[256]'h=.int .i64 0:=by
  intro h;rw[Array.getElem_setIfInBounds_ne _ Ω];have hl:(zeroCells293).toList.length=257:=by rw[VT9];simp[JRl]
  rw[<-Array.getElem_toList]
  ·have:(zeroCells293).toList[256]?=some (.int .i64 0):=by rw[VT9,ζQ (by simp[JRl])];simp[JRl]
   rw[δ Ω]at this;exact Option.some.inj this
  ·have hl:(zeroCells293).toList.length=257:=by rw[VT9];simp[JRl]
   rw[Array.length_toList]at hl;rw[hl];omega
 clear hp;go_enter func201,ntmps201;go_wp2
 go_end0
 exact⟨rfl,rfl⟩
def Xzk(w:World)(b i x t' q m' g k:Nat):World:=
 if t'=0 then (((w.setCell ⟨b,i,none⟩ (.int .u32 x)).setCell ⟨b,256,none⟩ (.int .i64 t')).setCell ⟨q,2,none⟩ (.int .i64 m')).setCell ⟨g,k,none⟩ (.pointer none)
 else ((w.setCell ⟨b,i,none⟩ (.int .u32 x)).setCell ⟨b,256,none⟩ (.int .i64 t')).setCell ⟨q,2,none⟩ (.int .i64 m')
theorem YAa{g n c b:Nat}{m t t' m':Nat}{y:Value}{k i:Nat}(c0:w.cell? ⟨q,0,none⟩=some (.slice (some ⟨g,0,none⟩) n c))(c2:w.cell? ⟨q,2,none⟩=some (.int .i64 m))
  (f2:w.frozen? ⟨q,2,none⟩=false) (cg:w.cell? ⟨g,k,none⟩=some (.pointer (some ⟨b,0,none⟩))) (fg:w.frozen? ⟨g,k,none⟩=false)
  (cb:w.cell? ⟨b,i,none⟩=some y) (cn:w.cell? ⟨b,256,none⟩=some (.int .i64 t)) (fi:w.frozen? ⟨b,i,none⟩=false) (fn:w.frozen? ⟨b,256,none⟩=false)
  (hqg:q≠g) (hbg:b≠g) (hbq:b≠q) (hk:k<n) (hn:n<=2048) (hi:i<256) (hm:m<=524288) (hm':m'<=524288) (ht:t<=256) (ht':t'<=256) {x:Nat} (hx:x<4294967296)
  (hby:if x=0 then t' + 1=t/\m' + 1=m else t'=t+1/\m'=m+1) {p:Nat} (hp:p=256*k+i):Calls prog 201 #[.pointer (some ⟨q,0,none⟩),.int .i64 p,.int .u32 x] w λe w'=>e=.returned (.tuple #[]) ∧
   w'=Xzk w b i x t' q m' g k:=by
 have e1:(p:Int)/256=(k:Int):=Ω
 have e2:(p:Int)%256=(i:Int):=Ω
 have b1:(p:Int)<=524288:=Ω
 have hkI:(k:Int)<(n:Int):=Ω
 have hiI:(i:Int)<256:=Ω
 have hi6:¬i=256:=Ω
 clear hp;by_cases h0:x=0
 ·rw[μ h0]at hby;subst h0;obtain⟨rfl,rfl⟩:=hby;have a1:(t':Int)+1 + -1=(t':Int):=Ω
  have a2:(m':Int)+1 + -1=(m':Int):=Ω
  by_cases h1:t'=0
  ·subst h1;have E:Xzk w b i 0 0 q m' g k=_:=μ rfl;rw[E];clear E;go_enter func201,ntmps201;go_wp2
   go_end0
   exact⟨rfl,rfl⟩
  ·have d1:((t':Int)==0)=false:=by simpa using h1
   have E:Xzk w b i 0 t' q m' g k=_:=ϑ h1;rw[E];clear E;go_enter func201,ntmps201;go_wp2
   go_end0
   exact⟨rfl,rfl⟩
 ·rw[ϑ h0]at hby;obtain⟨rfl,rfl⟩:=hby;have d0:((x:Int)==0)=false:=by simpa using h0
  have d1:(((t+1:Nat):Int)==0)=false:=by simp;omega
  have E:Xzk w b i x (t+1) q (m+1) g k=_:=ϑ Ω;rw[E];clear E;go_enter func201,ntmps201;go_wp2
  go_end0
  exact⟨rfl,rfl⟩
end
end
section
open Go.RowKit Word
theorem QON{w:World}{q T:Nat}{xs ys:List Value}(h:Rec w q T xs)(e:xs=ys):Rec w q T ys:=e▸h
theorem Zym.set{pt:List Nat}(h:Zym pt)(p:Nat){x:Nat}(hx:x<4294967296):Zym (pt.set p x):=
 ⟨by rw[υ];exact h.n1,by rw[υ];exact h.n2,λy hy=>by
  rcases ζp hy with h'|h'
  ·exact h.lt y h'
  ·subst h';exact hx⟩
theorem Q81{l:List Nat}{p x:Nat}(hp:p<l.length)(j:Nat):(l.set p x).getD j 0=if p=j then x else l.getD j 0:=by
 simp only[φ,ξv];by_cases e:p=j
 ·subst e;simp[hp]
 ·simp[e]
theorem JfP{l:List (Option Nat)}{p:Nat}{x:Option Nat}(hp:p<l.length)(j:Nat):(l.set p x).getD j none=if p=j then x else l.getD j none:=by
 simp only[φ,ξv];by_cases e:p=j
 ·subst e;simp[hp]
 ·simp[e]
theorem Jna(L:List (Option Nat))(k:Nat)(b:Option Nat):Xdz (L.set k b)=(Xdz L).set k (.pointer (b.map λb=>⟨b,0,none⟩)):=by
 unfold Xdz;rw[ξG]
theorem ZXw{l:List Nat}{n:Nat}(hl:l.length=n)(h:∀i,i<n->l.getD i 0=0):l=List.replicate n 0:=by
 apply ζ9
 ·rw[hl,ζC]
 ·intro y y1 y2;have:=h y Ω;rw[φ,δ y1]at this;rw[List.getElem_replicate];exact this
theorem YPV(n:Nat):nz (List.replicate n 0)=0:=by
 refine Z6o λi hi=>?_;rw[ζC]at hi;simp[φ,hi]
theorem Y8u{pt:List Nat}{k:Nat}(h:∀i,i<256->pt.getD (256*k+i) 0=0):V8D pt k=JRl (List.replicate 256 0)++[.int .i64 0]:=by
 unfold V8D;rw[ZXw (ZJU pt k) (λy hy=>by rw[XL0 _ _ hy];exact h y hy),YPV];rfl
def XsB(w:World)(S:Nat->Prop)(q:Nat)(pt:List Nat)(p x:Nat)(w':World):Prop:=XF4 S w w'/\XZC w' (plus S w) q (pt.set p x)
section
variable {w:World} {S:Nat->Prop} {q:Nat} {pt:List Nat}
theorem QkK(hM:XZC w S q pt){p x:Nat}(hp:p<pt.length)(hx:x<4294967296)(hxx:if x=0 then pt.getD p 0≠0 else pt.getD p 0=0):
  Calls prog 201 #[.pointer (some ⟨q,0,none⟩),.int .i64 p,.int .u32 x] w λe w'=>e=.returned (.tuple #[])/\XsB w S q pt p x w':=by
 obtain⟨ok,sq,g,c,L,hr,h1,h2,sg,ho,ht,hd⟩:=hM;have hn:=Z4C ok.n2;have hk:=JOV hp;have hLl:L.length=QmJ pt.length:=by have:=ho.1;simp[Xdz]at this;exact this
 obtain⟨k,Xb⟩:∃k,k=p/256:=⟨_,rfl⟩;obtain⟨i,Xj⟩:∃i,i=p%256:=⟨_,rfl⟩;have Y:p=256*k+i:=Ω
 have hi:i<256:=Ω
 rw[<-Xb]at hk;have U:k<L.length:=Ω
 clear Xb Xj;have cg:=ZBn ho (Q39 U);have fg:=QxS ho k;have c0:=hr.cc 0;have c2:=hr.cc 2;have f2:=hr.free 2;have O:q≠g:=YnK hr ho (by decide) rfl rfl;have Xf:g≠q:=λe=>O e.symm;have hnz:=Yig pt;have hn2:=ok.n2;have Xg:=hr.lt;have Xm:=(Vvr ho rfl).2;have V:=ok.set p hx;have X:(pt.set p x).length=pt.length:=υ;have hh:=ht k hk;cases hl:L.getD k none with
 | none=>
  rw[hl]at hh cg;have h0:pt.getD p 0=0:=by rw[Y];exact hh i hi
  have A:x≠0:=by
   intro e;subst e;rw[μ rfl]at hxx;exact hxx h0
  refine(XyQ c0 c2 f2 cg fg O Xg Xm hk hn hi Ω A Y).mono ?_;rintro e w' ⟨rfl,rfl⟩;refine⟨rfl,((XF4.refl S w).setCell (a:=⟨g,k,none⟩) (λ_=>sg) _ |>.setCell (a:=⟨q,2,none⟩) (λ_=>sq) _).alloc _,V,.inl sq,g,c,L.set k (some w.heap.size),?_,by rw[X];exact h1,h2,.inl sg,?_,λj hj=>?_,λa b y ha hb=>?_⟩
  ·have r1:=(VDR (q:=g) (j:=k) hr (.pointer (some ⟨w.heap.size,0,none⟩)) (λy hy=>by cases hy;exact O));have r2:Rec _ _ _ _:=Rec.set (q:=q) r1 2 (.int .i64 ((nz pt:Nat)+1));refine QON (r2.gr ((Gr.refl _).alloc _)) ?_;rw[Zav hp h0 A,X];rfl
  ·rw[X,Jna];exact Y9I (VDR (World.ownsRow.stored ho k _).1 _ (λy hy=>by cases hy;exact Xf)) ((Gr.refl _).alloc _)
  ·rw[X]at hj;rw[JfP U];by_cases e:k=j
   ·subst e;rw[μ rfl];refine⟨.inr (π _),?_⟩
    have hs:∀(W:World) (Z:Array Value) (xs:List Value) (N:Nat),W.heap.size=N->Z.toList=xs->Rec (W.alloc (.cells Z 293)) N 293 xs:=by
     rintro W Z xs N rfl rfl;exact Rec.new W _ _
    refine hs _ _ _ _ (by simp) ?_;rw[Array.toList_setIfInBounds,Array.toList_setIfInBounds,VT9,Y,VXI Ω hi rfl]
    have:nz ((Vvx pt k).set i x)=1:=by
     rw[Zav (by rw[ZJU];exact hi) (by rw[XL0 _ _ hi];exact hh i hi) A,ZXw (ZJU pt k) (λy hy=>by rw[XL0 _ _ hy];exact hh y hy),YPV]
    rw[this,Y8u hh];rfl
   ·rw[ϑ e];have J:=ht j hj;cases hl':L.getD j none with
    | none=>
     rw[hl']at J;intro y hy;rw[Q81 hp,ϑ Ω];exact J y hy
    | some b=>
     rw[hl']at J;refine⟨.inl J.1,?_⟩;rw[Y,JQh hi (λh=>e h.symm)];have I:b≠g:=YnK J.2 ho (by decide) rfl rfl;have M:b≠q:=YnK J.2 hr (by decide) rfl rfl;have r1:=VDR (q:=g) (j:=k) J.2 (.pointer (some ⟨w.heap.size,0,none⟩)) (λy hy=>by cases hy;exact I);exact Rec.gr (VDR r1 _ (λy hy=>by cases hy;exact M)) ((Gr.refl _).alloc _)
  ·rw[JfP U]at ha hb
   have B:∀j,L.getD j none≠some w.heap.size:=λj hj=>by
    by_cases Xk:j<QmJ pt.length
    ·have:=ht j Xk;rw[hj]at this;exact absurd this.2.lt (ζN _)
    ·rw[φ,ζf Ω]at hj;cases hj
   by_cases e1:k=a <;> by_cases e2:k=b
   ·rw[<-e1,e2]
   ·rw[μ e1]at ha;rw[ϑ e2]at hb;cases ha;exact absurd hb (B b)
   ·rw[ϑ e1]at ha;rw[μ e2]at hb;cases hb;exact absurd ha (B a)
   ·rw[ϑ e1]at ha;rw[ϑ e2]at hb;exact hd _ _ _ ha hb
 | some b=>
  rw[hl]at hh cg;obtain⟨sb,hb⟩:=hh;have I:b≠g:=YnK hb ho (by decide) rfl rfl;have Xa:g≠b:=λe=>I e.symm;have M:b≠q:=YnK hb hr (by decide) rfl rfl;have Xe:q≠b:=λe=>M e.symm;have cb:=hb.cell (QvL pt k hi);have cn:=hb.cell (XMj pt k);have Xd:i<(Vvx pt k).length:=by rw[ZJU];exact hi
  have E:(Vvx pt k).getD i 0=pt.getD p 0:=by rw[XL0 _ _ hi,Y]
  have Xh:if x=0 then nz ((Vvx pt k).set i x)+1=nz (Vvx pt k)/\nz (pt.set p x)+1=nz pt else nz ((Vvx pt k).set i x)=nz (Vvx pt k)+1/\nz (pt.set p x)=nz pt+1:=by
   by_cases e:x=0
   ·rw[μ e]at hxx⊢;subst e;exact⟨VtU Xd (by rw[E];exact hxx),VtU hp hxx⟩
   ·rw[ϑ e]at hxx⊢;exact⟨Zav Xd (by rw[E];exact hxx) e,Zav hp hxx e⟩
  have l1:=Yig (Vvx pt k);have l2:=Yig ((Vvx pt k).set i x);rw[υ]at l2;rw[ZJU]at l1 l2;have l3:=Yig (pt.set p x);rw[X]at l3;refine(YAa c0 c2 f2 cg fg cb cn (hb.free i) (hb.free 256) O I M hk hn hi Ω (m':=nz (pt.set p x)) Ω l1 l2 hx Xh Y).mono ?_;rintro e w' ⟨rfl,rfl⟩;obtain⟨t',G⟩:∃t',t'=nz ((Vvx pt k).set i x):=⟨_,rfl⟩;rw[<-G];have D:=VXI (pt:=pt) (k:=k) (i:=i) (x:=x) (t:=t') Ω hi G.symm;rw[<-Y]at D
  -- the world behind the first three stores
  obtain⟨W,hW⟩:∃W,W=((w.setCell ⟨b,i,none⟩ (.int .u32 x)).setCell ⟨b,256,none⟩ (.int .i64 t')).setCell ⟨q,2,none⟩ (.int .i64 (nz (pt.set p x):Nat)):=⟨_,rfl⟩;have TW:XF4 S w W:=by rw[hW];exact((XF4.refl S w).setCell (a:=⟨b,i,none⟩) (λ_=>sb) _ |>.setCell (a:=⟨b,256,none⟩) (λ_=>sb) _).setCell (a:=⟨q,2,none⟩) (λ_=>sq) _
  have RQ:Rec W q 203 [.slice (some ⟨g,0,none⟩) (QmJ pt.length) c,.int .i64 pt.length,.int .i64 (nz (pt.set p x):Nat)]:=by
   rw[hW];have r1:=VDR (q:=b) (j:=i) hr (.int .u32 x) (λy hy=>by cases hy;exact Xe);have r2:=VDR (q:=b) (j:=256) r1 (.int .i64 t') (λy hy=>by cases hy;exact Xe);exact Rec.set r2 2 _
  have RG:W.ownsRow 0 290 1 (.slice (some ⟨g,0,none⟩) (QmJ pt.length) c) (QmJ pt.length) (Xdz L):=by
   rw[hW];exact VDR (VDR (VDR ho _ (λy hy=>by cases hy;exact Xa)) _ (λy hy=>by cases hy;exact Xa)) _ (λy hy=>by cases hy;exact Xf)
  have RB:Rec W b 293 (V8D (pt.set p x) k):=by
   rw[hW,D];exact VDR (Rec.set (Rec.set hb i _) 256 _) _ (λy hy=>by cases hy;exact M)
  have RO:∀j y,j≠k->j<QmJ pt.length->L.getD j none=some y->S y/\Rec W y 293 (V8D (pt.set p x) j):=λj y hj hj2 hy=>by
   have:=ht j hj2;rw[hy]at this;refine⟨this.1,?_⟩;rw[Y,JQh hi hj,hW];have Xc:y≠b:=λe=>hj (hd _ _ _ (by rw[e]at hy;exact hy) hl);have Xl:y≠q:=YnK this.2 hr (by decide) rfl rfl;exact VDR (VDR (VDR this.2 _ (λz hz=>by cases hz;exact Xc)) _ (λz hz=>by cases hz;exact Xc)) _ (λz hz=>by cases hz;exact Xl)
  have RN:∀j,j≠k->j<QmJ pt.length->L.getD j none=none->∀y,y<256->(pt.set p x).getD (256*j+y) 0=0:=λj hj hj2 hy y hy2=>by
   have:=ht j hj2;rw[hy]at this;rw[Q81 hp,ϑ Ω];exact this y hy2
  unfold Xzk;by_cases h0:t'=0
  ·rw[μ h0,<-hW];refine⟨rfl,TW.setCell (a:=⟨g,k,none⟩) (λ_=>sg) _,V,.inl sq,g,c,L.set k none,?_,by rw[X];exact h1,h2,.inl sg,?_,λj hj=>?_,λa y z ha hz=>?_⟩
   ·rw[X];exact VDR RQ _ (λy hy=>by cases hy;exact O)
   ·rw[X,Jna];exact(World.ownsRow.stored RG k _).1
   ·rw[X]at hj;rw[JfP U];by_cases e:k=j
    ·subst e;rw[μ rfl];intro y hy;have:=Z2A (l:=(Vvx pt k).set i x) (by rw[<-G];exact h0) (i:=y) (by rw[υ,ZJU];exact hy);rw[<-JiO Ω,XL0 _ _ hy,<-Y]at this;exact this
    ·rw[ϑ e];cases hl':L.getD j none with
     | none=>exact RN j (λh=>e h.symm) hj hl'
     | some y=>
      have:=RO j y (λh=>e h.symm) hj hl';have Xi:y≠g:=YnK this.2 RG (by decide) rfl rfl;exact⟨.inl this.1,VDR this.2 _ (λz hz=>by cases hz;exact Xi)⟩
   ·rw[JfP U]at ha hz;by_cases e1:k=a
    ·rw[μ e1]at ha;cases ha
    ·by_cases e2:k=y
     ·rw[μ e2]at hz;cases hz
     ·rw[ϑ e1]at ha;rw[ϑ e2]at hz;exact hd _ _ _ ha hz
  ·rw[ϑ h0,<-hW];refine⟨rfl,TW,V,.inl sq,g,c,L,?_,by rw[X];exact h1,h2,.inl sg,?_,λj hj=>?_,hd⟩
   ·rw[X];exact RQ
   ·rw[X];exact RG
   ·rw[X]at hj;by_cases e:k=j
    ·subst e;rw[hl];exact⟨.inl sb,RB⟩
    ·cases hl':L.getD j none with
     | none=>exact RN j (λh=>e h.symm) hj hl'
     | some y=>
      have:=RO j y (λh=>e h.symm) hj hl';exact⟨.inl this.1,this.2⟩
end
end
section
open Go.RowKit Word
def frE(pt:List Nat)(p:Int):Int:=if pgE pt p=0 then (if pt.getD p.toNat 0=0 then 12 else 0)else 11
def frV(pt:List Nat)(p:Int):Int:=if frE pt p=0 then (pt.getD p.toNat 0:Nat)-1 else 0
section
variable {w:World} {S:Nat->Prop} {q:Nat} {pt:List Nat}
theorem ZLB(hM:XZC w S q pt){b:Nat}{p:Int}(hc:w.cell? ⟨b,0,none⟩=some (.int .i64 p)):Calls prog 222 #[.pointer (some ⟨q,0,none⟩),.slice (some ⟨b,0,none⟩) 1 1] w λe w'=>e=.returned (.int .i64 (pgE pt p))/\w=w':=by
 have:=XaF hM (b:=b) (n:=1) (l:=[p]) rfl Ω (λi hi=>by
  obtain rfl:i=0:=Ω
  exact hc)
 refine this.mono ?_;rintro e w' ⟨rfl,rfl⟩;refine⟨ZzN ?_,rfl⟩;unfold Z5O;rcases Z7Q pt p with h|h|h
 ·simp[h.2]
 ·simp[h.2.2]
 ·simp[h.2.2]
theorem JkS{pt:List Nat}{p:Int}(h:pgE pt p=0):∃j:Nat,p=j/\j<pt.length:=by
 unfold pgE at h
 split at h
 ·exact⟨p.toNat,by omega,by omega⟩
 ·cases h
theorem XAh(pt:List Nat)(p:Int):pgE pt p=0\/pgE pt p=11:=by unfold pgE;split <;> simp
theorem Qit(hM:XZC w S q pt)(p:Int):Calls prog 197 #[.pointer (some ⟨q,0,none⟩),.int .i64 p] w λe w'=>e=.returned (.tuple #[.int .i64 (frV pt p),.int .i64 (frE pt p)])/\Gr w w':=by
 have HM:=hid hM;rcases XAh pt p with h0|h0
 ·obtain⟨j,rfl,hj⟩:=JkS h0
  have hl:pt.getD j 0<4294967296:=by
   rw[φ,δ hj];exact hM.ok.lt _ (χ hj)
  have HV:Hid (frE pt j=if pt.getD j 0=0 then 12 else 0):=⟨by unfold frE;rw[μ h0,τ]⟩;have HF:Hid (frV pt j=if frE pt j=0 then ((pt.getD j 0:Nat):Int)-1 else 0):=⟨by unfold frV;rw[τ]⟩;have HG:=hid (λ(w':World) (h:Gr w w')=>QR1 (hM.gr h) hj);have H0:=hid h0;clear hM hj h0;generalize pt.getD j 0=x at HV HF HG hl;by_cases hx:x=0
  ·subst hx;have E1:=HV.o;rw[μ rfl]at E1;have E2:=HF.o;rw[E1,ϑ (by decide)]at E2;have HE:=hid (ν E1 E2);clear E1 E2 HV HF;go_enter func197,ntmps197
   go_wp2_with(first
    | (go_at_call 222;refine(ZLB (HM.o.gr ((Gr.refl w).alloc _)) (p:=j) (ζG _ _ _ 0 rfl)).mono ?_;rintro e w1 ⟨rfl,rfl⟩;rw[H0.o])
    | (go_at_call 223;refine(HG.o _ ((Gr.refl w).alloc _)).mono ?_;rintro e w1 ⟨rfl,rfl⟩))
   go_ret2;exact⟨Qh8 (Yhd (by rw[HE.o.2])) (Yhd (by rw[HE.o.1])),(Gr.refl w).alloc _⟩
  ·have E1:=HV.o;rw[ϑ hx]at E1;have E2:=HF.o;rw[E1,μ rfl]at E2;have HE:=hid (ν E1 E2);have d0:((x:Int)==0)=false:=by simpa using hx
   clear E1 E2 HV HF;go_enter func197,ntmps197
   go_wp2_with(first
    | (go_at_call 222;refine(ZLB (HM.o.gr ((Gr.refl w).alloc _)) (p:=j) (ζG _ _ _ 0 rfl)).mono ?_;rintro e w1 ⟨rfl,rfl⟩;rw[H0.o])
    | (go_at_call 223;refine(HG.o _ ((Gr.refl w).alloc _)).mono ?_;rintro e w1 ⟨rfl,rfl⟩))
   go_ret2;exact⟨Qh8 (Yhd (by rw[HE.o.2])) (Yhd (by rw[HE.o.1])),(Gr.refl w).alloc _⟩
 ·have E1:frE pt p=11:=by unfold frE;rw[ϑ (by rw[h0];decide)]
  have E2:frV pt p=0:=by unfold frV;rw[ϑ (by rw[E1];decide)]
  have HE:=hid (ν E1 E2);have H0:=hid h0;clear E1 E2 h0 hM;go_enter func197,ntmps197;go_wp2_with(go_at_call 222;refine(ZLB (HM.o.gr ((Gr.refl w).alloc _)) (p:=p) (ζG _ _ _ 0 rfl)).mono ?_;rintro e w1 ⟨rfl,rfl⟩;rw[H0.o]);go_ret2;exact⟨Qh8 (Yhd (by rw[HE.o.2])) (Yhd (by rw[HE.o.1])),(Gr.refl w).alloc _⟩
theorem YTd(hM:XZC w S q pt){p f:Nat}(hp:p<pt.length)(h0:pt.getD p 0=0)(hf:f<4096):Calls prog 199 #[.pointer (some ⟨q,0,none⟩),.int .i64 p,.int .i64 f] w λe w'=>e=.returned (.int .i64 0)/\XsB w S q pt p (f+1) w':=by
 have HM:=hid hM;have HI:Hid (pgE pt p=0):=⟨by unfold pgE;rw[μ ⟨by omega,by omega⟩]⟩;have HG:=hid (λ(w':World) (h:Gr w w')=>QR1 (hM.gr h) hp);have HS:=hid (λ(w':World) (h:Gr w w')=>QkK (hM.gr h) (x:=f+1) hp Ω (by rw[ϑ Ω];exact h0));rw[h0]at HG;have b1:((f:Int)+1)%4294967296=(f:Int)+1:=Ω
 have b2:(f:Int)%4294967296=(f:Int):=Ω
 clear hM hp h0;go_enter func199,ntmps199
 go_wp2_with(first
  | (go_at_call 222;refine(ZLB (HM.o.gr ((Gr.refl w).alloc _)) (p:=p) (ζG _ _ _ 0 rfl)).mono ?_;rintro e w1 ⟨rfl,rfl⟩;rw[HI.o])
  | (go_at_call 223;refine(HG.o _ ((Gr.refl w).alloc _)).mono ?_;rintro e w1 ⟨rfl,rfl⟩)
  | (go_at_call 201;refine(HS.o _ ((Gr.refl w).alloc _)).mono ?_;rintro e w1 ⟨rfl,X⟩;have HE:=hid X;clear X))
 go_ret;obtain⟨t1,t2⟩:=HE.o;exact⟨rfl,(((Gr.refl w).alloc _).touch S).trans t1,t2.mono (λk hk=>hk.imp id (λh=>ζb ((Gr.refl w).alloc _).size h))⟩
def QcT(w:World)(S:Nat->Prop)(q:Nat)(pt:List Nat)(p:Int)(w':World):Prop:=(frE pt p≠0/\Gr w w')\/(frE pt p=0/\XsB w S q pt p.toNat 0 w')
theorem ZsE{pt:List Nat}{p:Int}(h:frE pt p=0):∃j:Nat,p=j/\j<pt.length/\pt.getD j 0≠0:=by
 unfold frE at h
 split at h
 ·rename_i h0;obtain⟨j,rfl,hj⟩:=JkS h0;refine⟨j,rfl,hj,λe=>?_⟩;rw[τ,μ e]at h;cases h
 ·cases h
theorem XlB(pt:List Nat)(p:Int):0<=frE pt p/\frE pt p<=12:=by unfold frE;split <;> (try split) <;> omega
theorem Yzj(hM:XZC w S q pt)(p:Int):Calls prog 166 #[.pointer (some ⟨q,0,none⟩),.int .i64 p] w λe w'=>e=.returned (.tuple #[.int .i64 (frV pt p),.int .i64 (frE pt p)])/\QcT w S q pt p w':=by
 have HM:=hid hM;by_cases h0:frE pt p=0
 ·have HZ:=hid h0;obtain⟨j,rfl,hj,hx⟩:=ZsE h0;have HS:=hid (λ(w':World) (h:Gr w w')=>QkK (hM.gr h) (x:=0) hj Ω (by rw[μ rfl];exact hx));clear h0 hM hj hx;go_enter func166,ntmps166
  go_wp2_with(first
   | (go_at_call 197;refine(Qit HM.o j).mono ?_;rintro e w1 ⟨rfl,Y⟩;rw[HZ.o];have X:=hid Y;clear Y)
   | (go_at_call 201;refine(HS.o _ X.o).mono ?_;rintro e w2 ⟨rfl,Z⟩;have HE:=hid Z;clear Z))
  go_ret2;obtain⟨t1,t2⟩:=HE.o;refine⟨Qh8 rfl (Yhd (by rw[HZ.o])),.inr ⟨HZ.o,(X.o.touch S).trans t1,?_⟩⟩;rw[τ];exact t2.mono (λk hk=>hk.imp id (λh=>ζb X.o.size h))
 ·have HZ:=hid h0;have hr:=XlB pt p;have HV:Hid (frE pt p=frE pt p):=⟨rfl⟩;obtain⟨x,hx⟩:∃x,x=frE pt p:=⟨_,rfl⟩;have HX:=hid hx;rw[<-hx]at h0 hr;have d0:(x==0)=false:=by simpa using h0
  clear hM hx;go_enter func166,ntmps166;go_wp2_with(go_at_call 197;refine(Qit HM.o p).mono ?_;rintro e w1 ⟨rfl,Y⟩;rw[<-HX.o];have X:=hid Y;clear Y);go_ret2;exact⟨Qh8 rfl (Yhd (by rw[HX.o])),.inl ⟨HZ.o,X.o⟩⟩
theorem Zym.new{n:Nat}(h1:1<=n)(h2:n<=524288):Zym (List.replicate n 0):=
 ⟨by simpa using h1,by simpa using h2,λx hx=>by rw[ξn hx];decide⟩
theorem VBu(n i:Nat):(List.replicate n 0).getD i 0=0:=by
 rw[φ,ζD]
 split <;> rfl
theorem Qr3:(prog.info? 290).map (λi=>(i.zero,i.size,i.bytes))=some (some (.pointer none),1,8):=by kernel_rfl
theorem JxF(n:Nat):(madeCells #[.pointer none] n).toList=Xdz (List.replicate n none):=by
 unfold madeCells Xdz;apply ζ9
 ·simp
 ·intro i h1 h2;simp[ψi]
theorem XZg{w:World}{base E size:Nat}{v:Value}{n:Nat}{xs:List Value}(h:w.ownsRow base E size v n xs):w.ownsRow 0 E size v n xs:=by
 obtain⟨h1,h|⟨g,c,X,e1,e2,h⟩⟩:=h
 ·exact⟨h1,.inl h⟩
 ·exact⟨h1,.inr ⟨g,c,X,e1,ζh _,h⟩⟩
theorem J3k{n:Nat}(h1:1<=n)(h2:n<=524288):Calls prog 81 #[.int .i64 n] w λe w'=>∃q,e=.returned (.tuple #[.pointer (some ⟨q,0,none⟩),.int .i64 0])/\Gr w w'/\XZC w' (λk=>w.heap.size<=k) q (List.replicate n 0):=by
 obtain⟨i0,hi,J,V,U⟩:=info_parts Qr3;have e1:((n:Int)+256-1)/256=(QmJ n:Int):=by unfold QmJ;omega
 have b0:QmJ n<=2048:=Z4C h2;have HB:Hid (i0.bytes*QmJ n<=281474976710656):=⟨by rw[U];omega⟩;have HM:Hid (QmJ n<=maxLen):=⟨by unfold maxLen;omega⟩;go_enter func81,ntmps81;go_wp2_with(at_make;refine wpList_make_full _ rfl _ _ 201 rfl w.heap.size 290 i0 (.pointer none) 1 underlying201 hi J V .i64 .i64 _ _ (QmJ n) rfl rfl ?h1 ?h2 HB.o HM.o (π _) ?h3)
 case h1=>omega
 case h2=>omega
 case h3=>
  intro w1 X Y;have Z:Gr w w1:=(JEA Y (λ_=>False) (λk e _=>by cases e)).gr;have HO:=hid (XZg X);have HG:=hid Z;clear X Y Z;go_wp2;go_ret2;have hl:(List.replicate n 0).length=n:=ζC;have X:=HO.o;rw[JxF]at X;refine⟨_,Qh8 rfl rfl,HG.o.alloc _,Zym.new h1 h2,HG.o.size,w.heap.size,QmJ n,List.replicate (QmJ n) none,?_,by rw[hl];exact π _,HM.o,π _,?_,λk hk=>?_,λk j b hk=>?_⟩
  ·rw[hl,YPV];exact Rec.new w1 _ _
  ·rw[hl];exact Y9I X ((Gr.refl _).alloc _)
  ·rw[φ,ζD];rw[hl]at hk;rw[μ hk];exact λi _=>VBu n _
  ·rw[φ,ζD]at hk
   split at hk <;> cases hk
end
end
end Go.Proofs.YteihjlcmjecmfaaGreatDoor
