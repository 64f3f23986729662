/- Part 3 of what Trees leans on: my own lemmas, merged by shake.py. -/
import Derived.Test.YtbdimhlaaoadgaaGreatDoorTreesB
import Derived.Laws.OwnMore
namespace Go.Proofs.YtbdimhlaaoadgaaGreatDoor
open _root_.Go.Proofs.Tryz
set_option maxHeartbeats 3200000
set_option maxRecDepth 100000
open Go.RowKit Word
variable{Q:Exit->Act->World->Prop}{l pt:List Nat}{xs:List Value}{E T base f g i j k m n p pg q size x:Nat}{S:Nat->Prop}{o:Oper}{a b c d e u v:Value}{w w':World}
def Rec(w:World)(q T:Nat)(xs:List Value):Prop:=w.ownsRow 0 T xs.length (.slice (some ⟨q,0,none⟩) 1 1) 1 xs
theorem Rec.cell(h:Rec w q T xs)(hj:xs[j]?=some u):w.cell? ⟨q,j,none⟩=some u:=BS h hj
theorem Rec.cc(h : Rec w q T xs)(j : Nat)(hj : xs[j]? = some u := by exact rfl) : w.cell? ⟨q,j,none⟩ = some u := h.cell hj
theorem Rec.free(h:Rec w q T xs)(j:Nat):w.frozen? ⟨q,j,none⟩=false:=FF h j
theorem Rec.lt(h:Rec w q T xs):q<w.heap.size:=(BE h rfl).2
theorem Rec.k2{Q:Nat}{l:List Value}(H:Rec w Q T (a::b::l)):w.cell? ⟨Q,0,none⟩=some a∧w.cell? ⟨Q,1,none⟩=some b∧Q<w.heap.size:=⟨H.cc 0,H.cc 1,H.lt⟩
theorem Rec.k3{Q:Nat}{l:List Value}(H:Rec w Q T (a::b::c::l)):w.cell? ⟨Q,0,none⟩=some a∧w.cell? ⟨Q,1,none⟩=some b∧w.cell? ⟨Q,2,none⟩=some c∧Q<w.heap.size:=⟨H.cc 0,H.cc 1,H.cc 2,H.lt⟩
theorem Rec.k4{Q:Nat}{l:List Value}(H:Rec w Q T (a::b::c::d::l)):w.cell? ⟨Q,0,none⟩=some a∧w.cell? ⟨Q,1,none⟩=some b∧w.cell? ⟨Q,2,none⟩=some c∧w.cell? ⟨Q,3,none⟩=some d∧Q<w.heap.size:=⟨H.cc 0,H.cc 1,H.cc 2,H.cc 3,H.lt⟩
theorem Rec.k7{Q:Nat}{f g:Value}{l:List Value}(H:Rec w Q T (a::b::c::d::e::f::g::l)):w.cell? ⟨Q,0,none⟩=some a∧w.cell? ⟨Q,1,none⟩=some b∧w.cell? ⟨Q,2,none⟩=some c∧w.cell? ⟨Q,3,none⟩=some d∧w.cell? ⟨Q,4,none⟩=some e∧w.cell? ⟨Q,5,none⟩=some f∧w.cell? ⟨Q,6,none⟩=some g∧Q<w.heap.size:=⟨H.cc 0,H.cc 1,H.cc 2,H.cc 3,H.cc 4,H.cc 5,H.cc 6,H.lt⟩
theorem Rec.k8{Q:Nat}{f g h:Value}{l:List Value}(H:Rec w Q T (a::b::c::d::e::f::g::h::l)):w.cell? ⟨Q,0,none⟩=some a∧w.cell? ⟨Q,1,none⟩=some b∧w.cell? ⟨Q,2,none⟩=some c∧w.cell? ⟨Q,3,none⟩=some d∧w.cell? ⟨Q,4,none⟩=some e∧w.cell? ⟨Q,5,none⟩=some f∧w.cell? ⟨Q,6,none⟩=some g∧w.cell? ⟨Q,7,none⟩=some h∧Q<w.heap.size:=⟨H.cc 0,H.cc 1,H.cc 2,H.cc 3,H.cc 4,H.cc 5,H.cc 6,H.cc 7,H.lt⟩
theorem Rec.new(w:World)(T:Nat)(xs:List Value):Rec (w.alloc (.cells xs.toArray T)) w.heap.size T xs:=by
 have:=World.ownsRow_lit (base:=0) (e:=T) (size:=xs.length) w xs.toArray 1 (ζf _) (by unfold maxLen;omega) (by simp);exact this
theorem Rec.set(h:Rec w q T xs)(j:Nat)(u:Value):Rec (w.setCell ⟨q,j,none⟩ u) q T (xs.set j u):=by
 have:=(World.ownsRow.stored h j u).1;unfold Rec;rw[ζb];exact this
theorem Rec.touch(h:Rec w q T xs)(t:AB S w w')(hS:¬S q):Rec w' q T xs:=BX h t (λg hg=>by cases hg;exact hS)
theorem Rec.gr(h:Rec w q T xs)(t:Gr w w'):Rec w' q T xs:=CL h t
theorem QW(h:w.ownsRow base E size v n xs)(hg:v.ownBlock=some g):∃cur,w.heap[g]?=some (.cells cur E (0,0)):=by
 obtain⟨_,⟨rfl,_⟩|⟨g',cap,cur,rfl,_,h3,_⟩⟩:=h
 ·cases hg
 ·cases hg;exact⟨cur,h3⟩
theorem AQ{b1 b2 E1 E2 s1 s2:Nat}{v1 v2:Value}{n1 n2:Nat}{xs1 xs2:List Value}(h1:w.ownsRow b1 E1 s1 v1 n1 xs1)(h2:w.ownsRow b2 E2 s2 v2 n2 xs2)(he:E1≠E2){g1 g2:Nat}(hg1:v1.ownBlock=some g1)(hg2:v2.ownBlock=some g2):g1≠g2:=by
 intro e;subst e;obtain⟨c1,e1⟩:=QW h1 hg1;obtain⟨c2,e2⟩:=QW h2 hg2;rw[e1]at e2;simp only[Option.some.injEq,Obj.cells.injEq]at e2;exact he e2.2.1
theorem C7(h:w.ownsRow base E size v n xs):∃A c,v=.slice A n c/\n<=c/\c<=maxLen:=by
 obtain⟨_,⟨rfl,rfl⟩|⟨g',cap,cur,rfl,_,_,h4,h5,_⟩⟩:=h
 ·exact⟨none,0,rfl,ϑ _,ζf _⟩
 ·exact⟨_,_,rfl,h4,h5⟩
theorem AX(h:w.ownsRow base E size v n xs)(u:Value)(hq:∀g,v.ownBlock=some g->g≠q):(w.setCell ⟨q,j,none⟩ u).ownsRow base E size v n xs:=
 ZIq h (λg hg=>Below.heap_setCell _ _ _ _ (hq g hg))
theorem Y9{c:Nat}{x:Value}(h:w.ownsRow base E 1 (.slice (some ⟨g,0,none⟩) (n+1) c) (n+1) (xs++[x])):w.ownsRow base E 1 (.slice (some ⟨g,0,none⟩) n c) n xs:=by
 obtain⟨h1,⟨h,_⟩|⟨g',cap,X,e1,e2,e3,e4,e5,e6,e7⟩⟩:=h
 ·cases h
 ·simp only[Value.slice.injEq,Option.some.injEq,Addr.mk.injEq,and_true,true_and]at e1;obtain⟨rfl,rfl⟩:=e1;have hl:xs.length=n:=by simp at h1;omega
  refine⟨by rw[hl,ξA],.inr ⟨g,c,X,rfl,e2,e3,by omega,e5,e6,?_⟩⟩;rw[ξA]at e7⊢;have:X.toList.take n=(X.toList.take (n+1)).take n:=by rw[List.take_take];congr 1;omega
  rw[this,e7,<-hl,List.take_left]
theorem VcC(z:Value)(n:Nat):(Builtin.zeroCells #[z] n).toList=List.replicate n z:=by
 unfold Builtin.zeroCells;apply ξs
 ·simp
 ·intro j h1 h2;simp[Nat.mod_one]
section
variable{P:Program}(w:World)
theorem JNG(t it ty e:TypeId)(k:IntKind)(base:Nat)(i:TypeInfo)(z:Value)(ht:P.underlying t=some (.slice e))(hit:P.underlying it=some (.int k))(hi:P.info? e=some i)(hz:i.zero=some z)
  (hsize:i.size=1) (hzs:z.cells=#[z]) (hz1:z.oneCell'=true)
  (v:Value) (n:Nat) (xs:List Value) (hown:w.ownsRow base e 1 v n xs) (m:Nat) (hm:0<m) (h63:n+m<=maxLen) (hbytes:(n+m)*i.bytes<=140737488355328) (hbase:base<=w.heap.size):
  ∃g cap w',(Builtin.append_ #[t,it] ty #[v,iI m]).run P w=.ok (.slice (some ⟨g,0,none⟩) (n+m) cap) w' ∧
   w'.ownsRow base e 1 (.slice (some ⟨g,0,none⟩) (n+m) cap) (n+m) (xs++List.replicate m z)/\w.grownBy w' v.ownBlock/\(v.ownBlock=some g\/g=w.heap.size)/\g<w'.heap.size:=by
 have hsmall:n+m<=9223372036854775807:=by simp only[maxLen]at h63;omega
 have hmb:(m:Int)*(i.bytes:Int)<=281474976710656:=by
  have h1:m*i.bytes<=(n+m)*i.bytes:=ζm _ Ω;have h2:((m*i.bytes:Nat):Int)=(m:Int)*(i.bytes:Int):=by push_cast;rfl
  omega
 have hw:IntKind.i64.wrap (m:Int)=(m:Int):=ζw _ Ω;have B:¬(m:Int)<0:=Ω
 have V:¬(281474976710656:Int)<(m:Int)*(i.bytes:Int):=Ω
 have A:∀(w:World),(asInt (iI (m:Int))).run P w=.ok (m:Int) w:=λ_=>by simp[asInt,asIntOf]
 have hmle:¬(m:Int)<=0:=Ω
 have Xe:max (m:Int) 0=(m:Int):=Ω
 have Xa:¬m=0:=Ω
 have hne:¬m*i.size=0:=by rw[hsize];omega
 have hl:xs.length=n:=by have:=hown.1;omega
 have L:(xs++List.replicate m z).length=n+m:=by simp[hl]
 have grown:∀(Y:Nat) (Xd:Option Nat),
   (w.drew.alloc (.cells ((xs++List.replicate m z).toArray++Builtin.zeroCells z.cells (grownCap w (n+m) Y e-(n+m))) e)).ownsRow base e 1
    (.slice (some ⟨w.heap.size,0,none⟩) (n+m) (grownCap w (n+m) Y e)) (n+m) (xs++List.replicate m z) ∧
   w.grownBy (w.drew.alloc (.cells ((xs++List.replicate m z).toArray++Builtin.zeroCells z.cells (grownCap w (n+m) Y e-(n+m))) e)) Xd:=by
  intro Y Xd;have Xf:=grownCap_ge w (n+m) Y e;have E:grownCap w (n+m) Y e<=maxLen:=grownCap_le_maxLen w (n+m) Y e h63;refine⟨⟨by omega,.inr ⟨w.heap.size,_,_,rfl,hbase,heap_alloc_new w.drew _,Xf,E,?_,?_⟩⟩,⟨rfl,rfl,rfl,by simp,λk hk _=>Below.heap_alloc w.drew _ k hk⟩⟩
  ·rw[Array.size_append,size_zeroCells,hzs,ζ0,L];simp;omega
  ·rw[Array.toList_append,List.toList_toArray,ξA,<-L];exact List.take_left
 have O:Builtin.zeroCells z.cells m=(List.replicate m z).toArray:=by rw[hzs];apply Array.ext';rw[VcC]
 rcases hown.2 with⟨rfl,rfl⟩|⟨g,cap,N,rfl,Xg,hg,hnc,E,G,U⟩
 ·obtain rfl:xs=[]:=ζy hl;have J:¬(281474976710656<Builtin.nextslicecap m 0*i.bytes):=by rw[nextslicecap_zero hm];have:=hbytes;simp only[ξt]at this;omega
  have M:¬(9223372036854775807<(m:Int)):=Ω
  have Z:=grown 0 none;simp only[ξt,ζU]at Z⊢;refine⟨_,_,_,?_,Z.1,?_,.inr rfl,by simp⟩
  ·simp[Builtin.append_,run_underlying ht,run_underlying hit,sizeOf,typeInfo,zeroValue,hi,hz,hw,B,V,M,J,Question.forced,run_firstCells_none,newRow,grownCap,hsize,A,Xe,Xa];rw[O];simp
  ·exact Z.2
 ·by_cases X:n+m<=cap
  ·have Xb:n*i.size+0+(List.replicate m z).length<=N.size:=by rw[hsize,G];simp;omega
   have D:=run_storeCells_at P g (n*i.size) e (List.replicate m z) 0 N w hg (by simpa using Xb) (λu hu=>by rw[ξz hu];exact hz1);simp only[ξk,hsize,ξA]at D;refine⟨g,cap,w.setRow g (N.toList.take n++List.replicate m z++N.toList.drop (n+(List.replicate m z).length)).toArray,?_,⟨by omega,.inr ⟨g,cap,_,rfl,Xg,setRow_heap w g N _ e _ hg,X,E,?_,?_⟩⟩,⟨rfl,rfl,rfl,by simp,λk _ hk=>setRow_other w g k _ (λe=>hk (by simp[Value.ownBlock,e]))⟩,.inl rfl,?_⟩
   ·simp[Builtin.append_,run_underlying ht,run_underlying hit,sizeOf,typeInfo,zeroValue,hi,hz,hw,B,V,hsize,A,Xa,X,O,Addr.add_lit];simp at D;simp[D]
   ·rw[ξA]at G;simp;omega
   ·rw[ξA]at U G;rw[ξA,List.toList_toArray,U,ξu,<-ξu,<-L];exact List.take_left
   ·simp;exact(ζs.1 hg).1
  ·have J:¬(281474976710656<Builtin.nextslicecap (n+m) cap*i.bytes):=by have:=growslice_fits (show cap<n+m by omega) hbytes;omega
   have M:¬(9223372036854775807<((n:Int)+(m:Int))):=Ω
   have I:∀j u,xs[j]?=some u->w.cell? ((⟨g,0,none⟩:Addr).add j)=some u:=hown.cells (g:=g) rfl;have Xc:=run_firstCells_some (P:=P) w.drew i.size n ⟨g,0,none⟩ n cap xs (by rw[hsize,hl];omega) (by simpa using I);rw[hsize]at Xc;have Z:=grown cap (Value.ownBlock (.slice (some ⟨g,0,none⟩) n cap));refine⟨_,_,_,?_,Z.1,Z.2,.inr rfl,by simp⟩;simp[Builtin.append_,run_underlying ht,run_underlying hit,sizeOf,typeInfo,zeroValue,hi,hz,hw,B,V,M,J,Question.forced,Xc,newRow,grownCap,hsize,A,Xe,Xa,X,O];congr 2;apply Array.ext';simp
theorem Z2Z{a:Act}{K:Act->World->Prop}(s x:Operand)(t it:TypeId)
  (ho:o.op=.call {callee:=.builtin .append,args:=#[s,x],argTypes:=#[t,it]}) (e:TypeId) (k:IntKind) (base:Nat) (i:TypeInfo) (z:Value) (ht:P.underlying t=some (.slice e)) (hit:P.underlying it=some (.int k)) (hi:P.info? e=some i) (hz:i.zero=some z)
  (hsize:i.size=1) (hzs:z.cells=#[z]) (hz1:z.oneCell'=true)
  (v:Value) (n:Nat) (xs:List Value) (hs:a.eval s=v) (hown:w.ownsRow base e 1 v n xs) (m:Nat) (hx:a.eval x=iI m) (hm:0<m) (h63:n+m<=maxLen) (hbytes:(n+m)*i.bytes<=140737488355328) (hbase:base<=w.heap.size)
  (h:∀g cap w',w'.ownsRow base e 1 (.slice (some ⟨g,0,none⟩) (n+m) cap) (n+m) (xs++List.replicate m z)->w.grownBy w' v.ownBlock->(v.ownBlock=some g\/g=w.heap.size)->g<w'.heap.size->K (a.put o.dst (.slice (some ⟨g,0,none⟩) (n+m) cap)) w'):o.wp P a w K Q:=by
 obtain⟨g,cap,w',hr,h2,h3,h4,h5⟩:=JNG (P:=P) w t it o.type e k base i z ht hit hi hz hsize hzs hz1 v n xs hown m hm h63 hbytes hbase;unfold Oper.wp execOp;simp only[ho,resolve,invoke,builtin,Sem.run_bind,Sem.run_pure,Result.andThen_ok,List.map_toArray,ζ6,List.map_nil,hs,hx,hr];exact h g cap w' h2 h3 h4 h5
theorem ZfD{ops:Array Oper}{rest:List Oper}{a:Act}(hgd:o.guard=none)(s x:Operand)(t it:TypeId)
  (ho:o.op=.call {callee:=.builtin .append,args:=#[s,x],argTypes:=#[t,it]}) (e:TypeId) (k:IntKind) (base:Nat) (i:TypeInfo) (z:Value) (ht:P.underlying t=some (.slice e)) (hit:P.underlying it=some (.int k)) (hi:P.info? e=some i) (hz:i.zero=some z)
  (hsize:i.size=1) (hzs:z.cells=#[z]) (hz1:z.oneCell'=true)
  (v:Value) (n:Nat) (xs:List Value) (hs:a.eval s=v) (hown:w.ownsRow base e 1 v n xs) (m:Nat) (hx:a.eval x=iI m) (hm:0<m) (h63:n+m<=maxLen) (hbytes:(n+m)*i.bytes<=140737488355328) (hbase:base<=w.heap.size)
  (h:∀g cap w',w'.ownsRow base e 1 (.slice (some ⟨g,0,none⟩) (n+m) cap) (n+m) (xs++List.replicate m z)->w.grownBy w' v.ownBlock->(v.ownBlock=some g\/g=w.heap.size)->g<w'.heap.size->wpList P ops Q rest (a.put o.dst (.slice (some ⟨g,0,none⟩) (n+m) cap)) w'):wpList P ops Q (o :: rest) a w:=
 wpList_plain hgd λ_ hK=>Z2Z w s x t it ho e k base i z ht hit hi hz hsize hzs hz1 v n xs hs hown m hx hm h63 hbytes hbase λg cap w' h2 h3 h4 h5=>hK _ _ (h g cap w' h2 h3 h4 h5)
theorem YNv(t e:TypeId)(base:Nat)(i:TypeInfo)(z:Value)(ht:P.underlying t=some (.slice e))(hi:P.info? e=some i)(hz:i.zero=some z)
  (hzs:z.cells=#[z]) (hz1:z.oneCell'=true) {cap N:Nat}  (hown:w.ownsRow base e 1 (.slice (some ⟨g,0,none⟩) N cap) N xs) (o n c:Nat) (hn:0<n) (hon:o+n<=N):
  ∃w',(∀ty,(Builtin.clear_ #[t] ty #[.slice (some ⟨g,o,none⟩) n c]).run P w=.ok (.tuple #[]) w')/\w'.ownsRow base e 1 (.slice (some ⟨g,0,none⟩) N cap) N (xs.take o++List.replicate n z++xs.drop (o+n))/\w.grownBy w' (some g):=by
 have J:Builtin.zeroCells z.cells n=(List.replicate n z).toArray:=by rw[hzs];apply Array.ext';rw[VcC]
 obtain⟨hl,⟨h',_⟩|⟨g',cap',Y,h',hb,hg,U,M,V,X⟩⟩:=hown
 ·simp at h'
 ·simp only[Value.slice.injEq,Option.some.injEq,Addr.mk.injEq,and_true,true_and]at h';obtain⟨rfl,rfl⟩:=h';rw[ξA]at hl V X;have Z:=run_storeCells_at P g o e (List.replicate n z) 0 Y w hg (by simp;omega) (λu hu=>by rw[ξz hu];exact hz1);simp only[ξk,ζT]at Z;have O:n≠0:=Ω
  have hlen:xs.length=N:=hl;refine⟨_,λty=>?_,⟨by simp;omega,.inr ⟨g,cap,(Y.toList.take o++List.replicate n z++Y.toList.drop (o+n)).toArray,rfl,hb,setRow_heap w g Y _ e _ hg,U,M,by simp;omega,?_⟩⟩,⟨rfl,rfl,rfl,by simp,λk _ hk=>setRow_other w g k _ (λe=>hk (by simp[e]))⟩⟩
  ·simp[Builtin.clear_,run_underlying ht,zeroValue,typeInfo,hi,hz,J,O];simp at Z;simp[Z]
  ·rw[ξA,List.toList_toArray,<-X];apply List.ext_getElem?;intro j;rw[ξT];by_cases hj:j<N
   ·rw[φ hj];by_cases h1:j<o
    ·rw[ξu,ξu,ζW (by simp;omega),ζW (by simp;omega),ξT,ξT,φ h1,φ h1,ξT,φ hj]
    ·by_cases h2:j<o+n
     ·rw[ξu,ξu,ζ2 (by simp;omega),ζW (by simp;omega),ζ2 (by simp;omega),ζW (by simp;omega)];congr 1;simp;omega
     ·rw[ζ2 (by simp;omega),ζ2 (by simp;omega),List.getElem?_drop,List.getElem?_drop,ξT,φ (by simp;omega)];congr 1;simp;omega
   ·rw[ξ hj,ζN (by simp;omega)]
end
structure Pl where
 pg:Nat
 rm:Nat
 tk:List Bool
 bk:List Nat
 wd:List Nat
def Pl.used(p:Pl):Nat:=cnt (at_ p.tk) p.tk.length
structure FB(p:Pl):Prop where
 pg:BL p.pg=true
 pg2:p.pg<=256
 rm:1<=p.rm/\p.rm<=4096
 wl:p.wd.length=p.tk.length*p.pg
 w64:∀x∈p.wd,x<18446744073709551616
 nd:p.bk.Nodup
 bl:∀f∈p.bk,f<p.tk.length/\at_ p.tk f=false
 us:p.used+p.bk.length=p.tk.length
 le:p.tk.length<=p.rm
def CO(l:List Nat):List Value:=l.map λx=>uU (x:Nat)
def DV(l:List Nat):List Value:=l.map λx=>iI (x:Nat)
def Y2(w:World)(S:Nat->Prop)(q:Nat)(p:Pl):Prop:=
 ∃vw vt vb hi ts,Rec w q 247 [vw,vt,vb,iI p.rm,iI p.pg,iI p.used,iI hi,iI ts] ∧
  w.ownsRow 0 37 1 vw p.wd.length (CO p.wd)/\w.ownsRow 0 4 1 vt p.tk.length (p.tk.map Value.bool)/\w.ownsRow 0 3 1 vb p.bk.length (DV p.bk) ∧
  (∀g,vw.ownBlock=some g->S g)/\(∀g,vt.ownBlock=some g->S g)/\(∀g,vb.ownBlock=some g->S g)
def plus(S:Nat->Prop)(w:World)(k:Nat):Prop:=S k\/w.heap.size<=k
structure CI(w:World)(S:Nat->Prop)(q:Nat)(p:Pl):Prop where
 ok:FB p
 sq:S q
 row:Y2 w S q p
theorem CI.touch{T:Nat->Prop}{p:Pl}(h:CI w S q p)(t:AB T w w')(hS:∀k,S k->k<w.heap.size->¬T k):CI w' S q p:=by
 obtain⟨h1,h2,vw,vt,vb,hi,ts,hr,o1,o2,o3,s1,s2,s3⟩:=h;exact⟨h1,h2,vw,vt,vb,hi,ts,hr.touch t (hS _ h2 hr.lt),BX o1 t (λg hg=>hS g (s1 g hg) (BE o1 hg).2),BX o2 t (λg hg=>hS g (s2 g hg) (BE o2 hg).2),BX o3 t (λg hg=>hS g (s3 g hg) (BE o3 hg).2),s1,s2,s3⟩
theorem CI.gr{p:Pl}(h:CI w S q p)(t:Gr w w'):CI w' S q p:=h.touch (t.touch (λ_=>False)) (λ_ _ _ h=>h)
theorem ZpD(h:i<l.length):(CO l)[i]?=some (uU (l[i]:Nat)):=by simp[CO,h]
theorem XS1(h:i<l.length):(DV l)[i]?=some (iI (l[i]:Nat)):=by simp[DV,h]
theorem XP{l:List Bool}(h:i<l.length):(l.map Value.bool)[i]?=some (.bool (at_ l i)):=by simp[at_,h]
section
variable{p:Pl}
theorem TN(hP:CI w S q p):cQ 203 #[pP q] w (iI p.pg):=by
 obtain⟨vw,vt,vb,hi,ts,hr,-⟩:=hP.row;have c4:=hr.cc 4;clear hr hP;go_enter func203,ntmps203;go_wp2;go_ret;exact⟨rfl,rfl⟩
def DX(p:Pl)(f:Int):Int:=if decide (0<=f)&&at_ p.tk f.toNat then 0 else 6
theorem N5(hP:CI w S q p)(f:Int):cQ 248 #[pP q,iI f] w (iI (DX p f)):=by
 obtain⟨vw,vt,vb,hi,ts,hr,-,ot,-⟩:=hP.row;have c1:=hr.cc 1;obtain⟨A,c,rfl,hc1,X⟩:=C7 ot;unfold maxLen at X;have hlr:=hP.ok.le;have hrm:=hP.ok.rm.2;by_cases h0:f<0
 ·have E:DX p f=6:=by unfold DX;rw[ζ Ω];rfl
  rw[E];have d0:decide (f<0)=true:=θ h0;clear hr hP ot E;go_enter func248,ntmps248;go_wp2;go_ret;exact⟨rfl,rfl⟩
 ·obtain⟨j,rfl⟩:∃j:Nat,f=j:=⟨f.toNat,by omega⟩;have d0:decide ((j:Int)<0)=false:=ζ h0;by_cases h1:p.tk.length<=j
  ·have E:DX p j=6:=by unfold DX;rw[χ,P7 h1,Bool.and_false];rfl
   rw[E];have d1:decide (p.tk.length<=j)=true:=θ h1;clear hr hP ot E;go_enter func248,ntmps248;go_wp2;go_ret;exact⟨rfl,rfl⟩
  ·have d1:decide (p.tk.length<=j)=false:=ζ h1;obtain⟨g,c',e1,-,-,-,-⟩:=E6 ot Ω;simp only[Value.slice.injEq,true_and]at e1;obtain⟨rfl,rfl⟩:=e1;have k:=BS ot (XP (i:=j) Ω);have hj:(j:Int)<(p.tk.length:Int):=Ω
   cases hb:at_ p.tk j with
   | true=>
    have E:DX p j=0:=by unfold DX;rw[χ,hb,θ Ω];rfl
    rw[E];rw[hb]at k;clear hr hP ot E hb;go_enter func248,ntmps248;go_wp2;go_ret;exact⟨rfl,rfl⟩
   | false=>
    have E:DX p j=6:=by unfold DX;rw[χ,hb,Bool.and_false];rfl
    rw[E];rw[hb]at k;clear hr hP ot E hb;go_enter func248,ntmps248;go_wp2;go_ret;exact⟨rfl,rfl⟩
theorem QLE(hP:CI w S q p)(hf:f<p.tk.length):f*p.pg+p.pg<=p.wd.length/\p.wd.length<=1048576:=by
 have h1:=hP.ok.wl;have h2:=hP.ok.le;have h3:=hP.ok.rm.2;have h4:=hP.ok.pg2;constructor
 ·rw[h1,<-ξp];exact ζm _ hf
 ·rw[h1];exact β (ψA (β h2 h3) h4) (by decide)
theorem XlR(hP:CI w S q p)(hf:f<p.tk.length):∃g c hi ts vt vb,Rec w q 247 [.slice (some ⟨g,0,none⟩) p.wd.length c,vt,vb,iI p.rm,iI p.pg,iI p.used,iI hi,iI ts] ∧
  w.ownsRow 0 37 1 (.slice (some ⟨g,0,none⟩) p.wd.length c) p.wd.length (CO p.wd)/\w.ownsRow 0 4 1 vt p.tk.length (p.tk.map Value.bool)/\w.ownsRow 0 3 1 vb p.bk.length (DV p.bk) ∧
  S g/\(∀g,vt.ownBlock=some g->S g)/\(∀g,vb.ownBlock=some g->S g)/\p.wd.length<=c/\c<=9223372036854775807:=by
 obtain⟨h1,h2,vw,vt,vb,hi,ts,hr,o1,o2,o3,s1,s2,s3⟩:=hP;have hpg:=DD h1.pg
 have X:p.wd.length≠0:=by
  rw[h1.wl];have:1<=p.tk.length*p.pg:=Nat.mul_pos Ω Ω;omega
 obtain⟨g,c,rfl,-,h3,h4,-⟩:=E6 o1 X;unfold maxLen at h4;exact⟨g,c,hi,ts,vt,vb,hr,o1,o2,o3,s1 g rfl,s2,s3,h3,by omega⟩
theorem Z8{c:Nat}{vt vb v3 v5 v6 v7:Value}(hr:Rec w q 247 [.slice (some ⟨g,0,none⟩) n c,vt,vb,v3,iI pg,v5,v6,v7])(hc:n<=c)(hc2:c<=9223372036854775807)
   (hp:1<=pg) (h1:f*pg+pg<=n) (h2:n<=1048576):cQ 277 #[pP q,iI f] w (.slice (some ⟨g,f*pg,none⟩) pg pg):=by
 have c0:=hr.cc 0;have c4:=hr.cc 4;obtain⟨t,ht⟩:∃t,t=f*pg:=⟨_,rfl⟩;rw[<-ht]at h1⊢;have X:(f:Int)*(pg:Int)=(t:Int):=by rw[ht];push_cast;rfl
 have hw:IntKind.i64.wrap ((f:Int)*(pg:Int))=(t:Int):=by rw[X];exact ζw _ Ω
 have b1:(t:Int)+(pg:Int)<=(c:Int):=Ω
 have n0:¬pg=0:=Ω
 have n1:¬t+pg=t:=Ω
 clear hr ht;go_enter func277,ntmps277;go_wp2;go_ret;refine⟨?_,rfl⟩
 show Ending.returned (.slice (some ⟨g,t,none⟩) (t+pg-t) (t+pg-t))=_
 rw[ξC]
def C3(p:Pl)(f a:Int):Int:=if DX p f=0 then (if 0<=a/\a<p.pg then 0 else 11)else 6
theorem ZNg{p:Pl}{f:Int}(h:DX p f=0):∃j:Nat,f=j/\j<p.tk.length/\at_ p.tk j=true:=by
 unfold DX at h;cases hb:(decide (0<=f)&&at_ p.tk f.toNat)with
 | false=>rw[hb]at h;cases h
 | true=>
  simp at hb;exact⟨f.toNat,by omega,FV hb.2,hb.2⟩
theorem VZN(p:Pl)(f:Int):DX p f=0\/DX p f=6:=by unfold DX;split <;> simp
def YvI(w:World)(S:Nat->Prop)(q:Nat)(p:Pl)(f a:Int)(e:Ending)(w':World):Prop:=w=w' ∧
 ((C3 p f a≠0/\e=.returned (.tuple #[.pointer none,iI (C3 p f a)])) ∨
  (C3 p f a=0/\∃g:Nat,S g/\e=.returned (.tuple #[.pointer (some ⟨g,f.toNat*p.pg+a.toNat,none⟩),iI 0])/\w.cell? ⟨g,f.toNat*p.pg+a.toNat,none⟩=some (uU (p.wd.getD (f.toNat*p.pg+a.toNat) 0:Nat))/\w.frozen? ⟨g,f.toNat*p.pg+a.toNat,none⟩=false ∧
   ∀x:Nat,x<18446744073709551616->CI (w.setCell ⟨g,f.toNat*p.pg+a.toNat,none⟩ (.int .u64 x)) S q {p with wd:=p.wd.set (f.toNat*p.pg+a.toNat) x}))
theorem YEA(l:List Nat)(i x:Nat):(CO l).set i (uU (x:Nat))=CO (l.set i x):=by unfold CO;rw[ξY]
theorem QTa{p:Pl}(h:FB p)(i x:Nat)(hx:x<18446744073709551616):FB {p with wd:=p.wd.set i x}:=
 ⟨h.pg,h.pg2,h.rm,by simp[h.wl],λy hy=>by rcases ζV hy with h1|h1;exact h.w64 y h1;exact h1▸hx,h.nd,h.bl,h.us,h.le⟩
theorem RE(hP:CI w S q p)(f a:Int):Calls prog 283 #[pP q,iI f,iI a] w (YvI w S q p f a):=by
 have HP:=ι hP;rcases VZN p f with hc|hc
 ·obtain⟨j,rfl,hj,hat⟩:=ZNg hc;obtain⟨g,c,hi,ts,vt,vb,hr,o1,o2,o3,sg,s2,s3,I,L⟩:=XlR hP hj;obtain⟨D,O⟩:=QLE hP hj;have c4:=hr.cc 4;have hpg:=DD hP.ok.pg;have HR:=ι hr;have HC:=ι hc;have X:=ι o1;have HS:=ι (ψ sg (ψ s2 s3));have N:=ι o2;have V:=ι o3;have hp2:=hP.ok.pg2;clear hr o1 o2 o3 sg s2 s3 hP;by_cases Z:a<0
  ·have E:C3 p j a=11:=by unfold C3;rw[φ hc,ξ Ω]
   have HE:=ι E;have d0:decide (a<0)=true:=θ Z;clear hc E;go_enter func283,ntmps283;go_wp2_with(go_at_call 248;refine(N5 HP.o j).mono ?_;rintro e w1 ⟨rfl,rfl⟩;rw[HC.o]);go_ret2;exact⟨rfl,.inl ⟨by rw[HE.o];decide,by rw[HE.o];rfl⟩⟩
  ·obtain⟨b,rfl⟩:∃b:Nat,a=b:=⟨a.toNat,by omega⟩;have d0:decide ((b:Int)<0)=false:=ζ Z;by_cases J:p.pg<=b
   ·have E:C3 p j b=11:=by unfold C3;rw[φ hc,ξ Ω]
    have HE:=ι E;have d1:decide (p.pg<=b)=true:=θ J;clear hc E;go_enter func283,ntmps283;go_wp2_with(go_at_call 248;refine(N5 HP.o j).mono ?_;rintro e w1 ⟨rfl,rfl⟩;rw[HC.o]);go_ret2;exact⟨rfl,.inl ⟨by rw[HE.o];decide,by rw[HE.o];rfl⟩⟩
   ·have E:C3 p j b=0:=by unfold C3;rw[φ hc,φ Ω]
    have HE:=ι E;have d1:decide (p.pg<=b)=false:=ζ J;have hlt:(b:Int)<(p.pg:Int):=Ω
    clear hc E;go_enter func283,ntmps283
    go_wp2_with(first
     | (go_at_call 248;refine(N5 HP.o j).mono ?_;rintro e w1 ⟨rfl,rfl⟩;rw[HC.o])
     | (go_at_call 277;refine(Z8 HR.o I L Ω D O).mono ?_;rintro e w1 ⟨rfl,rfl⟩))
    go_ret2;obtain⟨i,M⟩:∃i,i=j*p.pg+b:=⟨_,rfl⟩;have U:i<p.wd.length:=Ω
    have k:=BS X.o (ZpD U);refine⟨rfl,.inr ⟨HE.o,g,HS.o.1,by rw[χ,χ];rfl,?_,FF X.o _,λx hx=>?_⟩⟩
    ·rw[χ,χ,<-M,k,ω,η U];rfl
    ·rw[χ,χ,<-M];have Y:=(World.ownsRow.stored X.o i (uU (x:Nat))).1;rw[YEA]at Y;refine⟨QTa HP.o.ok i x hx,HP.o.sq,_,vt,vb,hi,ts,AX HR.o _ (λg' hg'=>?_),by simpa using Y,AX N.o _ (λg' hg'=>?_),AX V.o _ (λg' hg'=>?_),λg' hg'=>by cases hg';exact HS.o.1,HS.o.2.1,HS.o.2.2⟩
     ·exact AQ HR.o X.o (by decide) hg' rfl
     ·exact AQ N.o X.o (by decide) hg' rfl
     ·exact AQ V.o X.o (by decide) hg' rfl
 ·have E:C3 p f a=6:=by unfold C3;rw[ξ Ω]
  have HE:=ι E;have HC:=ι hc;clear hP hc E;go_enter func283,ntmps283;go_wp2_with(go_at_call 248;refine(N5 HP.o f).mono ?_;rintro e w1 ⟨rfl,rfl⟩;rw[HC.o]);go_ret2;exact⟨rfl,.inl ⟨by rw[HE.o];decide,by rw[HE.o];rfl⟩⟩
def KU(p:Pl)(f a:Int):Nat:=if C3 p f a=0 then p.wd.getD (f.toNat*p.pg+a.toNat) 0 else 0
def LC(p:Pl)(f a:Int)(x:Nat):Pl:=if C3 p f a=0 then {p with wd:=p.wd.set (f.toNat*p.pg+a.toNat) x}else p
theorem Xn2(hP:CI w S q p)(f a:Int):cQ 256 #[pP q,iI f,iI a] w (.tuple #[uU (KU p f a:Nat),iI (C3 p f a)]):=by
 have HP:=ι hP;clear hP;by_cases hc:C3 p f a=0
 ·have HC:=ι hc;have HV:Hid (KU p f a=p.wd.getD (f.toNat*p.pg+a.toNat) 0):=⟨by unfold KU;rw[φ hc]⟩;clear hc;go_enter func256,ntmps256;go_wp2_with(go_at_call 283;refine(RE HP.o f a).mono ?_;rintro e w1 ⟨rfl,⟨h,-⟩|⟨-,g,-,rfl,k,-,-⟩⟩;(exact absurd HC.o h));go_ret2;exact⟨BP (by rw[HV.o,ω];rfl) (BN HC.o.symm),rfl⟩
 ·have HC:=ι hc;obtain⟨c,hce⟩:∃c,c=C3 p f a:=⟨_,rfl⟩;have hc0:(c !=0)=true:=by rw[hce];simpa using hc
  have X:=ι hce.symm;have HV:Hid (KU p f a=0):=⟨by unfold KU;rw[ξ hc]⟩;clear hc hce;go_enter func256,ntmps256;go_wp2_with(go_at_call 283;refine(RE HP.o f a).mono ?_;rintro e w1 ⟨rfl,⟨-,rfl⟩|⟨h,-⟩⟩;rotate_left;(exact absurd h HC.o);rw[X.o]);go_ret2;exact⟨BP (by rw[HV.o];rfl) (BN X.o.symm),rfl⟩
def JmU(w:World)(S:Nat->Prop)(q:Nat)(p:Pl)(f a:Int)(x:Nat)(e:Ending)(w':World):Prop:=e=.returned (iI (C3 p f a))/\AB S w w'/\CI w' S q (LC p f a x)
theorem YBJ(hP:CI w S q p)(f a:Int)(x:Nat)(hx:x<18446744073709551616):Calls prog 257 #[pP q,iI f,iI a,uU x] w (JmU w S q p f a x):=by
 have HP:=ι hP;clear hP;by_cases hc:C3 p f a=0
 ·have HC:=ι hc;have HV:Hid (LC p f a x={p with wd:=p.wd.set (f.toNat*p.pg+a.toNat) x}):=⟨by unfold LC;rw[φ hc]⟩;clear hc;go_enter func257,ntmps257;go_wp2_with(go_at_call 283;refine(RE HP.o f a).mono ?_;rintro e w1 ⟨rfl,⟨h,-⟩|⟨-,g,sg,rfl,k,kf,hs⟩⟩;(exact absurd HC.o h);have Y:=ι (ψ sg hs);clear sg hs);go_ret;exact⟨AS HC.o.symm,(AB.refl S w).setCell (λ_=>Y.o.1) _,by rw[HV.o];exact Y.o.2 x hx⟩
 ·have HC:=ι hc;obtain⟨c,hce⟩:∃c,c=C3 p f a:=⟨_,rfl⟩;have hc0:(c==0)=false:=by rw[hce];simpa using hc
  have X:=ι hce.symm;have HV:Hid (LC p f a x=p):=⟨by unfold LC;rw[ξ hc]⟩;clear hc hce;go_enter func257,ntmps257;go_wp2_with(go_at_call 283;refine(RE HP.o f a).mono ?_;rintro e w1 ⟨rfl,⟨-,rfl⟩|⟨h,-⟩⟩;rotate_left;(exact absurd h HC.o);rw[X.o]);go_ret;exact⟨AS X.o.symm,AB.refl S w,by rw[HV.o];exact HP.o⟩
end
def E5(n:Int):Bool:=decide (1<=n)&&decide (n<=4096)
def EH(n:Int):Bool:=BL n&&decide (n<=256)
def Pl.none(pg rm:Nat):Pl:=⟨pg,rm,[],[],[]⟩
theorem Xgr{rm:Nat}(h1:E5 rm=true)(h2:EH pg=true):FB (Pl.none pg rm):=by
 unfold E5 at h1;unfold EH at h2;simp at h1 h2;exact⟨h2.1,by show pg<=256;omega,by show 1<=rm/\rm<=4096;omega,by simp[Pl.none],λx h=>(by cases h),ξi,λf h=>(by cases h),rfl,ζf _⟩
def VuW(w:World)(n k:Int)(e:Ending)(w':World):Prop:=
 ((E5 n&&EH k)=false/\e=.returned (.tuple #[.pointer none,iI 5])/\w=w') ∨
 ((E5 n&&EH k)=true/\e=.returned (.tuple #[pP w.heap.size,iI 0])/\Gr w w'/\CI w' (λb=>w.heap.size<=b) w.heap.size (Pl.none k.toNat n.toNat))
theorem XXu(n k:Int)(hk:k<=9223372036854775807)(w:World):Calls prog 109 #[iI n,iI k] w (VuW w n k):=by
 have X:((E5 n&&EH k)=false/\(decide (n<1)=true\/(decide (n<1)=false/\decide (4096<n)=true)\/(decide (n<1)=false/\decide (4096<n)=false/\CR k=false)\/(decide (n<1)=false/\decide (4096<n)=false/\CR k=true/\decide (256<k)=true))) ∨
   ((E5 n&&EH k)=true/\decide (n<1)=false/\decide (4096<n)=false/\CR k=true/\decide (256<k)=false):=by
  have hb:=MU k;unfold E5 EH;rw[hb];by_cases h1:n<1
  ·exact .inl ⟨by rw[ζ (show ¬1<=n by omega)];rfl,.inl (θ h1)⟩
  ·by_cases h2:4096<n
   ·exact .inl ⟨by rw[ζ (show ¬n<=4096 by omega)];simp,.inr (.inl ⟨ζ h1,θ h2⟩)⟩
   ·rw[θ (show 1<=n by omega),θ (show n<=4096 by omega)];cases hp:CR k with
    | false=>exact .inl ⟨rfl,.inr (.inr (.inl ⟨ζ h1,ζ h2,rfl⟩))⟩
    | true=>
     by_cases h3:256<k
     ·exact .inl ⟨by rw[ζ (show ¬k<=256 by omega)];simp,.inr (.inr (.inr ⟨ζ h1,ζ h2,rfl,θ h3⟩))⟩
     ·exact .inr ⟨by rw[θ (show k<=1024 by omega),θ (show k<=256 by omega)];rfl,ζ h1,ζ h2,rfl,ζ h3⟩
 rcases X with⟨hf,hw⟩|⟨ht,h1,h2,h3,h4⟩
 ·have HF:=ι hf;obtain⟨b,hb⟩:∃b,b=CR k:=⟨_,rfl⟩;have HB:=ι hb.symm;rw[<-hb]at hw;clear hf hb;rcases hw with h1|⟨h1,h2⟩|⟨h1,h2,rfl⟩|⟨h1,h2,rfl,h3⟩
  all_goals
   go_enter func109,ntmps109;go_wp2_with(go_at_call 165;refine(JW k hk _).mono ?_;rintro e w1 ⟨rfl,rfl⟩;rw[HB.o]);go_ret2;exact .inl ⟨HF.o,rfl,rfl⟩
 ·have HF:=ι ht;have HB:=ι h3;have hn:=of_decide_eq_false h1;obtain⟨m,rfl⟩:∃m:Nat,n=m:=⟨n.toNat,by omega⟩;have Y:=(ζY.1 (ζY.1 ht).2).1;have hkb:=DD Y;obtain⟨g,rfl⟩:∃g:Nat,k=g:=⟨k.toNat,by omega⟩;clear ht h3 hn Y;go_enter func109,ntmps109;go_wp2_with(go_at_call 165;refine(JW _ hk _).mono ?_;rintro e w1 ⟨rfl,rfl⟩;rw[HB.o]);go_ret2;obtain⟨hr,hp⟩:=ζY.1 HF.o;refine .inr ⟨HF.o,rfl,(Gr.refl _).alloc _,?_⟩;rw[χ,χ];refine⟨Xgr hr hp,ϑ _,.slice none 0 0,.slice none 0 0,.slice none 0 0,0,0,Rec.new _ _ _,GP _ _ _ _,GP _ _ _ _,GP _ _ _ _,(λg h=>by cases h),(λg h=>by cases h),(λg h=>by cases h)⟩
def Pl.next(p:Pl):Nat:=if p.bk=[]then p.tk.length else p.bk.getLastD 0
def GJ(l:List Nat)(i n:Nat):List Nat:=l.take i++List.replicate n 0++l.drop (i+n)
def Pl.fresh(p:Pl):Pl:=if p.bk=[]then {p with tk:=p.tk++[false],wd:=p.wd++List.replicate p.pg 0}else {p with bk:=p.bk.dropLast}
def Pl.take(p:Pl):Pl:={p.fresh with tk:=p.fresh.tk.set p.next true,wd:=GJ p.fresh.wd (p.next*p.pg) p.pg}
theorem YGK(h:i+n<=l.length):(GJ l i n).length=l.length:=by unfold GJ;simp;omega
theorem YMA(h:i+n<=l.length)(j:Nat):(GJ l i n).getD j 0=if i<=j/\j<i+n then 0 else l.getD j 0:=by
 unfold GJ;simp only[ω];by_cases h1:j<i
 ·rw[ξ Ω,ξu,ζW (by simp;omega),ξT,φ h1]
 ·by_cases h2:j<i+n
  ·rw[φ Ω,ξu,ζ2 (by simp;omega),ζW (by simp;omega),ξr]
   split <;> rfl
  ·rw[ξ Ω,ζ2 (by simp;omega),List.getElem?_drop];congr 2;simp;omega
theorem YWy:(prog.info? 3).map (λi=>(i.zero,i.size,i.bytes))=some (some (iI 0),1,8):=by kernel_rfl
theorem Xck:(prog.info? 4).map (λi=>(i.zero,i.size,i.bytes))=some (some (.bool false),1,1):=by kernel_rfl
theorem RK(l:List Bool):cnt (at_ (l++[false])) (l++[false]).length=cnt (at_ l) l.length:=by
 have h1:(l++[false]).length=l.length+1:=by simp
 rw[h1,CS];have h2:at_ (l++[false]) l.length=false:=by simp[at_]
 have h3:cnt (at_ (l++[false])) l.length=cnt (at_ l) l.length:=CT (λi hi=>by simp[at_,ζW hi]);rw[h2,h3];rfl
def TU(w:World)(S:Nat->Prop)(q:Nat)(p:Pl)(e:Ending)(w':World):Prop:=e=.returned (iI (p.next:Nat))/\AB S w w'/\Y2 w' (plus S w) q p.fresh
section
variable{p:Pl}
theorem VPE(hP:CI w S q p)(hb:p.bk≠[]):Calls prog 276 #[pP q] w (TU w S q p):=by
 obtain⟨ok,sq,vw,vt,vb,hi,ts,hr,o1,o2,o3,s1,s2,s3⟩:=hP;obtain⟨bi,f,X⟩:∃bi f,p.bk=bi++[f]:=⟨p.bk.dropLast,p.bk.getLast hb,(ξU hb).symm⟩;have hN:p.next=f:=by unfold Pl.next;rw[ξ hb,X];simp
 have hF:p.fresh={p with bk:=bi}:=by unfold Pl.fresh;rw[ξ hb,X];simp
 have hbl:p.bk.length<=4096:=by have:=ok.us;have:=ok.le;have:=ok.rm.2;omega
 have J:p.bk.length=bi.length+1:=by rw[X];simp
 obtain⟨gb,cb,rfl,-,O,I,hgl⟩:=E6 o3 Ω;have k:=BS o3 (XS1 (i:=bi.length) Ω);have M:p.bk[bi.length]' Ω=f:=by simp[X]
 rw[M]at k;have Y:=o3;rw[X]at Y;have e1:(bi++[f]).length=bi.length+1:=by simp
 have e2:DV (bi++[f])=DV bi++[iI (f:Nat)]:=by simp[DV]
 rw[e1,e2]at Y;have Z:=Y9 Y;have c2:=hr.cc 2;rw[J]at c2 O;have cf:=hr.free 2;have HF:=ι hF;have HN:=ι hN;have HR:=ι hr;have H1:=ι o1;have H2:=ι o2;have H3:=ι Z;have HO3:=ι o3;unfold maxLen at I;obtain⟨N,U⟩:∃N,N=bi.length:=⟨_,rfl⟩;rw[<-U]at c2 J k O;have V:=ι U;clear hr o1 o2 o3 Y X hF hN e1 e2 Z hb M U;go_enter func276,ntmps276;go_wp2;go_ret;refine⟨by rw[HN.o];rfl,(AB.refl S w).setCell (λ_=>sq) _,?_⟩;rw[HF.o];refine⟨vw,vt,.slice (some ⟨gb,0,none⟩) N cb,hi,ts,HR.o.set 2 _,AX H1.o _ (λg hg=>?_),AX H2.o _ (λg hg=>?_),?_,λg hg=>.inl (s1 g hg),λg hg=>.inl (s2 g hg),λg hg=>.inl (s3 g hg)⟩
 ·exact AQ H1.o HR.o (by decide) hg rfl
 ·exact AQ H2.o HR.o (by decide) hg rfl
 ·have:=H3.o;rw[<-V.o]at this
  show World.ownsRow _ 0 _ 1 _ bi.length _
  rw[<-V.o];exact AX this _ (λg hg=>AQ this HR.o (by decide) hg rfl)
theorem Yqu(hP:CI w S q p)(hb:p.bk=[]):Calls prog 276 #[pP q] w (TU w S q p):=by
 obtain⟨ok,sq,vw,vt,vb,hi,ts,hr,o1,o2,o3,s1,s2,s3⟩:=hP;obtain⟨iu,Yf,Xv,Yb,Xz⟩:=info_parts PR;obtain⟨ib,Xw,Yc,Yd,Yg⟩:=info_parts Xck;have hN:p.next=p.tk.length:=by unfold Pl.next;rw[φ hb]
 have hF:p.fresh={p with tk:=p.tk++[false],wd:=p.wd++List.replicate p.pg 0}:=by unfold Pl.fresh;rw[φ hb]
 obtain⟨Ab,cb,rfl,hcb1,Xi⟩:=C7 o3;obtain⟨At,ct,rfl,hct1,Xp⟩:=C7 o2;obtain⟨Aw,cw,rfl,hcw1,Xk⟩:=C7 o1;have Xj:p.bk.length=0:=by rw[hb];rfl
 have Xh:p.tk.length<=4096:=β ok.le ok.rm.2;have hpg:=DD ok.pg;have Xq:=ok.pg2;have Ya:p.wd.length<=1048576:=by rw[ok.wl];exact β (ψA Xh Xq) (by decide)
 have c0:=hr.cc 0;have c1:=hr.cc 1;have c2:=hr.cc 2;have c4:=hr.cc 4;have cf:=λj=>hr.free j;rw[Xj]at c2;have hql:=hr.lt;have HF:=ι hF;have HN:=ι hN;have HR:=ι hr;have H1:=ι o1;have H2:=ι o2;have H3:=ι o3;have HB:=ι (ψ hb Xj);unfold maxLen at Xi Xp Xk;obtain⟨N,Xd⟩:∃N,N=p.tk.length:=⟨_,rfl⟩;have X:=ι Xd;rw[<-Xd]at c1 Xh;obtain⟨M,Xf⟩:∃M,M=p.wd.length:=⟨_,rfl⟩;have E:=ι Xf;rw[<-Xf]at c0 Ya;have Xt:=cf 1;have Xr:=cf 0;have HS:=ι (ψ s1 (ψ s2 s3))
 have Xl:∀g,(Value.slice At N ct).ownBlock=some g->g≠q:=λg hg=>by
  have:=AQ o2 hr (by decide) (g1:=g) (g2:=q) (by cases At <;> simp[Value.ownBlock]at hg⊢;exact hg) rfl;exact this
 clear hr o1 o2 o3 hF hN hb Xd Xf s1 s2 s3 cf;go_enter func276,ntmps276;go_wp2_with(at_builtin;refine wpList_append_lies _ rfl _ _ 198 rfl 0 4 ib _ 1 1 underlying198 Xw Yc Yd Yg rfl (by decide) (.slice At N ct) N (p.tk.map Value.bool) rfl (by rw[X.o];exact H2.o.alloc _) ⟨w.heap.size,0,none⟩ 1 1 [.bool false] rfl rfl (ξv (cs:=#[.bool false]) (t:=4) (fr:=(0,0)) (heap_alloc_new w _)) (by simp[Value.oneCell']) Ω (by unfold maxLen;omega) Ω (ζf _) (w.heap.size+1) (by simp) ?_;intro g2 A w2 L U J Xb;have t2:AB (λk=>(Value.slice At N ct).ownBlock=some k) w w2:=(((Gr.refl w).alloc _).touch _).trans (DM U _ (λk e _=>e));have O:=ι (HR.o.touch t2 (λe=>Xl q e rfl));have d1:=O.o.cc 1;have Xu:=O.o.free 1;have Xe:=ι t2;have Xs:=ι L;have Xy:=ι (ψ J Xb);clear L U J Xb t2);obtain⟨W3,Y⟩:∃W3,W3=w2.setCell ⟨q,1,none⟩ (.slice (some ⟨g2,0,none⟩) (N+1) A):=⟨_,rfl⟩;rw[<-Y];have R3:=O.o.set 1 (.slice (some ⟨g2,0,none⟩) (N+1) A);rw[<-Y]at R3
 have T3:W3.ownsRow 0 4 1 (.slice (some ⟨g2,0,none⟩) (N+1) A) (N+1) (p.tk.map Value.bool++[.bool false]):=by
  rw[Y];exact AX Xs.o _ (λg hg=>AQ Xs.o O.o (by decide) hg rfl)
 have Xc:∀g,(Value.slice Aw p.wd.length cw).ownBlock=some g->¬(Value.slice At N ct).ownBlock=some g:=λg hg e=>AQ H1.o (by rw[X.o]at e;exact H2.o) (by decide) hg (by rw[X.o]at e;exact e) rfl;have Xa:∀g,(Value.slice Ab p.bk.length cb).ownBlock=some g->¬(Value.slice At N ct).ownBlock=some g:=λg hg e=>AQ H3.o (by rw[X.o]at e;exact H2.o) (by decide) hg (by rw[X.o]at e;exact e) rfl;have U2:=BX H1.o Xe.o Xc
 have U3:W3.ownsRow 0 37 1 (.slice Aw p.wd.length cw) p.wd.length (CO p.wd):=by
  rw[Y];exact AX U2 _ (λg hg=>AQ U2 O.o (by decide) hg rfl)
 have B2:=BX H3.o Xe.o Xa
 have B3:W3.ownsRow 0 3 1 (.slice Ab p.bk.length cb) p.bk.length (DV p.bk):=by
  rw[Y];exact AX B2 _ (λg hg=>AQ B2 O.o (by decide) hg rfl)
 have G:AB S w W3:=by
  rw[Y];refine(Xe.o.mono (T:=S) (λk _ h=>?_)).setCell (λ_=>sq) _;rw[X.o]at h;exact HS.o.2.1 k h
 have HW:=ι (ψ R3 (ψ T3 (ψ U3 (ψ B3 G))));have y0:=R3.cc 0;have y4:=R3.cc 4;have yf:=R3.free 0;rw[<-E.o]at y0 U3;have HU:=ι U3;clear Y R3 T3 U3 U2 B2 B3 G Xc Xa c0 c1 c2 c4 Xr Xt d1 Xu Xl;obtain⟨Sx,D⟩:∃Sx:World->Prop,Sx=λW'=>W'.cell? ⟨q,0,none⟩=some (.slice Aw M cw)/\W'.cell? ⟨q,4,none⟩=some (iI p.pg):=⟨_,rfl⟩;have x0:∀p':AA Sx,p'.w.cell? ⟨q,0,none⟩=some (.slice Aw M cw):=λp'=>(AA.get D p').1;have x4:∀p':AA Sx,p'.w.cell? ⟨q,4,none⟩=some (iI p.pg):=λp'=>(AA.get D p').2;have Xn:Sx W3.drew:=by rw[D];exact⟨y0,y4⟩
 have Xx:=ι D;clear D;have inst:Inhabited (AA Sx):=⟨⟨_,Xn⟩⟩;refine AI Sx 12 [([0,1,2,3,4,5,6,7,8],9),([10,11],12)] [] Xn ?_;refine AE ?_;go_wp2_with(at_builtin;refine ZfD _ rfl _ _ 25 3 rfl 37 .i64 0 iu _ underlying25 underlying3 Yf Xv Yb rfl (by decide) (.slice Aw M cw) M (CO p.wd) rfl (CL HU.o (Gr.refl W3).drew) p.pg rfl Ω (by unfold maxLen;omega) (by rw[Xz];omega) (ζf _) ?_;intro g4 c4 w4 I Z V hlt4)
 go_frame
 have t4:AB (λk=>(Value.slice Aw M cw).ownBlock=some k) W3 w4:=((Gr.refl W3).drew.touch _).trans (DM Z _ (λk e _=>e));have Xo:¬(Value.slice Aw M cw).ownBlock=some q:=λe=>AQ HU.o HW.o.1 (by decide) e rfl rfl;have R4:=HW.o.1.touch t4 Xo;have B:=ι R4;have z0:=R4.cc 0;have z4:=R4.cc 4;have zf:=R4.free 0;have Xg:=ι t4;have Xm:=ι I;have Ye:=ι V;rw[<-E.o]at z0;clear R4 t4 I Z V Xo;refine⟨.inr (AA.of (by rw[Xx.o];exact⟨z0,z4⟩)),?_⟩;refine AE ?_;go_wp2;refine⟨.inl trivial,?_⟩;refine ET ?_;refine ζd ?_;refine ζI ?_;go_wp2;go_ret;obtain⟨R3,T3,U3,B3,G⟩:=HW.o;have hs3:=G.size;have T4:=BX T3 Xg.o (λg hg e=>AQ T3 HU.o (by decide) hg e rfl);have B4:=BX B3 Xg.o (λg hg e=>AQ B3 HU.o (by decide) hg e rfl);have J:=Xy.o;have V:=Ye.o;refine⟨by rw[HN.o,<-X.o];rfl,(G.trans' Xg.o (λk hk h=>?_)).setCell (λ_=>sq) _,?_⟩
 ·rw[E.o]at h;exact HS.o.1 k h
 ·rw[HF.o];have hu:({p with tk:=p.tk++[false],wd:=p.wd++List.replicate p.pg 0}:Pl).used=p.used:=RK p.tk;refine⟨.slice (some ⟨g4,0,none⟩) (M+p.pg) c4,.slice (some ⟨g2,0,none⟩) (N+1) A,.slice Ab p.bk.length cb,hi,ts,?_,?_,?_,AX B4 _ (λg hg=>AQ B4 B.o (by decide) hg rfl),λg hg=>?_,λg hg=>?_,λg hg=>.inl (HS.o.2.2 g hg)⟩
  ·rw[hu];exact B.o.set 0 _
  ·have:=AX (q:=q) (j:=0) Xm.o (.slice (some ⟨g4,0,none⟩) (M+p.pg) c4) (λg hg=>AQ Xm.o B.o (by decide) hg rfl);have e1:(p.wd++List.replicate p.pg 0).length=M+p.pg:=by rw[E.o];simp
   have e2:CO (p.wd++List.replicate p.pg 0)=CO p.wd++List.replicate p.pg (uU 0):=by unfold CO;rw[ζ1,List.map_replicate];rfl
   show World.ownsRow _ 0 _ 1 _ (p.wd++List.replicate p.pg 0).length (CO (p.wd++List.replicate p.pg 0))
   rw[e1,e2];exact this
  ·have:=AX (q:=q) (j:=0) T4 (.slice (some ⟨g4,0,none⟩) (M+p.pg) c4) (λg hg=>AQ T4 B.o (by decide) hg rfl)
   show World.ownsRow _ 0 _ 1 _ (p.tk++[false]).length ((p.tk++[false]).map Value.bool)
   rw[ζ1,show (p.tk++[false]).length=N+1 by rw[X.o];simp];exact this
  ·cases hg;rcases V with h|h
   ·rw[E.o]at h;exact .inl (HS.o.1 _ h)
   ·right;show w.heap.size<=g4;have:W3.drew.heap.size=W3.heap.size:=rfl;omega
  ·cases hg;rcases J.1 with h|h
   ·rw[X.o]at h;exact .inl (HS.o.2.1 _ h)
   ·right;show w.heap.size<=g2;omega
theorem VKq(hP:CI w S q p):Calls prog 276 #[pP q] w (TU w S q p):=by
 by_cases hb:p.bk=[]
 ·exact Yqu hP hb
 ·exact VPE hP hb
theorem J4(hP:FB p):p.next<p.fresh.tk.length/\p.fresh.wd.length=p.fresh.tk.length*p.pg/\at_ p.fresh.tk p.next=false:=by
 unfold Pl.next Pl.fresh
 by_cases hb:p.bk=[]
 ·rw[φ hb,φ hb];refine⟨by simp,by simp[hP.wl,ξp],by simp[at_]⟩
 ·rw[ξ hb,ξ hb]
  have hm:p.bk.getLastD 0∈p.bk:=by
   obtain⟨bi,x,X⟩:∃bi x,p.bk=bi++[x]:=⟨p.bk.dropLast,p.bk.getLast hb,(ξU hb).symm⟩;rw[X];simp
  have:=hP.bl _ hm;exact⟨this.1,hP.wl,this.2⟩
theorem F9{l:List Bool}{x:Bool}(hk:k<l.length):at_ (l.set k x) i=if i=k then x else at_ l i:=RW l k i x hk
theorem JO{l:List Bool}(hi:i<l.length)(h:at_ l i=false):cnt (at_ (l.set i true)) l.length=cnt (at_ l) l.length+1:=by
 have X:∀k,k<=l.length->cnt (at_ (l.set i true)) k=cnt (at_ l) k+if i<k then 1 else 0:=by
  intro k
  induction k with
  | zero=>intro _;rfl
  | succ k ih=>
   intro hk;rw[CS,CS,ih Ω,F9 hi];by_cases e:k=i
   ·subst e;rw[φ rfl,h,ξ (ζL _),φ (ξQ _)];simp
   ·rw[ξ e];by_cases h1:i<k
    ·rw[φ h1,φ Ω];omega
    ·rw[ξ h1,ξ Ω];omega
 rw[X _ (ϑ _),φ hi]
theorem V4E{l:List Bool}(hi:i<l.length)(h:at_ l i=true):cnt (at_ (l.set i false)) l.length+1=cnt (at_ l) l.length:=by
 have h2:=JO (l:=l.set i false) (i:=i) (by simpa using hi) (by rw[F9 hi,φ rfl]);rw[List.set_set,ζb]at h2
 have:l.set i true=l:=by
  apply ξs (by simp);intro j h1 h3;rw[List.getElem_set]
  split
  ·rename_i e;subst e;simpa[at_,hi]using h.symm
  ·rfl
 rw[this]at h2;exact h2.symm
theorem SX(h:FB p)(hroom:p.used<p.rm):FB p.take:=by
 obtain⟨h1,h2,h3⟩:=J4 h
 have J:p.fresh.used=p.used:=by
  unfold Pl.used Pl.fresh
  split
  ·exact RK p.tk
  ·rfl
 have hf:(p.next*p.pg)+p.pg<=p.fresh.wd.length:=by rw[h2,<-ξp];exact ζm _ h1
 have e0:p.take.pg=p.pg/\p.take.rm=p.rm/\p.take.bk=p.fresh.bk:=by unfold Pl.take Pl.fresh;split <;> exact⟨rfl,rfl,rfl⟩
 have e1:p.take.tk=p.fresh.tk.set p.next true:=rfl
 have e2:p.take.wd=GJ p.fresh.wd (p.next*p.pg) p.pg:=rfl
 have eu:p.take.used=p.used+1:=by
  rw[<-J];unfold Pl.used;rw[e1,ζb];exact JO h1 h3
 refine⟨by rw[e0.1];exact h.pg,by rw[e0.1];exact h.pg2,by rw[e0.2.1];exact h.rm,by rw[e0.1,e2,YGK hf,h2,e1,ζb],λx hx=>?_,?_,λf hf'=>?_,?_,?_⟩
 ·rw[e2]at hx;unfold GJ at hx
  have X:∀y∈p.fresh.wd,y<18446744073709551616:=λy hy=>by
   unfold Pl.fresh at hy
   split at hy
   ·rcases ζe.1 hy with hy|hy
    ·exact h.w64 y hy
    ·rw[ξz hy];decide
   ·exact h.w64 y hy
  rcases ζe.1 hx with hx|hx
  ·rcases ζe.1 hx with hx|hx
   ·exact X x (ψc hx)
   ·rw[ξz hx];decide
  ·exact X x (List.mem_of_mem_drop hx)
 ·rw[e0.2.2];unfold Pl.fresh
  split
  ·exact h.nd
  ·exact h.nd.sublist (List.dropLast_sublist _)
 ·rw[e0.2.2]at hf';rw[e1,ζb];unfold Pl.fresh at hf' h1⊢;unfold Pl.next at h1⊢
  by_cases hb:p.bk=[]
  ·rw[φ hb]at hf';rw[hb]at hf';cases hf'
  ·rw[ξ hb]at hf' h1⊢;rw[ξ hb]at h1⊢;have hm:=(List.dropLast_sublist _).subset hf';have Z:=h.bl f hm;refine⟨Z.1,?_⟩;rw[F9 h1,ξ,Z.2];intro e;obtain⟨bi,x,U⟩:∃bi x,p.bk=bi++[x]:=⟨p.bk.dropLast,p.bk.getLast hb,(ξU hb).symm⟩;have Y:=h.nd;rw[U]at hf' e Y;simp at hf' e;subst e;rw[ζE]at Y;exact Y.2.2 f hf' f (by simp) rfl
 ·rw[eu,e0.2.2,e1,ζb];unfold Pl.fresh;have:=h.us
  split
  ·rename_i hb;rw[hb]at this;simp[hb]at this⊢;omega
  ·rename_i hb;have:=List.length_pos_iff.2 hb;simp;omega
 ·rw[e0.2.1,e1,ζb];unfold Pl.fresh;have:=h.us
  split
  ·rename_i hb;rw[hb]at this;simp at this⊢;omega
  ·exact h.le
theorem M9(p:Pl):p.fresh.pg=p.pg/\p.fresh.rm=p.rm/\p.fresh.used=p.used:=by
 unfold Pl.fresh
 split
 ·exact⟨rfl,rfl,RK p.tk⟩
 ·exact⟨rfl,rfl,rfl⟩
theorem VZ(h:FB p):p.take.used=p.used+1:=by
 obtain⟨h1,h2,h3⟩:=J4 h
 have X:p.fresh.used=p.used:=by
  unfold Pl.used Pl.fresh
  split
  ·exact RK p.tk
  ·rfl
 have e1:p.take.tk=p.fresh.tk.set p.next true:=rfl
 rw[<-X];unfold Pl.used;rw[e1,ζb];exact JO h1 h3
def Xun(w:World)(S:Nat->Prop)(q:Nat)(p:Pl)(e:Ending)(w':World):Prop:=
 (p.used=p.rm/\e=.returned (.tuple #[iI 0,iI 14])/\Gr w w') ∨
 (p.used<p.rm/\e=.returned (.tuple #[iI (p.next:Nat),iI 0])/\AB S w w'/\CI w' (plus S w) q p.take)
theorem OJ(h:FB p):p.used<=p.rm:=by have:=h.us;have:=h.le;omega
theorem ZA(hP:CI w S q p):Calls prog 244 #[pP q] w (Xun w S q p):=by
 have HP:=ι hP;have U:=hP.ok;have D:=OJ U;have Yb:=U.rm;obtain⟨vw,vt,vb,hi,ts,hr,-⟩:=hP.row;have c3:=hr.cc 3;have c5:=hr.cc 5;have Xa:=hr.lt;obtain⟨u,hu⟩:∃u,u=p.used:=⟨_,rfl⟩;have HU:=ι hu;rw[<-hu]at c5 D;obtain⟨R,hR⟩:∃R,R=p.rm:=⟨_,rfl⟩;have J:=ι hR;rw[<-hR]at c3 D Yb;have hr0:((R:Int)==0)=false:=ζD.2 Ω;have z3:∀m,(w.drewN m).cell? ⟨q,3,none⟩=some (iI R):=λm=>((Gr.refl w).drewN m |>.cell Xa _).trans c3;have z5:∀m,(w.drewN m).cell? ⟨q,5,none⟩=some (iI u):=λm=>((Gr.refl w).drewN m |>.cell Xa _).trans c5;have hpg:=DD U.pg;have X:=ι U;clear hr hP hu hR U;by_cases Y:u=R
 ·have d1:((u:Int)==(R:Int))=true:=by rw[Y];simp
  have Xr:=ι Y;clear Y;go_enter func244,ntmps244;go_wp2;go_quiet (fail);go_wp2;go_ret2;exact .inl ⟨by rw[<-HU.o,<-J.o];exact Xr.o,rfl,(Gr.refl w).drewN _⟩
 ·have d1:((u:Int)==(R:Int))=false:=ζD.2 Ω;go_enter func244,ntmps244;go_wp2;go_quiet (fail);go_wp2_with(go_at_call 276;refine(VKq (HP.o.gr ((Gr.refl w).drewN nq))).mono ?_;rintro e w2 ⟨rfl,Xj,Xb⟩;have Xq:=ι Xj;have G:=ι Xb;clear Xj Xb);obtain⟨vw2,vt2,Xh,O,Z,R2,o1,o2,o3,s1,s2,s3⟩:=G.o;obtain⟨n1,n2,n3⟩:=J4 X.o;obtain⟨f1,f2,f3⟩:=M9 p;have hf:p.next*p.pg+p.pg<=p.fresh.wd.length:=by rw[n2,<-ξp];exact ζm _ n1
  have Xl:p.fresh.tk.length<=4096:=by
   have h1:=(SX X.o (by rw[<-HU.o,<-J.o];omega)).le;have h2:p.take.tk.length=p.fresh.tk.length:=ζb ..;have h3:p.take.rm=p.rm:=f2;rw[h2,h3,<-J.o]at h1;omega
  have Xu:p.fresh.wd.length<=1048576:=by rw[n2];exact β (ψA Xl X.o.pg2) (by decide)
  obtain⟨g2,cw,rfl,-,Xy,Xt,-⟩:=E6 o1 Ω;obtain⟨gt,ct,rfl,-,hd1,Xs,-⟩:=E6 o2 Ω;unfold maxLen at Xt Xs;obtain⟨iu,Xz,Xo,hu1,hu2⟩:=info_parts PR;obtain⟨w3,Xv,Xd,B⟩:=YNv (P:=prog) w2 25 37 0 iu _ underlying25 Xz Xo rfl (by decide) o1 (p.next*p.pg) p.pg p.pg Ω hf;rw[f1,f2,f3,<-HU.o,<-J.o]at R2;have t3:=DM B (λk=>k=g2) (λk e _=>(Option.some.inj e).symm);have R3:=R2.touch t3 (AQ R2 o1 (by decide) rfl rfl);have T3:=BX o2 t3 (λg hg=>AQ o2 o1 (by decide) hg rfl);have B3:=BX o3 t3 (λg hg=>AQ o3 o1 (by decide) hg rfl);have Xi:q≠gt:=AQ R2 o2 (by decide) rfl rfl;have hgq:gt≠q:=λe=>Xi e.symm;have Xf:=ι R2;have k1:=R3.cc 1;have k5:=R3.cc 5;have k6:=R3.cc 6;have k7:=R3.cc 7;have kf:=λj=>R3.free j;have Xm:=kf 5;have Xx:=kf 6;have Xw:=kf 7;have kt:=BS T3 (XP n1);have Xn:=FF T3 p.next
  have hnl:(p.next:Int)<(p.fresh.tk.length:Int):=Ω
  have A:=ι (ψ R3 (ψ Xd (ψ T3 (ψ B3 t3))));have M:=ι (ψ s1 (ψ s2 s3));have Xp:=ι (ψ n1 (ψ n2 n3));have Xg:=ι (ψ f1 (ψ f2 f3));clear R2 o1 o2 o3 s1 s2 s3 Xd B R3 T3 B3 t3 n1 n2 n3 f1 f2 f3 kf c3 c5 z3 z5 G;generalize hnx:p.next=f at *
  have L:=ι hnx;clear hnx;have hmax:=N8 prog;go_wp2_with(go_at_call 277;refine(Z8 Xf.o Xy Ω Ω hf Xu).mono ?_;rintro e w1 ⟨rfl,rfl⟩);obtain⟨W5,V⟩:∃W5,W5=((w3.setCell ⟨gt,f,none⟩ (.bool true)).setCell ⟨q,5,none⟩ (.int .i64 ((u:Int)+1))).setCell ⟨q,7,none⟩ (.int .i64 (wrap64 (Z+1))):=⟨_,rfl⟩;rw[<-V];obtain⟨R3,U3,T3,B3,t3⟩:=A.o;have R4:=AX (q:=gt) (j:=f) R3 (.bool true) (λg hg=>by cases hg;exact Xi)
  have R5:Rec W5 q 247 [.slice (some ⟨g2,0,none⟩) p.fresh.wd.length cw,.slice (some ⟨gt,0,none⟩) p.fresh.tk.length ct,Xh,iI R,iI p.pg,iI ((u:Int)+1),iI O,iI (wrap64 (Z+1))]:=by
   rw[V];exact(Rec.set R4 5 _).set 7 _
  have U4:=AX (q:=gt) (j:=f) U3 (.bool true) (λg hg=>AQ U3 T3 (by decide) hg rfl);have U5:=AX (q:=q) (j:=7) (AX (q:=q) (j:=5) U4 (iI ((u:Int)+1)) (λg hg=>AQ U4 R4 (by decide) hg rfl)) (iI (wrap64 (Z+1))) (λg hg=>AQ U4 R4 (by decide) hg rfl);have T4:=(World.ownsRow.stored T3 f (.bool true)).1;have T5:=AX (q:=q) (j:=7) (AX (q:=q) (j:=5) T4 (iI ((u:Int)+1)) (λg hg=>AQ T4 R4 (by decide) hg rfl)) (iI (wrap64 (Z+1))) (λg hg=>AQ T4 R4 (by decide) hg rfl);have B4:=AX (q:=gt) (j:=f) B3 (.bool true) (λg hg=>AQ B3 T3 (by decide) hg rfl);have B5:=AX (q:=q) (j:=7) (AX (q:=q) (j:=5) B4 (iI ((u:Int)+1)) (λg hg=>AQ B4 R4 (by decide) hg rfl)) (iI (wrap64 (Z+1))) (λg hg=>AQ B4 R4 (by decide) hg rfl);rw[<-V]at U5 T5 B5;have sq:=HP.o.sq
  have N:AB (plus S (w.drewN nq)) w2 W5:=by
   rw[V];exact(((t3.mono (λk _ h=>by rw[show k=g2 from h];exact M.o.1 g2 rfl)).setCell (λ_=>M.o.2.1 gt rfl) _).setCell (λ_=>.inl sq) _).setCell (λ_=>.inl sq) _
  have Ya:=ι (ψ R5 (ψ U5 (ψ T5 (ψ B5 N))));have y5:=R5.cc 5;have y6:=R5.cc 6;have yf:=R5.free 6;clear V R3 U3 T3 B3 t3 R4 R5 U4 U5 T4 T5 B4 B5 N k1 k5 k6 k7 Xm Xx Xw kt Xn Xv A;obtain⟨Sx,I⟩:∃Sx:World->Prop,Sx=λW'=>W'.cell? ⟨q,5,none⟩=some (iI ((u:Int)+1))/\W'.cell? ⟨q,6,none⟩=some (iI O):=⟨_,rfl⟩;have x5:∀p':AA Sx,p'.w.cell? ⟨q,5,none⟩=some (iI ((u:Int)+1)):=λp'=>(AA.get I p').1;have x6:∀p':AA Sx,p'.w.cell? ⟨q,6,none⟩=some (iI O):=λp'=>(AA.get I p').2;have Xe:Sx W5.drew:=by rw[I];exact⟨y5,y6⟩
  clear I;have inst:Inhabited (AA Sx):=⟨⟨_,Xe⟩⟩;refine AI Sx 12 [([0,1,2,3,4,5,6,7,8,9,10,11],12)] [] Xe ?_;refine AE ?_;go_wp2;refine⟨.inl trivial,?_⟩;refine ET ?_;refine ζd ?_;refine ζI ?_;go_wp2;go_ret2;obtain⟨R5,U5,T5,B5,N⟩:=Ya.o;obtain⟨n1,n2,n3⟩:=Xp.o;have Xc:p.used<p.rm:=by rw[<-HU.o,<-J.o];omega
  refine .inr ⟨Xc,by rw[L.o];rfl,?_,SX X.o Xc,.inl sq,?_⟩
  ·refine(AB.setCell (a:=⟨q,6,none⟩) ((((Gr.refl w).drewN nq).touch S).trans' (Xq.o.trans' N (λk hk h=>?_)) (λk _ h=>h)) (λ_=>sq) _).drew;rcases h with h|h
   ·exact h
   ·exact absurd hk (ξj h)
  ·have U6:=λv=>CL (AX (q:=q) (j:=6) U5 v (λg hg=>AQ U5 R5 (by decide) hg rfl)) (Gr.refl _).drew;have T6:=λv=>CL (AX (q:=q) (j:=6) T5 v (λg hg=>AQ T5 R5 (by decide) hg rfl)) (Gr.refl _).drew;have B6:=λv=>CL (AX (q:=q) (j:=6) B5 v (λg hg=>AQ B5 R5 (by decide) hg rfl)) (Gr.refl _).drew;have eu:p.take.used=u+1:=by rw[VZ X.o,<-HU.o]
   have ew:p.take.wd=GJ p.fresh.wd (f*p.pg) p.pg:=by rw[<-L.o];rfl
   have et:p.take.tk=p.fresh.tk.set f true:=by rw[<-L.o];rfl
   have Xk:p.take.wd.length=p.fresh.wd.length:=by rw[ew,YGK hf]
   have Yc:CO (GJ p.fresh.wd (f*p.pg) p.pg)=List.take (f*p.pg) (CO p.fresh.wd)++List.replicate p.pg (Value.int IntKind.u64 0)++List.drop (f*p.pg+p.pg) (CO p.fresh.wd):=by
    unfold GJ CO;rw[ζ1,ζ1,List.map_replicate,List.map_take,List.map_drop];rfl
   have er:p.take.rm=R:=by rw[J.o];exact Xg.o.2.1
   have ep:p.take.pg=p.pg:=Xg.o.1;have eb:p.take.bk=p.fresh.bk:=rfl;have E:∀g,plus S (w.drewN nq) g->plus S w g:=λg h=>h;refine⟨.slice (some ⟨g2,0,none⟩) p.fresh.wd.length cw,.slice (some ⟨gt,0,none⟩) p.fresh.tk.length ct,Xh,max O ((u:Int)+1),wrap64 (Z+1),?_,?_,?_,?_,λg hg=>E g (M.o.1 g hg),λg hg=>E g (M.o.2.1 g hg),λg hg=>E g (M.o.2.2 g hg)⟩
   rotate_left
   ·rw[Xk,ew,Yc];exact U6 _
   ·rw[et,ζb,ξY];exact T6 _
   ·rw[eb];exact B6 _
   ·rw[eu,er,ep];exact(R5.set 6 _).gr (Gr.refl _).drew
def Pl.give(p:Pl)(f:Nat):Pl:={p with tk:=p.tk.set f false,bk:=p.bk++[f]}
theorem OV(hf:at_ p.tk f=true):(p.give f).used+1=p.used:=by
 show cnt (at_ (p.tk.set f false)) (p.tk.set f false).length+1=_
 rw[ζb];exact V4E (FV hf) hf
theorem Z2(h:FB p)(hf:at_ p.tk f=true):FB (p.give f):=by
 have hl:=FV hf;refine⟨h.pg,h.pg2,h.rm,by show _=(p.tk.set f false).length*_;rw[ζb];exact h.wl,h.w64,?_,λg hg=>?_,?_,by show (p.tk.set f false).length<=_;rw[ζb];exact h.le⟩
 ·show (p.bk++[f]).Nodup
  rw[ζE];refine⟨h.nd,by simp,λa ha b hb=>?_⟩;simp at hb;subst hb;rintro rfl;have:=(h.bl a ha).2;rw[hf]at this;cases this
 ·show g<(p.tk.set f false).length/\at_ (p.tk.set f false) g=false
  rw[ζb,F9 hl];rcases ζe.1 hg with hg|hg
  ·have:=h.bl g hg;refine⟨this.1,?_⟩
   split
   ·rfl
   ·exact this.2
  ·simp at hg;subst hg;exact⟨hl,by rw[φ rfl]⟩
 ·have h1:=OV hf;have h2:=h.us
  show _+(p.bk++[f]).length=(p.tk.set f false).length
  rw[ζb,ζr];simp;omega
def VkD(w:World)(S:Nat->Prop)(q:Nat)(p:Pl)(f:Nat)(e:Ending)(w':World):Prop:=e=.returned (iI 0)/\AB S w w'/\CI w' (plus S w) q (p.give f)
theorem XDh(hP:CI w S q p)(hf:at_ p.tk f=true):Calls prog 207 #[pP q,iI f] w (VkD w S q p f):=by
 have HP:=ι hP;have Z:=hP.ok;have Xi:=FV hf;have HC:Hid (DX p f=0):=⟨by unfold DX;rw[χ,hf,θ Ω];rfl⟩;have Xh:=OV hf;have G:=OJ Z;have hrm:=Z.rm;have L:=Z.us;have htl:=Z.le;obtain⟨vw,vt,vb,hi,ts,hr,o1,o2,o3,s1,s2,s3⟩:=hP.row;obtain⟨gt,ct,rfl,-,hd1,Xc,-⟩:=E6 o2 Ω;obtain⟨Ab,cb,rfl,hcb1,E⟩:=C7 o3;unfold maxLen at Xc E;obtain⟨ii,Xa,B,Xl,Xd⟩:=info_parts YWy;have I:q≠gt:=AQ hr o2 (by decide) rfl rfl;have hgq:gt≠q:=λe=>I e.symm;have c1:=hr.cc 1;have c2:=hr.cc 2;have c5:=hr.cc 5;have cf:=λj=>hr.free j;have cf2:=cf 2;have cf5:=cf 5;have kt:=BS o2 (XP Xi);have ktf:=FF o2 f;obtain⟨N,hN⟩:∃N,N=p.bk.length:=⟨_,rfl⟩;have HN:=ι hN;rw[<-hN]at c2 L;obtain⟨u,hu⟩:∃u,u=p.used:=⟨_,rfl⟩;have HU:=ι hu;rw[<-hu]at c5 G Xh L hr;have hu2:1<=u:=Ω
 have hfI:(f:Int)<(p.tk.length:Int):=Ω
 have HR:=ι hr;have H1:=ι o1;have H2:=ι o2;have H3:=ι o3;have HS:=ι (ψ s1 (ψ s2 s3));have HF:=ι hf;have D:=ι Z;have B1:=AX (q:=gt) (j:=f) o3 (.bool false) (λg hg=>AQ o3 o2 (by decide) hg rfl);have R1:=AX (q:=gt) (j:=f) hr (.bool false) (λg hg=>by cases hg;exact I);rw[<-hN]at B1;have Xf:=ι B1;have Xg:=ι R1;have Xe:∀g,(Value.slice Ab N cb).ownBlock=some g->g≠q:=λg hg=>AQ o3 hr (by decide) (by rw[<-hN];exact hg) rfl;clear hr o1 o2 o3 hP hf hN hu Z cf s1 s2 s3 B1 R1;go_enter func207,ntmps207
 go_wp2_with(first
  | (go_at_call 248;refine(N5 HP.o f).mono ?_;rintro e w1 ⟨rfl,rfl⟩;rw[HC.o])
  | (at_builtin;refine wpList_append_lies _ rfl _ _ 70 rfl 0 3 ii _ 1 8 underlying70 Xa B Xl Xd rfl (by decide) (.slice Ab N cb) N (DV p.bk) rfl (Xf.o.alloc _) ⟨w.heap.size,0,none⟩ 1 1 [iI (f:Nat)] rfl rfl (ξv (cs:=#[iI (f:Nat)]) (t:=3) (fr:=(0,0)) (by have:=heap_alloc_new (w.setCell ⟨gt,f,none⟩ (.bool false)) (.cells #[.int .i64 (f:Nat)] 3);simpa using this)) (by simp[Value.oneCell']) Ω (by unfold maxLen;omega) Ω (ζf _) (w.heap.size+1) (by simp) ?_;intro g2 Xj w2 U Y X V;have t2:AB (λk=>(Value.slice Ab N cb).ownBlock=some k) (w.setCell ⟨gt,f,none⟩ (.bool false)) w2:=(((Gr.refl _).alloc _).touch _).trans (DM Y _ (λk e _=>e));have J:=ι (BX Xg.o t2 (λg hg e=>by cases hg;exact Xe q e rfl));have d2:=BS J.o (j:=2) rfl;have df2:=FF J.o 2;have d5:=BS J.o (j:=5) rfl;have df5:=FF J.o 5;have M:=ι t2;have O:=ι U;have Xb:=ι (ψ X V);clear U Y X V t2))
 go_ret;have X:=Xb.o;have U1:=AX (q:=gt) (j:=f) H1.o (.bool false) (λg hg=>AQ H1.o H2.o (by decide) hg rfl);have A:∀g,vw.ownBlock=some g->¬(Value.slice Ab N cb).ownBlock=some g:=λg hg e=>AQ H1.o H3.o (by decide) hg (by rw[<-HN.o];exact e) rfl;have U2:=BX U1 M.o A;have T1:=(World.ownsRow.stored H2.o f (.bool false)).1;have T2:=BX T1 M.o (λg hg e=>AQ H2.o H3.o (by decide) hg (by rw[<-HN.o];exact e) rfl);have hsz:(w.setCell ⟨gt,f,none⟩ (.bool false)).heap.size=w.heap.size:=by simp
 have tt:AB S w w2:=((AB.refl S w).setCell (a:=⟨gt,f,none⟩) (λ_=>HS.o.2.1 gt rfl) (.bool false)).trans' M.o (λk _ h=>HS.o.2.2 k (by rw[<-HN.o];exact h));refine⟨rfl,(tt.setCell (a:=⟨q,2,none⟩) (λ_=>HP.o.sq) _).setCell (a:=⟨q,5,none⟩) (λ_=>HP.o.sq) _,Z2 D.o HF.o,.inl HP.o.sq,?_⟩;have R2:=J.o;have e1:(p.give f).used=u-1:=by have:=OV HF.o;have:=HU.o;omega
 have e2:(((u-1:Nat)):Int)=(u:Int)-1:=Ω
 have e3:(p.give f).tk=p.tk.set f false:=rfl;have e4:(p.give f).bk=p.bk++[f]:=rfl;have U3:=λa b=>AX (q:=q) (j:=5) (AX (q:=q) (j:=2) U2 a (λg hg=>AQ U2 R2 (by decide) hg rfl)) b (λg hg=>AQ U2 R2 (by decide) hg rfl);have T3:=λa b=>AX (q:=q) (j:=5) (AX (q:=q) (j:=2) T2 a (λg hg=>AQ T2 R2 (by decide) hg rfl)) b (λg hg=>AQ T2 R2 (by decide) hg rfl);have B3:=λa b=>AX (q:=q) (j:=5) (AX (q:=q) (j:=2) O.o a (λg hg=>AQ O.o R2 (by decide) hg rfl)) b (λg hg=>AQ O.o R2 (by decide) hg rfl);refine⟨vw,.slice (some ⟨gt,0,none⟩) p.tk.length ct,.slice (some ⟨g2,0,none⟩) (N+1) Xj,hi,ts,?_,?_,?_,?_,λg hg=>.inl (HS.o.1 g hg),λg hg=>.inl (HS.o.2.1 g hg),λg hg=>?_⟩
 ·rw[e1,e2];have Xk:Rec w2 q 247 _:=R2;exact(Xk.set 2 _).set 5 _
 ·exact U3 _ _
 ·rw[e3,ζb,ξY];exact T3 _ _
 ·rw[e4,show (p.bk++[f]).length=N+1 by rw[HN.o];simp,show DV (p.bk++[f])=DV p.bk++[iI (f:Nat)]by unfold DV;rw[ζ1];rfl];exact B3 _ _
 ·cases hg;rcases X.1 with h|h
  ·exact .inl (HS.o.2.2 _ (by rw[<-HN.o];exact h))
  ·right;show w.heap.size<=g2;omega
end
def JM(l:List Nat):List Value:=l.map λx=>.int .u32 (x:Nat)
def CG(pt:List Nat)(k:Nat):List Nat:=(List.range 256).map λi=>pt.getD (256*k+i) 0
def nz(l:List Nat):Nat:=cnt (λi=>l.getD i 0 !=0) l.length
def EW(pt:List Nat)(k:Nat):List Value:=JM (CG pt k)++[iI (nz (CG pt k):Nat)]
def GT(L:List (Option Nat)):List Value:=L.map λb=>.pointer (b.map λb=>⟨b,0,none⟩)
def CU(n:Nat):Nat:=(n+255)/256
structure JE(pt:List Nat):Prop where
 n1:1<=pt.length
 n2:pt.length<=524288
 lt:∀x∈pt,x<4294967296
structure C4(w:World)(S:Nat->Prop)(q:Nat)(pt:List Nat):Prop where
 ok:JE pt
 sq:S q
 row:∃g c L,Rec w q 250 [.slice (some ⟨g,0,none⟩) (CU pt.length) c,iI pt.length,iI (nz pt:Nat)]/\CU pt.length<=c/\c<=maxLen/\S g ∧
  w.ownsRow 0 345 1 (.slice (some ⟨g,0,none⟩) (CU pt.length) c) (CU pt.length) (GT L) ∧
  (∀k,k<CU pt.length->match L.getD k none with
   | none=>∀i,i<256->pt.getD (256*k+i) 0=0
   | some b=>S b/\Rec w b 348 (EW pt k)) ∧
  (∀k j b,L.getD k none=some b->L.getD j none=some b->k=j)
theorem IH(pt:List Nat)(k:Nat):(CG pt k).length=256:=by simp[CG]
theorem OP(pt:List Nat)(k:Nat)(h:i<256):(CG pt k).getD i 0=pt.getD (256*k+i) 0:=by simp[CG,h]
theorem QvL(pt:List Nat)(k:Nat)(h:i<256):(EW pt k)[i]?=some (.int .u32 (pt.getD (256*k+i) 0:Nat)):=by
 unfold EW JM;rw[ζW (by simp[IH,h])];simp[CG,h]
theorem XMj(pt:List Nat)(k:Nat):(EW pt k)[256]?=some (iI (nz (CG pt k):Nat)):=by
 unfold EW JM;simp[IH]
theorem C4.touch{T:Nat->Prop}(h:C4 w S q pt)(t:AB T w w')(hS:∀k,S k->k<w.heap.size->¬T k):C4 w' S q pt:=by
 obtain⟨ok,sq,g,c,L,hr,h1,h2,sg,ho,ht,hd⟩:=h;refine⟨ok,sq,g,c,L,hr.touch t (hS q sq hr.lt),h1,h2,sg,BX ho t (λb hb=>by cases hb;exact hS g sg (BE ho rfl).2),λk hk=>?_,hd⟩;have:=ht k hk;cases hl:L.getD k none with
 | none=>grind
 | some b=>rw[hl]at this;exact⟨this.1,this.2.touch t (hS b this.1 this.2.lt)⟩
theorem C4.gr(h:C4 w S q pt)(t:Gr w w'):C4 w' S q pt:=h.touch (t.touch (λ_=>False)) (λ_ _ _ h=>h)
theorem C4.mono{T:Nat->Prop}(h:C4 w S q pt)(hT:∀k,S k->T k):C4 w T q pt:=by
 obtain⟨ok,sq,g,c,L,hr,h1,h2,sg,ho,ht,hd⟩:=h;refine⟨ok,hT _ sq,g,c,L,hr,h1,h2,hT _ sg,ho,λk hk=>?_,hd⟩
 grind
theorem X0(h:n<=524288):CU n<=2048:=by unfold CU;omega
theorem Y4(h:p<n):p/256<CU n:=by unfold CU;omega
theorem Z0{L:List (Option Nat)}(h:k<L.length):(GT L)[k]?=some (.pointer ((L.getD k none).map λb=>⟨b,0,none⟩)):=by
 simp[GT,h]
theorem QR1(hM:C4 w S q pt)(hp:p<pt.length):cQ 275 #[pP q,iI p] w (.int .u32 (pt.getD p 0:Nat)):=by
 obtain⟨ok,sq,g,c,L,hr,h1,h2,sg,ho,ht,hd⟩:=hM;have hn:=X0 ok.n2;have hk:=Y4 hp;have hLl:L.length=CU pt.length:=by have:=ho.1;simp[GT]at this;exact this
 have c0:=hr.cc 0;have k0:=BS ho (Z0 (L:=L) (k:=p/256) Ω);have hh:=ht _ hk;obtain⟨k,Y⟩:∃k,k=p/256:=⟨_,rfl⟩;obtain⟨i,Z⟩:∃i,i=p%256:=⟨_,rfl⟩;have X:256*k+i=p:=Ω
 have hi:i<256:=Ω
 have e1:(p:Int)/256=(k:Int):=Ω
 have e2:(p:Int)%256=(i:Int):=Ω
 rw[<-Y]at k0 hk hh;have hpb:(p:Int)<=524288:=Ω
 cases hl:L.getD k none with
 | none=>
  rw[hl]at hh k0;have E:=(hh i hi);rw[X]at E;rw[E];clear hr ho ht hh hd Z Y X hl;go_enter func275,ntmps275;go_wp2;go_ret;exact⟨rfl,rfl⟩
 | some b=>
  rw[hl]at hh k0;have k1:=hh.2.cell (QvL pt k hi);rw[X]at k1;generalize pt.getD p 0=x at k1⊢;clear hr ho ht hh hd Z Y X hl;go_enter func275,ntmps275;go_wp2;go_ret;exact⟨rfl,rfl⟩
def pgE(pt:List Nat)(p:Int):Int:=if 0<=p/\p<pt.length then 0 else 11
def NA(pt:List Nat)(l:List Int):Int:=if l.all (λp=>decide (pgE pt p=0))then 0 else 11
theorem Z7Q(pt:List Nat)(p:Int):(decide (p<0)=true/\pgE pt p=11)\/(decide (p<0)=false/\decide ((pt.length:Int)<=p)=true/\pgE pt p=11)\/(decide (p<0)=false/\decide ((pt.length:Int)<=p)=false/\pgE pt p=0):=by
 by_cases h0:p<0
 ·exact .inl ⟨θ h0,ξ Ω⟩
 ·by_cases h1:(pt.length:Int)<=p
  ·exact .inr (.inl ⟨ζ h0,θ h1,ξ Ω⟩)
  ·exact .inr (.inr ⟨ζ h0,ζ h1,φ Ω⟩)
theorem QP1{l:List Int}(h:∀i,i<l.length->pgE pt (l.getD i 0)=0):NA pt l=0:=by
 unfold NA;rw[φ];rw[ξb];intro x hx;obtain⟨i,hi,rfl⟩:=ψd.1 hx
 simp_all
theorem YU3{l:List Int}(hi:i<l.length)(h:pgE pt (l.getD i 0)=11):NA pt l=11:=by
 unfold NA
 grind
theorem XaF(hM:C4 w S q pt){b:Nat}{l:List Int}(hn:l.length=n)(hn2:n<=2)(hc:∀i,i<n->w.cell? ⟨b,i,none⟩=some (iI (l.getD i 0))):cQ 274 #[pP q,.slice (some ⟨b,0,none⟩) n n] w (iI (NA pt l)):=by
 obtain⟨ok,sq,g,c,L,hr,-⟩:=hM;have c1:=hr.cc 1;have HC:=hc;clear hr hc;go_enter func274,ntmps274;go_wp2
 go_loop [11] (λi=>∃k:Nat,k<=n/\i=iI k/\Hid (∀i,i<k->pgE pt (l.getD i 0)=0)) (λi=>n-(intOf i).toNat)
 case atStart=>exact⟨0,by omega,rfl,⟨λi h=>by omega⟩⟩
 case round=>
  obtain⟨k,hk,rfl,Y⟩:=hrel;by_cases Z:k<n
  ·have X:=HC k Z;have hq:=Z7Q pt (l.getD k 0);have H1:=ι (λh=>YU3 (pt:=pt) (l:=l) (i:=k) Ω h)
   have H2:Hid (pgE pt (l.getD k 0)=0->∀i,i<k+1->pgE pt (l.getD i 0)=0):=⟨λh i hi=>by
    by_cases e:i=k
    ·subst e;exact h
    ·exact Y.o i Ω⟩
   generalize l.getD k 0=p at X hq H1 H2;clear Y HC hn;rcases hq with⟨d0,E⟩|⟨d0,d1,E⟩|⟨d0,d1,E⟩
   ·have E:=ι E;go_wp2;go_ret;exact⟨AS (by rw[H1.o E.o]),rfl⟩
   ·have E:=ι E;go_wp2;go_ret;exact⟨AS (by rw[H1.o E.o]),rfl⟩
   ·have E:=ι E;go_wp2;go_round
    case rel=>exact⟨k+1,by omega,by go_num,⟨H2.o E.o⟩⟩
    case measure=>simp[intOf];omega
  ·obtain rfl:k=n:=Ω
   have E:=ι (QP1 (pt:=pt) (l:=l) (by rw[hn];exact Y.o));go_wp2;go_ret;exact⟨AS (by rw[E.o]),rfl⟩
theorem VT9:(zeroCells348).toList=JM (List.replicate 256 0)++[iI 0]:=by kernel_rfl
theorem RF(l:List Nat):nz l=cnt (at_ (l.map λx=>x !=0)) l.length:=by
 refine CT λi hi=>?_;simp[at_,hi]
theorem PP(hi:i<l.length)(h:l.getD i 0=0)(hx:x≠0):nz (l.set i x)=nz l+1:=by
 have hm:(l.map λx=>x !=0).length=l.length:=ξ4 _;rw[RF,RF,ζb,ξY,<-hm];have:(x !=0)=true:=by simp[hx]
 rw[this];refine JO Ω ?_;rw[ω,η hi]at h;simp[at_,hi];simpa using h
theorem V6(hi:i<l.length)(h:l.getD i 0≠0):nz (l.set i 0)+1=nz l:=by
 have hm:(l.map λx=>x !=0).length=l.length:=ξ4 _;rw[RF,RF,ζb,ξY,<-hm];refine V4E Ω ?_;rw[ω,η hi]at h;simp[at_,hi];simpa using h
theorem Z2A(h:nz l=0)(hi:i<l.length):l.getD i 0=0:=by
 have:=VP h i hi
 simp_all
theorem M6(l:List Nat):nz l<=l.length:=EJ _ _
theorem ZL(hp:256*k+i<pt.length):CG (pt.set (256*k+i) x) k=(CG pt k).set i x:=by
 apply ξs
 ·simp[CG]
 ·intro j h1 h2;simp only[CG,List.getElem_map,List.getElem_range,List.getElem_set,ω,ψo]
  grind
theorem QhQ(hi:i<256)(hj:j≠k):CG (pt.set (256*k+i) x) j=CG pt j:=by
 apply ξs
 ·simp[CG]
 ·intro y h1 h2;have hy:y<256:=by simpa[CG]using h1
  simp only[CG,List.getElem_map,List.getElem_range,ω,ψo]
  grind
theorem VXI{t:Nat}(hp:256*k+i<pt.length)(hi:i<256)(ht:nz ((CG pt k).set i x)=t):
  EW (pt.set (256*k+i) x) k=((EW pt k).set i (.int .u32 x)).set 256 (iI t):=by
 unfold EW;rw[ZL hp,ht];have hl:(JM (CG pt k)).length=256:=by simp[JM,IH]
 rw[List.set_append_left _ _ Ω,List.set_append_right _ _ (by simp[hl])];simp[JM,IH]
theorem Y6(hi:i<256)(hj:j≠k):EW (pt.set (256*k+i) x) j=EW pt j:=by
 unfold EW;rw[QhQ hi hj]
theorem XyQ{c:Nat}(c0:w.cell? ⟨q,0,none⟩=some (.slice (some ⟨g,0,none⟩) n c))(c2:w.cell? ⟨q,2,none⟩=some (iI m))
  (f2:w.frozen? ⟨q,2,none⟩=false) (cg:w.cell? ⟨g,k,none⟩=some (.pointer none)) (fg:w.frozen? ⟨g,k,none⟩=false) (hqg:q≠g) (hq:q<w.heap.size) (hg:g<w.heap.size)
  (hk:k<n) (hn:n<=2048) (hi:i<256) (hm:m<=524288)  (hx:x≠0)  (hp:p=256*k+i):Calls prog 247 #[pP q,iI p,.int .u32 x] w λe w'=>e=.returned (.tuple #[]) ∧
   w'=((w.setCell ⟨g,k,none⟩ (.pointer (some ⟨w.heap.size,0,none⟩))).setCell ⟨q,2,none⟩ (.int .i64 (m+1))).alloc
   (Obj.cells ((zeroCells348.setIfInBounds i (.int .u32 x)).setIfInBounds 256 (iI 1)) 348):=by
 have e1:(p:Int)/256=(k:Int):=Ω
 have e2:(p:Int)%256=(i:Int):=Ω
 have b1:(p:Int)<=524288:=Ω
 have hkI:(k:Int)<(n:Int):=Ω
 have hiI:(i:Int)<256:=Ω
 have d0:((x:Int)==0)=false:=by simp_all
 have hz:∀h,(zeroCells348.setIfInBounds i (.int .u32 x))[256]'h=iI 0:=by
  intro h;rw[Array.getElem_setIfInBounds_ne _ Ω];have hl:(zeroCells348).toList.length=257:=by simp_all
  rw[<-Array.getElem_toList]
  ·grind [VT9,ζ2,η,Option.some.inj]
  simp_all
 clear hp;go_enter func247,ntmps247;go_wp2
 go_end0
 simp_all
def OX(w:World)(b i x t' q m' g k:Nat):World:=
 if t'=0 then (((w.setCell ⟨b,i,none⟩ (.int .u32 x)).setCell ⟨b,256,none⟩ (.int .i64 t')).setCell ⟨q,2,none⟩ (.int .i64 m')).setCell ⟨g,k,none⟩ (.pointer none)
 else ((w.setCell ⟨b,i,none⟩ (.int .u32 x)).setCell ⟨b,256,none⟩ (.int .i64 t')).setCell ⟨q,2,none⟩ (.int .i64 m')
theorem YAa{c b:Nat}{t t' m':Nat}{y:Value}(c0:w.cell? ⟨q,0,none⟩=some (.slice (some ⟨g,0,none⟩) n c))(c2:w.cell? ⟨q,2,none⟩=some (iI m))
  (f2:w.frozen? ⟨q,2,none⟩=false) (cg:w.cell? ⟨g,k,none⟩=some (pP b)) (fg:w.frozen? ⟨g,k,none⟩=false)
  (cb:w.cell? ⟨b,i,none⟩=some y) (cn:w.cell? ⟨b,256,none⟩=some (iI t)) (fi:w.frozen? ⟨b,i,none⟩=false) (fn:w.frozen? ⟨b,256,none⟩=false)
  (hqg:q≠g) (hbg:b≠g) (hbq:b≠q) (hk:k<n) (hn:n<=2048) (hi:i<256) (hm:m<=524288) (hm':m'<=524288) (ht:t<=256) (ht':t'<=256)  (hx:x<4294967296)
  (hby:if x=0 then t' + 1=t/\m' + 1=m else t'=t+1/\m'=m+1)  (hp:p=256*k+i):Calls prog 247 #[pP q,iI p,.int .u32 x] w λe w'=>e=.returned (.tuple #[]) ∧
   w'=OX w b i x t' q m' g k:=by
 have e1:(p:Int)/256=(k:Int):=Ω
 have e2:(p:Int)%256=(i:Int):=Ω
 have b1:(p:Int)<=524288:=Ω
 have hkI:(k:Int)<(n:Int):=Ω
 have hiI:(i:Int)<256:=Ω
 have hi6:¬i=256:=Ω
 clear hp;by_cases h0:x=0
 ·rw[φ h0]at hby;subst h0;obtain⟨rfl,rfl⟩:=hby;have a1:(t':Int)+1 + -1=(t':Int):=Ω
  have a2:(m':Int)+1 + -1=(m':Int):=Ω
  by_cases h1:t'=0
  ·subst h1;have E:OX w b i 0 0 q m' g k=_:=φ rfl;rw[E];go_enter func247,ntmps247;go_wp2
   go_end0
   simp_all
  ·have E:OX w b i 0 t' q m' g k=_:=ξ h1;rw[E];go_enter func247,ntmps247;go_wp2
   go_end0
   simp_all
 ·rw[ξ h0]at hby;obtain⟨rfl,rfl⟩:=hby;have d0:((x:Int)==0)=false:=by simp_all
  have E:OX w b i x (t+1) q (m+1) g k=_:=ξ Ω;rw[E];go_enter func247,ntmps247;go_wp2
  go_end0
  simp_all
theorem QON{ys:List Value}(h:Rec w q T xs)(e:xs=ys):Rec w q T ys:=e▸h
theorem JE.set(h:JE pt)(p:Nat)(hx:x<4294967296):JE (pt.set p x):=
 ⟨by rw[ζb];exact h.n1,by rw[ζb];exact h.n2,λy hy=>by
  rcases ζV hy with h'|h'
  ·exact h.lt y h'
  omega⟩
theorem EP(hp:p<l.length)(j:Nat):(l.set p x).getD j 0=if p=j then x else l.getD j 0:=by
 grind
theorem QC{l:List (Option Nat)}{x:Option Nat}(hp:p<l.length)(j:Nat):(l.set p x).getD j none=if p=j then x else l.getD j none:=by
 grind
theorem ZO(L:List (Option Nat))(k:Nat)(b:Option Nat):GT (L.set k b)=(GT L).set k (.pointer (b.map λb=>⟨b,0,none⟩)):=by
 unfold GT;simp_all
theorem ZXw(hl:l.length=n)(h:∀i,i<n->l.getD i 0=0):l=List.replicate n 0:=by
 grind [ξs,ζT,η]
theorem SK(n:Nat):nz (List.replicate n 0)=0:=by
 refine GZ λi hi=>?_
 simp_all
theorem Y8u(h:∀i,i<256->pt.getD (256*k+i) 0=0):EW pt k=JM (List.replicate 256 0)++[iI 0]:=by
 unfold EW
 grind [ZXw,IH,OP,SK]
def W9(w:World)(S:Nat->Prop)(q:Nat)(pt:List Nat)(p x:Nat)(w':World):Prop:=AB S w w'/\C4 w' (plus S w) q (pt.set p x)
theorem QkK(hM:C4 w S q pt)(hp:p<pt.length)(hx:x<4294967296)(hxx:if x=0 then pt.getD p 0≠0 else pt.getD p 0=0):
  Calls prog 247 #[pP q,iI p,.int .u32 x] w λe w'=>e=.returned (.tuple #[])/\W9 w S q pt p x w':=by
 obtain⟨ok,sq,g,c,L,hr,h1,h2,sg,ho,ht,hd⟩:=hM;have hn:=X0 ok.n2;have hk:=Y4 hp;have hLl:L.length=CU pt.length:=by have:=ho.1;simp[GT]at this;exact this
 obtain⟨k,Xg⟩:∃k,k=p/256:=⟨_,rfl⟩;obtain⟨i,hii⟩:∃i,i=p%256:=⟨_,rfl⟩;have Y:p=256*k+i:=Ω
 have hi:i<256:=Ω
 rw[<-Xg]at hk;have V:k<L.length:=Ω
 have cg:=BS ho (Z0 V);have fg:=FF ho k;have c0:=hr.cc 0;have c2:=hr.cc 2;have f2:=hr.free 2;have O:q≠g:=AQ hr ho (by decide) rfl rfl;have Xa:g≠q:=λe=>O e.symm;have hnz:=M6 pt;have hn2:=ok.n2;have Xh:=hr.lt;have Xk:=(BE ho rfl).2;have M:=ok.set p hx;have X:(pt.set p x).length=pt.length:=ζb;have hh:=ht k hk;cases hl:L.getD k none with
 | none=>
  rw[hl]at hh cg;have h0:pt.getD p 0=0:=by rw[Y];exact hh i hi
  have A:x≠0:=by
   intro e;subst e;rw[φ rfl]at hxx;exact hxx h0
  refine(XyQ c0 c2 f2 cg fg O Xh Xk hk hn hi Ω A Y).mono ?_;rintro e w' ⟨rfl,rfl⟩;refine⟨rfl,((AB.refl S w).setCell (a:=⟨g,k,none⟩) (λ_=>sg) _ |>.setCell (a:=⟨q,2,none⟩) (λ_=>sq) _).alloc _,M,.inl sq,g,c,L.set k (some w.heap.size),?_,by rw[X];exact h1,h2,.inl sg,?_,λj hj=>?_,λa b y ha hb=>?_⟩
  ·have r1:=(AX (q:=g) (j:=k) hr (pP w.heap.size) (λy hy=>by cases hy;exact O));have r2:Rec _ _ _ _:=Rec.set (q:=q) r1 2 (iI ((nz pt:Nat)+1));refine QON (r2.gr ((Gr.refl _).alloc _)) ?_;rw[PP hp h0 A,X];rfl
  ·rw[X,ZO];exact CL (AX (World.ownsRow.stored ho k _).1 _ (λy hy=>by cases hy;exact Xa)) ((Gr.refl _).alloc _)
  ·rw[X]at hj;rw[QC V];by_cases e:k=j
   ·subst e;rw[φ rfl];refine⟨.inr (ϑ _),?_⟩
    have hs:∀(W:World) (Z:Array Value) (xs:List Value) (N:Nat),W.heap.size=N->Z.toList=xs->Rec (W.alloc (.cells Z 348)) N 348 xs:=by
     rintro W Z xs N rfl rfl;exact Rec.new W _ _
    refine hs _ _ _ _ (by simp) ?_;rw[Array.toList_setIfInBounds,Array.toList_setIfInBounds,VT9,Y,VXI Ω hi rfl]
    have:nz ((CG pt k).set i x)=1:=by
     rw[PP (by rw[IH];exact hi) (by rw[OP _ _ hi];exact hh i hi) A,ZXw (IH pt k) (λy hy=>by rw[OP _ _ hy];exact hh y hy),SK]
    rw[this,Y8u hh];rfl
   ·rw[ξ e];have J:=ht j hj;cases hl':L.getD j none with
    | none=>
     rw[hl']at J;intro y hy;rw[EP hp,ξ Ω];exact J y hy
    | some b=>
     rw[hl']at J;refine⟨.inl J.1,?_⟩;rw[Y,Y6 hi (λh=>e h.symm)];have I:b≠g:=AQ J.2 ho (by decide) rfl rfl;have U:b≠q:=AQ J.2 hr (by decide) rfl rfl;have r1:=AX (q:=g) (j:=k) J.2 (pP w.heap.size) (λy hy=>by cases hy;exact I);exact Rec.gr (AX r1 _ (λy hy=>by cases hy;exact U)) ((Gr.refl _).alloc _)
  ·rw[QC V]at ha hb
   have Xe:∀j,L.getD j none≠some w.heap.size:=λj hj=>by
    by_cases Xf:j<CU pt.length
    ·have:=ht j Xf;rw[hj]at this;exact absurd this.2.lt (ζL _)
    ·rw[ω,ζN Ω]at hj;cases hj
   by_cases e1:k=a <;> by_cases e2:k=b
   ·rw[<-e1,e2]
   ·rw[φ e1]at ha;rw[ξ e2]at hb;cases ha;exact absurd hb (Xe b)
   ·rw[ξ e1]at ha;rw[φ e2]at hb;cases hb;exact absurd ha (Xe a)
   ·rw[ξ e1]at ha;rw[ξ e2]at hb;exact hd _ _ _ ha hb
 | some b=>
  rw[hl]at hh cg;obtain⟨sb,hb⟩:=hh;have I:b≠g:=AQ hb ho (by decide) rfl rfl;have Xc:g≠b:=λe=>I e.symm;have U:b≠q:=AQ hb hr (by decide) rfl rfl;have Xd:q≠b:=λe=>U e.symm;have cb:=hb.cell (QvL pt k hi);have cn:=hb.cell (XMj pt k);have B:i<(CG pt k).length:=by rw[IH];exact hi
  have E:(CG pt k).getD i 0=pt.getD p 0:=by rw[OP _ _ hi,Y]
  have Xi:if x=0 then nz ((CG pt k).set i x)+1=nz (CG pt k)/\nz (pt.set p x)+1=nz pt else nz ((CG pt k).set i x)=nz (CG pt k)+1/\nz (pt.set p x)=nz pt+1:=by
   by_cases e:x=0
   ·rw[φ e]at hxx⊢;subst e;exact⟨V6 B (by rw[E];exact hxx),V6 hp hxx⟩
   ·rw[ξ e]at hxx⊢;exact⟨PP B (by rw[E];exact hxx) e,PP hp hxx e⟩
  have l1:=M6 (CG pt k);have l2:=M6 ((CG pt k).set i x);rw[ζb]at l2;rw[IH]at l1 l2;have l3:=M6 (pt.set p x);rw[X]at l3;refine(YAa c0 c2 f2 cg fg cb cn (hb.free i) (hb.free 256) O I U hk hn hi Ω (m':=nz (pt.set p x)) Ω l1 l2 hx Xi Y).mono ?_;rintro e w' ⟨rfl,rfl⟩;obtain⟨t',G⟩:∃t',t'=nz ((CG pt k).set i x):=⟨_,rfl⟩;rw[<-G];have D:=VXI (pt:=pt) (k:=k) (i:=i) (x:=x) (t:=t') Ω hi G.symm;rw[<-Y]at D
  -- the world behind the first three stores
  obtain⟨W,hW⟩:∃W,W=((w.setCell ⟨b,i,none⟩ (.int .u32 x)).setCell ⟨b,256,none⟩ (.int .i64 t')).setCell ⟨q,2,none⟩ (.int .i64 (nz (pt.set p x):Nat)):=⟨_,rfl⟩;have TW:AB S w W:=by rw[hW];exact((AB.refl S w).setCell (a:=⟨b,i,none⟩) (λ_=>sb) _ |>.setCell (a:=⟨b,256,none⟩) (λ_=>sb) _).setCell (a:=⟨q,2,none⟩) (λ_=>sq) _
  have RQ:Rec W q 250 [.slice (some ⟨g,0,none⟩) (CU pt.length) c,iI pt.length,iI (nz (pt.set p x):Nat)]:=by
   rw[hW];have r1:=AX (q:=b) (j:=i) hr (.int .u32 x) (λy hy=>by cases hy;exact Xd);have r2:=AX (q:=b) (j:=256) r1 (iI t') (λy hy=>by cases hy;exact Xd);exact Rec.set r2 2 _
  have RG:W.ownsRow 0 345 1 (.slice (some ⟨g,0,none⟩) (CU pt.length) c) (CU pt.length) (GT L):=by
   rw[hW];exact AX (AX (AX ho _ (λy hy=>by cases hy;exact Xc)) _ (λy hy=>by cases hy;exact Xc)) _ (λy hy=>by cases hy;exact Xa)
  have RB:Rec W b 348 (EW (pt.set p x) k):=by
   rw[hW,D];exact AX (Rec.set (Rec.set hb i _) 256 _) _ (λy hy=>by cases hy;exact U)
  have RO:∀j y,j≠k->j<CU pt.length->L.getD j none=some y->S y/\Rec W y 348 (EW (pt.set p x) j):=λj y hj hj2 hy=>by
   have:=ht j hj2;rw[hy]at this;refine⟨this.1,?_⟩;rw[Y,Y6 hi hj,hW];have Xb:y≠b:=λe=>hj (hd _ _ _ (by rw[e]at hy;exact hy) hl);have Xl:y≠q:=AQ this.2 hr (by decide) rfl rfl;exact AX (AX (AX this.2 _ (λz hz=>by cases hz;exact Xb)) _ (λz hz=>by cases hz;exact Xb)) _ (λz hz=>by cases hz;exact Xl)
  have RN:∀j,j≠k->j<CU pt.length->L.getD j none=none->∀y,y<256->(pt.set p x).getD (256*j+y) 0=0:=λj hj hj2 hy y hy2=>by
   have:=ht j hj2;rw[hy]at this;rw[EP hp,ξ Ω];exact this y hy2
  unfold OX;by_cases h0:t'=0
  ·rw[φ h0,<-hW];refine⟨rfl,TW.setCell (a:=⟨g,k,none⟩) (λ_=>sg) _,M,.inl sq,g,c,L.set k none,?_,by rw[X];exact h1,h2,.inl sg,?_,λj hj=>?_,λa y z ha hz=>?_⟩
   ·rw[X];exact AX RQ _ (λy hy=>by cases hy;exact O)
   ·rw[X,ZO];exact(World.ownsRow.stored RG k _).1
   ·rw[X]at hj;rw[QC V];by_cases e:k=j
    ·subst e;rw[φ rfl];intro y hy;have:=Z2A (l:=(CG pt k).set i x) (by rw[<-G];exact h0) (i:=y) (by rw[ζb,IH];exact hy);rw[<-ZL Ω,OP _ _ hy,<-Y]at this;exact this
    ·rw[ξ e];cases hl':L.getD j none with
     | none=>exact RN j (λh=>e h.symm) hj hl'
     | some y=>
      have:=RO j y (λh=>e h.symm) hj hl';have Xj:y≠g:=AQ this.2 RG (by decide) rfl rfl;exact⟨.inl this.1,AX this.2 _ (λz hz=>by cases hz;exact Xj)⟩
   ·rw[QC V]at ha hz;by_cases e1:k=a
    ·rw[φ e1]at ha;cases ha
    ·by_cases e2:k=y
     ·rw[φ e2]at hz;cases hz
     ·rw[ξ e1]at ha;rw[ξ e2]at hz;exact hd _ _ _ ha hz
  ·rw[ξ h0,<-hW];refine⟨rfl,TW,M,.inl sq,g,c,L,?_,by rw[X];exact h1,h2,.inl sg,?_,λj hj=>?_,hd⟩
   ·rw[X];exact RQ
   ·rw[X];exact RG
   ·rw[X]at hj;by_cases e:k=j
    ·subst e;rw[hl];exact⟨.inl sb,RB⟩
    ·cases hl':L.getD j none with
     | none=>exact RN j (λh=>e h.symm) hj hl'
     | some y=>
      have:=RO j y (λh=>e h.symm) hj hl';exact⟨.inl this.1,this.2⟩
def frE(pt:List Nat)(p:Int):Int:=if pgE pt p=0 then (if pt.getD p.toNat 0=0 then 12 else 0)else 11
def frV(pt:List Nat)(p:Int):Int:=if frE pt p=0 then (pt.getD p.toNat 0:Nat)-1 else 0
theorem SZ(hM:C4 w S q pt){b:Nat}{p:Int}(hc:w.cell? ⟨b,0,none⟩=some (iI p)):cQ 274 #[pP q,.slice (some ⟨b,0,none⟩) 1 1] w (iI (pgE pt p)):=by
 have:=XaF hM (b:=b) (n:=1) (l:=[p]) rfl Ω (λi hi=>by
  simp_all)
 refine this.mono ?_;rintro e w' ⟨rfl,rfl⟩;refine⟨AS ?_,rfl⟩;unfold NA;rcases Z7Q pt p with h|h|h
 ·simp[h.2]
 ·simp[h.2.2]
 simp_all
theorem QE{p:Int}(h:pgE pt p=0):∃j:Nat,p=j/\j<pt.length:=by
 unfold pgE at h
 split at h
 ·exact⟨p.toNat,by omega,by omega⟩
 ·cases h
theorem XAh(pt:List Nat)(p:Int):pgE pt p=0\/pgE pt p=11:=by unfold pgE;omega
theorem K0(hM:C4 w S q pt)(p:Int):Calls prog 243 #[pP q,iI p] w λe w'=>e=.returned (.tuple #[iI (frV pt p),iI (frE pt p)])/\Gr w w':=by
 have HM:=hM;rcases XAh pt p with h0|h0
 ·obtain⟨j,rfl,hj⟩:=QE h0
  have hl:pt.getD j 0<4294967296:=by
   rw[ω,η hj];exact hM.ok.lt _ (μ hj)
  have HV:Hid (frE pt j=if pt.getD j 0=0 then 12 else 0):=⟨by unfold frE;simp_all⟩;have HF:Hid (frV pt j=if frE pt j=0 then ((pt.getD j 0:Nat):Int)-1 else 0):=⟨by unfold frV;simp_all⟩;have HG:=(λ(w':World) (h:Gr w w')=>QR1 (hM.gr h) hj);have H0:=h0;generalize pt.getD j 0=x at HV HF HG hl;by_cases hx:x=0
  ·subst hx;have E1:=HV.o;rw[φ rfl]at E1;have E2:=HF.o;rw[E1,ξ (by decide)]at E2;have HE:=(ψ E1 E2);go_enter func243,ntmps243
   go_wp2_with(first
    | (go_at_call 274;refine(SZ (HM.gr ((Gr.refl w).alloc _)) (p:=j) (ζF _ _ _ 0 rfl)).mono ?_;rintro e w1 ⟨rfl,rfl⟩;rw[H0])
    | (go_at_call 275;refine(HG _ ((Gr.refl w).alloc _)).mono ?_;rintro e w1 ⟨rfl,rfl⟩))
   go_ret2;exact⟨BP (BN (by rw[HE.2])) (BN (by rw[HE.1])),(Gr.refl w).alloc _⟩
  ·have E1:=HV.o;rw[ξ hx]at E1;have E2:=HF.o;rw[E1,φ rfl]at E2;have HE:=(ψ E1 E2);have d0:((x:Int)==0)=false:=by simp_all
   go_enter func243,ntmps243
   go_wp2_with(first
    | (go_at_call 274;refine(SZ (HM.gr ((Gr.refl w).alloc _)) (p:=j) (ζF _ _ _ 0 rfl)).mono ?_;rintro e w1 ⟨rfl,rfl⟩;rw[H0])
    | (go_at_call 275;refine(HG _ ((Gr.refl w).alloc _)).mono ?_;rintro e w1 ⟨rfl,rfl⟩))
   go_ret2;exact⟨BP (BN (by rw[HE.2])) (BN (by rw[HE.1])),(Gr.refl w).alloc _⟩
 ·have E1:frE pt p=11:=by unfold frE;omega
  have E2:frV pt p=0:=by unfold frV;omega
  have HE:=(ψ E1 E2);have H0:=h0;go_enter func243,ntmps243;go_wp2_with(go_at_call 274;refine(SZ (HM.gr ((Gr.refl w).alloc _)) (p:=p) (ζF _ _ _ 0 rfl)).mono ?_;rintro e w1 ⟨rfl,rfl⟩;rw[H0]);go_ret2;exact⟨BP (BN (by rw[HE.2])) (BN (by rw[HE.1])),(Gr.refl w).alloc _⟩
theorem YTd(hM:C4 w S q pt)(hp:p<pt.length)(h0:pt.getD p 0=0)(hf:f<4096):Calls prog 245 #[pP q,iI p,iI f] w λe w'=>e=.returned (iI 0)/\W9 w S q pt p (f+1) w':=by
 have HM:=hM;have HI:Hid (pgE pt p=0):=⟨by unfold pgE;rw[φ ⟨by omega,by omega⟩]⟩;have HG:=(λ(w':World) (h:Gr w w')=>QR1 (hM.gr h) hp);have HS:=(λ(w':World) (h:Gr w w')=>QkK (hM.gr h) (x:=f+1) hp Ω (by exact h0));rw[h0]at HG;go_enter func245,ntmps245
 go_wp2_with(first
  | (go_at_call 274;refine(SZ (HM.gr ((Gr.refl w).alloc _)) (p:=p) (ζF _ _ _ 0 rfl)).mono ?_;rintro e w1 ⟨rfl,rfl⟩;rw[HI.o])
  | (go_at_call 275;refine(HG _ ((Gr.refl w).alloc _)).mono ?_;rintro e w1 ⟨rfl,rfl⟩)
  | (go_at_call 247;refine(HS _ ((Gr.refl w).alloc _)).mono ?_;rintro e w1 ⟨rfl,X⟩;have HE:=X))
 go_ret;obtain⟨t1,t2⟩:=HE;exact⟨rfl,(((Gr.refl w).alloc _).touch S).trans t1,t2.mono (λk hk=>hk.imp id (λh=>β ((Gr.refl w).alloc _).size h))⟩
def QcT(w:World)(S:Nat->Prop)(q:Nat)(pt:List Nat)(p:Int)(w':World):Prop:=(frE pt p≠0/\Gr w w')\/(frE pt p=0/\W9 w S q pt p.toNat 0 w')
theorem NF{p:Int}(h:frE pt p=0):∃j:Nat,p=j/\j<pt.length/\pt.getD j 0≠0:=by
 unfold frE at h
 grind [QE]
theorem XlB(pt:List Nat)(p:Int):0<=frE pt p/\frE pt p<=12:=by unfold frE;omega
theorem Yzj(hM:C4 w S q pt)(p:Int):Calls prog 206 #[pP q,iI p] w λe w'=>e=.returned (.tuple #[iI (frV pt p),iI (frE pt p)])/\QcT w S q pt p w':=by
 have HM:=hM;by_cases h0:frE pt p=0
 ·have HZ:=h0;obtain⟨j,rfl,hj,hx⟩:=NF h0;have HS:=(λ(w':World) (h:Gr w w')=>QkK (hM.gr h) (x:=0) hj Ω (by exact hx));go_enter func206,ntmps206
  go_wp2_with(first
   | (go_at_call 243;refine(K0 HM j).mono ?_;rintro e w1 ⟨rfl,Y⟩;have X:=Y)
   | (go_at_call 247;refine(HS _ X).mono ?_;rintro e w2 ⟨rfl,Z⟩;have HE:=Z))
  go_ret2;obtain⟨t1,t2⟩:=HE;refine⟨BP rfl (BN (by rw[HZ])),.inr ⟨HZ,(X.touch S).trans t1,?_⟩⟩;exact t2.mono (λk hk=>hk.imp id (λh=>β X.size h))
 ·have HZ:=h0;have hr:=XlB pt p;obtain⟨x,hx⟩:∃x,x=frE pt p:=⟨_,rfl⟩;have HX:=ι hx;rw[<-hx]at h0 hr;have d0:(x==0)=false:=by simpa using h0
  clear hM hx;go_enter func206,ntmps206;go_wp2_with(go_at_call 243;refine(K0 HM p).mono ?_;rintro e w1 ⟨rfl,Y⟩;rw[<-HX.o];have X:=Y);go_ret2;exact⟨BP rfl (BN (by rw[HX.o])),.inl ⟨HZ,X⟩⟩
theorem JE.new(h1:1<=n)(h2:n<=524288):JE (List.replicate n 0):=
 ⟨by simp_all,by simp_all,λx hx=>by simp_all⟩
theorem N9(n i:Nat):(List.replicate n 0).getD i 0=0:=by
 grind
theorem Qr3:(prog.info? 345).map (λi=>(i.zero,i.size,i.bytes))=some (some (.pointer none),1,8):=by kernel_rfl
theorem JxF(n:Nat):(madeCells #[.pointer none] n).toList=GT (List.replicate n none):=by
 unfold madeCells GT;apply ξs
 ·simp
 grind
theorem RZ(h:w.ownsRow base E size v n xs):w.ownsRow 0 E size v n xs:=by
 obtain⟨h1,h|⟨g,c,X,e1,e2,h⟩⟩:=h
 ·exact⟨h1,.inl h⟩
 ·exact⟨h1,.inr ⟨g,c,X,e1,ζf _,h⟩⟩
theorem J3k(h1:1<=n)(h2:n<=524288):Calls prog 110 #[iI n] w λe w'=>∃q,e=.returned (.tuple #[pP q,iI 0])/\Gr w w'/\C4 w' (λk=>w.heap.size<=k) q (List.replicate n 0):=by
 obtain⟨i0,hi,Z,U,hz2⟩:=info_parts Qr3;have e1:((n:Int)+256-1)/256=(CU n:Int):=by unfold CU;omega
 have b0:CU n<=2048:=X0 h2;have HB:Hid (i0.bytes*CU n<=281474976710656):=⟨by grind⟩;have HM:Hid (CU n<=maxLen):=⟨by unfold maxLen;omega⟩;go_enter func110,ntmps110;go_wp2_with(at_make;refine wpList_make_full _ rfl _ _ 248 rfl w.heap.size 345 i0 (.pointer none) 1 underlying248 hi Z U .i64 .i64 _ _ (CU n) rfl rfl ?h1 ?h2 HB.o HM.o (ϑ _) ?h3)
 case h1=>omega
 case h2=>omega
 case h3=>
  intro w1 X Y;have J:Gr w w1:=(KD Y (λ_=>False) (λk e _=>by cases e)).gr;have HO:=(RZ X);have HG:=J;go_wp2;go_ret2;have hl:(List.replicate n 0).length=n:=ζT;have X:=HO;rw[JxF]at X;refine⟨_,BP rfl rfl,HG.alloc _,JE.new h1 h2,HG.size,w.heap.size,CU n,List.replicate (CU n) none,?_,by simp_all,HM.o,ϑ _,?_,λk hk=>?_,λk j b hk=>?_⟩
  ·grind [SK,Rec.new]
  ·rw[hl];exact CL X ((Gr.refl _).alloc _)
  ·grind
  grind
end Go.Proofs.YtbdimhlaaoadgaaGreatDoor
