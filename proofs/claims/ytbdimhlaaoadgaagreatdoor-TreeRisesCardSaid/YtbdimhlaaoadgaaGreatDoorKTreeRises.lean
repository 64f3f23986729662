/- What TreeRises alone leans on: my own lemmas, merged by shake2.py. -/
import Derived.Test.YtbdimhlaaoadgaaGreatDoorTreesM
namespace Go.Proofs.YtbdimhlaaoadgaaGreatDoor
open _root_.Go.Proofs.Tryz
set_option maxHeartbeats 6400000
set_option maxRecDepth 100000
open Go.RowKit
variable{M:List (Nat × Nat)}{l:List Nat}{k n:Nat}{A:Option Addr}{P:Program}{w w':World}
def C9(P:Program)(K:TypeId)(w:World)(b n:Nat)(M:List (Nat×Nat)):Prop:=
 ∃D:DataW Value,w.ownsMap P K IM b n D/\Maps.size D=M.length/\(M.map Prod.snd).Nodup ∧
  (∀p∈M,p.2<18446744073709551616/\Maps.has D (.int .u64 (p.2:Nat))=true/\∀z,D.atKey (.int .u64 (p.2:Nat)) z=.held (.int .u64 (p.1:Nat)))/\∀k:Nat,(∀p∈M,p.2≠k)->Maps.has D (.int .u64 (k:Nat))=false
section
variable{K:TypeId}{b:Nat}{M':List (Nat × Nat)}{y f:Nat}
theorem wf_u64(h:k<18446744073709551616):(Lit.int .u64 (k:Nat)).wf=true:=WalkArith.wf_u64 Ω
theorem C9.made(w:World):C9 P K (w.alloc (.map #[] 0)) w.heap.size 0 []:=
 ⟨.map [],World.ownsMap_made _ _ _ _,rfl,ξi,λp hp=>absurd hp (by simp),λ_ _=>rfl⟩
theorem C9.touch{S:Nat->Prop}(h:C9 P K w b n M)(t:AB S w w')(hS:¬S b):C9 P K w' b n M:=by
 obtain⟨D,h,hf⟩:=h;have Y:=h.lt;obtain⟨es,X,hb,r⟩:=h;exact⟨D,⟨es,X,(t.block b Y hS).trans hb,r⟩,hf⟩
theorem C9.mono(h:C9 P K w b n M){m:Nat}(hm:n<=m):C9 P K w b m M:=by
 obtain⟨D,h1,h2⟩:=h;exact⟨D,h1.mono hm,h2⟩
theorem C9.perm(h:C9 P K w b n M)(hp:M.Perm M'):C9 P K w b n M':=by
 obtain⟨D,h1,h2,h3,h4,h5⟩:=h;exact⟨D,h1,by rw[h2,hp.length_eq],(hp.map _).nodup_iff.1 h3,λp hq=>h4 p (hp.mem_iff.2 hq),λk hk=>h5 k λp hq=>hk p (hp.mem_iff.1 hq)⟩
theorem C9.look(h:C9 P K w b n M)(KI:Maps.Keyed P K){t e:TypeId}(ht:P.underlying t=some (.map K e))(hk:P.underlying K=some (.int .u64)){z:Value}(hz:(zeroValue e).run P w=.ok z w)(hm:(f,k)∈M):
  (Instr.lookup t (.map (some b)) (.int .u64 (k:Nat)) true).run P w=.ok (.tuple #[.int .u64 (f:Nat),.bool true]) w:=by
 obtain⟨D,hD,-,-,hf,-⟩:=h;obtain⟨h0,h1,h2⟩:=hf _ hm;obtain⟨v,ps,hr,hv⟩:=hD.look_ok KI ht hz (zd:=.held z) (zp:=[]) rfl (Maps.keyOf_int_mk hk (wf_u64 h0));rw[hr,h1];unfold IM at hv;simp only[Option.some.injEq,Prod.mk.injEq]at hv;have:=hv.1;rw[h2]at this;cases this;rfl
end
section
variable(w:World){ops:Array Oper}{rest:List Oper}{o:Oper}{a:Act}{Q:Exit->Act->World->Prop}
theorem Q3f(hg:o.guard=none)(m x v:Operand)(t:TypeId)(hop:o.op=Op.mapUpdate t m x v)
  (k e:TypeId) (K:Maps.Keyed P k) (ht:P.underlying t=some (.map k e)) (hk:P.underlying k=some (.int .u64)) (b n:Nat)
  (hm:a.eval m=.map (some b)) (hown:C9 P k w b n M) (hn:n<maxLen) (key y:Nat) (hx:a.eval x=.int .u64 (key:Nat)) (hv:a.eval v=.int .u64 (y:Nat)) (hw:key<18446744073709551616)
  (M':List (Nat×Nat)) (hM:(∃f M0,M.Perm ((f,key) :: M0)/\M'=(y,key) :: M0)\/((∀p∈M,p.2≠key)/\M'=(y,key) :: M))
  (hK:∀w',C9 P k w' b (n+1) M'->AB (λi=>i=b) w w'->wpList P ops Q rest (a.put o.dst undef) w'):
  wpList P ops Q (o :: rest) a w:=by
 obtain⟨D,hD,hs,hd,hf,N⟩:=hown;have X:=Maps.keyOf_int_mk (P:=P) hk (wf_u64 hw);refine wpList_mapUpdate_own w hg m x v t hop k e K ht IM b n D hm hD hn (.int .u64 (key:Nat)) (.int .u64 (y:Nat)) _ hx hv X (.held (.int .u64 (y:Nat))) [] rfl λw' h1 h2=>?_;have Y:∀j:Nat,j≠key->(Lit.int .u64 (j:Nat))≠.int .u64 (key:Nat):=λj hj h=>hj (by injection h;omega);have J:=Maps.size_put (k:=.int .u64 (key:Nat)) (hD.tidy K) (.held (.int .u64 (y:Nat)));refine hK w' ⟨_,h1,?_⟩ (DM h2 _ (λi hi _=>by cases hi;rfl))
 have O:∀M0:List (Nat×Nat),(∀p∈M0,p∈M/\p.2≠key)->∀p∈(y,key) :: M0,p.2<18446744073709551616/\Maps.has (D.put (.int .u64 (key:Nat)) (.held (.int .u64 (y:Nat)))) (.int .u64 (p.2:Nat))=true/\∀z,(D.put (.int .u64 (key:Nat)) (.held (.int .u64 (y:Nat)))).atKey (.int .u64 (p.2:Nat)) z=.held (.int .u64 (p.1:Nat)):=λM0 hM0 p hp=>by
  rcases ζi.1 hp with rfl|hp
  ·exact⟨hw,Maps.has_put_same hD.isMap (K.key X) _,λz=>Maps.atKey_put_same hD.isMap (K.key X) _ _⟩
  ·obtain⟨q1,q2⟩:=hM0 p hp;obtain⟨q3,q4,q5⟩:=hf p q1;exact⟨q3,(Maps.has_put_other (Y _ q2) _).trans q4,λz=>(Maps.atKey_put_other (Y _ q2) _ _).trans (q5 z)⟩
 rcases hM with⟨f,M0,hp,rfl⟩|⟨U,rfl⟩
 ·have V:=(hp.map Prod.snd).nodup_iff.1 hd;rw[ζ6,ζB]at V;have I:∀p∈M0,p∈M/\p.2≠key:=λp hpm=>⟨hp.mem_iff.2 (τ _ hpm),λe=>V.1 (ζK.2 ⟨p,hpm,e⟩)⟩
  have hl:=hp.length_eq;rw[(hf _ (hp.mem_iff.2 (ζa ..))).2.1,φ rfl]at J;refine⟨by rw[J,hs,hl];rfl,by rw[ζ6,ζB];exact V,O M0 I,λj hj=>?_⟩;have Z:j≠key:=λe=>hj _ (ζa ..) e.symm;rw[Maps.has_put_other (Y _ Z)];refine N j λp hpm e=>?_;rcases ζi.1 (hp.mem_iff.1 hpm)with rfl|h
  ·exact Z e.symm
  ·exact hj p (τ _ h) e
 ·rw[N key U,ξ (by simp)]at J;refine⟨by rw[J,hs];rfl,?_,O M (λp hpm=>⟨hpm,U p hpm⟩),λj hj=>?_⟩
  ·rw[ζ6,ζB];exact⟨λh=>by obtain⟨p,q1,q2⟩:=ζK.1 h;exact U p q1 q2,hd⟩
  ·have Z:j≠key:=λe=>hj _ (ζa ..) e.symm;rw[Maps.has_put_other (Y _ Z)];exact N j λp hpm e=>hj p (τ _ hpm) e
theorem XtW(hg:o.guard=none)(m x:Operand)(t k:TypeId)(hop:o.op=Op.call {callee:=Callee.builtin Builtin.delete,args:=#[m,x],argTypes:=#[t,k]})
  (e:TypeId) (K:Maps.Keyed P k) (ht:P.underlying t=some (.map k e)) (hk:P.underlying k=some (.int .u64)) (b n:Nat)
  (hm:a.eval m=.map (some b)) (hown:C9 P k w b n M) (key f:Nat) (hx:a.eval x=.int .u64 (key:Nat)) (M':List (Nat×Nat)) (hM:M.Perm ((f,key) :: M'))
  (hK:∀w',C9 P k w' b n M'->AB (λi=>i=b) w w'->wpList P ops Q rest (a.put o.dst (.tuple #[])) w'):
  wpList P ops Q (o :: rest) a w:=by
 obtain⟨D,hD,hs,hd,hf,U⟩:=hown;obtain⟨q0,q1,-⟩:=hf _ (hM.mem_iff.2 (ζa ..));have Z:=Maps.keyOf_int_mk (P:=P) hk (wf_u64 q0);refine wpList_delete_own w hg m x t k hop e K ht IM b n D hm hD (.int .u64 (key:Nat)) _ hx Z λw' h1 h2=>?_;have X:∀j:Nat,j≠key->(Lit.int .u64 (j:Nat))≠.int .u64 (key:Nat):=λj hj h=>hj (by injection h;omega);have V:=Maps.size_del (k:=.int .u64 (key:Nat)) (hD.tidy K);dsimp only at q1 q0;rw[q1,φ rfl,hs,hM.length_eq,ζu]at V;have Y:=(hM.map Prod.snd).nodup_iff.1 hd;rw[ζ6,ζB]at Y;dsimp only at h1;refine hK w' ⟨_,h1,by omega,Y.2,λp hpm=>?_,λj hj=>?_⟩ (DM h2.grown _ (λi hi _=>by cases hi;rfl))
 ·have J:p.2≠key:=λe=>Y.1 (ζK.2 ⟨p,hpm,e⟩);obtain⟨q3,q4,q5⟩:=hf p (hM.mem_iff.2 (τ _ hpm));exact⟨q3,(Maps.has_del_other (X _ J)).trans q4,λz=>(Maps.atKey_del_other (X _ J) _).trans (q5 z)⟩
 ·by_cases e:j=key
  ·subst e;exact Maps.has_del_same
  ·rw[Maps.has_del_other (X _ e)];refine U j λp hpm e2=>?_;rcases ζi.1 (hM.mem_iff.1 hpm)with rfl|h
   ·exact e e2.symm
   ·exact hj p h e2
theorem QMr(hg:o.guard=none)(m:Operand)(t:TypeId)(hop:o.op=Op.call {callee:=Callee.builtin Builtin.len,args:=#[m],argTypes:=#[t]})
  (k e:TypeId) (ht:P.underlying t=some (.map k e)) (b n:Nat) (hm:a.eval m=.map (some b)) (hown:C9 P k w b n M)
  (hK:wpList P ops Q rest (a.put o.dst (iI (M.length:Nat))) w):
  wpList P ops Q (o :: rest) a w:=by
 obtain⟨D,hD,hs,-⟩:=hown;rw[<-hs]at hK;exact wpList_len_own w hg m t hop k e ht IM b n D hm hD hK
end
open Go.ChangeShapes Go.WideShapes Go.ChangeAt Word
def PO(w:World)(A:Option Addr)(l:List Nat):Prop:=∀i (h:i<l.length),l[i]<18446744073709551616/\∃b o,A=some ⟨b,o,none⟩/\b<w.heap.size/\w.cell? ⟨b,o+i,none⟩=some (uU (l[i]:Nat))
theorem PO.gr(h:PO w A l)(g:Gr w w'):PO w' A l:=λi hi=>by
 obtain⟨h1,b,o,h2,h3,h4⟩:=h i hi;exact⟨h1,b,o,h2,κ h3 g.size,(g.cell h3 _).trans h4⟩
theorem YXv{H:Type}{enc:TypeId×Value->H}{W:World}{r:Reach}{b0:Nat}{v:Value}{d:DataW H}{p:List MemPlace}
  (hv:Value.okWide prog W r b0 25 v) (h:DataW.Trod enc prog W 0 (λ_=>true) true 25 v d p):
  ∃(A:Option Addr) (cap:Nat) (l:List Nat),v=.slice A l.length cap/\l.length<=maxLen/\PO W A l:=by
 obtain⟨A,len,cap,rfl⟩:=okWide_slice underlying25 hv;obtain⟨fuel,hf⟩:=h;rcases Go.Deep.open_slice underlying25 hf with⟨X,_⟩|⟨a,len',cap',m,n,D,Pl,X,_,hl,hm,J,_,hi⟩
 ·simp[Value.cells]at X;obtain⟨rfl,rfl,rfl⟩:=X;exact⟨none,0,[],rfl,ζf _,λi h=>absurd h (by simp)⟩
 ·simp[Value.cells]at X;obtain⟨rfl,rfl,rfl⟩:=X;have hle:len<=m:=by rw[J];simpa using hl
  obtain⟨l,Y,hR⟩:=UD (λi (x:Nat)=>x<18446744073709551616/\W.cell? (a.add i)=some (.int .u64 (x:Nat))) len (λi hil=>by
   obtain⟨cs,hc,ht⟩:=hi i Ω;rw[QE0,ξA]at hc;obtain⟨_,hcl,Z⟩:=World.cells?_some hc;obtain⟨k,e0,_,w0⟩:=DataW.trod_int underlying37 ht;subst e0;have hb:=bounds_u64 w0;refine⟨k.toNat,by omega,?_⟩;have:=Z 0 (by simp);rw[QFj,ξk]at this;rw[this]
   show some (Value.int .u64 k)=some (Value.int .u64 ((k.toNat:Nat):Int))
   rw[show ((k.toNat:Nat):Int)=k by omega])
  subst Y;refine⟨some a,cap,l,rfl,by omega,λi hil=>?_⟩;obtain⟨h0,h1⟩:=hR i hil
  have hs:a.spot=none:=by
   have h0:=(hR 0 Ω).2;have:=QvD h0;simpa[Addr.add]using this
  obtain⟨b,o,s⟩:=a;simp only at hs;subst hs;have ha:∀k,Addr.add ⟨b,o,none⟩ k=⟨b,o+k,none⟩:=λk=>by unfold Addr.add;split <;> simp_all
  rw[ha]at h1;exact⟨h0,b,o,rfl,VEB h1,h1⟩
open Go.Shelf
structure QzT(w0:World)(mb:Nat)(c:HCf)(hb tb r a u n o i:Nat)(M:List (Nat×Nat))(w:World):Prop where
 q:S39 w0 (λk=>k=mb) c hb tb r a u n o M w
 m:C9 prog 37 w mb i M
 fb:∀p∈M,p.1<18446744073709551616
 ln:M.length<=i
structure PG(w0:World)(mb:Nat)(c:HCf)(hb tb r a u n o N j k:Nat)(l:Bool)(M:List (Nat×Nat))(w:World):Prop where
 q:S39 w0 (λk=>k=mb) c hb tb r a u n o M w
 m:C9 prog 37 w mb 60 M
 ln:M.length+j=N
 up:M=[]\/(l=false/\∀p∈M,k<=p.2)
theorem Yty(w:World):(zeroValue 37).run prog w=.ok (uU 0) w:=by kernel_rfl
theorem YK:Maps.Keyed prog 37:=Maps.int_keyed underlying37
section
variable{w0:World}{c:HCf}{hb tb r a u o:Nat}{K:Nat->Prop}
theorem PG.nx{mb N j:Nat}{l:Bool}{M:List (Nat×Nat)}(h:PG w0 mb c hb tb r a u n o N j k l M w)(hj:j<N):l=false/\∀{v f:Nat} {e:Int},MR M k v f e->e=0/\k<=v/\v<18446744073709551616/\∃M0,M.Perm ((f,v) :: M0)/\M0.length+(j+1)=N/\(v=18446744073709551615->M0=[])/\∀p∈M0,v+1<=p.2:=by
 have hM:M≠[]:=λe=>by have:=h.ln;rw[e]at this;simp at this;omega
 obtain⟨hl,X⟩:=h.up.resolve_left hM;refine⟨hl,λhn=>?_⟩;obtain⟨hm,J,Z,he⟩:=Y7b hM X hn;obtain⟨M0,hp⟩:=Qe9 hm;have hb:=h.q.bd _ hm;have hr:=ZhG h.q.keys X Z hp;have Y:=hp.length_eq;rw[ζu]at Y;refine⟨he,J,hb,M0,hp,by have:=h.ln;omega,λe=>?_,hr⟩;cases M0 with
 | nil=>rfl
 | cons x t=>
  have h1:=hr x (ζa ..);have h2:=h.q.bd x (hp.mem_iff.2 (τ _ (ζa ..)));omega
theorem Qce(hT:AO w)(c:CfI)(hc:c.Bd){cap:Nat}(hA:PO w A l)(hl:l.length<=maxLen):Calls prog 3 #[c.V,.slice A l.length cap] w λe w'=>e=.returned (.bool true)/\Gr w w':=by
 unfold maxLen at hl;obtain⟨kd,pg,bk,wd,sl,st,ah,tr⟩:=c;obtain⟨c0,Xe⟩:∃c0:CfI,c0=⟨kd,pg,bk,wd,5,st,ah,tr⟩:=⟨_,rfl⟩;have hc:c0.Bd:=by rw[Xe];exact hc
 obtain⟨w1,Xk⟩:∃w1,w1=w.alloc (.cells (EB ⟨kd,pg,bk,wd,5,st,ah,tr⟩).toArray 24):=⟨_,rfl⟩;have Xd:Hid (Gr w w1):=⟨by rw[Xk];exact(Gr.refl w).alloc _⟩;have Yq:Hid (Rec w1 w.heap.size 24 (EB c0)):=⟨by rw[Xk,Xe];exact Rec.new w _ _⟩;have HL:=ι (λ(V:World) (g:Gr w V)=>XH V (g.tab hT.lt hT));have Yj:Hid (∀V,Gr w V->1<V.heap.size):=⟨λV g=>κ hT.lt g.size⟩;have Xj:=ι Xk;have HA:=ι hA;obtain⟨N,hN⟩:∃N,N=l.length:=⟨_,rfl⟩;have HN:=ι hN;rw[<-hN]at hl⊢;have J:=ι (λ(V:World)=>YUJ c0 (n:=0) Ω none 0 V);have Ys:=ι (λ(V:World) (g:Gr w1 V)=>QV (Yq.o.gr g));have E:Hid (∀V,Gr w V->c0.may=true->Calls prog 12 #[c0.V] V λe w'=>∃s,e=.returned (.tuple #[pP s.A.hp,iI 0])/\TH V c0.nat s w'):=⟨λV g hm=>WP c0 hc hm V (g.tab hT.lt hT)⟩;have Xb:=ι (λ(V:World) hm=>YnZ c0 hc hm V);have Xr:c0.nat.sl=5:=by rw[Xe];rfl
 unfold CfI.V;unfold EB at Xj;dsimp only at Xj⊢;clear Xk hA hN hc Xe;go_enter func3,ntmps3;go_upto_region 2 with(fail);rw[<-Xj.o];clear Xj;obtain⟨b0,b1,b2,b3,b4,b5,b6,b7,bl⟩:=QV Yq.o;by_cases hf:2048<c0.wd
 ·have d0:decide (2048<c0.wd)=true:=θ hf;rw[d0]at J;unfold CfI.V at J;clear hf d0
  go_wp2_with(first
   | (go_at_call 10;refine(J.o _).mono ?_;rintro e w2 ⟨rfl,hg⟩;have U:=ι (Xd.o.trans hg);clear hg)
   | (go_at_call 11;refine(HL.o _ U.o).mono ?_;rintro e w3 ⟨rfl,hg⟩;have D:=ι (U.o.trans hg);clear hg))
  go_ret;exact⟨rfl,D.o⟩
 have d0:decide (2048<c0.wd)=false:=ζ hf;rw[d0]at J;by_cases hn:60<N
 ·have Zl:(60:Int)<(N:Int):=Ω
  unfold CfI.V at J;clear hf hn d0
  go_wp2_with(first
   | (go_at_call 10;refine(J.o _).mono ?_;rintro e w2 ⟨rfl,hg⟩;have U:=ι (Xd.o.trans hg);clear hg)
   | (go_at_call 11;refine(HL.o _ U.o).mono ?_;rintro e w3 ⟨rfl,hg⟩;have D:=ι (U.o.trans hg);clear hg))
  go_ret;exact⟨rfl,D.o⟩
 have Zl:¬(60:Int)<(N:Int):=Ω
 by_cases hm:c0.may=true
 case neg=>
  have Xb:=ι (λV=>Xb.o V (by simpa using hm));unfold CfI.V at J Xb;clear hf hn d0 hm E
  go_wp2_with(first
   | (go_at_call 10;refine(J.o _).mono ?_;rintro e w2 ⟨rfl,hg⟩;have U:=ι hg;obtain⟨a0,a1,a2,a3,a4,a5,a6,a7,al⟩:=Ys.o _ hg;clear hg)
   | (go_at_call 12;refine(Xb.o _).mono ?_;rintro e w3 ⟨rfl,hg⟩;have D:=ι ((Xd.o.trans U.o).trans hg);clear hg)
   | (go_at_call 11;refine(HL.o _ D.o).mono ?_;rintro e w4 ⟨rfl,hg⟩;have Zj:=ι (D.o.trans hg);clear hg))
  go_ret;exact⟨rfl,Zj.o⟩
 obtain⟨d,hd⟩:∃d,d=c0.nat:=⟨_,rfl⟩;have E:=ι (λV g=>E.o V g hm);rw[<-hd]at E Xr;have Xz:Hid (N<=60):=⟨by omega⟩;unfold CfI.V at J E;clear hf hn d0 hm Xb hd
 go_upto_region 5 with(first
  | (go_at_call 10;refine(J.o _).mono ?_;rintro e w2 ⟨rfl,hg⟩;have U:=ι hg;obtain⟨a0,a1,a2,a3,a4,a5,a6,a7,al⟩:=Ys.o _ hg;clear hg)
  | (go_at_call 12;refine(E.o _ (Xd.o.trans U.o)).mono ?_;rintro e w3 ⟨s,rfl,hn⟩;have Yn:=ι hn;clear hn))
 have O:=ι (Xd.o.trans U.o);have hv:=HLv.new Yn.o;obtain⟨hb,Yu⟩:∃hb,hb=s.A.hp:=⟨_,rfl⟩;rw[<-Yu]at hv⊢;have Yi:=ι (Ymm hv (Yj.o _ O.o) Xr);clear hv Yu Yn b0 b1 b2 b3 b4 b5 b6 b7 bl a0 a1 a2 a3 a4 a5 a6 a7 al Xr;have Zk:=@run_makeMap prog;go_upto_region 11 with(go_at_call 13;refine(Yi.o).mono ?_;rintro e w4 ⟨r,a,u,n,o,tb,rfl,Yf⟩;have Yr:=ι Yf;clear Yf);have hq:=S39.new Yr.o (Yj.o _ O.o);have Yd:=C9.made (P:=prog) (K:=37) w4;obtain⟨w5,Xt⟩:∃w5,w5=w4.alloc (.map #[] 0):=⟨_,rfl⟩;obtain⟨mb,Xp⟩:∃mb,mb=w4.heap.size:=⟨_,rfl⟩;rw[<-Xp,<-Xt]at hq Yd;rw[<-Xt,<-Xp];have HI:Hid (QzT w2 mb d hb tb r a u n o 0 [] w5):=⟨⟨hq,Yd,λp hp=>(by cases hp),by simp⟩⟩;clear hq Yd Xt Xp Yr Yi Zk;go_wp2
 go_loopw [50] (λs50 wr=>∃(i:Nat) (M:List (Nat×Nat)),i<=N/\s50=iI i/\Hid (QzT w2 mb d hb tb r a u n o i M wr)) (λs50 _=>N-(intOf s50).toNat)
 case atStart=>exact⟨0,[],ζf _,rfl,HI⟩
 case round=>
  clear HI;obtain⟨i,M,hi,rfl,HI⟩:=hrel;by_cases X:i<N
  ·have Zr:(i:Int)<(N:Int):=Ω
   have Yy:i<l.length:=by rw[<-HN.o];exact X
   obtain⟨Xf,bb,q,rfl,hb1,Zd⟩:=(HA.o.gr (O.o.trans HI.o.q.grew)) i Yy;generalize l[i]=x at Xf Zd;have Y:=ι X;have HX:=ι Xf;have Yz:i<60:=by have:=Xz.o;omega
   have u1:IntKind.u64.wrap (i:Int)=i:=IA _ Ω;obtain⟨y,hy⟩:∃y:Nat,y=(x+i)%18446744073709551616:=⟨_,rfl⟩;have Yb:y<18446744073709551616:=Ω
   have u2:IntKind.u64.wrap ((x:Int)+(i:Int))=(y:Int):=by rw[show (x:Int)+(i:Int)=((x+i:Nat):Int)by omega,WQ,hy]
   have HY:=ι Yb;obtain⟨e,M2,Xm,Z⟩:=HI.o.q.put Xf Yb;have HC:=ι Z;have Yo:=ι Yz;clear Yy Xf hi X Z hy Yb
   have Xx:(e=0/\Hid ((∃f M0,M.Perm ((f,x) :: M0)/\M2=(y,x) :: M0)\/((∀p∈M,p.2≠x)/\M2=(y,x) :: M)))\/(e=21/\M2=M):=by
    rcases Xm with⟨f,M0,h1,h2,h3⟩|⟨h1,⟨-,h2,h3⟩|⟨-,h2,h3⟩⟩
    ·exact .inl ⟨h2,⟨.inl ⟨f,M0,h1,h3⟩⟩⟩
    ·exact .inl ⟨h2,⟨.inr ⟨h1,h3⟩⟩⟩
    ·exact .inr ⟨h2,h3⟩
   clear Xm;rcases Xx with⟨rfl,Xw⟩|⟨rfl,rfl⟩
   ·go_upto_region 15 with(first
     | (go_at_call 15;refine AK (PW _ _) ?_)
     | (go_at_call 14;refine(HC.o).mono ?_;rintro e w6 ⟨rfl,ht,hq⟩;have HT:=ι ht;have HQ:=ι hq;clear ht hq))
    have Xa:=ι (HI.o.m.touch HT.o (λe=>e rfl));have Zo:Hid (i<maxLen):=⟨by have:=Yo.o;unfold maxLen;omega⟩;go_wp2_with(at_mapUpdate;refine Q3f _ rfl _ _ _ 36 rfl 37 37 YK underlying36 underlying37 mb i rfl Xa.o Zo.o x y rfl rfl HX.o M2 Xw.o ?_;intro w7 G B;have Xi:=ι G;have Xo:=ι B;clear G B);go_round
    case rel=>
     refine⟨i+1,M2,Y.o,by go_num,⟨HQ.o.wr (Xo.o.mono (λk _ e=>e)),Xi.o,?_,?_⟩⟩
     ·have hy:=HY.o;have Yp:=HI.o.fb;rcases Xw.o with⟨f,M0,hp,rfl⟩|⟨-,rfl⟩
      ·exact λp I=>by
        rcases ζi.1 I with rfl|I
        ·exact hy
        ·exact Yp p (hp.mem_iff.2 (τ _ I))
      ·exact λp I=>by
        rcases ζi.1 I with rfl|I
        ·exact hy
        ·exact Yp p I
     ·have h1:=HI.o.ln;rcases Xw.o with⟨f,M0,hp,rfl⟩|⟨-,rfl⟩
      ·have:=hp.length_eq;rw[ζu]at this⊢;omega
      ·rw[ζu];omega
    case measure=>have:=Y.o;simp[intOf];omega
   ·go_wp2_with(first
     | (go_at_call 15;refine AK (PW _ _) ?_)
     | (go_at_call 14;refine(HC.o).mono ?_;rintro e w6 ⟨rfl,ht,hq⟩;have HT:=ι ht;have HQ:=ι hq;clear ht hq))
    go_round
    case rel=>exact⟨i+1,M2,Y.o,by go_num,⟨HQ.o,(HI.o.m.touch HT.o (λe=>e rfl)).mono Ω,HI.o.fb,by have:=HI.o.ln;omega⟩⟩
    case measure=>have:=Y.o;simp[intOf];omega
  ·have Zr:¬(i:Int)<(N:Int):=Ω
   obtain rfl:i=N:=Ω
   clear hi X;have Xa:=ι (HI.o.m.mono Xz.o);have HO:Hid (PG w2 mb d hb tb r a u n o M.length 0 0 false M wr):=⟨⟨HI.o.q,Xa.o,rfl,.inr ⟨rfl,λp _=>ζf _⟩⟩⟩;have Yh:M.length<=60:=by have:=HI.o.ln;have:=Xz.o;omega
   go_upto_region 18 with(at_len;refine QMr _ rfl _ 36 rfl 37 37 underlying36 mb 60 rfl Xa.o ?_);obtain⟨L,hL⟩:∃L,L=M.length:=⟨_,rfl⟩;rw[<-hL]at HO Yh⊢;clear HI Xa hL;go_wp2
   go_loopw [13,14,74] (λs13 s14 s74 wq=>∃(j k:Nat) (l:Bool) (M:List (Nat×Nat)),j<=L/\k<18446744073709551616/\s74=iI j/\s13=uU k/\s14=.bool l/\Hid (PG w2 mb d hb tb r a u n o L j k l M wq)) (λ_ _ s74 _=>L-(intOf s74).toNat)
   case atStart=>exact⟨0,0,false,M,ζf _,by decide,rfl,rfl,rfl,HO⟩
   case round=>
    clear HO;obtain⟨j,k,l,M,hj,hk,rfl,rfl,rfl,HO⟩:=hrel;by_cases X:j<L
    ·have Zi:(j:Int)<(L:Int):=Ω
     have Y:=ι X;obtain⟨rfl,Yk⟩:=HO.o.nx X;obtain⟨v,f,e,hn,Z⟩:=HO.o.q.next k
     obtain⟨rfl,Zh,Yx,M0,Zb,Ye,Yg,Za⟩:=Yk hn;have HC:=ι Z;have Xs:=ι Zb;have Zq:=ι Za;have Zf:=ι Yg;have Zg:=ι Ye;have Xy:=ι Yx;have Yv:¬(v:Int)<(k:Int):=Ω
     clear hj hk X Yk hn Z Zb Ye Yg Za Zh Yx;go_upto_region 22 with(go_at_call 16;refine(HC.o).mono ?_;rintro e w6 ⟨rfl,ht,hq⟩;have Ze:=ι ht;have Ya:=ι hq;clear ht hq);have Xg:=ι (HO.o.m.touch Ze.o (λe=>e rfl));have lk:=Xg.o.look YK underlying36 underlying37 (Yty w6) (Xs.o.mem_iff.2 (ζa ..))
     go_upto_region 26 with(first
      | (go_at_call 17;refine AK (YC _ _) ?_)
      | (at_delete;refine XtW _ rfl _ _ 36 37 rfl 37 YK underlying36 underlying37 mb 60 rfl Xg.o v f rfl M0 Xs.o ?_;intro w7 G B;have Xi:=ι G;have Xo:=ι B;clear G B))
     clear lk Yv;have Xc:=ι (Ya.o.wr (Xo.o.mono (λk _ e=>e)));obtain⟨e,M2,hd,hc⟩:=Xc.o.drop Xy.o;obtain⟨rfl,Yl⟩:=ZH Xc.o.keys Xs.o hd;have Xh:=ι Yl;have Yt:=ι hc;clear hd hc Yl
     have Xl:Hid (∀(key:Nat) (l:Bool) (V:World),S39 w2 (λk=>k=mb) d hb tb r a u n o M2 V->C9 prog 37 V mb 60 M0->(v≠18446744073709551615->l=false/\key=v+1)->PG w2 mb d hb tb r a u n o L (j+1) key l M2 V):=⟨λkey l V h1 h2 h3=>by
      refine⟨h1,h2.perm Xh.o.symm,by rw[Xh.o.length_eq];exact Zg.o,?_⟩;by_cases hv:v=18446744073709551615
      ·have:=Zf.o hv;subst this;exact .inl Xh.o.eq_nil
      ·obtain⟨q1,q2⟩:=h3 hv
       exact .inr ⟨q1,λp hp=>by rw[q2];exact Zq.o p (Xh.o.mem_iff.1 hp)⟩⟩
     by_cases hv:v=18446744073709551615
     ·subst hv;have u3:IntKind.u64.wrap ((18446744073709551615:Int)+1)=0:=by decide
      go_upto_region 29 with(go_at_call 18;refine(Yt.o).mono ?_;rintro e w8 ⟨rfl,ht,hq⟩;have Xu:=ι ht;have Xq:=ι hq;clear ht hq);have Yc:=ι Xq.o.step;go_wp2_with(go_at_call 19;refine(Yc.o).mono ?_;rintro e w9 ⟨z,rfl,ht,hq⟩;have Xv:=ι ht;have Xn:=ι hq;clear ht hq);go_round
      case rel=>exact⟨j+1,0,true,M2,Y.o,by decide,(by have:=Y.o;go_num),rfl,rfl,⟨Xl.o _ _ _ Xn.o ((Xi.o.touch Xu.o (λe=>e rfl)).touch Xv.o (λe=>e rfl)) (λh=>absurd rfl h)⟩⟩
      case measure=>have:=Y.o;simp[intOf];omega
     ·obtain⟨v1,Yw⟩:∃v1,v1=v+1:=⟨_,rfl⟩;have u3:IntKind.u64.wrap ((v:Int)+1)=(v1:Int):=by have:=Xy.o;rw[show (v:Int)+1=(v1:Int)by omega];exact IA v1 Ω
      have Ym:=ι Yw;have u4:((v:Int)==18446744073709551615)=false:=by rw[ζD];omega
      have HV:=ι hv;clear hv Yw;go_upto_region 29 with(go_at_call 18;refine(Yt.o).mono ?_;rintro e w8 ⟨rfl,ht,hq⟩;have Xu:=ι ht;have Xq:=ι hq;clear ht hq);have Yc:=ι Xq.o.step;go_wp2_with(go_at_call 19;refine(Yc.o).mono ?_;rintro e w9 ⟨z,rfl,ht,hq⟩;have Xv:=ι ht;have Xn:=ι hq;clear ht hq);go_round
      case rel=>exact⟨j+1,v1,false,M2,Y.o,(by have:=Xy.o;have:=HV.o;have:=Ym.o;omega),(by have:=Y.o;go_num),rfl,rfl,⟨Xl.o _ _ _ Xn.o ((Xi.o.touch Xu.o (λe=>e rfl)).touch Xv.o (λe=>e rfl)) (λ_=>⟨rfl,Ym.o⟩)⟩⟩
      case measure=>have:=Y.o;simp[intOf];omega
    ·have Zi:¬(j:Int)<(L:Int):=Ω
     obtain rfl:j=L:=Ω
     obtain rfl:M=[]:=List.length_eq_zero_iff.1 (by have:=HO.o.ln;omega);clear hj X hk;have Zp:=ι HO.o.q.live;have HM:=ι HO.o.m;go_upto_region 32 with(go_at_call 20;refine(Zp.o).mono ?_;rintro e w6 ⟨rfl,ht,hq⟩;have Ya:=ι hq;have Xg:=ι (HM.o.touch ht (λe=>e rfl));clear ht hq);have Zn:=ι Ya.o.len;have Zm:=ι (λ(V:World) (g:Gr w2 V)=>HL.o V (O.o.trans g))
     go_wp2_with(first
      | (at_len;refine QMr _ rfl _ 36 rfl 37 37 underlying36 mb 60 rfl Xg.o ?_)
      | (go_at_call 21;refine(Zn.o).mono ?_;rintro e w7 ⟨rfl,-,hq⟩;have Xc:=ι hq;clear hq)
      | (go_at_call 11;refine(Zm.o _ Xc.o.grew).mono ?_;rintro e w8 ⟨rfl,hg⟩;have Zc:=ι ((O.o.trans Xc.o.grew).trans hg);clear hg))
     go_ret;exact⟨rfl,Zc.o⟩
end
end Go.Proofs.YtbdimhlaaoadgaaGreatDoor
