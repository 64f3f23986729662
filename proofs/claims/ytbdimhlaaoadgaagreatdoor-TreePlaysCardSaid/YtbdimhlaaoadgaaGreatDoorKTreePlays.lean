/- What TreePlays alone leans on: my own lemmas, merged by shake2.py. -/
import Derived.Test.YtbdimhlaaoadgaaGreatDoorTreesM
namespace Go.Proofs.YtbdimhlaaoadgaaGreatDoor
open _root_.Go.Proofs.Tryz
set_option maxHeartbeats 6400000
set_option maxRecDepth 100000
open Go.RowKit Word
variable{args:Array Value}{f:FuncId}{c:HCf}{room:Int}{M M' N N':List (Nat × Nat)}{l:List CN}{p:List MemPlace}{a b b0 g hb k m n o r rb tb u:Nat}{K S X X':Nat->Prop}{A:Option Addr}{H:Type}{v x0 x1 y0 y1:Value}{W w w' w0:World}
theorem Zje:(prog.info? 131).map (λi=>(i.zero,i.size,i.bytes))=some (some (.agg #[uU 0,uU 0]),2,16):=by kernel_rfl
structure CC(w:World)(S:Nat->Prop)(rb:Nat)(room:Int)(N:List (Nat×Nat))(v:Value):Prop where
 row:Rec w rb 60 [v,iI room]
 own:w.ownsRow 0 131 2 v N.length (ndC N)
 sr:S rb
 sn:∀g,v.ownBlock=some g->S g/\g≠rb
def VDA(w:World)(S:Nat->Prop)(rb:Nat)(room:Int)(N:List (Nat×Nat)):Prop:=∃v,CC w S rb room N v
theorem CC.touch{T:Nat->Prop}(h:CC w S rb room N v)(t:AB T w w')(hT:∀k,S k->¬T k):CC w' S rb room N v:=
 ⟨h.row.touch t (hT _ h.sr),BX h.own t (λg hg=>hT g (h.sn g hg).1),h.sr,h.sn⟩
theorem CC.gr(h:CC w S rb room N v)(g:Gr w w'):CC w' S rb room N v:=h.touch (g.touch (λ_=>False)) (λ_ _=>id)
theorem CC.sub{S':Nat->Prop}(h:CC w S rb room N v)(hs:∀k,S k->S' k):CC w S' rb room N v:=⟨h.row,h.own,hs _ h.sr,λg hg=>⟨hs _ (h.sn g hg).1,(h.sn g hg).2⟩⟩
theorem CC.cut(h:CC w S rb room N v):CC w (λk=>S k/\k<w.heap.size) rb room N v:=⟨h.row,h.own,⟨h.sr,h.row.lt⟩,λg hg=>⟨⟨(h.sn g hg).1,(BE h.own hg).2⟩,(h.sn g hg).2⟩⟩
def RkO(w:World)(S:Nat->Prop)(rb:Nat)(room:Int)(N':List (Nat×Nat))(w':World):Prop:=AB S w w'/\VDA w' (plus S w) rb room N'
theorem CC.node2{c:Nat}(h:CC w S rb room N (.slice (some ⟨g,0,none⟩) N.length c)){j:Nat}(hj:j<N.length):w.cell? ⟨g,j*2,none⟩=some (uU ((N.getD j (0,0)).1:Nat))/\w.cell? ⟨g,j*2+1,none⟩=some (uU ((N.getD j (0,0)).2:Nat)):=⟨BS h.own (Qn9 hj).1,BS h.own (Qn9 hj).2⟩
theorem CC.node{c:Nat}(h:CC w S rb room N (.slice A N.length c))(hj:0<N.length):∃g,A=some ⟨g,0,none⟩/\N.length<=c/\g<w.heap.size:=by
 obtain⟨g,c',e,-,h2,-,h4⟩:=E6 h.own Ω;cases e;exact⟨g,rfl,h2,h4⟩
theorem M5(h:CC w S rb room N v)(hN:N.length<=1000000)(hm:m<=N.length)(hk:FC N k m):Calls prog 132 #[pP rb,uU k] w λe w'=>e=.returned (iI (if m<N.length then m else -1))/\Gr w w':=by
 obtain⟨A,c,rfl,-,hc⟩:=C7 h.own;have H:=ι h;have HK:=ι hk;generalize hz:(if m<N.length then (m:Int)else -1)=z;have HZ:=ι hz;clear h hk hz;go_enter func132,ntmps132;go_wp2
 go_loopw [5] (λs5 wr=>∃i:Nat,i<=m/\s5=iI i/\Hid (Gr w wr)) (λs5 _=>N.length+1-(intOf s5).toNat)
 case atStart=>exact⟨0,ζf _,rfl,⟨Gr.refl _⟩⟩
 case round=>
  obtain⟨i,hi,rfl,HG⟩:=hrel;have hr:=(H.o.gr HG.o);have c0:=hr.row.cc 0;have cl:=hr.row.lt;by_cases Y:i<N.length
  ·obtain⟨g,rfl,hgc,hgl⟩:=hr.node Ω;obtain⟨n0,n1⟩:=hr.node2 Y;have b1:(i:Int)<N.length:=Ω
   by_cases Z:i=m
   ·subst Z;have hx:=HK.o.1 Y;rw[hx]at n0;generalize (N.getD i (0,0)).2=y at n1;clear hr hx;go_wp2;go_ret;exact⟨by rw[<-HZ.o,φ Y];rfl,HG.o⟩
   ·have hx:=HK.o.2 i Ω;generalize (N.getD i (0,0)).1=x at n0 hx;generalize (N.getD i (0,0)).2=y at n1;have d0:((x:Int)==(k:Int))=false:=by rw[ζD];omega
    clear hr hx;go_wp2;go_round
    case rel=>exact⟨i+1,by omega,by go_num,HG⟩
    case measure=>have:=Y;simp[intOf];omega
  ·obtain rfl:i=N.length:=Ω
   obtain rfl:m=N.length:=Ω
   have b1:¬(N.length:Int)<N.length:=Ω
   clear Y hr;go_wp2;go_ret;exact⟨by rw[<-HZ.o,ξ (ζL _)];rfl,HG.o⟩
theorem Z7(y:Nat):∀(N:List (Nat×Nat)) (j:Nat),(ndC N).set (j*2+1) (uU (y:Nat))=ndC (N.set j ((N.getD j (0,0)).1,y))
 | [],j=>rfl
 | o :: r,0=>rfl
 | o :: r,j+1=>by
  have ih:=Z7 y r j;have e:ndC (o :: r)=uU (o.1:Nat) :: uU (o.2:Nat) :: ndC r:=rfl;rw[e,show (j+1)*2+1=j*2+1+1+1 by omega,ζq,ζq,ih];rfl
theorem V1I(h:CC w S rb room N v)(hN:N.length<=1000000)(hk:FC N k N.length):Calls prog 71 #[pP rb,uU k] w λe w'=>e=.returned (.tuple #[uU 0,iI 6])/\Gr w w':=by
 have HC:=ι (M5 h hN (ϑ _) hk);rw[ξ (ζL _)]at HC;clear h hk;go_enter func71,ntmps71;go_wp2_with(go_at_call 132;refine(HC.o).mono ?_;rintro e w1 ⟨rfl,hg⟩;have HG:=ι hg;clear hg);go_ret2;exact⟨rfl,HG.o⟩
theorem XjK(h:CC w S rb room N v)(hN:N.length<=1000000)(hm:m<N.length)(hk:FC N k m):Calls prog 71 #[pP rb,uU k] w λe w'=>e=.returned (.tuple #[uU ((N.getD m (0,0)).2:Nat),iI 0])/\Gr w w':=by
 obtain⟨A,c,rfl,-,hc⟩:=C7 h.own;obtain⟨g,rfl,hgc,J⟩:=h.node Ω;have HC:=ι (M5 h hN Ω hk);rw[φ hm]at HC;have Y:=ι (λ(W:World) (gW:Gr w W)=>(h.gr gW).node2 hm);have Z:=ι (λ(W:World) (gW:Gr w W)=>(h.gr gW).row);have d0:decide ((m:Int)<0)=false:=ζ Ω;have b1:(m:Int)<N.length:=Ω
 clear h hk hm;generalize (N.getD m (0,0)).1=x at Y⊢;generalize (N.getD m (0,0)).2=y at Y⊢;go_enter func71,ntmps71;go_wp2_with(go_at_call 132;refine(HC.o).mono ?_;rintro e w1 ⟨rfl,hg⟩;have HG:=ι hg;obtain⟨n0,n1⟩:=Y.o _ hg;have c0:=(Z.o _ hg).cell (j:=0) rfl;have cl:=(Z.o _ hg).lt;have hgl1:g<w1.heap.size:=κ J hg.size;clear hg);go_ret2;exact⟨rfl,HG.o⟩
theorem Y4A(h:CC w S rb room N v)(hN:N.length<=1000000)(hk:FC N k N.length):Calls prog 70 #[pP rb,uU k] w λe w'=>e=.returned (iI 6)/\Gr w w':=by
 have HC:=ι (M5 h hN (ϑ _) hk);rw[ξ (ζL _)]at HC;clear h hk;go_enter func70,ntmps70;go_wp2_with(go_at_call 132;refine(HC.o).mono ?_;rintro e w1 ⟨rfl,hg⟩;have HG:=ι hg;clear hg);go_ret;exact⟨rfl,HG.o⟩
theorem QkJ(h:CC w S rb room N v)(hN:N.length<=1000000)(hm:m<N.length)(hk:FC N k m)(y:Nat):Calls prog 73 #[pP rb,uU k,uU y] w λe w'=>e=.returned (iI 0)/\RkO w S rb room (N.set m (k,y)) w':=by
 obtain⟨A,c,rfl,-,hc⟩:=C7 h.own;obtain⟨g,rfl,hgc,hgl⟩:=h.node Ω;have HC:=ι (M5 h hN Ω hk);rw[φ hm]at HC;have HH:=ι (λ(W:World) (gW:Gr w W)=>h.gr gW);have H:=ι h;have Z:=ι (hk.1 hm);have Y:=ι (λ(W:World) (gW:Gr w W)=>((h.gr gW).node2 hm).2);have d0:decide ((0:Int)<=(m:Int))=true:=θ Ω;have b1:(m:Int)<N.length:=Ω
 clear h hk hm;go_enter func73,ntmps73;go_wp2_with(go_at_call 132;refine(HC.o).mono ?_;rintro e w1 ⟨rfl,hg⟩;have HG:=ι hg;have r1:=HH.o _ hg;have c0:=r1.row.cc 0;have cl:=r1.row.lt;have kf1:=FF r1.own (m*2+1);have kl:=(BE r1.own rfl).2;have kc1:=Y.o _ hg;clear r1 hg);go_ret;have r2:=HH.o _ (HG.o);have hs:=H.o.sn g rfl;have o1:=(World.ownsRow.stored r2.own (m*2+1) (uU (y:Nat))).1;rw[Z7,Z.o]at o1;have ht:AB (λk=>k=g) (w1) ((w1).setCell ⟨g,m*2+1,none⟩ (.int .u64 (y:Nat))):=(AB.refl (λk=>k=g) _).setCell (a:=⟨g,m*2+1,none⟩) (λ_=>rfl) _;refine⟨rfl,((HG.o).touch S).setCell (a:=⟨g,m*2+1,none⟩) (λ_=>hs.1) _,_,r2.row.touch ht (λe=>hs.2 e.symm),?_,.inl H.o.sr,λq hq=>⟨.inl (H.o.sn q hq).1,(H.o.sn q hq).2⟩⟩;rw[ζb];exact o1
theorem ZTs(h:CC w S rb room N v)(hN:N.length<=1000000)(hk:FC N k N.length)(y:Nat):Calls prog 73 #[pP rb,uU k,uU y] w
  λe w'=>e=.returned (iI (if room<=N.length then 21 else 0))/\RkO w S rb room (if room<=N.length then N else N++[(k,y)]) w':=by
 obtain⟨A,c,rfl,-,-⟩:=C7 h.own;obtain⟨i0,hi,E,Xa,L⟩:=info_parts Zje;have HC:=ι (M5 h hN (ϑ _) hk);rw[ξ (ζL _)]at HC;have HH:=ι (λ(W:World) (gW:Gr w W)=>h.gr gW);clear h hk;by_cases hr:room<=N.length
 ·rw[φ hr,φ hr];have d0:decide (room<=(N.length:Int))=true:=θ hr;clear hr;go_enter func73,ntmps73;go_upto_region 5 with(go_at_call 132;refine(HC.o).mono ?_;rintro e w1 ⟨rfl,hg⟩;have HG:=ι hg;have r1:=HH.o _ hg;obtain⟨c0,c1,cl⟩:=r1.row.k2;clear r1 hg);go_quiet (fail);go_wp2;go_ret;exact⟨rfl,(HG.o.drewN nq).touch _,_,(HH.o _ (HG.o.drewN nq)).sub (λk hk=>Or.inl hk)⟩
 ·rw[ξ hr,ξ hr];have d0:decide (room<=(N.length:Int))=false:=ζ hr;clear hr;go_enter func73,ntmps73;go_upto_region 5 with(go_at_call 132;refine(HC.o).mono ?_;rintro e w1 ⟨rfl,hg⟩;have HG:=ι hg;have r1:=HH.o _ hg;obtain⟨c0,c1,cl⟩:=r1.row.k2;clear r1 hg);go_quiet (fail);obtain⟨w2,V⟩:∃w2,w2=w1.drewN nq:=⟨_,rfl⟩;have O:Hid (Gr w w2):=⟨by rw[V];exact HG.o.drewN _⟩;rw[<-V];clear V;have H1:=ι (HH.o _ O.o)
  clear c0 c1 cl;obtain⟨c0,c1,cl⟩:=H1.o.row.k2
  go_wp2_with(at_builtin;refine wpList_append_own_at _ rfl _ _ 58 rfl 0 131 i0 _ 2 16 underlying58 hi E Xa L rfl (by decide) (.slice A N.length c) N.length (ndC N) rfl (CL H1.o.own ((Gr.refl _).alloc _)) ⟨w2.heap.size,0,none⟩ 1 1 [uU (k:Nat),uU (y:Nat)] rfl rfl (ξv (cs:=#[uU (k:Nat),uU (y:Nat)]) (t:=131) (fr:=(0,0)) (heap_alloc_new w2 _)) (by simp[Value.oneCell']) (by unfold maxLen;omega) Ω (ζf _) ?_;intro v' w3 Z Y _ U;obtain⟨A',c',rfl,-,-⟩:=C7 Z;have J:=ι ((H1.o.row.gr ((Gr.refl w2).alloc (.cells #[.int .u64 (k:Nat),.int .u64 (y:Nat)] 131))).touch (DM Y (λk=>(Value.slice A N.length c).ownBlock=some k) (λk e _=>e)) (λe=>(H1.o.sn rb e).2 rfl));have D:=ι Z;have G:=ι Y;have B:=ι U;clear Z Y U;replace c0:=J.o.cc 0;replace c1:=J.o.free 0;replace cl:=J.o.lt);go_ret;have hs1:=γ w2 (.cells #[.int .u64 (k:Nat),.int .u64 (y:Nat)] 131);have hsz:=O.o.size;have hrl:=H1.o.row.lt
  have I:∀g,(Value.slice A' (N.length+1) c').ownBlock=some g->(S g\/w.heap.size<=g)/\g≠rb:=λg hg=>by
   rcases B.o with e|e
   ·have:=H1.o.sn g (e▸hg);exact⟨.inl this.1,this.2⟩
   ·rw[e]at hg;have hg:=Option.some.inj hg;rw[γ]at hg;exact⟨.inr Ω,by omega⟩
  have ht:AB S w w3:=((O.o.alloc _).touch S).trans (DM G.o S (λk e _=>(H1.o.sn k e).1));refine⟨rfl,ht.setCell (λ_=>H1.o.sr) _,_,J.o.set 0 _,?_,.inl H1.o.sr,I⟩;have hO:=BX D.o ((AB.refl (λk=>k=rb) w3).setCell (a:=⟨rb,0,none⟩) (λ_=>rfl) (.slice A' (N.length+1) c')) (λg hg=>(I g hg).2);rw[RU,ζr];exact hO
theorem YxZ(N:List (Nat×Nat)):∀u∈ndC N,u.oneCell'=true:=by
 intro u hu;unfold ndC at hu;obtain⟨a,-,ha⟩:=List.mem_flatMap.1 hu;simp only[ζi,ξq,or_false]at ha;rcases ha with rfl|rfl <;> rfl
theorem X11(g a p:Nat):Addr.add ⟨g,a,none⟩ p=⟨g,a+p,none⟩:=by
 unfold Addr.add
 split <;> simp_all
theorem CC.front{c:Nat}(h:CC w S rb room N (.slice (some ⟨g,0,none⟩) N.length c))(b:Nat):∀p u,(ndC (N.take b))[p]?=some u->w.cell? (Addr.add ⟨g,0,none⟩ p)=some u:=λp u hp=>by
 rw[X11,ξt];refine BS h.own ?_;rw[<-ξJ b N,RU,ζW (List.getElem?_eq_some_iff.1 hp).1];exact hp
theorem CC.back{c:Nat}(h:CC w S rb room N (.slice (some ⟨g,0,none⟩) N.length c))(hb:b<=N.length):∀p u,(ndC (N.drop b))[p]?=some u->w.cell? (Addr.add ⟨g,b*2,none⟩ p)=some u:=λp u hp=>by
 rw[X11];refine BS h.own ?_;have e:(ndC (N.take b)).length=b*2:=by rw[VD,ψs];omega
 rw[<-ξJ b N,RU,ζ2 Ω,e,ξC];exact hp
theorem Qlu(h:CC w S rb room N v)(hN:N.length<=1000000)(hbl:b<N.length)(hk:FC N k b):Calls prog 70 #[pP rb,uU k] w
  λe w'=>e=.returned (iI 0)/\RkO w S rb room (N.take b++N.drop (b+1)) w':=by
 obtain⟨A,c,rfl,-,hc⟩:=C7 h.own;obtain⟨g,rfl,Xr,hgl⟩:=h.node Ω;obtain⟨i0,hi,Xm,Xi,Xa⟩:=info_parts Zje;have HF:=ι (M5 h hN Ω hk);rw[φ hbl]at HF;have Xw:=ι (λ(W:World) (gW:Gr w W)=>(h.gr gW).front b);have Ya:=ι (λ(W:World) (gW:Gr w W)=>(h.gr gW).back (b:=b+1) hbl);have H:=ι h;have d0:decide ((b:Int)<0)=false:=ζ Ω;have b1:(b:Int)<N.length:=Ω
 have Xl:=(h.sn g rfl);have Xc:=h.row.lt;clear h hk;have Xg:(ndC (N.take b)).length=b*2:=by rw[VD,ψs];omega
 have Xf:(ndC (N.drop (b+1))).length=(N.length-(b+1))*2:=by rw[VD,List.length_drop]
 have Xx:=ι Xg;have Xy:=ι Xf;clear Xg Xf;have Xq:=ι (YxZ (N.take b));have Yb:=ι (YxZ (N.drop (b+1)));have HGS:=ι Xl;have Xd:=ι Xc;clear Xl Xc;have hcN:N.length<=c:=Xr;have hbc:(b:Int)<=c:=Ω
 have b3:(b:Int)+1<=N.length:=Ω
 go_enter func70,ntmps70;go_upto_region 5 with(go_at_call 132;refine(HF.o).mono ?_;rintro e w5 ⟨rfl,hg⟩;have U:=ι hg;have c0:=(H.o.row.gr hg).cell (j:=0) rfl;have cl:=(H.o.row.gr hg).lt;clear hg);go_upto_region 6 with(at_builtin;refine wpList_append_own_at _ rfl _ _ 58 rfl 0 131 i0 _ 2 16 underlying58 hi Xm Xi Xa rfl (by decide) (.slice none 0 0) 0 [] rfl ⟨rfl,.inl ⟨rfl,rfl⟩⟩ ⟨g,0,none⟩ b c (ndC (N.take b)) rfl Xx.o (Xw.o _ U.o) Xq.o (by unfold maxLen;omega) Ω (ζf _) ?_;intro v6 w6 Z Y _ J;have O:=ι (DM Y (λ_=>False) (λk e _=>by cases e)).gr;have L:=ι Z;have Xj:=ι J;clear Z Y J;replace c0:=(H.o.row.gr (U.o.trans O.o)).cell (j:=0) rfl;replace cl:=(H.o.row.gr (U.o.trans O.o)).lt);have V:=L.o;rw[ξt,ζU]at V;have Xe:=ι V;clear V L
 have B:∀q,v6.ownBlock=some q->q=w5.heap.size:=λq hq=>by
  rcases Xj.o with e|e
  ·rw[e]at hq;cases hq
  ·rw[e]at hq;exact(Option.some.inj hq).symm
 have Xn:=ι B;clear B;obtain⟨A6,c6,rfl,-,-⟩:=C7 Xe.o
 have I:∃ad,(if c=b+1 then some (⟨g,0,none⟩:Addr)else some ⟨g,(b+1)*2,none⟩)=some ad/\∀W,Gr w W->∀p u,(ndC (N.drop (b+1)))[p]?=some u->W.cell? (Addr.add ad p)=some u:=by
  by_cases e:c=b+1
  ·rw[φ e];refine⟨_,rfl,λW gW p u hp=>?_⟩;rw[List.drop_eq_nil_of_le Ω]at hp;cases hp
  ·rw[ξ e];exact⟨_,rfl,Ya.o⟩
 obtain⟨ad,I,Xk⟩:=I;have Xs:=ι Xk;have G:=ι I;clear Xk I;go_upto_region 7 with(at_builtin;refine wpList_append_own_at _ rfl _ _ 58 rfl 0 131 i0 _ 2 16 underlying58 hi Xm Xi Xa rfl (by decide) (.slice A6 b c6) b (ndC (N.take b)) rfl Xe.o ad (N.length-(b+1)) (c-(b+1)) (ndC (N.drop (b+1))) (congrArg (λt=>Value.slice t (N.length-(b+1)) (c-(b+1))) G.o) Xy.o (Xs.o _ (U.o.trans O.o)) Yb.o (by unfold maxLen;omega) Ω (ζf _) ?_;intro v7 w7 Z Y _ J;obtain⟨A7,c7,rfl,-,-⟩:=C7 Z;have Xh:=ι (DM Y (λk=>k=w5.heap.size) (λk e _=>Xn.o k e));have Xu:=ι Z;have Xp:=ι J;clear Z Y J;have E:=ι ((H.o.row.gr (U.o.trans O.o)).touch Xh.o (λe=>by have h1:=Xd.o;have h2:=U.o.size;omega));replace c0:=E.o.cc 0;replace c1:=E.o.free 0;replace cl:=E.o.lt);rw[G.o];have D:rb<w.heap.size/\w.heap.size<=w5.heap.size:=⟨Xd.o,U.o.size⟩
 have h7:∀q,(Value.slice A7 (b+(N.length-(b+1))) c7).ownBlock=some q->w5.heap.size<=q:=λq hq=>by
  rcases Xp.o with e|e
  ·rw[e]at hq;exact ψj (Xn.o q hq).symm
  ·rw[e]at hq;have h8:=Option.some.inj hq;have h9:=O.o.size;omega
 have Xb:=(AB.refl (λk=>k=rb) w7).setCell (a:=⟨rb,0,none⟩) (λ_=>rfl) (.slice A7 (b+(N.length-(b+1))) c7);have Xt:=ι (BX Xu.o Xb (λq hq e=>by have:=h7 q hq;omega));have Xz:=ι (E.o.set 0 (.slice A7 (b+(N.length-(b+1))) c7));have Xo:Hid (AB (λk=>S k\/w5.heap.size<=k) w (w7.setCell ⟨rb,0,none⟩ (.slice A7 (b+(N.length-(b+1))) c7))):=⟨(((U.o.trans O.o).touch _).trans (Xh.o.mono (λk _ e=>.inr Ω))).setCell (a:=⟨rb,0,none⟩) (λ_=>.inl H.o.sr) _⟩;have H7:=ι h7;have Xv:=ι D;clear Xb h7 D;go_wp2;go_ret;have D:=Xv.o;have e1:(N.take b++N.drop (b+1)).length=b+(N.length-(b+1)):=by rw[ζr,ψs,List.length_drop];omega
 refine⟨rfl,Xo.o.mono (λk hk e=>e.elim id (λe=>absurd hk Ω)),_,Xz.o,?_,.inl H.o.sr,λq hq=>?_⟩
 ·rw[e1,RU];exact Xt.o
 ·have:=H7.o q hq;exact⟨.inr Ω,by omega⟩
theorem Van(h:CC w S rb room N v)(hN:N.length<=1000000)(k:Nat):Calls prog 72 #[pP rb,uU k] w
  λe w'=>(nxi N k N.length = -1->e=.returned (.tuple #[.agg #[uU 0,uU 0],iI 6]))/\(∀b:Nat,nxi N k N.length=b->e=.returned (.tuple #[.agg #[uU ((N.getD b (0,0)).1:Nat),uU ((N.getD b (0,0)).2:Nat)],iI 0]))/\Gr w w':=by
 obtain⟨A,c,rfl,-,hc⟩:=C7 h.own;have G:=ι (Rec.new w 131 [uU 0,uU 0]);have I:=ι ((Gr.refl w).alloc (.cells #[.int .u64 0,.int .u64 0] 131));have H:=ι (h.gr I.o);obtain⟨w0,V⟩:∃w0,w0=w.alloc (.cells #[.int .u64 0,.int .u64 0] 131):=⟨_,rfl⟩;obtain⟨ob,O⟩:∃ob,ob=w.heap.size:=⟨_,rfl⟩;rw[<-V,<-O]at G;rw[<-V]at I H;have HW:=ι V;have L:=ι O;clear h V O;go_enter func72,ntmps72;go_upto_region 1 with(fail);rw[<-HW.o,<-L.o];go_wp2
 go_loopw [6,7] (λs3 s4 wr=>∃i:Nat,i<=N.length/\s3=iI (nxi N k i)/\s4=iI i/\Hid (Gr w0 wr)) (λ_ s4 _=>N.length-(intOf s4).toNat)
 case atStart=>exact⟨0,ζf _,rfl,rfl,⟨Gr.refl _⟩⟩
 case round=>
  obtain⟨i,hi,rfl,rfl,HG⟩:=hrel;have hr:=(H.o.gr HG.o);have c0:=hr.row.cc 0;have cl:=hr.row.lt;have Xa:=YD N k i;obtain⟨be,E⟩:∃be,be=nxi N k i:=⟨_,rfl⟩;rw[<-E]at Xa⊢;have HB:=ι E.symm;clear E;by_cases Y:i<N.length
  ·obtain⟨g,rfl,Xd,Xb⟩:=hr.node Ω;obtain⟨n0,n1⟩:=hr.node2 Y;have b1:(i:Int)<N.length:=Ω
   obtain⟨x,hx⟩:∃x,x=(N.getD i (0,0)).1:=⟨_,rfl⟩;rw[<-hx]at n0;have HX:=ι hx;have U:=λ{j:Nat} (hj:j<N.length)=>(hr.node2 hj).1;clear hx n1 hr;by_cases Xf:x<k
   ·have d0:decide ((k:Int)<=(x:Int))=false:=ζ Ω;have Xc:decide (k<=x)=false:=ζ Ω;clear U;go_wp2;go_quiet (fail);go_wp2;go_round
    case rel=>exact⟨i+1,by omega,by rw[XR4 (by rw[<-HX.o];exact Xf),HB.o],by go_num,⟨HG.o.drewN _⟩⟩
    case measure=>have:=Y;simp[intOf];omega
   ·have d0:decide ((k:Int)<=(x:Int))=true:=θ Ω;have Xc:decide (k<=x)=true:=θ Ω;by_cases Z:be<0
    ·have d1:decide (be<0)=true:=θ Z;clear U;go_wp2;go_quiet (fail);go_wp2;go_round
     case rel=>exact⟨i+1,by omega,by rw[QUl (by rw[HB.o];exact Z) (by rw[<-HX.o];omega)],by go_num,⟨HG.o.drewN _⟩⟩
     case measure=>have:=Y;simp[intOf];omega
    ·have d1:decide (be<0)=false:=ζ Z;obtain⟨b,rfl⟩:∃b:Nat,be=b:=⟨be.toNat,by omega⟩;have m0:=U (j:=b) Ω;have b2:(b:Int)<N.length:=Ω
     obtain⟨y,hy⟩:∃y,y=(N.getD b (0,0)).1:=⟨_,rfl⟩;rw[<-hy]at m0;have HY:=ι hy;clear hy U;by_cases Xe:x<y
     ·have d2:decide ((x:Int)<(y:Int))=true:=θ Ω;have B:decide (x<y)=true:=θ Ω;go_wp2;go_quiet (fail);go_wp2;go_round
      case rel=>exact⟨i+1,by omega,by rw[Qm2 HB.o (by rw[<-HX.o];omega) (by rw[<-HX.o,<-HY.o];exact Xe)],by go_num,⟨HG.o.drewN _⟩⟩
      case measure=>have:=Y;simp[intOf];omega
     ·have d2:decide ((x:Int)<(y:Int))=false:=ζ Ω;have B:decide (x<y)=false:=ζ Ω;go_wp2;go_quiet (fail);go_wp2;go_round
      case rel=>exact⟨i+1,by omega,by rw[Zw9 HB.o (by rw[<-HX.o,<-HY.o];omega)],by go_num,⟨HG.o.drewN _⟩⟩
      case measure=>have:=Y;simp[intOf];omega
  ·obtain rfl:i=N.length:=Ω
   have b1:¬(N.length:Int)<N.length:=Ω
   have J:=ι (G.o.gr HG.o);have D:=ι (I.o.trans HG.o);have k0:=J.o.cc 0;have k1:=J.o.cc 1;have f0:=J.o.free 0;have f1:=J.o.free 1;have kl:=J.o.lt;by_cases Z:be<0
   ·have d0:decide (be<0)=true:=θ Z;have HE:=ι (show be = -1 by omega);clear hr Y;go_wp2;have hr:=(J.o.set 0 (uU 0)).set 1 (uU 0);have hl:=SA hr (by kernel_rfl) (by kernel_rfl);have ht:=((D.o.touch (λk=>ob=k)).setCell (a:=⟨ob,0,none⟩) (λ_=>rfl) (uU 0)).setCell (a:=⟨ob,1,none⟩) (λ_=>rfl) (uU 0);refine ζG (v:=.tuple #[.agg #[uU 0,uU 0],iI 6]) ?_ rfl ⟨λ_=>rfl,λb hb=>?_,(ht.mono (T:=λ_=>False) (λk hk e=>by have:=L.o;omega)).gr⟩
    ·simp[results,results72,asAddr,Result.andThen,hl]
    ·have h1:=HB.o;have h2:=HE.o;omega
   ·have d0:decide (be<0)=false:=ζ Z;obtain⟨b,rfl⟩:∃b:Nat,be=b:=⟨be.toNat,by omega⟩;obtain⟨g,rfl,Xd,Xb⟩:=hr.node Ω;obtain⟨n0,n1⟩:=hr.node2 (j:=b) Ω;have b2:(b:Int)<N.length:=Ω
    obtain⟨x,hx⟩:∃x,x=N.getD b (0,0):=⟨_,rfl⟩;rw[<-hx]at n0 n1;obtain⟨x1,x2⟩:=x;dsimp only at n0 n1;have HX:=ι hx;clear hr Y hx;go_wp2;have hr:=(J.o.set 0 (uU (x1:Nat))).set 1 (uU (x2:Nat));have hl:=SA hr (by kernel_rfl) (by kernel_rfl);have ht:=((D.o.touch (λk=>ob=k)).setCell (a:=⟨ob,0,none⟩) (λ_=>rfl) (uU (x1:Nat))).setCell (a:=⟨ob,1,none⟩) (λ_=>rfl) (uU (x2:Nat));refine ζG (v:=.tuple #[.agg #[uU (x1:Nat),uU (x2:Nat)],iI 0]) ?_ rfl ⟨λhm=>?_,λq hq=>?_,(ht.mono (T:=λ_=>False) (λk hk e=>by have:=L.o;omega)).gr⟩
    ·simp[results,results72,asAddr,Result.andThen,hl]
    ·have h1:=HB.o;omega
    ·have h1:=HB.o;obtain rfl:q=b:=Ω
     have hx:=HX.o;rw[ω]at hx;rw[<-hx]
theorem J8s(sl x0 x1 x2 x3 x4:Int)(w:World):Calls prog 23 #[iI sl,.agg #[iI x0,iI x1,iI x2,iI x3,iI x4]] w
  λe w'=>e=.returned (iI (DQ sl [x0,x1,x2,x3,x4]))/\Gr w w':=by
 have hr:=Rec.new w 54 [iI x0,iI x1,iI x2,iI x3,iI x4];have hg:=(Gr.refl w).alloc (.cells #[.int .i64 x0,.int .i64 x1,.int .i64 x2,.int .i64 x3,.int .i64 x4] 54);have HC:Hid (∀V,Gr (w.alloc (.cells #[.int .i64 x0,.int .i64 x1,.int .i64 x2,.int .i64 x3,.int .i64 x4] 54)) V->∀j,j<5->V.cell? ⟨w.heap.size,j,none⟩=some (iI ([x0,x1,x2,x3,x4].getD j 0))/\w.heap.size<V.heap.size):=⟨λV gV j hj=>⟨(hr.gr gV).cell (by rcases(by omega:j=0\/j=1\/j=2\/j=3\/j=4)with rfl|rfl|rfl|rfl|rfl <;> rfl),(hr.gr gV).lt⟩⟩;have HL:=ι (show [x0,x1,x2,x3,x4].length=5 from rfl);have Z:=ι hg;clear hr hg;generalize hL:[x0,x1,x2,x3,x4]=L at HC HL⊢;clear hL;go_enter func23,ntmps23;go_upto_region 2 with(fail);generalize w.alloc (.cells #[.int .i64 x0,.int .i64 x1,.int .i64 x2,.int .i64 x3,.int .i64 x4] 54)=w3 at *
 generalize w.heap.size=q at *
 go_loopw [5] (λs5 wr=>∃k:Nat,k<=5/\s5=iI k/\Hid (Gr w3 wr)/\Hid (∀j,j<k->0<=L.getD j 0/\L.getD j 0<sl)) (λs5 _=>5-(intOf s5).toNat)
 case atStart=>exact⟨0,by omega,rfl,⟨Gr.refl _⟩,⟨λj hj=>absurd hj (ζA _)⟩⟩
 case round=>
  obtain⟨k,hk,rfl,HG,HA⟩:=hrel;by_cases Y:k<5
  ·obtain⟨z0,zl⟩:=HC.o _ HG.o k Y;have E:(k:Int)<5:=Ω
   generalize hx:L.getD k 0=x at z0;by_cases O:x<0
   ·have d0:decide (x<0)=true:=θ O;go_wp2;go_ret;exact⟨by rw[QL (by rw[HL.o];exact Y) (.inl (by rw[hx];exact O))];rfl,Z.o.trans HG.o⟩
   ·have d0:decide (x<0)=false:=ζ O;by_cases U:sl<=x
    ·have d1:decide (sl<=x)=true:=θ U;go_wp2;go_ret;exact⟨by rw[QL (by rw[HL.o];exact Y) (.inr (by rw[hx];exact U))];rfl,Z.o.trans HG.o⟩
    ·have d1:decide (sl<=x)=false:=ζ U;go_wp2;go_round
     case rel=>exact⟨k+1,by omega,by go_num,HG,⟨λj hj=>by rcases ζP.1 hj with h|rfl;exact HA.o j h;rw[hx];exact⟨by omega,by omega⟩⟩⟩
     case measure=>have:=Y;simp[intOf];omega
  ·obtain rfl:k=5:=Ω
   clear Y hk;go_upto_region 7 with(fail)
   go_loopw [6,7] (λs6 _ wq=>∃k:Nat,k<=5/\s6=iI k/\Hid (Gr w3 wq)/\Hid (∀i,i<k->∀j,j<i->L.getD i 0≠L.getD j 0)) (λs6 _ _=>5-(intOf s6).toNat)
   case atStart=>exact⟨0,by omega,rfl,HG,⟨λj hj=>absurd hj (ζA _)⟩⟩
   case round=>
    clear HG;obtain⟨k,hk,rfl,HG,HD⟩:=hrel;by_cases Y:k<5
    ·obtain⟨z0,zl⟩:=HC.o _ HG.o k Y;have E:(k:Int)<5:=Ω
     obtain⟨x,hx⟩:∃x,x=L.getD k 0:=⟨_,rfl⟩;rw[<-hx]at z0;have HX:=ι hx;clear hx z0;go_upto_region 10 with(fail)
     go_loopw [7] (λs7 wp=>∃m:Nat,m<=k/\s7=iI m/\Hid (Gr w3 wp)/\Hid (∀j,j<m->x≠L.getD j 0)) (λs7 _=>k-(intOf s7).toNat)
     case atStart=>exact⟨0,by omega,rfl,HG,⟨λj hj=>absurd hj (ζA _)⟩⟩
     case round=>
      clear HG zl;obtain⟨m,hm,rfl,HG,HE⟩:=hrel;obtain⟨z0,zl⟩:=HC.o _ HG.o k Y;rw[<-HX.o]at z0;by_cases I:m<k
      ·obtain⟨y0,yl⟩:=HC.o _ HG.o m Ω;have hmI:(m:Int)<k:=Ω
       have hm5:(m:Int)<5:=Ω
       obtain⟨y,hy⟩:∃y,y=L.getD m 0:=⟨_,rfl⟩;rw[<-hy]at y0;have HY:=ι hy;clear hy;by_cases J:x=y
       ·have d0:(x==y)=true:=ξa.2 J;go_upto_region 12 with(fail);go_quiet (fail);go_wp2;go_ret;exact⟨by rw[XHt (k:=k) (m:=m) (by rw[HL.o];exact Y) (λj hj=>HA.o j (by rw[<-HL.o];exact hj)) I (by rw[<-HX.o,<-HY.o];exact J)];rfl,(Z.o.trans HG.o).drewN _⟩
       ·have d0:(x==y)=false:=ζD.2 J;go_upto_region 12 with(fail);go_quiet (fail);go_wp2;go_round
        case rel=>exact⟨m+1,by omega,by go_num,⟨HG.o.drewN _⟩,⟨λj hj=>by rcases ζP.1 hj with h|rfl;exact HE.o j h;rw[<-HY.o];exact J⟩⟩
        case measure=>have:=I;simp[intOf];omega
      ·obtain rfl:m=k:=Ω
       go_wp2;go_round
       case rel=>exact⟨m+1,by omega,by go_num,HG,⟨λi hi=>by rcases ζP.1 hi with h|rfl;exact HD.o i h;rw[<-HX.o];exact HE.o⟩⟩
       case measure=>have:=Y;simp[intOf];omega
    ·obtain rfl:k=5:=Ω
     go_wp2;go_ret;exact⟨by rw[QP (λj hj=>HA.o j (by rw[<-HL.o];exact hj)) (λi hi=>HD.o i (by rw[<-HL.o];exact hi))];rfl,Z.o.trans HG.o⟩
open Go.ChangeShapes Go.WideShapes Go.ChangeAt
theorem VoB:prog.cellsOf 54=5:=by kernel_rfl
theorem Zmr{cs:Array Value}(h:cs.size=5):∃a b c d e,cs=#[a,b,c,d,e]:=by
 obtain⟨l⟩:=cs
 match l,h with
 | [a,b,c,d,e],_=>exact⟨a,b,c,d,e,rfl⟩
theorem YkA{enc:TypeId×Value->H}{r:Reach}{d:DataW H}
  (hv:Value.okWide prog W r b0 54 v) (h:DataW.Trod enc prog W 0 (λ_=>true) true 54 v d p):
  ∃x0 x1 x2 x3 x4:Int,v=.agg #[.int .i64 x0,.int .i64 x1,.int .i64 x2,.int .i64 x3,.int .i64 x4]:=by
 have J:∃cs,v=Value.agg cs/\cs.size=prog.cellsOf 54:=by
  unfold Value.okWide at hv;rw[underlying54]at hv;obtain⟨cs,h1,h2,_⟩:=hv;exact⟨cs,h1,h2⟩
 obtain⟨cs,rfl,U⟩:=J;obtain⟨c0,c1,c2,c3,c4,rfl⟩:=Zmr (U.trans VoB);obtain⟨fuel,hf⟩:=h;obtain⟨xs,m,_,_,_,Z,Y⟩:=DataW.trod_array underlying54 hf
 match xs,Z with
 | [y0,y1,y2,y3,y4],_=>
  have t0:=Y 0 (by decide);have t1:=Y 1 (by decide);have t2:=Y 2 (by decide);have t3:=Y 3 (by decide);have t4:=Y 4 (by decide);simp only[QmK]at t0 t1 t2 t3 t4;obtain⟨x0,e0,_,_⟩:=DataW.trod_int underlying3 t0;obtain⟨x1,e1,_,_⟩:=DataW.trod_int underlying3 t1;obtain⟨x2,e2,_,_⟩:=DataW.trod_int underlying3 t2;obtain⟨x3,e3,_,_⟩:=DataW.trod_int underlying3 t3;obtain⟨x4,e4,_,_⟩:=DataW.trod_int underlying3 t4;simp[Value.cells]at e0 e1 e2 e3 e4;subst e0 e1 e2 e3 e4;exact⟨x0,x1,x2,x3,x4,rfl⟩
def OG(w:World)(A:Option Addr)(l:List CN):Prop:=
 ∀i (h:i<l.length),l[i].Bd/\∃b o:Nat,A=some ⟨b,o,none⟩/\b<w.heap.size ∧
  w.cell? ⟨b,o+i*3,none⟩=some (.int .u8 l[i].kd)/\w.cell? ⟨b,o+i*3+1,none⟩=some (uU l[i].k)/\w.cell? ⟨b,o+i*3+2,none⟩=some (uU l[i].f)
theorem OG.gr(h:OG w A l)(g:Gr w w'):OG w' A l:=λi hi=>by
 obtain⟨h1,b,o,h2,h3,c0,c1,c2⟩:=h i hi;exact⟨h1,b,o,h2,κ h3 g.size,(g.cell h3 _).trans c0,(g.cell h3 _).trans c1,(g.cell h3 _).trans c2⟩
theorem JYh{enc:TypeId×Value->H}{r:Reach}{d:DataW H}
  (hv:Value.okWide prog W r b0 55 v) (h:DataW.Trod enc prog W 0 (λ_=>true) true 55 v d p):
  ∃(A:Option Addr) (cap:Nat) (l:List CN),v=.slice A l.length cap/\l.length<=maxLen/\OG W A l:=by
 obtain⟨A,len,cap,rfl⟩:=okWide_slice underlying55 hv;obtain⟨fuel,hf⟩:=h;rcases Go.Deep.open_slice underlying55 hf with⟨Y,_⟩|⟨a,len',cap',m,n,D,Pl,Y,_,hl,hm,U,_,hi⟩
 ·simp[Value.cells]at Y;obtain⟨rfl,rfl,rfl⟩:=Y;exact⟨none,0,[],rfl,ζf _,λi h=>absurd h (by simp)⟩
 ·simp[Value.cells]at Y;obtain⟨rfl,rfl,rfl⟩:=Y;have hle:len<=m:=by rw[U];simpa using hl
  obtain⟨l,Z,hR⟩:=UD (λi (x:CN)=>x.Bd/\∀j u,x.L[j]?=some u->W.cell? (a.add (i*3+j))=some u) len (λi hil=>by
   obtain⟨cs,hc,ht⟩:=hi i Ω;rw[YYz]at hc;obtain⟨_,hcl,J⟩:=World.cells?_some hc;obtain⟨g,rfl,hg⟩:=YlA ht;refine⟨g,hg,λj u hj=>?_⟩;have V:j<3:=(List.getElem?_eq_some_iff.1 hj).1;have:=J j (by simpa[CN.L]using V);rw[QFj]at this;rw[this]
   exact hj)
  subst Z;refine⟨some a,cap,l,rfl,by omega,λi hil=>?_⟩;obtain⟨h1,hg⟩:=hR i hil
  have hs:a.spot=none:=by
   have h0:=(hR 0 Ω).2 0 _ rfl;have:=QvD h0;simpa[Addr.add]using this
  obtain⟨b,o,s⟩:=a;simp only at hs;subst hs;have ha:∀k,Addr.add ⟨b,o,none⟩ k=⟨b,o+k,none⟩:=λk=>by unfold Addr.add;split <;> simp_all
  have c0:=hg 0 _ rfl;have c1:=hg 1 _ rfl;have c2:=hg 2 _ rfl;simp only[ha,<-ξF,ξk]at c0 c1 c2;exact⟨h1,b,o,rfl,VEB c0,c0,c1,c2⟩
open Go.Shelf
structure P39(w0:World)(X:Nat->Prop)(c:HCf)(hb tb rb r a u n o:Nat)(M N:List (Nat×Nat))(w:World):Prop where
 ex:∃K R:Nat->Prop,BF w0 K c hb tb r a u n o M w/\VDA w R rb (c.wd/5:Nat) N/\(∀k,R k->K k/\w0.heap.size<=k/\k≠tb)/\∀k,X k->K k/\w0.heap.size<=k/\k≠tb/\¬R k
 tb:1<w0.heap.size
theorem P39.own(h:P39 w0 X c hb tb rb r a u n o M N w)(g:Gr w w')(hX:∀k,X' k->X k\/(w.heap.size<=k/\k<w'.heap.size)):P39 w0 X' c hb tb rb r a u n o M N w':=by
 obtain⟨⟨K,R,h1,⟨x,h2⟩,h3,h4⟩,ht⟩:=h;have hz:=h1.grew.size;have hw:=h1.wr (g.touch (λ_=>False)) (λ_ h=>h.elim) ht;have hlb:=h1.lt;refine⟨⟨_,_,hw,⟨x,h2.cut.gr g⟩,λk hk=>⟨.inl (h3 k hk.1).1,(h3 k hk.1).2⟩,λk hk=>?_⟩,ht⟩;rcases hX k hk with h|h
 ·obtain⟨q1,q2,q3,q4⟩:=h4 k h;exact⟨.inl q1,q2,q3,λh=>q4 h.1⟩
 ·exact⟨.inr h,by omega,by omega,λe=>by have:=e.2;omega⟩
theorem P39.gr(h:P39 w0 X c hb tb rb r a u n o M N w)(g:Gr w w'):P39 w0 X c hb tb rb r a u n o M N w':=h.own g (λ_ h=>.inl h)
theorem P39.sub(h:P39 w0 X c hb tb rb r a u n o M N w)(hX:∀k,X' k->X k):P39 w0 X' c hb tb rb r a u n o M N w:=h.own (Gr.refl _) (λk h=>.inl (hX k h))
theorem P39.grew(h:P39 w0 X c hb tb rb r a u n o M N w):Gr w0 w:=by
 obtain⟨⟨K,R,h1,h2,h3⟩,ht⟩:=h;exact h1.grew
theorem P39.lt(h:P39 w0 X c hb tb rb r a u n o M N w)(hk:X k):k<w.heap.size:=by
 obtain⟨⟨K,R,⟨⟨g,T,q,p⟩,hq⟩,h2,h3,h4⟩,ht⟩:=h;exact q.hv.kl k (h4 k hk).1
theorem P39.wr(h:P39 w0 X c hb tb rb r a u n o M N w)(t':AB X w w'):P39 w0 X c hb tb rb r a u n o M N w':=by
 obtain⟨⟨K,R,h1,⟨x,h2⟩,h3,h4⟩,ht⟩:=h;have hz:=h1.grew.size;refine⟨⟨_,_,h1.wr t' (λk hk=>⟨(h4 k hk).1,(h4 k hk).2.1,(h4 k hk).2.2.1⟩) ht,⟨x,h2.touch t' (λk hk e=>(h4 k e).2.2.2 hk)⟩,λk hk=>⟨.inl (h3 k hk).1,(h3 k hk).2⟩,λk hk=>⟨.inl (h4 k hk).1,(h4 k hk).2⟩⟩,ht⟩
def EI(w0:World)(X:Nat->Prop)(c:HCf)(hb tb rb r a u n o:Nat)(w:World)(v:Value)(M' N':List (Nat×Nat))(e:Ending)(w':World):Prop:=e=.returned v/\AB (λk=>¬X k) w w'/\P39 w0 X c hb tb rb r a u n o M' N' w'
theorem P39.tr(h:P39 w0 X c hb tb rb r a u n o M N w)(hc:∀K,BF w0 K c hb tb r a u n o M w->Calls prog f args w (TrO w0 K c hb tb r a u n o w v M')):Calls prog f args w (EI w0 X c hb tb rb r a u n o w v M' N):=by
 obtain⟨⟨K,R,h1,⟨x,h2⟩,h3,h4⟩,ht⟩:=h;refine(hc K h1).mono ?_;rintro e w' ⟨rfl,t',hl⟩;exact⟨rfl,t'.mono (λk _ e hx=>e.2 (h4 k hx).1),⟨K,R,hl,⟨x,h2.touch t' (λk hk e=>e.2 (h3 k hk).1)⟩,h3,h4⟩,ht⟩
theorem P39.rf(h:P39 w0 X c hb tb rb r a u n o M N w)(hc:∀R x,CC w R rb (c.wd/5:Nat) N x->Calls prog f args w λe w'=>e=.returned v/\RkO w R rb (c.wd/5:Nat) N' w'):Calls prog f args w (EI w0 X c hb tb rb r a u n o w v M N'):=by
 have hX:=λk=>h.lt (k:=k);obtain⟨⟨K,R,h1,⟨x,h2⟩,h3,h4⟩,ht⟩:=h;refine(hc R x h2).mono ?_;rintro e w' ⟨rfl,t',⟨y,hl⟩⟩;have hz:=h1.grew.size;have hlb:=h1.lt;refine⟨rfl,t'.mono (λk _ e hx=>(h4 k hx).2.2.2 e),⟨_,_,h1.wr t' h3 ht,⟨y,hl.cut⟩,λk hk=>?_,λk hk=>⟨.inl (h4 k hk).1,(h4 k hk).2.1,(h4 k hk).2.2.1,λe=>e.1.elim (h4 k hk).2.2.2 (λh=>by have:=hX k hk;omega)⟩⟩,ht⟩;rcases hk.1 with h|h
 ·exact⟨.inl (h3 k h).1,(h3 k h).2⟩
 ·exact⟨.inr ⟨h,hk.2⟩,by omega,by omega⟩
theorem P39.rd(h:P39 w0 X c hb tb rb r a u n o M N w)(hc:∀R x,CC w R rb (c.wd/5:Nat) N x->Calls prog f args w λe w'=>e=.returned v/\Gr w w'):Calls prog f args w (EI w0 X c hb tb rb r a u n o w v M N):=by
 have h':=h;obtain⟨⟨K,R,h1,⟨x,h2⟩,h3⟩,ht⟩:=h;refine(hc R x h2).mono ?_;rintro e w' ⟨rfl,g⟩;exact⟨rfl,g.touch _,h'.gr g⟩
theorem P39.len_le(h:P39 w0 X c hb tb rb r a u n o M N w):M.length<=1000000:=by
 obtain⟨⟨K,R,h1,h2,h3⟩,ht⟩:=h;exact h1.len_le
theorem P39.len_eq(hp:M.Perm (N.map Prod.swap)):M.length=N.length:=by rw[hp.length_eq,ξ4]
theorem P39.len_le2(h:P39 w0 X c hb tb rb r a u n o M N w)(hp:M.Perm (N.map Prod.swap)):N.length<=1000000:=by
 rw[<-P39.len_eq hp];exact h.len_le
theorem P39.put2(h:P39 w0 X c hb tb rb r a u n o M N w)(hp:M.Perm (N.map Prod.swap)){y:Nat}(hk:k<18446744073709551616)(hy:y<18446744073709551616):∃(e:Int) (M' N':List (Nat×Nat)),M'.Perm (N'.map Prod.swap) ∧
  (∀W,Gr w W->Calls prog 14 #[pP tb,uU k,.float .f64 y] W (EI w0 X c hb tb rb r a u n o W (iI e) M' N)) ∧
  ∀W,P39 w0 X c hb tb rb r a u n o M' N W->Calls prog 73 #[pP rb,uU k,uU y] W (EI w0 X c hb tb rb r a u n o W (iI e) M' N'):=by
 have hN:=h.len_le2 hp;have hl:=P39.len_eq hp;obtain⟨⟨K,R,h1,⟨x,h2⟩,h3,h4⟩,ht⟩:=h;obtain⟨e,M',U,hc⟩:=h1.put hk hy;obtain⟨m,hm,Z⟩:=WI N k
 have Y:∀W,Gr w W->Calls prog 14 #[pP tb,uU k,.float .f64 y] W (EI w0 X c hb tb rb r a u n o W (iI e) M' N):=λW gW=>by
  refine(hc W gW).mono ?_;rintro e w' ⟨rfl,t',hl⟩;exact⟨rfl,t'.mono (λk _ e hx=>e.2 (h4 k hx).1),⟨K,R,hl,⟨x,(h2.gr gW).touch t' (λk hk e=>e.2 (h3 k hk).1)⟩,h3,h4⟩,ht⟩
 rcases Yh5 hp h1.keys U Z hm with⟨V,rfl,hq⟩|⟨rfl,J,rfl,hq⟩|⟨rfl,J,rfl,rfl⟩
 ·exact⟨0,M',N.set m (k,y),hq,Y,λW hW=>hW.rf λR z hr=>QkJ hr hN V Z y⟩
 ·refine⟨0,M',N++[(k,y)],hq,Y,λW hW=>hW.rf λR z hr=>?_⟩;have:=ZTs hr hN Z y
  rwa [ξ Ω,ξ Ω]at this
 ·refine⟨21,_,N,hp,Y,λW hW=>hW.rf λR z hr=>?_⟩;have:=ZTs hr hN Z y
  rwa [φ Ω,φ Ω]at this
theorem P39.get2(h:P39 w0 X c hb tb rb r a u n o M N w)(hp:M.Perm (N.map Prod.swap))(hk:k<18446744073709551616):∃(f:Nat) (e:Int),
  (∀W,Gr w W->Calls prog 22 #[pP tb,uU k] W (EI w0 X c hb tb rb r a u n o W (.tuple #[.float .f64 f,iI e]) M N)) ∧
  ∀W,P39 w0 X c hb tb rb r a u n o M N W->Calls prog 71 #[pP rb,uU k] W (EI w0 X c hb tb rb r a u n o W (.tuple #[uU f,iI e]) M N):=by
 have hN:=h.len_le2 hp;obtain⟨⟨K,R,h1,⟨x,h2⟩,h3,h4⟩,ht⟩:=h;obtain⟨f,e,Z,hc⟩:=h1.get hk;obtain⟨m,hm,Y⟩:=WI N k;refine⟨f,e,λW gW=>?_,λW hW=>hW.rd λR z hr=>?_⟩
 ·refine(hc W gW).mono ?_;rintro e w' ⟨rfl,t',hl⟩;exact⟨rfl,t'.mono (λk _ e hx=>e.2 (h4 k hx).1),⟨K,R,hl,⟨x,(h2.gr gW).touch t' (λk hk e=>e.2 (h3 k hk).1)⟩,h3,h4⟩,ht⟩
 ·rcases JuP hp h1.keys Z Y hm with⟨J,rfl,rfl⟩|⟨rfl,rfl,rfl⟩
  ·exact XjK hr hN J Y
  ·exact V1I hr hN Y
theorem P39.drop2(h:P39 w0 X c hb tb rb r a u n o M N w)(hp:M.Perm (N.map Prod.swap))(hk:k<18446744073709551616):∃(e:Int) (M' N':List (Nat×Nat)),M'.Perm (N'.map Prod.swap) ∧
  (∀W,Gr w W->Calls prog 18 #[pP tb,uU k] W (EI w0 X c hb tb rb r a u n o W (iI e) M' N)) ∧
  ∀W,P39 w0 X c hb tb rb r a u n o M' N W->Calls prog 70 #[pP rb,uU k] W (EI w0 X c hb tb rb r a u n o W (iI e) M' N'):=by
 have hN:=h.len_le2 hp;obtain⟨⟨K,R,h1,⟨x,h2⟩,h3,h4⟩,ht⟩:=h;obtain⟨e,M',Z,hc⟩:=h1.drop hk;obtain⟨m,hm,J⟩:=WI N k
 have Y:∀W,Gr w W->Calls prog 18 #[pP tb,uU k] W (EI w0 X c hb tb rb r a u n o W (iI e) M' N):=λW gW=>by
  refine(hc W gW).mono ?_;rintro e w' ⟨rfl,t',hl⟩;exact⟨rfl,t'.mono (λk _ e hx=>e.2 (h4 k hx).1),⟨K,R,hl,⟨x,(h2.gr gW).touch t' (λk hk e=>e.2 (h3 k hk).1)⟩,h3,h4⟩,ht⟩
 rcases Z59 hp h1.keys Z J hm with⟨U,rfl,hq⟩|⟨rfl,rfl,rfl⟩
 ·exact⟨0,M',N.take m++N.drop (m+1),hq,Y,λW hW=>hW.rf λR z hr=>Qlu hr hN U J⟩
 ·exact⟨6,_,N,hp,Y,λW hW=>hW.rd λR z hr=>Y4A hr hN J⟩
theorem P39.next2(h:P39 w0 X c hb tb rb r a u n o M N w)(hp:M.Perm (N.map Prod.swap))(k:Nat):∃(v f:Nat) (e:Int),
  (∀W,Gr w W->Calls prog 16 #[pP tb,uU k] W (EI w0 X c hb tb rb r a u n o W (.tuple #[uU v,.float .f64 f,iI e]) M N)) ∧
  ∀W,P39 w0 X c hb tb rb r a u n o M N W->Calls prog 72 #[pP rb,uU k] W (EI w0 X c hb tb rb r a u n o W (.tuple #[.agg #[uU v,uU f],iI e]) M N):=by
 have hN:=h.len_le2 hp;obtain⟨⟨K,R,h1,⟨x,h2⟩,h3,h4⟩,ht⟩:=h;obtain⟨v,f,e,Z,hc⟩:=h1.next k
 refine⟨v,f,e,λW gW=>?_,λW hW=>hW.rd λR z hr=>?_⟩
 ·refine(hc W gW).mono ?_;rintro e w' ⟨rfl,t',hl⟩;exact⟨rfl,t'.mono (λk _ e hx=>e.2 (h4 k hx).1),⟨K,R,hl,⟨x,(h2.gr gW).touch t' (λk hk e=>e.2 (h3 k hk).1)⟩,h3,h4⟩,ht⟩
 ·refine(Van hr hN k).mono ?_;rintro e' w' ⟨q1,q2,q3⟩;refine⟨?_,q3⟩;rcases Qd3 hp h1.keys Z with⟨b,Y,hb2,rfl,J⟩|⟨Y,rfl,rfl,rfl⟩
  ·rw[q2 b Y,J]
  ·exact q1 Y
theorem P39.step(h:P39 w0 X c hb tb rb r a u n o M N w):Calls prog 19 #[pP hb] w λe w'=>∃z:Bool,EI w0 X c hb tb rb r a u n o w (.bool z) M N e w':=by
 obtain⟨⟨K,R,h1,⟨z,h2⟩,h3,h4⟩,ht⟩:=h;refine h1.step.mono ?_;rintro e w' ⟨bb,rfl,t',hl⟩;exact⟨bb,rfl,t'.mono (λk _ e hx=>e.2 (h4 k hx).1),⟨K,R,hl,⟨z,h2.touch t' (λk hk e=>e.2 (h3 k hk).1)⟩,h3,h4⟩,ht⟩
theorem P39.rr(h:P39 w0 X c hb tb rb r a u n o M N w):∃A cp,Rec w rb 60 [.slice A N.length cp,iI (c.wd/5:Nat)]:=by
 obtain⟨⟨K,R,h1,⟨x,h2⟩,h3⟩,ht⟩:=h;obtain⟨A,cp,rfl,-,-⟩:=C7 h2.own;exact⟨A,cp,h2.row⟩
theorem P39.live2(h:P39 w0 X c hb tb rb r a u n o M N w)(hp:M.Perm (N.map Prod.swap)):Calls prog 20 #[pP hb] w (EI w0 X c hb tb rb r a u n o w (.tuple #[iI N.length,iI (5*N.length:Nat)]) M N):=by
 rw[<-P39.len_eq hp];exact h.tr λ_ hq=>hq.live
section
variable{x:CN}{xs:List Value}{wx:World}
structure M39(w0 w:World)(X:Nat->Prop)(c:HCf)(hb tb rb r a u n o:Nat)(x:CN)(M N:List (Nat×Nat))(xs:List Value)(wx:World):Prop where
 p:P39 w0 (λk=>X k\/k=w.heap.size\/k=w.heap.size+1) c hb tb rb r a u n o M N wx
 a:Rec wx w.heap.size 50 x.L
 x:Rec wx (w.heap.size+1) 131 xs
 t:AB (λk=>¬X k) w wx
 l:∀k,X k->k<w.heap.size
theorem M39.start(h:P39 w0 X c hb tb rb r a u n o M N w)(x:CN):M39 w0 w X c hb tb rb r a u n o x M N [uU 0,uU 0] ((w.alloc (.cells x.L.toArray 50)).alloc (.cells #[.int .u64 0,.int .u64 0] 131)):=by
 have g1:=(Gr.refl w).alloc (.cells x.L.toArray 50);have g2:=(Gr.refl (w.alloc (.cells x.L.toArray 50))).alloc (.cells #[.int .u64 0,.int .u64 0] 131);have s1:=γ w (.cells x.L.toArray 50);have s2:=γ (w.alloc (.cells x.L.toArray 50)) (.cells #[.int .u64 0,.int .u64 0] 131);refine⟨h.own (g1.trans g2) (λk hk=>hk.imp id (λe=>⟨by omega,by omega⟩)),(Rec.new w _ x.L).gr g2,?_,(g1.trans g2).touch _,λk hk=>h.lt hk⟩;have:=Rec.new (w.alloc (.cells x.L.toArray 50)) 131 [uU 0,uU 0];rw[s1]at this;exact this
theorem M39.to(h:M39 w0 w X c hb tb rb r a u n o x M N xs wx)(t':AB (λk=>¬(X k\/k=w.heap.size\/k=w.heap.size+1)) wx w')(p:P39 w0 (λk=>X k\/k=w.heap.size\/k=w.heap.size+1) c hb tb rb r a u n o M' N' w'):M39 w0 w X c hb tb rb r a u n o x M' N' xs w':=
 ⟨p,h.a.touch t' (λe=>e (.inr (.inl rfl))),h.x.touch t' (λe=>e (.inr (.inr rfl))),h.t.trans (t'.mono (λ_ _ e hx=>e (.inl hx))),h.l⟩
theorem M39.gr(h:M39 w0 w X c hb tb rb r a u n o x M N xs wx)(g:Gr wx w'):M39 w0 w X c hb tb rb r a u n o x M N xs w':=h.to (g.touch _) (h.p.gr g)
theorem M39.set(h:M39 w0 w X c hb tb rb r a u n o x M N [x0,x1] wx):M39 w0 w X c hb tb rb r a u n o x M N [y0,y1] ((wx.setCell ⟨w.heap.size+1,0,none⟩ y0).setCell ⟨w.heap.size+1,1,none⟩ y1):=by
 have t':=(((AB.refl (λk=>k=w.heap.size+1) wx).setCell (a:=⟨w.heap.size+1,0,none⟩) (λ_=>rfl) y0).setCell (a:=⟨w.heap.size+1,1,none⟩) (λ_=>rfl) y1);exact⟨h.p.wr (t'.mono (λ_ _ e=>.inr (.inr e))),h.a.touch t' Ω,((h.x.set 0 y0).set 1 y1),h.t.trans (t'.mono (λk _ e hx=>by have:=h.l k hx;omega)),h.l⟩
theorem M39.set1(h:M39 w0 w X c hb tb rb r a u n o x M N [x0,x1] wx):M39 w0 w X c hb tb rb r a u n o x M N [x0,y1] (wx.setCell ⟨w.heap.size+1,1,none⟩ y1):=by
 have t':=((AB.refl (λk=>k=w.heap.size+1) wx).setCell (a:=⟨w.heap.size+1,1,none⟩) (λ_=>rfl) y1);exact⟨h.p.wr (t'.mono (λ_ _ e=>.inr (.inr e))),h.a.touch t' Ω,h.x.set 1 y1,h.t.trans (t'.mono (λk _ e hx=>by have:=h.l k hx;omega)),h.l⟩
theorem M39.set0(h:M39 w0 w X c hb tb rb r a u n o x M N [x0,x1] wx):M39 w0 w X c hb tb rb r a u n o x M N [y0,x1] (wx.setCell ⟨w.heap.size+1,0,none⟩ y0):=by
 have t':=((AB.refl (λk=>k=w.heap.size+1) wx).setCell (a:=⟨w.heap.size+1,0,none⟩) (λ_=>rfl) y0);exact⟨h.p.wr (t'.mono (λ_ _ e=>.inr (.inr e))),h.a.touch t' Ω,h.x.set 0 y0,h.t.trans (t'.mono (λk _ e hx=>by have:=h.l k hx;omega)),h.l⟩
theorem P39.len3(h:P39 w0 X c hb tb rb r a u n o M N w)(hp:M.Perm (N.map Prod.swap)):∃A cp,∀W,Gr w W->Rec W rb 60 [.slice A N.length cp,iI (c.wd/5:Nat)]/\Calls prog 21 #[pP tb] W λe w'=>EI w0 X c hb tb rb r a u n o W (iI N.length) M N e w'/\Rec w' rb 60 [.slice A N.length cp,iI (c.wd/5:Nat)]:=by
 obtain⟨A,cp,hr⟩:=h.rr;refine⟨A,cp,λW g=>⟨hr.gr g,?_⟩⟩;have hr:=hr.gr g;obtain⟨⟨K,R,h1,⟨z,h2⟩,h3,h4⟩,ht⟩:=h.gr g;have hl:=h1.len;rw[P39.len_eq hp]at hl;refine hl.mono ?_;rintro e w' ⟨rfl,t',hl⟩;exact⟨⟨rfl,t'.mono (λk _ e hx=>e.2 (h4 k hx).1),⟨K,R,hl,⟨z,h2.touch t' (λk hk e=>e.2 (h3 k hk).1)⟩,h3,h4⟩,ht⟩,hr.touch t' (λe=>e.2 (h3 _ h2.sr).1)⟩
def Qd5(w0 w:World)(X:Nat->Prop)(c:HCf)(hb tb rb r a u n o:Nat)(x:CN)(v:Value)(M N:List (Nat×Nat))(xs:List Value)(e:Ending)(w':World):Prop:=e=.returned v/\M39 w0 w X c hb tb rb r a u n o x M N xs w'
theorem M39.ask(h:M39 w0 w X c hb tb rb r a u n o x M N xs wx)(hc:Calls prog f args wx (EI w0 (λk=>X k\/k=w.heap.size\/k=w.heap.size+1) c hb tb rb r a u n o wx v M' N')):Calls prog f args wx (Qd5 w0 w X c hb tb rb r a u n o x v M' N' xs):=
 hc.mono (λ_ _ ⟨e,t,p⟩=>⟨e,h.to t p⟩)
theorem A1{a b:Int}(h:¬a=b):(a==b)=false:=ζD.2 h
theorem H6{a b:Int}(h:a=b):(a==b)=true:=ξa.2 h
def J39(w0 w:World)(X:Nat->Prop)(c:HCf)(hb tb rb r a u n o:Nat)(x:CN)(s1 s2 s3 s4:Value)(wx:World):Prop:=
 ∃(k f:Nat) (e:Int) (M' N':List (Nat×Nat)),M'.Perm (N'.map Prod.swap)/\s1=uU k/\s2=.float .f64 f/\s3=iI e/\s4=iI e/\Hid (M39 w0 w X c hb tb rb r a u n o x M' N' [uU k,uU f] wx)
--DO39
theorem VUP(h:P39 w0 X c hb tb rb r a u n o M N w)(hp:M.Perm (N.map Prod.swap))(y:CN)(ha:y.Bd):Calls prog 24 #[pP hb,pP tb,pP rb,.agg y.L.toArray] w λe w'=>e=.returned (.bool true)/\AB (λk=>¬X k) w w'/\∃M' N',M'.Perm (N'.map Prod.swap)/\P39 w0 X c hb tb rb r a u n o M' N' w':=by
 have Xb:Hid (N.length<=1000000):=⟨h.len_le2 hp⟩;have U:=ι hp;obtain⟨kd,ak,af⟩:=y;have HA:=ι ha;have HM:=ι (M39.start h ⟨kd,ak,af⟩);have Xd:=ha.kd;dsimp only at Xd;obtain⟨m,hm⟩:∃m,m=kd%16:=⟨_,rfl⟩;have hm16:m<16:=Ω
 have hmod:(kd:Int).tmod 16=(m:Int):=by rw[hm];rfl
 obtain⟨w1,D⟩:∃w1,w1=(w.alloc (.cells (CN.L ⟨kd,ak,af⟩).toArray 50)).alloc (.cells #[.int .u64 0,.int .u64 0] 131):=⟨_,rfl⟩;have I:=ι D;rw[<-D]at HM;have k0:=HM.o.a.cc 0;have kl:=HM.o.a.lt;unfold CN.L at I⊢;dsimp only at I k0⊢;clear h hp ha D hm;go_enter func24,ntmps24;go_upto_region 4 with(fail);rw[<-I.o];clear I
 go_upto_block 0 with(fail)
 go_cut [9,10,12,13] (λs9 s10 s12 s13 wx=>J39 w0 w X c hb tb rb r a u n o ⟨kd,ak,af⟩ s9 s10 s12 s13 wx)
 case first=>
  rcases(by omega:(m<6)\/m=6\/m=7\/m=8\/m=9\/m=10\/m=11\/m=12\/m=13\/m=14\/m=15)with hm|hm|hm|hm|hm|hm|hm|hm|hm|hm|hm
  ·obtain⟨e,M2,N2,hq,h1,h2⟩:=HM.o.p.put2 U.o HA.o.k HA.o.f;have HQ:=ι hq;have H1:=ι h1;have H2:=ι h2;clear hq h1 h2;have d6:((m:Int)==6)=false:=A1 Ω;have d7:((m:Int)==7)=false:=A1 Ω;have d8:((m:Int)==8)=false:=A1 Ω;have d9:((m:Int)==9)=false:=A1 Ω;have V:((m:Int)==10)=false:=A1 Ω;have O:((m:Int)==11)=false:=A1 Ω;have E:((m:Int)==12)=false:=A1 Ω;have G:((m:Int)==13)=false:=A1 Ω;have Xa:((m:Int)==14)=false:=A1 Ω;have Xc:((m:Int)==15)=false:=A1 Ω;clear hm;go_upto_region 6 with(fail);clear k0 kl;obtain⟨Sx,Z,HS⟩:=AA.start λW'=>Rec W' w.heap.size 50 (CN.L ⟨kd,ak,af⟩);have y1:=AA.fact Z λ_ h=>h.cell (j:=1) rfl;have y2:=AA.fact Z λ_ h=>h.cell (j:=2) rfl;have Y:=HS.o _ (HM.o.a.gr (Gr.refl _).drew);have J:Inhabited (AA Sx):=⟨⟨_,Y⟩⟩;clear Z;refine AI Sx 15 [([0,1,2,3,4,7,8,9,10,11],5),([],6),([],12)] [13,14] Y ?_;refine AE ?_;go_wp2_with((go_at_call 15;refine AK (PW _ _) ?_));refine⟨.inr (AA.of (HS.o _ (HM.o.a.gr (Gr.refl _).drew))),?_⟩;refine AE ?_;go_wp2_with((go_at_call 14;refine((HM.o.gr (Gr.refl _).drew).ask (H1.o _ (Gr.refl _).drew)).mono ?_;rintro e w2 ⟨rfl,hm⟩;have H3:=ι hm;clear hm));refine⟨.inr (AA.of (HS.o _ (H3.o.a))),?_⟩;refine AE ?_;go_wp2_with((go_at_call 73;refine(H3.o.ask (H2.o _ H3.o.p)).mono ?_;rintro e w3 ⟨rfl,hm⟩;have H4:=ι hm;clear hm));refine⟨.inr (AA.of (HS.o _ (H4.o.a))),?_⟩;refine AL ?_;clear y1 y2 Y J;clear HS Sx;go_wp2
   go_meet
   case rel=>exact⟨0,0,e,M2,N2,HQ.o,rfl,rfl,rfl,rfl,H4⟩
  ·have d6:((m:Int)==6)=true:=H6 Ω;clear hm;obtain⟨e,M2,N2,hq,h1,h2⟩:=HM.o.p.drop2 U.o HA.o.k;have HQ:=ι hq;have H1:=ι h1;have H2:=ι h2;clear hq h1 h2;go_upto_region 10 with(fail);clear k0 kl;obtain⟨Sx,Z,HS⟩:=AA.start λW'=>Rec W' w.heap.size 50 (CN.L ⟨kd,ak,af⟩);have y1:=AA.fact Z λ_ h=>h.cell (j:=1) rfl;have Y:=HS.o _ (HM.o.a.gr (Gr.refl _).drew);have J:Inhabited (AA Sx):=⟨⟨_,Y⟩⟩;clear Z;refine AI Sx 10 [([0,1,2,4,5,6],3),([],7)] [8,9] Y ?_;refine AE ?_;go_wp2_with((go_at_call 18;refine((HM.o.gr (Gr.refl _).drew).ask (H1.o _ (Gr.refl _).drew)).mono ?_;rintro e w2 ⟨rfl,hm⟩;have H3:=ι hm;clear hm));refine⟨.inr (AA.of (HS.o _ (H3.o.a))),?_⟩;refine AE ?_;go_wp2_with((go_at_call 70;refine(H3.o.ask (H2.o _ H3.o.p)).mono ?_;rintro e w3 ⟨rfl,hm⟩;have H4:=ι hm;clear hm));refine⟨.inr (AA.of (HS.o _ (H4.o.a))),?_⟩;refine AL ?_;clear y1 Y J;clear HS Sx;go_wp2
   go_meet
   case rel=>exact⟨0,0,e,M2,N2,HQ.o,rfl,rfl,rfl,rfl,H4⟩
  ·have d6:((m:Int)==6)=false:=A1 Ω;have d7:((m:Int)==7)=true:=H6 Ω;clear hm;obtain⟨e,M2,N2,hq,h1,h2⟩:=HM.o.p.drop2 U.o HA.o.k;have HQ:=ι hq;have H1:=ι h1;have H2:=ι h2;clear hq h1 h2;go_upto_region 10 with(fail);clear k0 kl;obtain⟨Sx,Z,HS⟩:=AA.start λW'=>Rec W' w.heap.size 50 (CN.L ⟨kd,ak,af⟩);have y1:=AA.fact Z λ_ h=>h.cell (j:=1) rfl;have Y:=HS.o _ (HM.o.a.gr (Gr.refl _).drew);have J:Inhabited (AA Sx):=⟨⟨_,Y⟩⟩;clear Z;refine AI Sx 10 [([0,1,2,4,5,6],3),([],7)] [8,9] Y ?_;refine AE ?_;go_wp2_with((go_at_call 18;refine((HM.o.gr (Gr.refl _).drew).ask (H1.o _ (Gr.refl _).drew)).mono ?_;rintro e w2 ⟨rfl,hm⟩;have H3:=ι hm;clear hm));refine⟨.inr (AA.of (HS.o _ (H3.o.a))),?_⟩;refine AE ?_;go_wp2_with((go_at_call 70;refine(H3.o.ask (H2.o _ H3.o.p)).mono ?_;rintro e w3 ⟨rfl,hm⟩;have H4:=ι hm;clear hm));refine⟨.inr (AA.of (HS.o _ (H4.o.a))),?_⟩;refine AL ?_;clear y1 Y J;clear HS Sx;go_wp2
   go_meet
   case rel=>exact⟨0,0,e,M2,N2,HQ.o,rfl,rfl,rfl,rfl,H4⟩
  ·have d6:((m:Int)==6)=false:=A1 Ω;have d7:((m:Int)==7)=false:=A1 Ω;have d8:((m:Int)==8)=true:=H6 Ω;clear hm;obtain⟨e,M2,N2,hq,h1,h2⟩:=HM.o.p.drop2 U.o HA.o.k;have HQ:=ι hq;have H1:=ι h1;have H2:=ι h2;clear hq h1 h2;go_upto_region 10 with(fail);clear k0 kl;obtain⟨Sx,Z,HS⟩:=AA.start λW'=>Rec W' w.heap.size 50 (CN.L ⟨kd,ak,af⟩);have y1:=AA.fact Z λ_ h=>h.cell (j:=1) rfl;have Y:=HS.o _ (HM.o.a.gr (Gr.refl _).drew);have J:Inhabited (AA Sx):=⟨⟨_,Y⟩⟩;clear Z;refine AI Sx 10 [([0,1,2,4,5,6],3),([],7)] [8,9] Y ?_;refine AE ?_;go_wp2_with((go_at_call 18;refine((HM.o.gr (Gr.refl _).drew).ask (H1.o _ (Gr.refl _).drew)).mono ?_;rintro e w2 ⟨rfl,hm⟩;have H3:=ι hm;clear hm));refine⟨.inr (AA.of (HS.o _ (H3.o.a))),?_⟩;refine AE ?_;go_wp2_with((go_at_call 70;refine(H3.o.ask (H2.o _ H3.o.p)).mono ?_;rintro e w3 ⟨rfl,hm⟩;have H4:=ι hm;clear hm));refine⟨.inr (AA.of (HS.o _ (H4.o.a))),?_⟩;refine AL ?_;clear y1 Y J;clear HS Sx;go_wp2
   go_meet
   case rel=>exact⟨0,0,e,M2,N2,HQ.o,rfl,rfl,rfl,rfl,H4⟩
  ·have d6:((m:Int)==6)=false:=A1 Ω;have d7:((m:Int)==7)=false:=A1 Ω;have d8:((m:Int)==8)=false:=A1 Ω;have d9:((m:Int)==9)=true:=H6 Ω;clear hm;obtain⟨f,e,h1,h2⟩:=HM.o.p.get2 U.o HA.o.k;have H1:=ι h1;have H2:=ι h2;clear h1 h2;have k1:=HM.o.a.cc 1
   go_wp2_with(first
    | (go_at_call 71;refine(H3.o.ask (H2.o _ H3.o.p)).mono ?_;rintro e w3 ⟨rfl,hm⟩;have H4:=ι hm;have z0:=H4.o.x.cc 0;have z1:=H4.o.x.cc 1;have zf:=H4.o.x.free;have zl:=H4.o.x.lt;clear hm)
    | (go_at_call 22;refine(HM.o.ask (H1.o _ (Gr.refl _))).mono ?_;rintro e w2 ⟨rfl,hm⟩;have H3:=ι hm;have k2:=H3.o.a.cc 1;have k3:=H3.o.a.lt;clear hm))
   go_meet
   case rel=>exact⟨0,f,e,M,N,U.o,rfl,rfl,rfl,rfl,⟨H4.o.set1⟩⟩
  ·have d6:((m:Int)==6)=false:=A1 Ω;have d7:((m:Int)==7)=false:=A1 Ω;have d8:((m:Int)==8)=false:=A1 Ω;have d9:((m:Int)==9)=false:=A1 Ω;have V:((m:Int)==10)=true:=H6 Ω;clear hm;obtain⟨v,f,e,h1,h2⟩:=HM.o.p.next2 U.o ak;have H1:=ι h1;have H2:=ι h2;clear h1 h2;have k1:=HM.o.a.cc 1
   go_wp2_with(first
    | (go_at_call 72;refine(H3.o.ask (H2.o _ H3.o.p)).mono ?_;rintro e w3 ⟨rfl,hm⟩;have H4:=ι hm;have z0:=H4.o.x.cc 0;have z1:=H4.o.x.cc 1;have zf:=H4.o.x.free;have zl:=H4.o.x.lt;clear hm)
    | (go_at_call 16;refine(HM.o.ask (H1.o _ (Gr.refl _))).mono ?_;rintro e w2 ⟨rfl,hm⟩;have H3:=ι hm;have k2:=H3.o.a.cc 1;have k3:=H3.o.a.lt;clear hm))
   go_meet
   case rel=>exact⟨v,f,e,M,N,U.o,rfl,rfl,rfl,rfl,⟨H4.o.set⟩⟩
  ·have d6:((m:Int)==6)=false:=A1 Ω;have d7:((m:Int)==7)=false:=A1 Ω;have d8:((m:Int)==8)=false:=A1 Ω;have d9:((m:Int)==9)=false:=A1 Ω;have V:((m:Int)==10)=false:=A1 Ω;have O:((m:Int)==11)=true:=H6 Ω;clear hm;obtain⟨A,cp,hl⟩:=HM.o.p.len3 U.o;have HL:=ι hl;have u1:IntKind.u64.wrap (N.length:Int)=N.length:=by have:=Xb.o;exact IA _ Ω
   go_upto_region 18 with(fail);clear k0 kl hl;obtain⟨Sx,Z,HS⟩:=AA.start λW'=>Rec W' rb 60 [.slice A N.length cp,iI (c.wd/5:Nat)];have y0:=AA.fact Z λ_ h=>h.cell (j:=0) rfl;have Y:=HS.o _ ((HL.o _ (Gr.refl _).drew).1);have J:Inhabited (AA Sx):=⟨⟨_,Y⟩⟩;clear Z;refine AI Sx 11 [([0,3,4,5,6,7,8],1),([2,9,10],11)] [] Y ?_;refine AE ?_;go_wp2_with((go_at_call 21;refine((HL.o _ (Gr.refl _).drew).2).mono ?_;rintro e w2 ⟨⟨rfl,hm⟩,hr⟩;have H3:=ι ((HM.o.gr (Gr.refl _).drew).to hm.1 hm.2);have HR:=ι hr;have z1:=H3.o.x.cc 0;have zf:=H3.o.x.free;have zl:=H3.o.x.lt;clear hm hr));refine⟨.inr (AA.of (HS.o _ (HR.o))),?_⟩;refine AE ?_;go_wp2;refine⟨.inl trivial,?_⟩;refine ET ?_;refine ζd ?_;refine ζI ?_;clear y0 Y J;clear HS Sx;go_wp2
   go_meet
   case rel=>exact⟨N.length,0,0,M,N,U.o,rfl,rfl,rfl,rfl,⟨H3.o.set0⟩⟩
  ·have d6:((m:Int)==6)=false:=A1 Ω;have d7:((m:Int)==7)=false:=A1 Ω;have d8:((m:Int)==8)=false:=A1 Ω;have d9:((m:Int)==9)=false:=A1 Ω;have V:((m:Int)==10)=false:=A1 Ω;have O:((m:Int)==11)=false:=A1 Ω;have E:((m:Int)==12)=true:=H6 Ω;clear hm;have H1:=ι (HM.o.ask (HM.o.p.tr λ_ hq=>hq.heap λ_ hv=>hv.coll));go_wp2_with(go_at_call 39;refine(H1.o).mono ?_;rintro e w2 ⟨rfl,hm⟩;have H2:=ι hm;clear hm)
   go_meet
   case rel=>exact⟨0,0,0,M,N,U.o,rfl,rfl,rfl,rfl,H2⟩
  ·have d6:((m:Int)==6)=false:=A1 Ω;have d7:((m:Int)==7)=false:=A1 Ω;have d8:((m:Int)==8)=false:=A1 Ω;have d9:((m:Int)==9)=false:=A1 Ω;have V:((m:Int)==10)=false:=A1 Ω;have O:((m:Int)==11)=false:=A1 Ω;have E:((m:Int)==12)=false:=A1 Ω;have G:((m:Int)==13)=true:=H6 Ω;clear hm;have H1:=ι (HM.o.ask (HM.o.p.tr λ_ hq=>hq.heap λ_ hv=>hv.start));go_wp2_with(go_at_call 31;refine(H1.o).mono ?_;rintro e w2 ⟨rfl,hm⟩;have H2:=ι hm;clear hm)
   go_meet
   case rel=>exact⟨0,0,0,M,N,U.o,rfl,rfl,rfl,rfl,H2⟩
  ·have d6:((m:Int)==6)=false:=A1 Ω;have d7:((m:Int)==7)=false:=A1 Ω;have d8:((m:Int)==8)=false:=A1 Ω;have d9:((m:Int)==9)=false:=A1 Ω;have V:((m:Int)==10)=false:=A1 Ω;have O:((m:Int)==11)=false:=A1 Ω;have E:((m:Int)==12)=false:=A1 Ω;have G:((m:Int)==13)=false:=A1 Ω;have Xa:((m:Int)==14)=true:=H6 Ω;clear hm;have H1:=ι HM.o.p.step;go_wp2_with(go_at_call 19;refine(H1.o).mono ?_;rintro e w2 ⟨z,rfl,hm⟩;have H2:=ι (HM.o.to hm.1 hm.2);clear hm)
   go_meet
   case rel=>exact⟨0,0,0,M,N,U.o,rfl,rfl,rfl,rfl,H2⟩
  ·have d6:((m:Int)==6)=false:=A1 Ω;have d7:((m:Int)==7)=false:=A1 Ω;have d8:((m:Int)==8)=false:=A1 Ω;have d9:((m:Int)==9)=false:=A1 Ω;have V:((m:Int)==10)=false:=A1 Ω;have O:((m:Int)==11)=false:=A1 Ω;have E:((m:Int)==12)=false:=A1 Ω;have G:((m:Int)==13)=false:=A1 Ω;have Xa:((m:Int)==14)=false:=A1 Ω;have Xc:((m:Int)==15)=true:=H6 Ω;clear hm;have H1:=ι HM.o.p.step;go_wp2_with(go_at_call 19;refine(H1.o).mono ?_;rintro e w2 ⟨z,rfl,hm⟩;have H2:=ι (HM.o.to hm.1 hm.2);clear hm)
   go_meet
   case rel=>exact⟨0,0,0,M,N,U.o,rfl,rfl,rfl,rfl,H2⟩
 case rest=>
  obtain⟨k,f,e,M2,N2,B,rfl,rfl,rfl,rfl,HJ⟩:=hcut;have HQ:=ι B;clear B;go_wp2;obtain⟨Sx,Z,HS⟩:=AA.start λW'=>Rec W' (w.heap.size+1) 131 [uU k,uU f];have y0:=AA.fact Z λ_ h=>h.cell (j:=0) rfl;have y1:=AA.fact Z λ_ h=>h.cell (j:=1) rfl;have Y:=HS.o _ (HJ.o.x.gr (Gr.refl _).drew);have J:Inhabited (AA Sx):=⟨⟨_,Y⟩⟩;clear Z;refine AI Sx 17 [([0,1,2,3,4,5,7,8],6)] [9,10,11,12,13,14,15,16] Y ?_;refine AE ?_;go_wp2_with((go_at_call 17;refine AK (YC _ _) ?_));refine⟨.inr (AA.of (HS.o _ (HJ.o.x.gr (Gr.refl _).drew))),?_⟩;refine AL ?_;clear y0 y1 Y J;clear HS Sx;go_wp2;go_ret;have HE:=HJ.o.gr (Gr.refl wc).drew;exact⟨rfl,HE.t,M2,N2,HQ.o,HE.p.sub (λ_ h=>.inl h)⟩
end
theorem P39.new(h:BF w K c hb tb r a u n o [] w')(ht:1<w.heap.size):P39 w (λ_=>False) c hb tb w'.heap.size r a u n o [] [] (w'.alloc (.cells #[.slice none 0 0,.int .i64 (c.wd/5:Nat)] 60)):=by
 have g:=(Gr.refl w').alloc (.cells #[.slice none 0 0,.int .i64 (c.wd/5:Nat)] 60);have hz:=h.grew.size;have hlb:=h.lt;have hr:=Rec.new w' 60 [.slice none 0 0,iI (c.wd/5:Nat)];refine⟨⟨_,λk=>k=w'.heap.size,h.wr (g.touch (λ_=>False)) (λ_ h=>h.elim) ht,⟨.slice none 0 0,hr,GP _ _ _ _,rfl,λg hg=>by cases hg⟩,λk hk=>?_,λ_ h=>h.elim⟩,ht⟩;subst hk;exact⟨.inr ⟨ϑ _,hr.lt⟩,by omega,by omega⟩
theorem Jz1(h:HLv w0 K c hb (Gph.nil c.sl) w)(hw0:1<w0.heap.size)(x0 x1 x2 x3 x4:Int)(hq:DQ c.sl [x0,x1,x2,x3,x4]≠0):Calls prog 13 #[pP hb,iI x0,.agg #[iI x1,iI x2,iI x3,iI x4]] w λe w'=>e=.returned (.tuple #[.pointer none,iI (DQ c.sl [x0,x1,x2,x3,x4])])/\Gr w w':=by
 refine(TI h hw0 x0 x1 x2 x3 x4).mono ?_;rintro e w' (⟨-,h⟩|⟨h,-⟩)
 ·exact h
 ·exact absurd h hq
theorem Je7(h:HLv w0 K c hb (Gph.nil c.sl) w)(hw0:1<w0.heap.size)(x0 x1 x2 x3 x4:Int)(hq:DQ c.sl [x0,x1,x2,x3,x4]=0):Calls prog 13 #[pP hb,iI x0,.agg #[iI x1,iI x2,iI x3,iI x4]] w λe w'=>∃r a u n o tb:Nat,e=.returned (.tuple #[pP tb,iI 0])/\BF w0 (λk=>K k\/k=tb) c hb tb r a u n o [] w':=by
 refine(TI h hw0 x0 x1 x2 x3 x4).mono ?_;rintro e w' (⟨h,-⟩|⟨-,r,a,u,n,o,tb,h1,-,h2,-⟩)
 ·exact absurd hq h
 ·exact⟨r,a,u,n,o,tb,h1,h2⟩
theorem XeS(hT:AO w)(c:CfI)(hc:c.Bd)(y0 y1 y2 y3 y4:Int){cap:Nat}(hA:OG w A l)(hl:l.length<=maxLen):Calls prog 5 #[c.V,.agg #[iI y0,iI y1,iI y2,iI y3,iI y4],.slice A l.length cap] w λe w'=>e=.returned (.bool true)/\Gr w w':=by
 unfold maxLen at hl;obtain⟨w1,Xd⟩:∃w1,w1=(w.alloc (.cells (EB c).toArray 24)).alloc (.cells #[.int .i64 y0,.int .i64 y1,.int .i64 y2,.int .i64 y3,.int .i64 y4] 54):=⟨_,rfl⟩;have Xh:Hid (Gr w w1):=⟨by rw[Xd];exact((Gr.refl w).alloc _).alloc _⟩;have Xg:Hid (Rec w1 w.heap.size 24 (EB c)):=⟨by rw[Xd];exact(Rec.new w _ (EB c)).gr ((Gr.refl _).alloc _)⟩
 have Xa:Hid (Rec w1 (w.heap.size+1) 54 [iI y0,iI y1,iI y2,iI y3,iI y4]):=⟨by
  have:=Rec.new (w.alloc (.cells (EB c).toArray 24)) 54 [iI y0,iI y1,iI y2,iI y3,iI y4];rw[γ]at this
  rw[Xd];exact this⟩
 have HL:=ι (λ(V:World) (g:Gr w V)=>XH V (g.tab hT.lt hT));have Yk:Hid (∀V,Gr w V->1<V.heap.size):=⟨λV g=>κ hT.lt g.size⟩;have E:=ι Xd;have HA:=ι hA;obtain⟨N,hN⟩:∃N,N=l.length:=⟨_,rfl⟩;have HN:=ι hN;rw[<-hN]at hl⊢;have J:=ι (λ(V:World)=>YUJ c (n:=0) Ω none 0 V);have Ya:=ι (λ(V:World) (g:Gr w1 V)=>QV (Xg.o.gr g));obtain⟨b0,b1,b2,b3,b4,b5,b6,b7,bl⟩:=QV Xg.o;have Xc:Hid (∀V,Gr w1 V->V.cell? ⟨w.heap.size,3,none⟩=some (iI c.wd)/\V.cell? ⟨w.heap.size,4,none⟩=some (iI c.sl)/\w.heap.size<V.heap.size):=⟨λV g=>⟨(Xg.o.gr g).cell (j:=3) rfl,(Xg.o.gr g).cell (j:=4) rfl,(Xg.o.gr g).lt⟩⟩;have Xt:Hid (∀V,Gr w1 V->V.cell? ⟨w.heap.size+1,0,none⟩=some (iI y0)/\V.cell? ⟨w.heap.size+1,1,none⟩=some (iI y1)/\V.cell? ⟨w.heap.size+1,2,none⟩=some (iI y2)/\V.cell? ⟨w.heap.size+1,3,none⟩=some (iI y3)/\V.cell? ⟨w.heap.size+1,4,none⟩=some (iI y4)/\w.heap.size+1<V.heap.size):=⟨λV g=>⟨(Xa.o.gr g).cell (j:=0) rfl,(Xa.o.gr g).cell (j:=1) rfl,(Xa.o.gr g).cell (j:=2) rfl,(Xa.o.gr g).cell (j:=3) rfl,(Xa.o.gr g).cell (j:=4) rfl,(Xa.o.gr g).lt⟩⟩;have G:Hid (∀V,Gr w V->c.may=true->Calls prog 12 #[c.V] V λe w'=>∃s,e=.returned (.tuple #[pP s.A.hp,iI 0])/\TH V c.nat s w'):=⟨λV g hm=>WP c hc hm V (g.tab hT.lt hT)⟩;have Xf:=ι (λ(V:World) hm=>YnZ c hc hm V);clear Xd hA hN hc;by_cases hf:2048<c.wd
 ·have d0:decide (2048<c.wd)=true:=θ hf;rw[d0]at J;unfold CfI.V at J⊢;unfold EB at E;clear hf d0;go_enter func5,ntmps5;go_upto_region 1 with(fail);rw[<-E.o]
  go_wp2_with(first
   | (go_at_call 10;refine(J.o _).mono ?_;rintro e w2 ⟨rfl,hg⟩;have Y:=ι (Xh.o.trans hg);clear hg)
   | (go_at_call 11;refine(HL.o _ Y.o).mono ?_;rintro e w3 ⟨rfl,hg⟩;have Z:=ι (Y.o.trans hg);clear hg))
  go_ret;exact⟨rfl,Z.o⟩
 have d0:decide (2048<c.wd)=false:=ζ hf;rw[d0]at J;by_cases hn:60<N
 ·have Ys:(60:Int)<(N:Int):=Ω
  unfold CfI.V at J⊢;unfold EB at E;clear hf hn d0;go_enter func5,ntmps5;go_upto_region 1 with(fail);rw[<-E.o]
  go_wp2_with(first
   | (go_at_call 10;refine(J.o _).mono ?_;rintro e w2 ⟨rfl,hg⟩;have Y:=ι (Xh.o.trans hg);clear hg)
   | (go_at_call 11;refine(HL.o _ Y.o).mono ?_;rintro e w3 ⟨rfl,hg⟩;have Z:=ι (Y.o.trans hg);clear hg))
  go_ret;exact⟨rfl,Z.o⟩
 have Ys:¬(60:Int)<(N:Int):=Ω
 by_cases hm:c.may=true
 case neg=>
  have Xf:=ι (λV=>Xf.o V (by simpa using hm));unfold CfI.V at J Xf⊢;unfold EB at E;clear hf hn d0 hm G;go_enter func5,ntmps5;go_upto_region 1 with(fail);rw[<-E.o]
  go_wp2_with(first
   | (go_at_call 10;refine(J.o _).mono ?_;rintro e w2 ⟨rfl,hg⟩;have Y:=ι hg;obtain⟨a0,a1,a2,a3,a4,a5,a6,a7,al⟩:=Ya.o _ hg;clear hg)
   | (go_at_call 12;refine(Xf.o _).mono ?_;rintro e w3 ⟨rfl,hg⟩;have Z:=ι ((Xh.o.trans Y.o).trans hg);clear hg)
   | (go_at_call 11;refine(HL.o _ Z.o).mono ?_;rintro e w4 ⟨rfl,hg⟩;have D:=ι (Z.o.trans hg);clear hg))
  go_ret;exact⟨rfl,D.o⟩
 obtain⟨d,hd⟩:∃d,d=c.nat:=⟨_,rfl⟩;have Xr:=CfI.base_in (c:=c) (by unfold CfI.may at hm;simp at hm;exact hm.1);have Xo:c.wd=(d.wd:Int):=by rw[hd];exact(ξw (by have:=IR Xr.1.2.2.2.2.1;omega)).symm
 have Yg:c.sl=(d.sl:Int):=by rw[hd];exact(ξw (by have:=Xr.2.1;omega)).symm
 have G:=ι (λV g=>G.o V g hm);rw[<-hd]at G;rw[Xo,Yg]at Xc;rw[Xo]at hf;have HD:Hid (d.wd<=2048):=⟨by omega⟩;have B:=ι (λV=>J8s (d.sl:Int) y0 y1 y2 y3 y4 V);have HTW:=ι hT.lt;unfold CfI.V at J G⊢;unfold EB at E;clear hf hn d0 hm Xf Xr Xo Yg hd;go_enter func5,ntmps5;go_upto_region 1 with(fail);rw[<-E.o]
 go_upto_region 4 with(first
  | (go_at_call 10;refine(J.o _).mono ?_;rintro e w2 ⟨rfl,hg⟩;have Y:=ι hg;obtain⟨a0,a1,a2,a3,a4,a5,a6,a7,al⟩:=Ya.o _ hg;clear hg)
  | (go_at_call 12;refine(G.o _ (Xh.o.trans Y.o)).mono ?_;rintro e w3 ⟨s,rfl,hn⟩;have Xj:=ι hn;clear hn))
 have U:=ι (Xh.o.trans Y.o);have Z:=ι (Y.o.trans Xj.o.gr);have Xn:=ι (U.o.trans Xj.o.gr);have hv:=HLv.new Xj.o;obtain⟨hb,Yf⟩:∃hb,hb=s.A.hp:=⟨_,rfl⟩;rw[<-Yf]at hv⊢;have HV:=ι hv;obtain⟨x0,x1,x2,x3,x4,xl⟩:=Xt.o _ Z.o;obtain⟨f3,f4,fl⟩:=Xc.o _ Z.o;clear hv Yf Xj b0 b1 b2 b3 b4 b5 b6 b7 bl a0 a1 a2 a3 a4 a5 a6 a7 al;obtain⟨L,hL⟩:∃L,L=[y0,y1,y2,y3,y4]:=⟨_,rfl⟩;have Xv:=Yk.o _ U.o;have Xl:=ι (λh=>Jz1 HV.o Xv y0 y1 y2 y3 y4 h);have Xi:=ι (λh=>Je7 HV.o Xv y0 y1 y2 y3 y4 h);rw[<-hL]at B Xl Xi;clear hL Xv;by_cases hq:DQ d.sl L=0
 case neg=>
  have Xe:=ι (Xl.o hq);obtain⟨M,hM⟩:∃M,M=DQ d.sl L:=⟨_,rfl⟩;rw[<-hM]at Xe B hq;have e0:(M==0)=false:=A1 hq;clear hq hM Xl Xi
  go_wp2_with(first
   | (go_at_call 13;refine(Xe.o).mono ?_;rintro e w4 ⟨rfl,hg⟩;have D:=ι hg;obtain⟨x0,x1,x2,x3,x4,xl⟩:=Xt.o _ (Z.o.trans hg);obtain⟨f3,f4,fl⟩:=Xc.o _ (Z.o.trans hg);clear hg)
   | (go_at_call 23;refine(B.o _).mono ?_;rintro e w5 ⟨rfl,hg⟩;have Xm:=ι ((Xn.o.trans D.o).trans hg);clear hg)
   | (go_at_call 11;refine(HL.o _ Xm.o).mono ?_;rintro e w6 ⟨rfl,hg⟩;have Yq:=ι (Xm.o.trans hg);clear hg))
  go_ret;exact⟨rfl,Yq.o⟩
 rw[hq]at B;have Xe:=ι (Xi.o hq);clear hq Xl Xi;obtain⟨rm,Yl⟩:∃rm,rm=d.wd/5:=⟨_,rfl⟩;have Yt:=ι Yl;have e4:wrap64 ((d.wd:Int)/5)=(rm:Int):=by have:=HD.o;rw[ξ8 _ Ω];omega
 clear Yl
 go_upto_region 13 with(first
  | (go_at_call 13;refine(Xe.o).mono ?_;rintro e w4 ⟨r,a,u,n,o,tb,rfl,Xb⟩;have D:=ι Xb.grew;have Xx:=ι Xb;obtain⟨x0,x1,x2,x3,x4,xl⟩:=Xt.o _ (Y.o.trans Xb.grew);obtain⟨f3,f4,fl⟩:=Xc.o _ (Y.o.trans Xb.grew);clear Xb)
  | (go_at_call 23;refine(B.o _).mono ?_;rintro e w5 ⟨rfl,hg⟩;have Xm:=ι hg;obtain⟨f3,f4,fl⟩:=Xc.o _ (Y.o.trans (D.o.trans hg));clear hg))
 have hp:=P39.new (Xx.o.gr Xm.o) (Yk.o _ U.o);rw[<-Yt.o]at hp;obtain⟨w6,Yh⟩:∃w6,w6=w5.alloc (.cells #[.slice none 0 0,.int .i64 (rm:Nat)] 60):=⟨_,rfl⟩;obtain⟨rb,Yi⟩:∃rb,rb=w5.heap.size:=⟨_,rfl⟩;rw[<-Yh,<-Yi]at hp⊢;have HP:=ι hp;clear hp Yh Yi x0 x1 x2 x3 x4 xl f3 f4 fl Xx D Z Xn HV e4 B Xe;have Yw:=ι (λ(V:World) (g:Gr w2 V)=>HL.o V (U.o.trans g));go_wp2
 go_loopw [73] (λs73 wr=>∃(i:Nat) (M N':List (Nat×Nat)),i<=N/\s73=iI i/\M.Perm (N'.map Prod.swap)/\Hid (P39 w2 (λ_=>False) d hb tb rb r a u n o M N' wr)) (λs73 _=>N-(intOf s73).toNat)
 case atStart=>exact⟨0,[],[],ζf _,rfl,.nil,HP⟩
 case round=>
  clear HP;obtain⟨i,M,N',hi,rfl,Xy,HP⟩:=hrel;have Yv:=ι Xy;clear Xy;by_cases O:i<N
  ·have Yn:(i:Int)<(N:Int):=Ω
   have Xz:i<l.length:=by rw[<-HN.o];exact O
   have Yc:=ι O;obtain⟨Xu,bb,oo,rfl,Yr,c0,c1,c2⟩:=(HA.o.gr (U.o.trans HP.o.grew)) i Xz;generalize l[i]=x at Xu c0 c1 c2;have I:=Rec.new wr 50 x.L;have Xp:=ι (λ(V:World) (g:Gr wr V)=>VUP (HP.o.gr g) Yv.o x Xu);obtain⟨kd,ak,af⟩:=x;unfold CN.L at I Xp;dsimp only at I Xp c0 c1 c2;clear Xu O Xz hi;go_upto_region 16 with(fail);have Yd:=(Gr.refl wr).alloc (.cells #[.int .u8 kd,.int .u64 ak,.int .u64 af] 50);obtain⟨wz,Xk⟩:∃wz,wz=wr.alloc (.cells #[.int .u8 kd,.int .u64 ak,.int .u64 af] 50):=⟨_,rfl⟩;obtain⟨ob,Xs⟩:∃ob,ob=wr.heap.size:=⟨_,rfl⟩;have I:Rec wz ob 50 [.int .u8 kd,uU ak,uU af]:=by rw[Xk,Xs];exact I
   have Yu:Hid (Gr wr wz):=⟨by rw[Xk];exact Yd⟩;rw[<-Xk,<-Xs];clear Xk Xs Yd c0 c1 c2 Yr;obtain⟨y0,y1,y2,yl⟩:=I.k3;clear I;go_upto_region 18 with(go_at_call 24;refine(Xp.o _ Yu.o).mono ?_;rintro e w8 ⟨rfl,-,M2,N2,hq,hp⟩;have Yj:=ι hp;have Xq:=ι hq;clear hp hq);have Ye:=Yj.o.live2 Xq.o;have Yo:=Yj.o.len_le2 Xq.o;have Yb:=ι Ye;obtain⟨q,hq⟩:∃q,q=5*N2.length:=⟨_,rfl⟩;rw[<-hq]at Yb;have em:wrap64 (5*(N2.length:Int))=(q:Int):=by rw[ξ8 _ Ω];omega
   clear Ye hq Yo;go_upto_region 19 with(go_at_call 20;refine(Yb.o).mono ?_;rintro e w7 ⟨rfl,-,hp⟩;have Yp:=ι hp;obtain⟨A2,cp,Xw⟩:=hp.rr;have r0:=Xw.cc 0;have rl:=Xw.lt;clear hp Xw);go_wp2;go_round
   case rel=>exact⟨i+1,M2,N2,Yc.o,by go_num,Xq.o,Yp⟩
   case measure=>have:=Yc.o;simp[intOf];omega
  ·have Yn:¬(i:Int)<(N:Int):=Ω
   clear hi O;have HW:=ι HP.o.grew;go_wp2_with(go_at_call 11;refine(Yw.o _ HW.o).mono ?_;rintro e w8 ⟨rfl,hg⟩;have Ym:=ι hg;clear hg);go_ret;exact⟨rfl,(U.o.trans HW.o).trans Ym.o⟩
end Go.Proofs.YtbdimhlaaoadgaaGreatDoor
