/- Part 11 of what ListNobody leans on: my own lemmas, merged by shake.py. -/
import Derived.Test.YteihjlcmjecmfaaGreatDoorListNobodyJ
namespace Go.Proofs.YteihjlcmjecmfaaGreatDoor
open _root_.Go.Proofs.Tryz
set_option maxHeartbeats 12800000
set_option maxRecDepth 100000
section
open Go.RowKit Go.Shelf Word
def ftL(l:List Bool):Nat:=first (λk=>!at_ l k) l.length
def XRM(l:List Bool):Nat:=cnt (at_ l) l.length
def V65(l:List Bool):List Bool:=if ftL l<l.length then l.set (ftL l) true else l
def XwB(A k:Nat):Nat->List Bool->List Bool
 | 0,l=>l
 | n+1,l=>if ftL l<k/\A<=XRM l-ftL l then XwB A k n (V65 l)else l
def Zz3(A k:Nat)(l:List Bool):List Bool:=if at_ l k then l else (XwB A k k l).set k true
theorem Xb3(l:List Bool):(V65 l).length=l.length:=by unfold V65;split <;> simp
theorem JSM(A k n:Nat)(l:List Bool):(XwB A k n l).length=l.length:=by
 induction n generalizing l with
 | zero=>rfl
 | succ n ih=>unfold XwB;split;rw[ih,Xb3];rfl
theorem X6K{l:List Bool}{i:Nat}(h:i<ftL l):at_ l i=true:=by
 have:=ZGm (λk=>!at_ l k) l.length i h;simpa using this
theorem JVx{l:List Bool}{k:Nat}(h:at_ l k=false):ftL l<=k:=by
 rcases γ k (ftL l)with g|g
 ·rw[X6K g]at h;cases h
 ·exact g
theorem Vhb{l:List Bool}(h:ftL l<l.length):ftL l<ftL (V65 l):=by
 unfold V65;rw[μ h];rcases γ (ftL l) (ftL (l.set (ftL l) true))with g|g
 ·exact g
 ·exfalso;have h1:(!at_ (l.set (ftL l) true) (ftL (l.set (ftL l) true)))=true:=JyT (λk=>!at_ (l.set (ftL l) true) k) _ (show ftL (l.set (ftL l) true)<_ by rw[υ];omega);rw[QXV h]at h1
  split at h1
  ·cases h1
  ·rename_i hne;rw[X6K Ω]at h1;cases h1
theorem Zk8{l:List Bool}{k:Nat}(h:at_ l k=false)(hk:ftL l<k):at_ (V65 l) k=false:=by
 unfold V65
 split
 ·rename_i g;rw[QXV g,ϑ Ω];exact h
 ·exact h
structure SlJ(A:Sl->Vm->Prop):Prop where
 need:∀s v k,ZEw s v->A s v->k<s.mv.length->at_ s.mv k=false->(k=s.ft\/s.mvd-s.ft<s.cf.ah)->Jsl v ((s.cf.to+s.lo k:Nat):Int) ((s.cf.to+s.hi k:Nat):Int)=0
 step:∀s v k v',ZEw s v->A s v->k<s.mv.length->at_ s.mv k=false->(k=s.ft\/s.mvd-s.ft<s.cf.ah)->YJW s k v v'->A {s with mv:=s.mv.set k true} v'
structure Q1M(w w':World)(R S:Nat->Prop)(y q:Nat)(z:ZH1)(A:Sl->Vm->Prop)(s':Sl)(v':Vm):Prop where
 t:XF4 (λb=>R b\/S b) w w'
 cy:Cyc w' R y q z s'
 vm:QXZ w' (plus S w) q v'
 ok:ZEw s' v'
 j:A s' v'
def Sl.step(s:Sl):Sl:={s with mv:=V65 s.mv}
def Sl.tch(s:Sl)(a:Int):Sl:={s with mv:=if inF s.L s.cf.to a then Zz3 s.cf.ah ((a-s.cf.to).toNat/s.cf.bk) s.mv else s.mv}
theorem Sl.lf_zero(s:Sl):s.lf=0↔¬s.ft<s.mv.length:=by
 have h1:=Y37 (l:=s.mv) (m:=s.ft) s.ft_le (λi hi=>s.ft_on hi);have h2:s.mvd<=s.mv.length:=QMh _ _;have h3:s.mvd=cnt (at_ s.mv) s.mv.length:=rfl;constructor
 ·intro h hf;have h4:=s.ft_off hf;have h5:=Jso hf h4;have h6:cnt (at_ (s.mv.set s.ft true)) s.mv.length<=s.mv.length:=QMh _ _;unfold Sl.lf at h;omega
 ·intro h;have:=s.ft_le;unfold Sl.lf;omega
section
variable {w:World} {R S:Nat->Prop} {y q:Nat} {z:ZH1} {s:Sl} {v:Vm} {A:Sl->Vm->Prop}
def Ywd(w:World)(R S:Nat->Prop)(y q:Nat)(z:ZH1)(A:Sl->Vm->Prop)(s:Sl)(e:Ending)(w':World):Prop:=
 ∃v',e=.returned (.tuple #[.bool (decide (s.ft<s.mv.length)),.int .i64 0])/\Q1M w w' R S y q z A s.step v'
theorem J5c(hJ:SlJ A)(hC:Cyc w R y q z s)(hO:ZEw s v)(hA:A s v)(hT:VRW w)(htS:¬S 1)(htR:¬R 1)(hV:QXZ w S q v)(hdis:∀k,R k->¬S k):
  Calls prog 91 #[.pointer (some ⟨y,0,none⟩)] w (Ywd w R S y q z A s):=by
 have Y:=s.lf_zero;have c5:=hC.rc.cc 11;have c6:=hC.rc.cc 12;have cl:=hC.rc.lt;by_cases hf:s.ft<s.mv.length
 ·have hk:=s.ft_off hf;have HM:=hid (ZS2 hC hO hT htS htR hV hdis hf hk (hJ.need s v s.ft hO hA hf hk (.inl rfl)))
  have HR:Hid (∀w',ZrS w R S y q z s s.ft v (.returned (.int .i64 0)) w'->Ywd w R S y q z A s (.returned (.tuple #[.bool true,.int .i64 0])) w'):=⟨λw' ⟨_,ht,hc,v',hv,hm⟩=>by
   have e:s.step={s with mv:=s.mv.set s.ft true}:=by
    unfold Sl.step V65;rw[μ (show ftL s.mv<s.mv.length from hf)];rfl
   refine⟨v',by rw[κ hf],ht,?_,hv,?_,?_⟩
   ·rw[e];exact hc
   ·rw[e];exact hm.ok
   ·rw[e];exact hJ.step s v s.ft v' hO hA hf hk (.inl rfl) hm⟩
  have Z:s.lf≠0:=λh=>Y.1 h hf;have d0:((s.lf:Int)==0)=false:=by simp;omega
  clear hC hO hA hT htS htR hV hdis hJ Y hf hk Z;go_enter func91,ntmps91;go_wp2_with(go_at_call 137;refine(HM.o).mono ?_;rintro e w1 ⟨rfl,hm⟩;have J:=hid hm;clear hm);go_ret2;exact HR.o _ ⟨rfl,J.o⟩
 ·have Z:s.lf=0:=Y.2 hf
  have HR:Hid (Ywd w R S y q z A s (.returned (.tuple #[.bool false,.int .i64 0])) w):=⟨by
   have e:s.step=s:=by
    unfold Sl.step V65;rw[ϑ (show ¬ftL s.mv<s.mv.length from hf)]
   refine⟨v,by rw[ψ hf],XF4.refl _ _,?_,hV.mono (λ_ h=>.inl h),?_,?_⟩
   ·rw[e];exact hC
   ·rw[e];exact hO
   ·rw[e];exact hA⟩
  have d0:((s.lf:Int)==0)=true:=by simp[Z]
  clear hC hO hA hT htS htR hV hdis hJ Y hf Z;go_enter func91,ntmps91;go_wp2;go_ret2;exact HR.o
def VTM(w:World)(R S:Nat->Prop)(y q:Nat)(z:ZH1)(A:Sl->Vm->Prop)(s:Sl)(a:Int)(e:Ending)(w':World):Prop:=
 ∃v',e=.returned (.int .i64 0)/\Q1M w w' R S y q z A (s.tch a) v'
structure VII(w wr:World)(R S:Nat->Prop)(y q:Nat)(z:ZH1)(A:Sl->Vm->Prop)(s:Sl)(k n:Nat)(l:List Bool):Prop where
 t:XF4 (λb=>R b\/S b) w wr
 cy:Cyc wr R y q z {s with mv:=l}
 vm:∃Sj v',(∀b,Sj b->(S b/\b<w.heap.size)\/w.heap.size<=b)/\QXZ wr Sj q v'/\ZEw {s with mv:=l} v'/\A {s with mv:=l} v'
 len:l.length=s.mv.length
 un:at_ l k=false
 run:XwB s.cf.ah k n l=XwB s.cf.ah k k s.mv
 n:k-ftL l<=n
theorem VII.step{wr W:World}{k n:Nat}{l:List Bool}(h:VII w wr R S y q z A s k n l)(hJ:SlJ A)(g:Gr wr W)(hT:VRW w)(htS:¬S 1)(htR:¬R 1)(hdis:∀k,R k->¬S k)(hlt:∀k,R k->k<w.heap.size)(hk:k<s.mv.length)(h1:ftL l<k)(h2:s.cf.ah<=XRM l-ftL l):
  Calls prog 91 #[.pointer (some ⟨y,0,none⟩)] W λe w'=>e=.returned (.tuple #[.bool true,.int .i64 0])/\∃n',VII w w' R S y q z A s k n' (V65 l)/\ftL l<ftL (V65 l):=by
 obtain⟨Sj,v',Z,hv,ho,ha⟩:=h.vm;have hz:=h.t.size;have hf:ftL l<l.length:=by rw[h.len];omega
 have N:VRW W:=(hT.touch' h.t (λh'=>h'.elim htR htS)).touch' (g.touch (λ_=>False)) (λh=>h);have htl:=hT.lt;refine(J5c hJ (h.cy.gr g) ho ha N (λh'=>?_) htR (hv.gr g) (λb hb h'=>?_)).mono ?_
 ·rcases Z _ h' with h|h
  ·exact htS h.1
  ·omega
 ·have:=hlt b hb;rcases Z b h' with h|h
  ·exact hdis b hb h.1
  ·omega
 ·rintro e w' ⟨J,rfl,Y⟩;have hgz:=g.size;have V:=Vhb hf;obtain⟨n',rfl⟩:∃n',n=n' + 1:=⟨n-1,by have:=h.n;omega⟩;refine⟨by rw[show decide (({s with mv:=l}:Sl).ft<({s with mv:=l}:Sl).mv.length)=true from κ hf],n',⟨?_,Y.cy,⟨plus Sj W,J,λb hb=>?_,Y.vm,Y.ok,Y.j⟩,by rw[Xb3];exact h.len,Zk8 h.un h1,?_,by have:=h.n;omega⟩,V⟩
  ·refine(h.t.trans (g.touch _)).trans' Y.t (λb hb hs=>?_);rcases hs with hs|hs
   ·exact .inl hs
   ·rcases Z b hs with h|h
    ·exact .inr h.1
    ·omega
  ·rcases hb with h|h
   ·exact Z b h
   ·right;omega
  ·rw[<-h.run]
   show _=(if ftL l<k/\s.cf.ah<=XRM l-ftL l then XwB s.cf.ah k n' (V65 l)else l)
   rw[μ ⟨h1,h2⟩]
theorem VII.fin{wr W:World}{k n:Nat}{l:List Bool}{a:Int}(h:VII w wr R S y q z A s k n l)(hJ:SlJ A)(g:Gr wr W)(hT:VRW w)(htS:¬S 1)(htR:¬R 1)(hdis:∀k,R k->¬S k)(hlt:∀k,R k->k<w.heap.size)(hk:k<s.mv.length)(hm:at_ s.mv k=false)(hc:¬(ftL l<k/\s.cf.ah<=XRM l-ftL l))(he:s.tch a={s with mv:=Zz3 s.cf.ah k s.mv}):
  Calls prog 137 #[.pointer (some ⟨y,0,none⟩),.int .i64 k] W λe w'=>e=.returned (.int .i64 0)/\VTM w R S y q z A s a (.returned (.int .i64 0)) w':=by
 obtain⟨Sj,v',Y,hv,ho,ha⟩:=h.vm;have hz:=h.t.size;have hgz:=g.size;have E:VRW W:=(hT.touch' h.t (λh'=>h'.elim htR htS)).touch' (g.touch (λ_=>False)) (λh=>h);have htl:=hT.lt;have Z:k<({s with mv:=l}:Sl).mv.length:=by show k<l.length;rw[h.len];exact hk
 have hfk:=JVx h.un
 have N:k=({s with mv:=l}:Sl).ft\/({s with mv:=l}:Sl).mvd-({s with mv:=l}:Sl).ft<({s with mv:=l}:Sl).cf.ah:=by
  rcases γ (ftL l) k with h'|h'
  ·right;have:¬s.cf.ah<=XRM l-ftL l:=λh''=>hc ⟨h',h''⟩
   show XRM l-ftL l<s.cf.ah
   omega
  ·left
   show k=ftL l
   omega
 refine(ZS2 (h.cy.gr g) ho E (λh'=>?_) htR (hv.gr g) (λb hb h'=>?_) Z h.un (hJ.need _ _ k ho ha Z h.un N)).mono ?_
 ·rcases Y _ h' with h|h
  ·exact htS h.1
  ·omega
 ·have:=hlt b hb;rcases Y b h' with h|h
  ·exact hdis b hb h.1
  ·omega
 ·rintro e w' ⟨rfl,ht,D,J,I,V⟩
  have er:XwB s.cf.ah k n l=l:=by
   cases n with
   | zero=>rfl
   | succ n=>unfold XwB;rw[ϑ hc]
  have et:s.tch a={s with mv:=l.set k true}:=by
   rw[he];unfold Zz3;rw[ϑ (by rw[hm];decide),<-h.run,er]
  refine⟨rfl,J,rfl,?_,by rw[et];exact D,I.mono (λb hb=>?_),by rw[et];exact V.ok,by rw[et];exact hJ.step _ _ k J ho ha Z h.un N V⟩
  ·refine(h.t.trans (g.touch _)).trans' ht (λb hb hs=>?_);rcases hs with hs|hs
   ·exact .inl hs
   ·rcases Y b hs with h|h
    ·exact .inr h.1
    ·omega
  ·rcases hb with h|h
   ·rcases Y b h with h|h
    ·exact .inl h.1
    ·exact .inr h
   ·right;omega
theorem Qym(hJ:SlJ A)(hC:Cyc w R y q z s)(hO:ZEw s v)(hA:A s v)(hT:VRW w)(htS:¬S 1)(htR:¬R 1)(hV:QXZ w S q v)(hdis:∀k,R k->¬S k)(a:Int)(ha:a<=9223372036854775807):
  Calls prog 263 #[.pointer (some ⟨y,0,none⟩),.int .i64 a] w (VTM w R S y q z A s a):=by
 have N:=hid (ZAe hC.plan hT a ha);have c8:=hC.rc.cc 8;have cl:=hC.rc.lt;have G:Hid (s.tch a=s->VTM w R S y q z A s a (.returned (.int .i64 0)) w):=⟨λe=>⟨v,rfl,XF4.refl _ _,by rw[e];exact hC,hV.mono (λ_ h=>.inl h),by rw[e];exact hO,by rw[e];exact hA⟩⟩;cases hin:inF s.L s.cf.to a with
 | false=>
  have e:s.tch a=s:=by unfold Sl.tch;rw[hin];rfl
  have HE:=hid (G.o e);obtain⟨-,-,e3⟩:=Vtd hin;rw[e3]at N;obtain⟨bv,Xs⟩:∃bv,bv=ZZZ s.L s.cf.to s.cf.bk a:=⟨_,rfl⟩;rw[<-Xs]at N;clear hC hO hA hT htS htR hV hdis hJ hin e e3 Xs G;go_enter func263,ntmps263;go_wp2_with(go_at_call 264;refine(N.o).mono ?_;rintro e w1 ⟨rfl,Y⟩;have Z:=hid Y;clear Y);go_ret;obtain⟨v',e1,h⟩:=HE.o;exact⟨v',rfl,h.t.trans (Z.o.touch _),h.cy.gr Z.o,h.vm.gr Z.o,h.ok,h.j⟩
 | true=>
  have V:=hO.st;obtain⟨i,rfl⟩:∃i:Nat,a=((s.cf.to+i:Nat):Int):=⟨(a-s.cf.to).toNat,by have:=(Qy1.1 hin).1;omega⟩;have Xc:i<sizes s.L:=by have:=(Qy1.1 hin).2;omega
  obtain⟨k,hk⟩:∃k,k=i/s.cf.bk:=⟨_,rfl⟩;have Xa:k<s.mv.length:=by rw[hk];exact V.blk Xc
  have Xo:ZZZ s.L s.cf.to s.cf.bk ((s.cf.to+i:Nat):Int)=(k:Int):=by
   unfold ZZZ;rw[hin,μ rfl,show ((s.cf.to+i:Nat):Int)-(s.cf.to:Int)=(i:Int)by omega,hk];rfl
  rw[Xo,(Qmd Xc).2]at N
  have J:s.tch ((s.cf.to+i:Nat):Int)={s with mv:=Zz3 s.cf.ah k s.mv}:=by
   unfold Sl.tch;rw[hin,μ rfl,show (((s.cf.to+i:Nat):Int)-(s.cf.to:Int)).toNat=i by omega,<-hk]
  have Xm:(k:Int)<(s.mv.length:Int):=Ω
  have hml:s.mv.length<=1048576:=by rw[V.len];have:=J5D (n:=sizes s.L) V.bk.1;have:=V.N_le;have:=V.n2;omega
  have Xw:=hid (Qy1.1 hin);have E:=hid J;obtain⟨a,Xk⟩:∃a:Int,a=((s.cf.to+i:Nat):Int):=⟨_,rfl⟩;rw[<-Xk]at N G J E⊢;clear hin hk Xo Xw;by_cases hm:at_ s.mv k=true
  ·have e:s.tch a=s:=by
    rw[J];unfold Zz3;rw[μ hm]
   have HE:=hid (G.o e);have HX:=hid (λ(W:World) (g:Gr w W)=>(hC.gr g).rc.cell (j:=10) rfl);have Xi:=hid (λ(W:World) (g:Gr w W)=>(hC.gr g).rc.lt);have B:=hid (λ(W:World) (g:Gr w W)=>ZBn (hC.gr g).mv (JOD Xa));have Xg:=hid (λ(W:World) (g:Gr w W)=>(Vvr (hC.gr g).mv rfl).2);rw[hm]at B;clear hC hO hA hT htS htR hV hdis hJ V Xc Xk J E e G hm Xa;go_enter func263,ntmps263;go_wp2_with(go_at_call 264;refine(N.o).mono ?_;rintro e w1 ⟨rfl,Y⟩;have Z:=hid Y;have y4:=HX.o _ Y;have yl:=Xi.o _ Y;have y5:=B.o _ Y;have y6:=Xg.o _ Y;clear Y);go_ret;obtain⟨v',e1,h⟩:=HE.o;exact⟨v',rfl,h.t.trans (Z.o.touch _),h.cy.gr Z.o,h.vm.gr Z.o,h.ok,h.j⟩
  ·have hm:at_ s.mv k=false:=by simpa using hm
   have HX:=hid (λ(W:World) (g:Gr w W)=>(hC.gr g).rc.cell (j:=10) rfl);have Xi:=hid (λ(W:World) (g:Gr w W)=>(hC.gr g).rc.lt);have B:=hid (λ(W:World) (g:Gr w W)=>ZBn (hC.gr g).mv (JOD Xa));have Xg:=hid (λ(W:World) (g:Gr w W)=>(Vvr (hC.gr g).mv rfl).2);rw[hm]at B;have Yb:Hid (∀W,Gr w W->VII w W R S y q z A s k k s.mv):=⟨λW g=>⟨g.touch _,hC.gr g,⟨ZOk S w,v,λb hb=>.inl hb,hV.cut.gr g,hO,hA⟩,rfl,hm,rfl,by omega⟩⟩;have HS:=hid (ν hT (ν htS (ν htR (ν hdis (ν hC.od.lt Xa)))));have HJ:=hid hJ;have hahb:s.cf.ah<=16:=V.cf.ah;have HM:=hid hm;clear hC hO hA hT htS htR hV hdis hJ V Xc Xk J G hm Xa;go_enter func263,ntmps263;go_upto_region 6 with(go_at_call 264;refine(N.o).mono ?_;rintro e w1 ⟨rfl,Y⟩;have Z:=hid Y;have y4:=HX.o _ Y;have yl:=Xi.o _ Y;have y5:=B.o _ Y;have y6:=Xg.o _ Y;clear Y);clear y4 yl y5 y6 c8 cl
   go_loopw [] (λwr=>∃(n:Nat) (l:List Bool),Hid (VII w wr R S y q z A s k n l)) (λwr=>k-YNn wr y 12)
   case atStart=>exact⟨k,s.mv,⟨Yb.o _ Z.o⟩⟩
   case round=>
    obtain⟨n,l,HI⟩:=hrel;have q6:wr.cell? ⟨y,12,none⟩=some (.int .i64 (ftL l:Nat)):=HI.o.cy.rc.cc 12;have q7:wr.cell? ⟨y,13,none⟩=some (.int .i64 (XRM l-ftL l:Nat)):=HI.o.cy.rc.cc 13;have qa:=HI.o.cy.rc.cc 7;have ql:=HI.o.cy.rc.lt;obtain⟨fc,Xd⟩:∃fc,fc=ftL l:=⟨_,rfl⟩;obtain⟨ac,Xh⟩:∃ac,ac=XRM l-fc:=⟨_,rfl⟩;have Xr:=hid Xd;rw[<-Xd]at q6 q7;rw[<-Xh]at q7;have Xu:Hid (ac=XRM l-ftL l):=⟨by rw[Xh,Xd]⟩;clear Xd Xh;by_cases I:fc<k
    ·have Xt:(fc:Int)<(k:Int):=Ω
     have d0:decide ((fc:Int)<(k:Int))=true:=κ Xt;have Xz:decide (fc<k)=true:=κ I;by_cases D:s.cf.ah<=ac
     ·have d1:decide ((s.cf.ah:Int)<=(ac:Int))=true:=κ Ω;have Xx:decide (s.cf.ah<=ac)=true:=κ D;have Xe:Hid (ftL l<k/\s.cf.ah<=XRM l-ftL l):=⟨by rw[<-Xr.o];exact I,by rw[<-Xu.o];exact D⟩;clear I D;go_wp2;go_quiet (fail);have Ya:=hid (HI.o.step HJ.o ((Gr.refl wr).drewN nq) HS.o.1 HS.o.2.1 HS.o.2.2.1 HS.o.2.2.2.1 HS.o.2.2.2.2.1 HS.o.2.2.2.2.2 Xe.o.1 Xe.o.2);go_wp2_with(go_at_call 91;refine(Ya.o).mono ?_;rintro e w5 ⟨rfl,n',Xn,Xv⟩;have Xq:=hid Xn;have Xy:=hid Xv;clear Xn Xv);go_roundw
      case rel=>exact⟨n',V65 l,Xq⟩
      case measure=>
       have c1:wr.cell? ⟨y,12,none⟩=some (.int .i64 (ftL l:Nat)):=HI.o.cy.rc.cc 12;have c2:w5.cell? ⟨y,12,none⟩=some (.int .i64 (ftL (V65 l):Nat)):=Xq.o.cy.rc.cc 12;have:=Xy.o;have:=Xe.o.1;unfold YNn;rw[c1,c2];simp[intOf];omega
     ·have d1:decide ((s.cf.ah:Int)<=(ac:Int))=false:=ψ Ω;have Xx:decide (s.cf.ah<=ac)=false:=ψ D;have Xl:Hid (¬(ftL l<k/\s.cf.ah<=XRM l-ftL l)):=⟨λh=>D (by rw[Xu.o];exact h.2)⟩;clear I D;go_wp2;have n0:=ZBn HI.o.cy.mv (JOD (show k<l.length by rw[HI.o.len];exact HS.o.2.2.2.2.2));rw[HI.o.un]at n0;have n4:=HI.o.cy.rc.cc 10;have nl:=(Vvr HI.o.cy.mv rfl).2;have Xp:(k:Int)<(({s with mv:=l}:Sl).mv.length:Int):=by show (k:Int)<(l.length:Int);rw[HI.o.len];exact Xm
      go_quiet (fail);have Xj:=hid (HI.o.fin HJ.o ((Gr.refl wr).drewN nq) HS.o.1 HS.o.2.1 HS.o.2.2.1 HS.o.2.2.2.1 HS.o.2.2.2.2.1 HS.o.2.2.2.2.2 HM.o Xl.o E.o);go_wp2_with(go_at_call 137;refine(Xj.o).mono ?_;rintro e w5 ⟨rfl,Xb⟩;have Xf:=hid Xb;clear Xb);go_ret;exact Xf.o
    ·have d0:decide ((fc:Int)<(k:Int))=false:=ψ Ω;have Xz:decide (fc<k)=false:=ψ I;have Xl:Hid (¬(ftL l<k/\s.cf.ah<=XRM l-ftL l)):=⟨λh=>I (by rw[Xr.o];exact h.1)⟩;clear I;go_wp2;have n0:=ZBn HI.o.cy.mv (JOD (show k<l.length by rw[HI.o.len];exact HS.o.2.2.2.2.2));rw[HI.o.un]at n0;have n4:=HI.o.cy.rc.cc 10;have nl:=(Vvr HI.o.cy.mv rfl).2;have Xp:(k:Int)<(({s with mv:=l}:Sl).mv.length:Int):=by show (k:Int)<(l.length:Int);rw[HI.o.len];exact Xm
     go_quiet (fail);have Xj:=hid (HI.o.fin HJ.o ((Gr.refl wr).drewN nq) HS.o.1 HS.o.2.1 HS.o.2.2.1 HS.o.2.2.2.1 HS.o.2.2.2.2.1 HS.o.2.2.2.2.2 HM.o Xl.o E.o);go_wp2_with(go_at_call 137;refine(Xj.o).mono ?_;rintro e w5 ⟨rfl,Xb⟩;have Xf:=hid Xb;clear Xb);go_ret;exact Xf.o
end
end
section
open Go.RowKit Go.Shelf Word
section
variable {w:World} {R S:Nat->Prop} {y q:Nat} {z:ZH1} {s:Sl} {v:Vm} {A:Sl->Vm->Prop}
def ZAh(w:World)(R S:Nat->Prop)(y q:Nat)(z:ZH1)(A:Sl->Vm->Prop)(s:Sl)(a:Int)(e:Ending)(w':World):Prop:=
 ∃v',e=.returned (.tuple #[.int .u64 (v'.ldV a:Nat),.int .i64 (v'.ldE a)])/\Q1M w w' R S y q z A (s.tch a) v'
theorem Q1M.gr{w w1 w':World}{s':Sl}{v':Vm}(h:Q1M w w1 R S y q z A s' v')(g:Gr w1 w'):Q1M w w' R S y q z A s' v':=
 ⟨h.t.trans (g.touch _),h.cy.gr g,h.vm.gr g,h.ok,h.j⟩
theorem QeN(hJ:SlJ A)(hC:Cyc w R y q z s)(hO:ZEw s v)(hA:A s v)(hT:VRW w)(htS:¬S 1)(htR:¬R 1)(hV:QXZ w S q v)(hdis:∀k,R k->¬S k)(a:Int)(ha:a<=9223372036854775807):
  Calls prog 261 #[.pointer (some ⟨y,0,none⟩),.int .i64 a] w (ZAh w R S y q z A s a):=by
 have HT:=hid (Qym hJ hC hO hA hT htS htR hV hdis a ha);clear hJ hC hO hA hT htS htR hV hdis ha;go_enter func261,ntmps261;go_upto_region 4 with(go_at_call 263;refine(HT.o).mono ?_;rintro e w1 ⟨v',rfl,hf⟩;have HF:=hid hf;have c0:=hf.cy.rc.cc 0;have cl:=hf.cy.rc.lt;clear hf);have J:=hid (VW8 HF.o.vm a);obtain⟨x,hx⟩:∃x,x=v'.ldV a:=⟨_,rfl⟩;obtain⟨er,Y⟩:∃er,er=v'.ldE a:=⟨_,rfl⟩;rw[<-hx,<-Y]at J;have HX:=hid (ν hx Y);clear hx Y;go_wp2_with(go_at_call 176;refine(J.o).mono ?_;rintro e w2 ⟨rfl,Z⟩;have V:=hid Z;clear Z);go_ret2;exact⟨v',by rw[<-HX.o.1,<-HX.o.2];rfl,HF.o.gr V.o⟩
def JaS(w:World)(R S:Nat->Prop)(y q:Nat)(z:ZH1)(A:Sl->Vm->Prop)(s:Sl)(a:Int)(x:Nat)(e:Ending)(w':World):Prop:=
 ∃v',e=.returned (.int .i64 (v'.ldE a))/\XF4 (λb=>R b\/S b) w w'/\Cyc w' R y q z (s.tch a)/\QXZ w' (plus S w) q (v'.st a x)/\ZEw (s.tch a) v'/\A (s.tch a) v'
theorem ZaI(hJ:SlJ A)(hC:Cyc w R y q z s)(hO:ZEw s v)(hA:A s v)(hT:VRW w)(htS:¬S 1)(htR:¬R 1)(hV:QXZ w S q v)(hdis:∀k,R k->¬S k)(a:Int)(ha:a<=9223372036854775807){x:Nat}(hx:x<18446744073709551616):
  Calls prog 262 #[.pointer (some ⟨y,0,none⟩),.int .i64 a,.int .u64 x] w (JaS w R S y q z A s a x):=by
 have HT:=hid (Qym (S:=ZOk S w) hJ hC hO hA hT (λh=>htS h.1) htR hV.cut (λk h h'=>hdis k h h'.1) a ha);have HX:=hid hx;have HR:=hid (ν hC.od.lt hdis);clear hJ hC hO hA hT htS htR hV hdis ha;go_enter func262,ntmps262;clear hx;go_upto_region 4 with(go_at_call 263;refine(HT.o).mono ?_;rintro e w1 ⟨v',rfl,hf⟩;have HF:=hid hf;have c0:=hf.cy.rc.cc 0;have cl:=hf.cy.rc.lt;clear hf);have J:=hid (Qpx HF.o.vm.cut a HX.o);obtain⟨er,Y⟩:∃er,er=v'.ldE a:=⟨_,rfl⟩;rw[<-Y]at J;have E:=hid Y;clear Y;go_wp2_with(go_at_call 177;refine(J.o).mono ?_;rintro e w2 ⟨rfl,V,Z⟩;have N:=hid V;have I:=hid Z;clear V Z);go_ret;have hz:=HF.o.t.size;refine⟨v',by rw[E.o];rfl,(HF.o.t.mono (λb _ h=>h.imp id (λh=>h.1))).trans' N.o (λb hb h=>?_),HF.o.cy.touch N.o (λb hb h=>?_),I.o.mono (λb hb=>?_),HF.o.ok,HF.o.j⟩
 ·rcases h.1 with h|h
  ·exact .inr h.1
  ·omega
 ·have:=HR.o.1 b hb;rcases h.1 with h|h
  ·exact HR.o.2 b hb h.1
  ·omega
 ·rcases hb.1 with h|h
  ·exact .inl h.1
  ·exact .inr h
end
theorem ZEw.store{s:Sl}{v:Vm}(h:ZEw s v){i x:Nat}(hi:i<sizes s.L)(hm:s.is i=true)(hx:x<18446744073709551616):ZEw {s with c:=λj=>if j=i then x else s.c j} (v.st ((s.cf.to+i:Nat):Int) x):=by
 obtain⟨d1,d2⟩:=h.mid.dst i hi hm;have Z:=h.mid.ok.st_ldV x d1;have hs:=h.st;refine⟨⟨hs.pg,hs.n2,hs.cf,hs.good,hs.inn,hs.fit,hs.hd,hs.len⟩,⟨h.mid.ok.st _ hx,(VqE.st v _ x).n.trans h.mid.n,(VqE.st v _ x).pg.trans h.mid.pg,λj hj hu=>?_,λj hj hd=>?_⟩⟩
 ·have Y:(!s.is j)=true:=hu;have hj:j<sizes s.L:=hj;obtain⟨h1,h2,h3⟩:=h.mid.src j hj Y;have J:j≠i:=λe=>by rw[e,hm]at Y;cases Y
  have ha:(((s.cf.to+i:Nat):Int)≠(Vjz s.L j:Nat)):=λe=>hs.apart ⟨(hs.srcs hj).1,(hs.srcs hj).2.1⟩ ⟨ζS _ i,(hs.dsts hi).1⟩ (by rw[show Vjz s.L j=s.cf.to+i by omega])
  show (v.st _ x).ldE _=0/\s.cv j _=(if j=i then x else s.c j)/\_
  rw[Zpt,Z,ϑ ha,ϑ J];exact⟨h1,h2,h3⟩
 ·have hj:j<sizes s.L:=hj
  show (v.st _ x).ldE _=0/\(v.st _ x).ldV _=(if j=i then x else s.c j)
  rw[Zpt,Z];by_cases e:j=i
  ·subst e;rw[μ rfl,μ rfl];exact⟨d1,rfl⟩
  ·show v.ldE ((s.cf.to+j:Nat):Int)=0/\(if ((s.cf.to+i:Nat):Int)=((s.cf.to+j:Nat):Int)then x else v.ldV ((s.cf.to+j:Nat):Int))=_
   rw[ϑ Ω,ϑ e];exact h.mid.dst j hj hd
end
section
open Go.RowKit Word
def V4X(v:Vm)(c:Cf)(L:List Ob):Sl:=
 {n:=v.n,pg:=v.pl.pg,cf:=c,L:=L,hd:=λa=>v.rdH (a:Nat),c:=λi=>cvH L c.to (v.rdH ((L.getD (XEF L i) (0,0)).1:Nat)) (i-sizes (L.take (XEF L i))) (v.ldV (Vjz L i:Nat)),mv:=List.replicate (nbl (sizes L) c.bk) false}
structure Vdg(s:Sl)(v v':Vm)(q0 j:Nat):Prop where
 ok:ZAR v'
 n:v'.n=v.n
 pg:v'.pl.pg=v.pl.pg
 rm:v'.pl.rm=v.pl.rm
 map:∀p,p<v.pt.length->(v'.pt.getD p 0≠0↔v.pt.getD p 0≠0/\¬((q0<=p/\p<q0+j)/\s.on (λ_=>true) p=0))
 val:∀a:Nat,a<v.n->¬((q0<=a/v.pl.pg/\a/v.pl.pg<q0+j)/\s.on (λ_=>true) (a/v.pl.pg)=0)->v'.ldE a=v.ldE a/\v'.ldV a=v.ldV a
theorem Pln.touch{T:Nat->Prop}{w w':World}{F p n B base:Nat}{L:List Ob}(h:Pln w F p n B base L)(t:XF4 T w w')(hT:∀k,F<=k->k<w.heap.size->¬T k):Pln w' F p n B base L:=by
 obtain⟨h1,h2,h3,f,c0,c1,hF⟩:=h;exact⟨ω h1 t.size,h2,h3,f,(t.cell h1 (hT _ h2 h1) 0).trans c0,(t.cell h1 (hT _ h2 h1) 1).trans c1,hF.touch t hT⟩
section
variable {s:Sl} {v v':Vm} {q0 j:Nat}
theorem Vdg.zero(h:ZAR v)(q0:Nat):Vdg s v v q0 0:=
 ⟨h,rfl,rfl,rfl,λp _=>⟨λh=>⟨h,λh'=>by omega⟩,λh=>h.1⟩,λ_ _ _=>⟨rfl,rfl⟩⟩
theorem Vdg.keep(h:Vdg s v v' q0 j)(hz:s.on (λ_=>true) (q0+j)≠0):Vdg s v v' q0 (j+1):=by
 refine⟨h.ok,h.n,h.pg,h.rm,λp hp=>(h.map p hp).trans (and_congr_right λ_=>not_congr ⟨λ⟨⟨a,b⟩,c⟩=>⟨⟨a,by omega⟩,c⟩,λ⟨⟨a,b⟩,c⟩=>⟨⟨a,?_⟩,c⟩⟩),λa ha hn=>h.val a ha (λ⟨⟨x,y⟩,c⟩=>hn ⟨⟨x,by omega⟩,c⟩)⟩;rcases γ p (q0+j)with h1|h1
 ·exact h1
 ·obtain rfl:p=q0+j:=Ω
  exact absurd c hz
theorem Vdg.drop(h:Vdg s v v' q0 j)(hz:s.on (λ_=>true) (q0+j)=0):Vdg s v (v'.um ((q0+j:Nat):Int)) q0 (j+1):=by
 obtain⟨s1,s2,s3,s4⟩:=Jz0 v' ((q0+j:Nat):Int);by_cases hf:frE v'.pt ((q0+j:Nat):Int)=0
 ·refine⟨h.ok.um _,s1.trans h.n,s2.trans h.pg,s3.trans h.rm,λp hp=>?_,λa ha hn=>?_⟩
  ·rw[ZdX hf,h.map p hp,and_assoc];refine and_congr_right λ_=>?_;constructor
   ·rintro⟨g1,g2⟩ ⟨⟨a,b⟩,c⟩;exact g1 ⟨⟨a,by omega⟩,c⟩
   ·intro g;exact⟨λ⟨⟨a,b⟩,c⟩=>g ⟨⟨a,by omega⟩,c⟩,λe=>g ⟨by omega,by rw[e];exact hz⟩⟩
  ·have J:a/v.pl.pg≠q0+j:=λe=>hn ⟨by omega,by rw[e];exact hz⟩;have Z:a<v'.n:=by rw[h.n];exact ha
   have Y:a/v'.pl.pg≠q0+j:=by rw[h.pg];exact J
   rw[h.ok.um_ldE hf Z,ϑ Y,h.ok.um_ldV hf Z Y];exact h.val a ha (λ⟨⟨x,y⟩,c⟩=>hn ⟨⟨x,by omega⟩,c⟩)
 ·rw[V4M hf];refine⟨h.ok,h.n,h.pg,h.rm,λp hp=>?_,λa ha hn=>h.val a ha (λ⟨⟨x,y⟩,c⟩=>hn ⟨⟨x,by omega⟩,c⟩)⟩;rw[h.map p hp];refine and_congr_right λhv=>not_congr ⟨λ⟨⟨a,b⟩,c⟩=>⟨⟨a,by omega⟩,c⟩,λ⟨⟨a,b⟩,c⟩=>⟨⟨a,?_⟩,c⟩⟩;rcases γ p (q0+j)with h1|h1
  ·exact h1
  ·exfalso;obtain rfl:p=q0+j:=Ω
   have h2:=(h.map _ hp).2 ⟨hv,λ⟨⟨_,y⟩,_⟩=>by omega⟩
   have h3:q0+j<v'.pt.length:=by
    rcases γ (q0+j) v'.pt.length with h|h
    ·exact h
    ·rw[φ,ζf h]at h2;exact absurd rfl h2
   rw[VP8 h3,ϑ h2]at hf;exact hf rfl
end
theorem JVN(n k:Nat):at_ (List.replicate n false) k=false:=by
 unfold at_;rw[φ,ζD]
 split <;> rfl
section
variable {v v':Vm} {c:Cf} {L:List Ob} {rs:List Int}
theorem JZl(v:Vm)(c:Cf)(L:List Ob)(i:Nat):(V4X v c L).is i=false:=JVN _ _
theorem ZPv(v:Vm)(c:Cf)(L:List Ob):(V4X v c L).mvd=0:=Z6o λ_ _=>JVN _ _
theorem Q20(v:Vm)(c:Cf)(L:List Ob):(V4X v c L).ft=0:=XFN (ζh _) (λ_ h=>absurd h (ζV _)) (λ_=>by show (!at_ (List.replicate _ false) 0)=true;rw[JVN];rfl)
theorem JnF(v:Vm)(c:Cf)(L:List Ob):(V4X v c L).lf=nbl (sizes L) c.bk:=by
 unfold Sl.lf;rw[ZPv];exact ζC
theorem J4T(hok:ZAR v)(hcf:VeB v.pl.pg v.n c)(hI:Jx2 v rs c.fr c.tp L)(hfit:sizes L<=c.lm-c.to):Jdn (V4X v c L):=by
 refine⟨hok.page,hok.n2,hcf,hI.1.mkd.good,λo ho=>?_,?_,λj hj=>?_,ζC⟩
 ·have:=hI.2 o ho
  show c.fr<=o.1/\o.1+o.2<=c.tp
  omega
 ·show c.to+sizes L<=c.lm
  have:=hcf.lm;omega
 ·have Y:j<L.length:=hj;obtain⟨h1,h2,h3⟩:=hI.1.mkd.ats _ (χ Y);obtain⟨b,p,f,k,he,-,hh,hs,-,-,hz,-⟩:=Jsc hI.1.sound h1;have h4:(L[j].2:Int)=1+(p:Int)+f+k:=h3.trans hz;exact⟨p,f,k,hh,hs,by show L[j].2=1+p+f+k;omega⟩
theorem YRh{i:Nat}(hi:i<sizes L):(V4X v c L).on (λ_=>true) (Vjz L i/v.pl.pg)≠0:=by
 have:1<=(V4X v c L).on (λ_=>true) (Vjz L i/v.pl.pg):=Sl.on_pos (s:=V4X v c L) (i:=i) hi rfl rfl;omega
theorem QHD(hok:ZAR v)(hcf:VeB v.pl.pg v.n c)(hI:Jx2 v rs c.fr c.tp L)(hfit:sizes L<=c.lm-c.to)(hfull:XKC v L){q0 j:Nat}(hU:Vdg (V4X v c L) v v' q0 j):ZEw (V4X v c L) v':=by
 have Z:=J4T hok hcf hI hfit;refine⟨Z,hU.ok,hU.n,hU.pg,λi hi _=>?_,λi hi hd=>?_⟩
 ·have E:i<sizes L:=hi;obtain⟨h1,h2,h3⟩:=Z.srcs hi;obtain⟨jo,hj,m,p,f,k,e1,e2,e3,e4,e5,e6,e7,e8,e9⟩:=Z.obj hi;have J:jo<L.length:=hj;have hv:=hU.val (Vjz L i) h3 (λh=>YRh E h.2);have e4':Vjz L i=L[jo].1+m:=e4;have I:m<L[jo].2:=e2;have hl:=hfull _ (χ J) m I;rw[show ((L[jo].1:Nat):Int)+(m:Int)=(Vjz L i:Nat)by omega]at hl;refine⟨hv.1.trans hl,?_,λhp=>?_⟩
  ·show (V4X v c L).cv i (v'.ldV (Vjz L i:Nat))=_
   rw[hv.2];rfl
  ·show v'.ldV (Vjz L i:Nat)<=_
   rw[hv.2];obtain⟨N,Y⟩:=hp;rw[e5]at N Y;rw[e6,e7]at Y;obtain⟨hr,-,-⟩:=hI.1.mkd.ats _ (χ J);obtain⟨b,p',f',k',he,-,hh,hs,-,-,hz,D⟩:=Jsc hI.1.sound hr;have V:v.rdH (L[jo].1:Nat)=⟨p,f,k⟩:=e7;rw[hh]at V;have hpe:(p':Int)=p:=by injection V
   have hp2':(m:Int)<=(p:Int):=Y;have:=D (m-1) Ω;rw[show ((L[jo].1:Nat):Int)+1+((m-1:Nat):Int)=(Vjz L i:Nat)by omega]at this;exact this.2.1
 ·have:(V4X v c L).is i=true:=hd;rw[JZl]at this;cases this
theorem JlU(hok:ZAR v)(hcf:VeB v.pl.pg v.n c)(hI:Jx2 v rs c.fr c.tp L)(hfit:sizes L<=c.lm-c.to)(hfull:XKC v L){j:Nat}(hU:Vdg (V4X v c L) v v' (c.fr/v.pl.pg) j)(hj:c.tp<=(c.fr/v.pl.pg+j)*v.pl.pg)
  (hm:∀p,p<v.pt.length->v.pt.getD p 0≠0->c.fr/v.pl.pg<=p/\p*v.pl.pg<c.tp):XU7 (V4X v c L) v':=by
 have N:=J4T hok hcf hI hfit;have hS:=QHD hok hcf hI hfit hfull hU
 have hlen:v'.pt.length=v.pt.length:=by
  have a1:=hok.np;have a2:=hU.ok.np;rw[hU.n,hU.pg,a1]at a2;exact(Nat.mul_right_cancel (by have:=hok.page;omega) a2).symm
 intro p hp;have Y:p<v.pt.length:=Ω
 rw[hU.map p Y];constructor
 ·rintro⟨h1,h2⟩;obtain⟨g1,g2⟩:=hm p Y h1;left
  have I:p<c.fr/v.pl.pg+j:=by
   refine Nat.lt_of_not_le λh=>?_;have:=ζl v.pl.pg h;omega
  have E:(V4X v c L).on (λ_=>true) p≠0:=λh=>h2 ⟨⟨g1,I⟩,h⟩;refine Classical.byContradiction λhno=>E (Sl.on_iff.2 λi hi _ e=>hno ⟨i,hi,e,JZl v c L i⟩)
 ·rintro(⟨i,hi,rfl,-⟩|⟨i,-,-,h⟩)
  ·have J:i<sizes L:=hi;have V:=(hS.mid.src i hi (by show (!(V4X v c L).is i)=true;rw[JZl];rfl)).1;have hv:=hU.val (Vjz L i) (N.srcs hi).2.2 (λh=>YRh J h.2);have Z:v.ldE (Vjz L i:Nat)=0:=hv.1.symm.trans V;obtain⟨a,e,h1,h2⟩:=ZAR.hit Z;obtain rfl:Vjz L i=a:=Ω
   exact⟨h2,λh=>YRh J h.2⟩
  ·rw[JZl]at h;cases h
end
section
variable {w:World} {R:Nat->Prop} {y q r g:Nat} {z:ZH1} {s:Sl} {U:Nat->Bool} {ml:List Bool} {lf ft ah:Nat} {rs:List Int}
theorem X9b(hC:∀W,XF4 (λb=>b=g) w W->YNO W R y q z s U ml lf ft ah)(hst:Jdn s)(hR:V5d w r g rs):
  Calls prog 123 #[.pointer (some ⟨r,0,none⟩),.func (.func 159) #[.pointer (some ⟨y,0,none⟩)] #[]] w λe w'=>e=.returned (.tuple #[])/\XF4 (λb=>b=g) w w'/\V5d w' r g (rs.map (toV s.L s.cf.to)):=by
 have h0:toV s.L s.cf.to 0=0:=by
  have h:¬ZH8 s.L 0<s.L.length:=λh=>by
   have h1:=JBb h;have h2:=(hst.inn _ (χ h)).1;have:=hst.cf.fr;have:=hst.pg;omega
  exact(YPG h).1
 refine(ZOv (F:=159) (pre:=#[.pointer (some ⟨y,0,none⟩)]) (caps:=#[]) (λi W Y=>XF4 (λb=>b=g) w W/\Y=(rs.take i).map (toV s.L s.cf.to)) (λ_ _=>by kernel_rfl) hR ⟨XF4.refl _ _,rfl⟩ ?_ ?_).mono ?_
 ·rintro i hi W Y ho ⟨t,e⟩ hz;refine⟨t,?_⟩;rw[V37 hi,ζO,<-e,hz]
  show Y++[0]=Y++[toV s.L s.cf.to 0]
  rw[h0]
 ·rintro i hi W Y ho ⟨t,e⟩ J hne W0 Z;refine(XLA (hC W0 (t.trans (Z.touch _))) rs[i]).mono ?_;rintro e' W' ⟨rfl,V⟩;have hb:=Xxa s.L s.cf.to rs[i];refine⟨_,rfl,(J.gr Z).gr V,λW'' t''=>⟨((t.trans (Z.touch _)).trans (V.touch _)).trans t'',?_⟩⟩;rw[V37 hi,ζO,<-e,Int.max_eq_left hb];rfl
 ·rintro e w' ⟨rfl,Y,-,⟨t,e⟩,J⟩;rw[ζT]at e;subst e;exact⟨rfl,t,J⟩
end
end
section
open Go.RowKit Word
theorem Y4o{f g:Nat->Bool}{n:Nat}(P:Nat->Nat)(hg:∀p,g p=true->f p=true):∀K:Nat,(∀j,j<K->P j<n/\f (P j)=true/\g (P j)=false)->(∀i j,i<j->j<K->P i<P j)->cnt g n+K<=cnt f n:=λK h hm=>by
 have Y:∀k,k<=K->cnt (λp=>g p||(List.range k).any λj=>P j==p) n=cnt g n+k:=by
  intro k
  induction k with
  | zero=>intro _;exact XmU λp _=>by simp
  | succ k ih=>
   intro hk;have h1:=h k Ω
   have h2:=VXp (f:=λp=>g p||(List.range k).any λj=>P j==p) (i:=P k) h1.1 (by
    rw[ψk];refine⟨h1.2.2,?_⟩;rw[List.any_eq_false];intro j hj;have:=hm j k (ζP.1 hj) Ω;simp only[ζZ]
    omega)
   rw[<-ξO,<-ih Ω,<-h2];refine XmU λp _=>?_;rw[ψC,List.any_append,<-Bool.or_assoc];congr 1;by_cases e:P k=p
   ·simp[e]
   ·have e':¬p=P k:=λh=>e h.symm;simp only[List.any_cons,List.any_nil,Bool.or_false];rw[ζy.2 e,ζy.2 e']
 rw[<-Y K (π _)];refine Vj4 λp _ hp=>?_;rcases Bool.or_eq_true_iff.1 hp with h1|h1
 ·exact hg p h1
 ·obtain⟨j,hj,e⟩:=ξs.1 h1;rw[<-ζZ.1 e];exact(h j (ζP.1 hj)).2.1
def Sl.pS(s:Sl)(m:Nat->Bool)(p:Nat):Bool:=(List.range (sizes s.L)).any λi=>!m (i/s.cf.bk)&&(Vjz s.L i/s.pg==p)
def Sl.pT(s:Sl)(top:Nat)(m:Nat->Bool)(p:Nat):Bool:=((List.range (sizes s.L)).any λi=>m (i/s.cf.bk)&&((s.cf.to+i)/s.pg==p))||((List.range (top-(s.cf.to+sizes s.L))).any λj=>(s.cf.to+sizes s.L+j)/s.pg==p)
def Sl.np(s:Sl):Nat:=s.n/s.pg
def Sl.U(s:Sl)(top:Nat)(m:Nat->Bool):Nat:=cnt (s.pS m) s.np+cnt (s.pT top m) s.np
def Sl.q(s:Sl):Nat:=max 1 (s.cf.bk/s.pg)
section
variable {s:Sl} {top:Nat} {m m':Nat->Bool} {p:Nat}
theorem Sl.pS_iff:s.pS m p=true↔∃i,i<sizes s.L/\m (i/s.cf.bk)=false/\Vjz s.L i/s.pg=p:=by
 unfold Sl.pS;rw[ξs];constructor
 ·rintro⟨i,hi,h⟩;rw[ζd,ζZ,Bool.not_eq_true']at h;exact⟨i,ζP.1 hi,h⟩
 ·rintro⟨i,hi,h⟩;exact⟨i,ζP.2 hi,by rw[ζd,ζZ,Bool.not_eq_true'];exact h⟩
theorem Sl.pT_iff:s.pT top m p=true↔(∃i,i<sizes s.L/\m (i/s.cf.bk)=true/\(s.cf.to+i)/s.pg=p)\/∃a,s.cf.to+sizes s.L<=a/\a<top/\a/s.pg=p:=by
 unfold Sl.pT;rw[ζY,ξs,ξs];refine or_congr ⟨?_,?_⟩ ⟨?_,?_⟩
 ·rintro⟨i,hi,h⟩;rw[ζd,ζZ]at h;exact⟨i,ζP.1 hi,h⟩
 ·rintro⟨i,hi,h⟩;exact⟨i,ζP.2 hi,by rw[ζd,ζZ];exact h⟩
 ·rintro⟨j,hj,h⟩;have:=ζP.1 hj;exact⟨_,ζS _ _,by omega,ζZ.1 h⟩
 ·rintro⟨a,h1,h2,h3⟩;exact⟨a-(s.cf.to+sizes s.L),ζP.2 Ω,ζZ.2 (by rw[<-h3];congr 1;omega)⟩
theorem Sl.U_congr(h:∀k,k<s.mv.length->m k=m' k)(hs:Jdn s):s.U top m=s.U top m':=by
 have hb:=hs.bk.1;have e:∀i,i<sizes s.L->m (i/s.cf.bk)=m' (i/s.cf.bk):=λi hi=>h _ (hs.blk hi);unfold Sl.U;congr 1
 ·refine XmU λp _=>ψn.2 ?_;rw[Sl.pS_iff,Sl.pS_iff];exact⟨λ⟨i,h1,h2,h3⟩=>⟨i,h1,by rw[<-e i h1];exact h2,h3⟩,λ⟨i,h1,h2,h3⟩=>⟨i,h1,by rw[e i h1];exact h2,h3⟩⟩
 ·refine XmU λp _=>ψn.2 ?_;rw[Sl.pT_iff,Sl.pT_iff];exact or_congr_left ⟨λ⟨i,h1,h2,h3⟩=>⟨i,h1,by rw[<-e i h1];exact h2,h3⟩,λ⟨i,h1,h2,h3⟩=>⟨i,h1,by rw[e i h1];exact h2,h3⟩⟩
theorem Y27{n:Nat}{L:List Ob}(hg:Q4l n L){i:Nat}:∀d,i+d<sizes L->Vjz L i+d<=Vjz L (i+d)
 | 0,_=>π _
 | d+1,h=>by
  have h1:=Y27 hg d (show i+d<sizes L by omega);have h2:=YYc hg (show i+d<i+(d+1)by omega) h;omega
theorem Jp1{n:Nat}{L:List Ob}(hg:Q4l n L){i k:Nat}(hik:i<=k)(hk:k<sizes L):Vjz L i<=Vjz L k:=by
 have:=Y27 hg (i:=i) (k-i) Ω;rw[show i+(k-i)=k by omega]at this;omega
theorem Xra{x d g:Nat}(hg:1<=g):(x+d)/g<x/g+d/g+2:=by
 rw[ζ4 Ω,ξc,ξc];have h1:=ζx x g;have h2:=ξC x (show 0<g by omega);have h3:=ζx d g;have h4:=ξC d (show 0<g by omega);rw[ζJ]at h1 h3;omega
theorem Sl.U_run(hs:Jdn s)(hn:s.np*s.pg=s.n){a b:Nat}(hab:a<b)(hb:b<=s.mv.length)(hm:∀k,a<=k->k<b->m k=false)(hm':∀k,m' k=(m k||decide (a<=k/\k<b))):s.U top m'<=s.U top m+3:=by
 have E:=hs.bk.1;have I:=hs.pg.1;have hg:=hs.good;obtain⟨i0,h0⟩:∃i0,i0=a*s.cf.bk:=⟨_,rfl⟩;obtain⟨i1,h1⟩:∃i1,i1=min (b*s.cf.bk) (sizes s.L):=⟨_,rfl⟩
 have h01:i0<i1:=by
  have h2:a*s.cf.bk<sizes s.L:=by rw[<-VjL E,<-hs.len];omega
  have h3:(a+1)*s.cf.bk<=b*s.cf.bk:=ζl _ hab;rw[ζ6]at h3;omega
 have Z:∀i,i<sizes s.L->((a<=i/s.cf.bk/\i/s.cf.bk<b)↔(i0<=i/\i<i1)):=λi hi=>by
  rw[ζ3 Ω,ζ4 Ω];omega
 obtain⟨J,hJ⟩:∃J,J=(i1-1-i0)/s.pg:=⟨_,rfl⟩;have hJm:J*s.pg<=i1-1-i0:=by rw[hJ];exact ζm _ _
 have Y:∀j,j<=J->i0+j*s.pg<i1:=λj hj=>by
  have:=ζl s.pg hj;omega
 have N:∀j,j+1<=J->Vjz s.L (i0+j*s.pg)/s.pg<Vjz s.L (i0+(j+1)*s.pg)/s.pg:=λj hj=>by
  have h2:=Y (j+1) hj;have h3:=Y27 hg (i:=i0+j*s.pg) s.pg (by rw[ζ6]at h2;omega);rw[show i0+j*s.pg+s.pg=i0+(j+1)*s.pg by rw[ζ6];omega]at h3;have h4:=ζc (c:=s.pg) h3;rw[Nat.add_div_right _ (show 0<s.pg by omega)]at h4;omega
 have V:∀d i,i+d<=J->Vjz s.L (i0+i*s.pg)/s.pg+d<=Vjz s.L (i0+(i+d)*s.pg)/s.pg:=λd=>by
  induction d with
  | zero=>intro i _;exact π _
  | succ d ih=>
   intro i hi;have h2:=ih i Ω;have h3:=N (i+d) Ω;rw[show i+(d+1)=i+d+1 by omega];omega
 have hS:cnt (s.pS m') s.np+(J-1)<=cnt (s.pS m) s.np:=by
  refine Y4o (λj=>Vjz s.L (i0+(j+1)*s.pg)/s.pg) (λp hp=>?_) _ (λj hj=>?_) (λi j hij hj=>?_)
  ·obtain⟨i,hi,h2,h3⟩:=Sl.pS_iff.1 hp;rw[hm',ψk]at h2;exact Sl.pS_iff.2 ⟨i,hi,h2.1,h3⟩
  ·have h2:=Y (j+1) Ω;have hN:i0+(j+1)*s.pg<sizes s.L:=Ω
   have h3:=(Z _ hN).2 ⟨ζS _ _,h2⟩;refine⟨?_,Sl.pS_iff.2 ⟨_,hN,hm _ h3.1 h3.2,rfl⟩,?_⟩
   ·have h4:=(hs.srcs hN).2.2;rw[ζ4 Ω,hn];exact h4
   ·refine Bool.eq_false_iff.2 λhp=>?_;obtain⟨i,hi,h4,h5⟩:=Sl.pS_iff.1 hp;rw[hm',ψk,decide_eq_false_iff_not,Z i hi]at h4;rcases γ i i0 with h6|h6
    ·have h7:=ζc (c:=s.pg) (Jp1 hg (Nat.le_of_lt h6) Ω);have h8:=V (j+1) 0 Ω;rw[Nat.zero_mul,ξj,ξN]at h8;omega
    ·have h7:=Y J (π _);have h8:=ζc (c:=s.pg) (Jp1 hg (show i0+J*s.pg<=i by omega) hi);have h9:=V (J-(j+1)) (j+1) Ω;rw[show j+1+(J-(j+1))=J by omega]at h9;omega
  ·have:=V (j-i) (i+1) Ω;rw[show i+1+(j-i)=j+1 by omega]at this
   show Vjz s.L (i0+(i+1)*s.pg)/s.pg<Vjz s.L (i0+(j+1)*s.pg)/s.pg
   omega
 have hT:cnt (s.pT top m') s.np<=cnt (s.pT top m) s.np+(J+2):=by
  refine ζb (Vj4 (g:=λp=>s.pT top m p||decide ((s.cf.to+i0)/s.pg<=p/\p<(s.cf.to+i0)/s.pg+(J+2))) λp _ hp=>?_) (ζb (ZKe _ _ _) (Nat.add_le_add_left (ζb (ZH7 _ _ _) Ω) _));rw[ζY,ζe];rcases Sl.pT_iff.1 hp with⟨i,hi,h2,h3⟩|h2
  ·rw[hm',ζY,ζe,Z i hi]at h2;rcases h2 with h2|h2
   ·exact .inl (Sl.pT_iff.2 (.inl ⟨i,hi,h2,h3⟩))
   ·right;rw[<-h3];refine⟨ζc Ω,?_⟩;have h4:=Xra (x:=s.cf.to+i0) (d:=i-i0) I;rw[show s.cf.to+i0+(i-i0)=s.cf.to+i by omega]at h4;have h5:=ζc (c:=s.pg) (show i-i0<=i1-1-i0 by omega);omega
  ·exact .inl (Sl.pT_iff.2 (.inr h2))
 unfold Sl.U;omega
def Vsx(m:Nat->Bool)(f t:Nat)(k:Nat):Bool:=m k||decide (f<=k/\k<t)
theorem Sl.U_fill(hs:Jdn s)(hn:s.np*s.pg=s.n)(f:Nat):∀d,f+d<=s.mv.length->s.U top (Vsx m f (f+d))<=s.U top m+3*(cnt (λj=>m (f+j)) d+1):=λd hd=>by
 have Y:∀a b,f<=a->a<=b->b<=s.mv.length->(∀k,a<=k->k<b->m k=false)->s.U top (Vsx m f b)<=s.U top (Vsx m f a)+3:=λa b h1 h2 h3 h4=>by
  rcases Nat.eq_or_lt_of_le h2 with rfl|h2
  ·omega
  ·refine Sl.U_run hs hn h2 h3 (λk h5 h6=>?_) (λk=>?_)
   ·unfold Vsx;rw[h4 k h5 h6,ψ Ω];rfl
   ·unfold Vsx;rw[Bool.or_assoc];congr 1;rw[<-Bool.decide_or];exact ζK.2 Ω
 have Z:∀d,f+d<=s.mv.length->∃a,f<=a/\a<=f+d/\(∀k,a<=k->k<f+d->m k=false)/\s.U top (Vsx m f a)<=s.U top m+3*cnt (λj=>m (f+j)) d:=by
  intro d
  induction d with
  | zero=>
   intro _;refine⟨f,π _,π _,λk h1 h2=>by omega,?_⟩;rw[Sl.U_congr (m':=m) (λk _=>by unfold Vsx;rw[ψ Ω,Bool.or_false]) hs];omega
  | succ d ih=>
   intro h;obtain⟨a,h1,h2,h3,h4⟩:=ih Ω;rw[Z10];cases hmk:m (f+d)with
   | false=>
    refine⟨a,h1,by omega,λk h5 h6=>?_,by simpa using h4⟩;rcases γ k (f+d)with h7|h7
    ·exact h3 k h5 h7
    ·rw[show k=f+d by omega];exact hmk
   | true=>
    refine⟨f+(d+1),by omega,π _,λk h5 h6=>by omega,?_⟩;have h5:=Y a (f+d) h1 h2 Ω h3
    rw[Sl.U_congr (m:=Vsx m f (f+(d+1))) (m':=Vsx m f (f+d)) (λk _=>by
     unfold Vsx;by_cases e:k=f+d
     ·rw[e,hmk];rfl
     ·congr 1
      exact ζK.2 Ω) hs]
    simp only[Bool.toNat_true];omega
 obtain⟨a,h1,h2,h3,h4⟩:=Z d hd;have:=Y a (f+d) h1 h2 hd h3;omega
theorem Sl.U_more(hs:Jdn s)(hpb:Y1d s.pg=true)(h:∀k,m k=true->m' k=true)(l:List Nat)(hl:∀k,k<s.mv.length->m' k=true->m k=true\/k∈l):s.U top m'<=s.U top m+l.length*s.q:=by
 have hpg:=hs.pg.1;obtain⟨b0,Z⟩:s.pg∣s.cf.to:=Nat.dvd_of_mod_eq_zero hs.cf.at_
 have Y:∀i,(s.cf.to+i)/s.pg=b0+i/s.pg:=λi=>by
  rw[Z,ζJ,Nat.add_comm,Nat.add_mul_div_right _ _ Ω];omega
 have hS:cnt (s.pS m') s.np<=cnt (s.pS m) s.np:=Vj4 λp _ hp=>by
  obtain⟨i,hi,h2,h3⟩:=Sl.pS_iff.1 hp;refine Sl.pS_iff.2 ⟨i,hi,?_,h3⟩;cases hm:m (i/s.cf.bk)with
  | false=>rfl
  | true=>rw[h _ hm]at h2;cases h2
 have hT:cnt (s.pT top m') s.np<=cnt (s.pT top m) s.np+l.length*s.q:=by
  let g:Nat->Nat->Bool:=λj p=>(List.range (sizes s.L)).any λi=>(i/s.cf.bk==j)&&((s.cf.to+i)/s.pg==p)
  have hg:∀j,cnt (g j) s.np<=s.q:=λj=>by
   obtain⟨a,ha⟩:=Zs5 hs.cf.bk hpb j;refine ζb (Vj4 (g:=λp=>decide (b0+a<=p/\p<b0+a+s.q)) λp _ hp=>?_) (ζb (ZH7 _ _ _) Ω);obtain⟨i,_,hi⟩:=ξs.1 hp;obtain⟨e1,e2⟩:=ζ0.1 hi;have e1:i/s.cf.bk=j:=by simpa using e1
   have e2:(s.cf.to+i)/s.pg=p:=by simpa using e2
   have:=ha i e1;rw[Y]at e2;unfold Sl.q;exact κ Ω
  refine ζb (Vj4 (g:=λp=>s.pT top m p||l.any λj=>g j p) λp _ hp=>?_) (ζb (ZKe _ _ _) (Nat.add_le_add_left (JuW l g λk _=>hg k) _));rw[ζY];rcases Sl.pT_iff.1 hp with⟨i,hi,h2,h3⟩|h2
  ·rcases hl _ (hs.blk hi) h2 with h4|h4
   ·exact .inl (Sl.pT_iff.2 (.inl ⟨i,hi,h4,h3⟩))
   ·refine .inr (ξs.2 ⟨_,h4,ξs.2 ⟨i,ζP.2 hi,?_⟩⟩);rw[ζd,ζZ,ζZ];exact⟨rfl,h3⟩
  ·exact .inl (Sl.pT_iff.2 (.inr h2))
 unfold Sl.U;omega
theorem Sl.U_grow(hs:Jdn s)(hn:s.np*s.pg=s.n)(hpb:Y1d s.pg=true){l l':List Bool}(h1:l.length=s.mv.length)(h2:l'.length=s.mv.length)(hll:∀k,at_ l k=true->at_ l' k=true)(ha:XRM l-ftL l<=s.cf.ah)(ha':XRM l' - ftL l'<=s.cf.ah):s.U top (at_ l')+s.q<=s.U top (at_ l)+(s.cf.ah+2)*(s.q+3):=by
 have hf:ftL l<=ftL l':=by
  refine ξ3 λh=>?_;have h3:ftL l' < l'.length:=ω h (by rw[h2,<-h1];exact Xgi _ _);have h4:(!at_ l' (ftL l'))=true:=JyT (λk=>!at_ l' k) l'.length h3;rw[hll _ (X6K h)]at h4;cases h4
 have hf2:ftL l'<=s.mv.length:=by rw[<-h2];exact Xgi _ _
 have hF:=Sl.U_fill (top:=top) (m:=at_ l) hs hn (ftL l) (ftL l' - ftL l) Ω;rw[show ftL l+(ftL l' - ftL l)=ftL l' by omega]at hF
 have hc:cnt (λj=>at_ l (ftL l+j)) (ftL l' - ftL l)<=s.cf.ah:=by
  have e1:=Y37 (l:=l) (m:=ftL l) (Xgi _ _) (λi hi=>X6K hi)
  have e2:∀d,ftL l+d<=l.length->cnt (λj=>at_ l (ftL l+j)) d<=cnt (λk=>decide (ftL l<=k)&&at_ l k) (ftL l+d):=by
   intro d
   induction d with
   | zero=>intro _;exact ζh _
   | succ d ih=>
    intro h;rw[show ftL l+(d+1)=ftL l+d+1 by omega,Z10,Z10,κ (show ftL l<=ftL l+d by omega),ξY];have:=ih Ω;omega
  have e3:=e2 (ftL l' - ftL l) Ω;have e4:=ZoC (f:=λk=>decide (ftL l<=k)&&at_ l k) (show ftL l+(ftL l' - ftL l)<=l.length by omega);unfold XRM at ha;omega
 obtain⟨W,hW⟩:∃W:List Nat,W=(List.range l'.length).filter λj=>decide (ftL l'<=j)&&at_ l' j:=⟨_,rfl⟩
 have hWl:W.length+ftL l'=XRM l':=by
  have:=Y37 (l:=l') (m:=ftL l') (Xgi _ _) (λi hi=>X6K hi);unfold XRM;rw[<-this,hW,<-List.countP_eq_length_filter];rfl
 have hM:=Sl.U_more (top:=top) (m:=Vsx (at_ l) (ftL l) (ftL l')) (m':=at_ l') hs hpb (λk hk=>by
  unfold Vsx at hk;rw[ζY,ζe]at hk;rcases hk with hk|hk
  ·exact hll k hk
  ·exact X6K hk.2) W (λk hk h=>by
  rcases γ k (ftL l')with h3|h3
  ·left;unfold Vsx;rw[ζY,ζe];rcases γ k (ftL l)with h4|h4
   ·exact .inl (X6K h4)
   ·exact .inr ⟨h4,h3⟩
  ·right;rw[hW,ξ6,ζP,h,κ h3]
   exact⟨by omega,rfl⟩)
 have hWq:W.length*s.q<=s.cf.ah*s.q:=ζl _ Ω;rw[ξc,Nat.mul_add,Nat.mul_add];omega
end
end
section
open Go.RowKit Word
structure HpA(top:Nat)(u:Vm)(s:Sl)(v:Vm):Prop where
 pg:∀p,p<v.pt.length->(v.pt.getD p 0≠0↔s.pS (at_ s.mv) p=true\/s.pT top (at_ s.mv) p=true)
 ah:s.mvd-s.ft<=s.cf.ah
 fr:∃l:List Bool,l.length=s.mv.length/\(∀k,at_ l k=true->at_ s.mv k=true)/\XRM l-ftL l<=s.cf.ah/\s.U top (at_ l)+(s.cf.ah+2)*(s.q+3)<=v.pl.rm
 lm:s.cf.to+sizes s.L<=top/\top<=s.cf.lm
 ok:ZAR u
 un:∀a:Nat,a<s.n->u.ldE a=0
 c:∀i,i<sizes s.L->u.ldV (s.cf.to+i:Nat)=s.c i
 x:∀a:Nat,s.cf.to+sizes s.L<=a->a<top->v.ldE a=0/\v.ldV a=u.ldV a
theorem ZmX(v:Vm)(p0 k:Nat):(Jfy v p0 k).length<=k:=by
 induction k with
 | zero=>exact π _
 | succ k ih=>
  rw[Q1f]
  split
  ·rw[ζk,ζ5];omega
  ·omega
section
variable {s:Sl} {v v' u:Vm} {k top:Nat}
theorem ZEw.np(h:ZEw s v):s.np=v.pt.length/\s.np*s.pg=s.n:=by
 have h1:=h.mid.ok.len;have h2:=h.mid.ok.np;rw[h.mid.n,h.mid.pg]at h1;rw[h.mid.n,h.mid.pg]at h2;exact⟨h1.symm,by rw[show s.np=v.pt.length from h1.symm];exact h2.symm⟩
theorem Sl.pST(hs:Jdn s)(hlm:top<=s.cf.lm){m:Nat->Bool}{p:Nat}(h1:s.pS m p=true)(h2:s.pT top m p=true):False:=by
 obtain⟨i,hi,-,e⟩:=Sl.pS_iff.1 h1;have h3:=hs.srcs hi;rcases Sl.pT_iff.1 h2 with⟨j,hj,-,e2⟩|⟨a,a1,a2,e2⟩
 ·exact hs.apart ⟨h3.1,h3.2.1⟩ ⟨ζS _ j,(hs.dsts hj).1⟩ (e.trans e2.symm)
 ·exact hs.apart ⟨h3.1,h3.2.1⟩ ⟨by omega,by omega⟩ (e.trans e2.symm)
theorem HpA.used(hO:ZEw s v)(h:HpA top u s v):v.pl.used=s.U top (at_ s.mv):=by
 rw[hO.mid.ok.us];unfold Sl.U
 rw[hO.np.1,<-Jjp (λp=>by
  cases e1:s.pS (at_ s.mv) p with
  | false=>rfl
  | true=>
   cases e2:s.pT top (at_ s.mv) p with
   | false=>rfl
   | true=>exact absurd (Sl.pST hO.st h.lm.2 e1 e2) id)]
 refine XmU λp hp=>ψn.2 ?_;rw[ζY,<-h.pg p hp,ψd]
theorem HpA.room(hO:ZEw s v)(h:HpA top u s v):v.pl.used+s.q<=v.pl.rm:=by
 obtain⟨l,h1,h2,h3,h4⟩:=h.fr;have Y:Y1d s.pg=true:=by rw[<-hO.mid.pg];exact hO.mid.ok.pl.pg
 have:=Sl.U_grow (top:=top) hO.st hO.np.2 Y h1 rfl h2 h3 h.ah;rw[h.used hO];omega
theorem HpA.need(hO:ZEw s v)(h:HpA top u s v)(hk:k<s.mv.length):Jsl v ((s.cf.to+s.lo k:Nat):Int) ((s.cf.to+s.hi k:Nat):Int)=0:=by
 have hs:=hO.st;have N:=hO.mid.ok;have hpg:=hs.pg.1;have Y:=hO.mid.pg;have I:=hs.lohi hk;have hto:s.cf.to+s.hi k<=v.n:=by have:=hs.fit;have:=hs.cf.ln;rw[hO.mid.n];omega
 have D:Y1d s.pg=true:=by rw[<-Y];exact N.pl.pg
 obtain⟨p0,J⟩:∃p0,p0=(s.cf.to+s.lo k)/s.pg:=⟨_,rfl⟩;obtain⟨p1,Z⟩:∃p1,p1=(s.cf.to+s.hi k-1)/s.pg:=⟨_,rfl⟩;have hp01:p0<=p1:=by rw[J,Z];exact ζc Ω
 have hp1l:p1<v.pt.length:=by rw[Z,<-Y];exact(N.split (a:=s.cf.to+s.hi k-1) Ω).1
 have eA:(((s.cf.to+s.lo k:Nat):Int)/(v.pl.pg:Int)).toNat=p0:=by
  rw[Y,show ((s.cf.to+s.lo k:Nat):Int)/(s.pg:Int)=(((s.cf.to+s.lo k)/s.pg:Nat):Int)from rfl,τ,J]
 have eB:XZs v ((s.cf.to+s.lo k:Nat):Int) ((s.cf.to+s.hi k:Nat):Int)=p1+1-p0:=by
  unfold XZs;rw[Y,show ((s.cf.to+s.hi k:Nat):Int)-1=((s.cf.to+s.hi k-1:Nat):Int)by omega,show ((s.cf.to+s.hi k-1:Nat):Int)/(s.pg:Int)=(((s.cf.to+s.hi k-1)/s.pg:Nat):Int)from rfl,show ((s.cf.to+s.lo k:Nat):Int)/(s.pg:Int)=(((s.cf.to+s.lo k)/s.pg:Nat):Int)from rfl,<-J,<-Z];omega
 obtain⟨b0,E⟩:s.pg∣s.cf.to:=Nat.dvd_of_mod_eq_zero hs.cf.at_
 have V:∀i,(s.cf.to+i)/s.pg=b0+i/s.pg:=λi=>by
  rw[E,ζJ,Nat.add_comm,Nat.add_mul_div_right _ _ Ω];omega
 obtain⟨a,ha⟩:=Zs5 hs.cf.bk D k
 have hw:p1+1-p0<=s.q:=by
  have h1:=ha (s.lo k) (ζZ.1 ((hs.inB Ω).2 ⟨π _,I.1⟩));have h2:=ha (s.hi k-1) (ζZ.1 ((hs.inB Ω).2 ⟨by omega,by omega⟩));rw[V]at J;rw[show s.cf.to+s.hi k-1=s.cf.to+(s.hi k-1)by omega,V]at Z;unfold Sl.q;omega
 have hrm:=h.room hO;unfold Jsl;rw[ϑ Ω,ϑ Ω,eA,eB,μ];have h3:=ZmX v p0 (p1+1-p0);omega
theorem HpA.step(hO:ZEw s v)(h:HpA top u s v)(hk:k<s.mv.length)(hm:at_ s.mv k=false)(hc:k=s.ft\/s.mvd-s.ft<s.cf.ah)(hM:YJW s k v v'):HpA top u {s with mv:=s.mv.set k true} v':=by
 have hs:=hO.st;have V:v'.pt.length=v.pt.length:=by rw[hM.ok.mid.ok.len,hO.mid.ok.len,hM.ok.mid.n,hM.ok.mid.pg,hO.mid.n,hO.mid.pg]
 have N:=hs.lohi hk;have Y:∀i,at_ (s.mv.set k true) (i/s.cf.bk)=(s.is i||s.inB k i):=Sl.is_put hk
 have h1:({s with mv:=s.mv.set k true}:Sl).mvd=s.mvd+1:=by
  unfold Sl.mvd;rw[υ];exact Jso hk hm
 refine⟨λp hp=>?_,?_,?_,h.lm,h.ok,h.un,h.c,λa a1 a2=>?_⟩
 ·rw[V]at hp;rw[hM.map p hp,h.pg p hp]
  have hT:({s with mv:=s.mv.set k true}:Sl).pT top (at_ (s.mv.set k true)) p=true↔s.pT top (at_ s.mv) p=true\/((s.cf.to+s.lo k)/s.pg<=p/\p<=(s.cf.to+s.hi k-1)/s.pg):=by
   show s.pT top (at_ (s.mv.set k true)) p=true↔_
   rw[Sl.pT_iff,Sl.pT_iff];constructor
   ·rintro(⟨i,hi,e1,e2⟩|e)
    ·rw[Y,ζY]at e1;rcases e1 with e1|e1
     ·exact .inl (.inl ⟨i,hi,e1,e2⟩)
     ·have:=(hs.inB hi).1 e1;right;rw[<-e2];exact⟨ζc Ω,ζc Ω⟩
    ·exact .inl (.inr e)
   ·rintro((⟨i,hi,e1,e2⟩|e)|⟨e1,e2⟩)
    ·exact .inl ⟨i,hi,by rw[Y,show s.is i=true from e1];rfl,e2⟩
    ·exact .inr e
    ·left;have hpg:=hs.pg.1
     obtain⟨i,E,D,I⟩:∃i,s.lo k<=i/\i<s.hi k/\(s.cf.to+i)/s.pg=p:=by
      rcases γ (s.cf.to+s.lo k) (p*s.pg)with g|g
      ·refine⟨p*s.pg-s.cf.to,by omega,?_,?_⟩
       ·have:=(ζ3 Ω).1 e2;omega
       ·rw[show s.cf.to+(p*s.pg-s.cf.to)=p*s.pg by omega,ξK _ Ω]
      ·refine⟨s.lo k,π _,N.1,?_⟩;have:=(ζ3 (show 0<s.pg by omega)).2 g;omega
     have J:i<sizes s.L:=Ω
     exact⟨i,J,by rw[Y,(hs.inB J).2 ⟨E,D⟩,Bool.or_true],I⟩
  have hS:({s with mv:=s.mv.set k true}:Sl).pS (at_ (s.mv.set k true)) p=true↔s.pS (at_ s.mv) p=true/\¬ ∃i,i<sizes s.L/\s.inB k i=true/\Vjz s.L i/s.pg=p/\∀j,j<sizes s.L->Vjz s.L j/s.pg=p->s.is j=true\/s.inB k j=true:=by
   show s.pS (at_ (s.mv.set k true)) p=true↔_
   rw[Sl.pS_iff,Sl.pS_iff];constructor
   ·rintro⟨i,hi,e1,e2⟩;rw[Y,ψk]at e1;refine⟨⟨i,hi,e1.1,e2⟩,λ⟨j,_,_,_,g⟩=>?_⟩;rcases g i hi e2 with g|g
    ·rw[e1.1]at g;cases g
    ·rw[e1.2]at g;cases g
   ·rintro⟨⟨i,hi,e1,e2⟩,g⟩;have e1:s.is i=false:=e1;refine Classical.byContradiction λhno=>?_
    have Z:∀j,j<sizes s.L->Vjz s.L j/s.pg=p->s.is j=true\/s.inB k j=true:=λj hj he=>by
     refine Classical.byContradiction λhn=>hno ⟨j,hj,?_,he⟩;rw[Y];cases ea:s.is j <;> cases eb:s.inB k j <;> simp_all
    rcases Z i hi e2 with e|e
    ·rw[e1]at e;cases e
    ·exact g ⟨i,hi,e,e2,Z⟩
  show _↔({s with mv:=s.mv.set k true}:Sl).pS (at_ (s.mv.set k true)) p=true\/({s with mv:=s.mv.set k true}:Sl).pT top (at_ (s.mv.set k true)) p=true
  rw[hS,hT];constructor
  ·rintro⟨(e|e)|e,g⟩
   ·exact .inl ⟨e,g⟩
   ·exact .inr (.inl e)
   ·exact .inr (.inr e)
  ·rintro(⟨e,g⟩|e)
   ·exact⟨.inl (.inl e),g⟩
   ·refine⟨e.elim (λe=>.inl (.inr e)) .inr,λ⟨i,hi,hb,e2,_⟩=>?_⟩;have h5:s.pT top (at_ (s.mv.set k true)) p=true:=hT.2 e;refine Sl.pST hs h.lm.2 (m:=λ_=>false) (p:=p) (Sl.pS_iff.2 ⟨i,hi,rfl,e2⟩) ?_;exfalso;have h3:=hs.srcs hi;rcases Sl.pT_iff.1 h5 with⟨j,hj,-,e3⟩|⟨a,a1,a2,e3⟩
    ·exact hs.apart ⟨h3.1,h3.2.1⟩ ⟨ζS _ j,(hs.dsts hj).1⟩ (e2.trans e3.symm)
    ·exact hs.apart ⟨h3.1,h3.2.1⟩ ⟨by omega,by have:=h.lm;omega⟩ (e2.trans e3.symm)
 ·have hah:=h.ah
  show ({s with mv:=s.mv.set k true}:Sl).mvd-({s with mv:=s.mv.set k true}:Sl).ft<=s.cf.ah
  rw[h1]
  have h2:s.ft<=({s with mv:=s.mv.set k true}:Sl).ft:=by
   refine ξ3 λh=>?_
   have h3:({s with mv:=s.mv.set k true}:Sl).ft<(s.mv.set k true).length:=by
    rw[υ];have:=s.ft_le;omega
   have h4:=({s with mv:=s.mv.set k true}:Sl).ft_off h3
   have h6:at_ (s.mv.set k true) ({s with mv:=s.mv.set k true}:Sl).ft=true:=by
    rw[QXV hk]
    split
    ·rfl
    ·exact s.ft_on h
   rw[h6]at h4;cases h4
  rcases hc with rfl|hc
  ·have h3:=Vhb (l:=s.mv) hk;unfold V65 at h3;rw[μ (show ftL s.mv<s.mv.length from hk)]at h3;have h4:s.ft<({s with mv:=s.mv.set s.ft true}:Sl).ft:=h3;omega
  ·omega
 ·obtain⟨l,a1,a2,a3,a4⟩:=h.fr;refine⟨l,by rw[a1];exact(υ ..).symm,λj hj=>?_,a3,by rw[hM.rm];exact a4⟩
  show at_ (s.mv.set k true) j=true
  rw[QXV hk]
  split
  ·rfl
  ·exact a2 j hj
 ·have a1:s.cf.to+sizes s.L<=a:=a1;have hlm:=h.lm;have hln:=hs.cf.ln;obtain⟨x1,x2⟩:=h.x a a1 a2;obtain⟨o1,o2⟩:=hM.oth a Ω (.inr Ω) (λi hi=>hs.apart ⟨(hs.srcs hi).1,(hs.srcs hi).2.1⟩ ⟨by omega,by omega⟩);exact⟨o2 x1,o1.trans x2⟩
end
end
section
open Go.RowKit Word
theorem Zig{m:Nat}(h1:1<=m)(h2:m<=2048){f:Nat->Nat}(hf:∀a,f a<18446744073709551616):∃u:Vm,JKh (m*256) u/\∀a:Nat,a<m*256->u.ldV a=f a:=by
 have Z:ZAR (Vm.new (m*256) 256 m):=ZAR.new (by unfold Y4M;simp;omega) (by decide) Ω Ω (Nat.mul_mod_left _ _);have hd:m*256/256=m:=ξK _ (by decide);have Y:(Vm.new (m*256) 256 m).pt.length=m:=by show (List.replicate (m*256/256) 0).length=m;rw[ζC,hd]
 have hm:=ZqK Z rfl (λp hp=>by show (List.replicate (m*256/256) 0).getD p 0=0;exact VBu _ _) (by rw[Y];exact π _) (k:=m) (by rw[Y];exact π _);have hn:(mpN (Vm.new (m*256) 256 m) m).n=m*256:=hm.n
 have hl:∀a:Nat,a<m*256->(mpN (Vm.new (m*256) 256 m) m).ldE a=0:=λa ha=>by
  rw[hm.ldE Z (show a<(Vm.new (m*256) 256 m).n from ha),μ];rw[ζP]
  show a/256<m
  omega
 have hs:=VYd hm.ok (λa ha=>hl a (by rw[hn]at ha;exact ha)) hf (k:=m*256) (by rw[hn];exact π _);exact⟨_,⟨hs.ok,hs.sm.n.trans hn,λa ha=>by rw[hs.sm.ldE];exact hl a ha,by omega⟩,hs.vl⟩
end
section
open Go.RowKit Word
section
variable {s:Sl} {v v1 v' u:Vm} {k top:Nat}
theorem Sl.tch_is(hs:Jdn s){i:Nat}(hi:i<sizes s.L):(s.tch ((s.cf.to+i:Nat):Int)).is i=true:=by
 have hb:=hs.blk hi;unfold Sl.tch Sl.is;rw[Qy1.2 Ω,μ rfl,show (((s.cf.to+i:Nat):Int)-(s.cf.to:Int)).toNat=i by omega]
 show at_ (Zz3 s.cf.ah (i/s.cf.bk) s.mv) (i/s.cf.bk)=true
 unfold Zz3
 split
 ·assumption
 ·rw[QXV (by rw[JSM];exact hb),μ rfl]
theorem HpA.ld(hO:ZEw s v)(h:HpA top u s v){a:Nat}(h1:s.cf.to<=a)(h2:a<top)(hm:∀i,i<sizes s.L->a=s.cf.to+i->s.is i=true):v.ldE a=0/\v.ldV a=u.ldV a:=by
 rcases γ a (s.cf.to+sizes s.L)with h3|h3
 ·obtain⟨i,rfl⟩:∃i,a=s.cf.to+i:=⟨a-s.cf.to,by omega⟩;obtain⟨d1,d2⟩:=hO.mid.dst i Ω (hm i Ω rfl);exact⟨d1,by rw[d2,h.c i Ω]⟩
 ·exact h.x a h3 h2
theorem ZEw.beyond(h:ZEw s v){a x:Nat}(h1:s.cf.to+sizes s.L<=a)(h2:a<s.cf.lm)(hl:v.ldE a=0)(hx:x<18446744073709551616):ZEw s (v.st a x):=by
 have Y:=h.mid.ok.st_ldV x hl;have hs:=h.st;refine⟨hs,⟨h.mid.ok.st _ hx,(VqE.st v _ x).n.trans h.mid.n,(VqE.st v _ x).pg.trans h.mid.pg,λj hj hu=>?_,λj hj hd=>?_⟩⟩
 ·have ha:((a:Nat):Int)≠(Vjz s.L j:Nat):=λe=>hs.apart ⟨(hs.srcs hj).1,(hs.srcs hj).2.1⟩ ⟨show s.cf.to<=a by omega,h2⟩ (by rw[show Vjz s.L j=a by omega]);rw[Zpt,Y,ϑ ha];exact h.mid.src j hj hu
 ·rw[Zpt,Y,ϑ Ω];exact h.mid.dst j hj hd
theorem HpA.put(hO:ZEw s v)(h:HpA top u s v){a x:Nat}(h1:s.cf.to<=a)(h2:a<top)(hm:∀i,i<sizes s.L->a=s.cf.to+i->s.is i=true)(hx:x<18446744073709551616):∃c:Nat->Nat,ZEw {s with c:=c} (v.st a x)/\HpA top (u.st a x) {s with c:=c} (v.st a x):=by
 have hl:=(h.ld hO h1 h2 hm).1;have N:=hO.mid.ok.st_ldV x hl;have hs:=hO.st;have hlm:=h.lm;have V:u.ldE a=0:=h.un a (by have:=hs.cf.ln;omega);have Z:=h.ok.st_ldV x V;have Y:=VqE.st v (a:Int) x
 have J:∀c:Nat->Nat,(∀i,i<sizes s.L->c i=if s.cf.to+i=a then x else s.c i)->HpA top (u.st a x) {s with c:=c} (v.st a x):=λc hc=>by
  refine⟨λp hpl=>by rw[Y.pt]at hpl⊢;exact h.pg p hpl,h.ah,by obtain⟨l,a1,a2,a3,a4⟩:=h.fr;exact⟨l,a1,a2,a3,by rw[Y.rm];exact a4⟩,h.lm,h.ok.st _ hx,λb hb=>by rw[Zpt];exact h.un b hb,λi hi=>?_,λb b1 b2=>?_⟩
  ·have hi:i<sizes s.L:=hi
   show (u.st a x).ldV ((s.cf.to+i:Nat):Int)=c i
   rw[Z,hc i hi,h.c i hi];by_cases e:s.cf.to+i=a
   ·rw[μ Ω,μ e]
   ·rw[ϑ Ω,ϑ e]
  ·rw[Zpt,N,Z];obtain⟨x1,x2⟩:=h.x b b1 b2;rw[x2];exact⟨x1,rfl⟩
 rcases γ a (s.cf.to+sizes s.L)with h3|h3
 ·obtain⟨i,rfl⟩:∃i,a=s.cf.to+i:=⟨a-s.cf.to,by omega⟩;refine⟨λj=>if j=i then x else s.c j,hO.store Ω (hm i Ω rfl) hx,J _ λj hj=>?_⟩
  show (if j=i then x else s.c j)=_
  by_cases e:j=i
  ·rw[μ e,μ Ω]
  ·rw[ϑ e,ϑ Ω]
 ·refine⟨s.c,hO.beyond h3 Ω hl hx,J _ λj hj=>?_⟩;rw[ϑ Ω]
theorem HpA.done(hO:ZEw s v)(h:HpA top u s v)(hall:∀i,i<sizes s.L->s.is i=true):(∀p,p<v.pt.length->(v.pt.getD p 0≠0↔∃a,s.cf.to<=a/\a<top/\a/s.pg=p))/\∀a:Nat,s.cf.to<=a->a<top->v.ldE a=0/\v.ldV a=u.ldV a:=by
 have hlm:=h.lm;refine⟨λp hp=>?_,λa h1 h2=>h.ld hO h1 h2 (λi hi _=>hall i hi)⟩;rw[h.pg p hp,Sl.pS_iff,Sl.pT_iff];constructor
 ·rintro(⟨i,hi,e1,e2⟩|⟨i,hi,e1,e2⟩|⟨a,a1,a2,a3⟩)
  ·have:=hall i hi;rw[show s.is i=false from e1]at this;cases this
  ·exact⟨_,ζS _ i,by omega,e2⟩
  ·exact⟨a,by omega,a2,a3⟩
 ·rintro⟨a,a1,a2,a3⟩;rcases γ a (s.cf.to+sizes s.L)with h3|h3
  ·exact .inr (.inl ⟨a-s.cf.to,by omega,hall _ Ω,by rw[<-a3];congr 1;omega⟩)
  ·exact .inr (.inr ⟨a,h3,a2,a3⟩)
theorem XeJ(hO:ZEw s v)(hlm:top<=s.cf.lm)(hp:∀p,p<v.pt.length->(v.pt.getD p 0≠0↔s.pS (at_ s.mv) p=true\/s.pT top (at_ s.mv) p=true)):v.pl.used=s.U top (at_ s.mv):=by
 rw[hO.mid.ok.us];unfold Sl.U
 rw[hO.np.1,<-Jjp (λp=>by
  cases e1:s.pS (at_ s.mv) p with
  | false=>rfl
  | true=>
   cases e2:s.pT top (at_ s.mv) p with
   | false=>rfl
   | true=>exact absurd (Sl.pST hO.st hlm e1 e2) id)]
 refine XmU λp hp'=>ψn.2 ?_;rw[ζY,<-hp p hp',ψd]
theorem QHK{n:Nat}(hn:n<=524288){f:Nat->Nat}(hf:∀a,f a<18446744073709551616):∃u:Vm,ZAR u/\(∀a:Nat,a<n->u.ldE a=0)/\∀a:Nat,a<n->u.ldV a=f a:=by
 obtain⟨u,h1,h2⟩:=Zig (m:=2048) Ω (π _) hf;exact⟨u,h1.ok,λa ha=>h1.al a Ω,λa ha=>h2 a Ω⟩
theorem Jap{c:Cf}{L:List Ob}{rs:List Int}{j:Nat}(hok:ZAR v)(hcf:VeB v.pl.pg v.n c)(hI:Jx2 v rs c.fr c.tp L)(hfit:sizes L<=c.lm-c.to)(hfull:XKC v L)(hU:Vdg (V4X v c L) v v' (c.fr/v.pl.pg) j)(hj:c.tp<=(c.fr/v.pl.pg+j)*v.pl.pg)
  (hm:∀p,p<v.pt.length->v.pt.getD p 0≠0->c.fr/v.pl.pg<=p/\p*v.pl.pg<c.tp) (hrm:v.pl.used+(c.ah+2)*(max 1 (c.bk/v.pl.pg)+3)<=v.pl.rm):ZEw (V4X v c L) v'/\∃u,HpA (c.to+sizes L) u (V4X v c L) v':=by
 have V:=J4T hok hcf hI hfit;have hO:=QHD hok hcf hI hfit hfull hU;have hP:=JlU hok hcf hI hfit hfull hU hj hm;have hlm:=hcf.lm;refine⟨hO,?_⟩
 obtain⟨u,u1,u2,u3⟩:=QHK (n:=v.n) hok.n2 (f:=λa=>if c.to<=a/\a<c.to+sizes L then (V4X v c L).c (a-c.to)else 0) (λa=>by
  split
  ·exact V.cv_lt _ (hok.ldV_lt _)
  ·omega)
 have J:∀p,p<v'.pt.length->(v'.pt.getD p 0≠0↔(V4X v c L).pS (at_ (V4X v c L).mv) p=true\/(V4X v c L).pT (c.to+sizes L) (at_ (V4X v c L).mv) p=true):=λp hp=>by
  rw[hP p hp,Sl.pS_iff,Sl.pT_iff];refine or_congr ⟨λ⟨i,h1,h2,h3⟩=>⟨i,h1,h3,h2⟩,λ⟨i,h1,h2,h3⟩=>⟨i,h1,h3,h2⟩⟩ ⟨λ⟨i,h1,h2,h3⟩=>.inl ⟨i,h1,h3,h2⟩,?_⟩;rintro(⟨i,h1,h2,h3⟩|⟨a,a1,a2,-⟩)
  ·exact⟨i,h1,h3,h2⟩
  ·have a1:c.to+sizes L<=a:=a1;omega
 have Z:v'.pt.length=v.pt.length:=by rw[hU.ok.len,hok.len,hU.n,hU.pg]
 have hus:v'.pl.used<=v.pl.used:=by
  rw[hU.ok.us,hok.us];unfold nz;rw[Z];refine Vj4 λp hp h=>?_;rw[ψd]at h⊢;exact((hU.map p hp).1 h).1
 have Y:c.to+sizes L<=c.lm:=Ω
 refine⟨u,J,by rw[ZPv,Nat.zero_sub];exact ζh _,⟨(V4X v c L).mv,rfl,λ_ h=>h,?_,?_⟩,⟨π _,Y⟩,u1,u2,λi hi=>?_,λa a1 a2=>?_⟩
 ·show (V4X v c L).mvd-(V4X v c L).ft<=c.ah
  rw[ZPv,Nat.zero_sub];exact ζh _
 ·rw[<-XeJ hO Y J,hU.rm]
  show v'.pl.used+(c.ah+2)*(max 1 (c.bk/v.pl.pg)+3)<=v.pl.rm
  omega
 ·have hi:i<sizes L:=hi
  show u.ldV ((c.to+i:Nat):Int)=_
  rw[u3 _ (by have:=hcf.ln;omega),μ ⟨by omega,by omega⟩,ξS]
 ·have a1:c.to+sizes L<=a:=a1;omega
theorem HpA.alloc(hO:ZEw s v)(h:HpA top u s v){p f k n:Nat}(hs255:p+f+k<=255)(hn:n=1+p+f+k)(hlm:top+n<=s.cf.lm)(he:Jsl v top ((top+n:Nat):Int)=0)(hG:Ji4 v v1 (J5L v top ((top+n:Nat):Int)))(hu:v.pl.used+(n/s.pg+2+(s.cf.ah+2)*(s.q+3))<=v.pl.rm):
  Y3I v1 top ⟨p,f,k⟩=0/\ZEw s (mkVm v1 top ⟨p,f,k⟩)/\∃u',HpA (top+n) u' s (mkVm v1 top ⟨p,f,k⟩)/\(∀a:Nat,a<top->u'.ldV a=u.ldV a)/\u'.ldV top=YsO p f k/\∀i:Nat,i<p+f+k->u'.ldV ((top+1+i:Nat):Int)=0:=by
 have hs:=hO.st;have Z:=hO.mid.ok;have E:=hs.pg.1;have hln:=hs.cf.ln;have htop:=h.lm;have hto:=hs.cf.to;have hvn:=hO.mid.n;have V:=hO.mid.pg
 have hF:∀b,b∈J5L v top ((top+n:Nat):Int)↔(top/s.pg<=b/\b<=(top+n-1)/s.pg)/\v.pt.getD b 0=0:=λb=>by
  unfold J5L;rw[μ ⟨he,by omega⟩,VWG Z Ω Ω,V]
 have G:∀a:Nat,top<=a->a<top+n->v1.ldE a=0:=λa a1 a2=>by
  rw[hG.ldE Z Ω]
  split
  ·rfl
  ·rename_i J;rw[V,hF]at J;have h1:v.pt.getD (a/s.pg) 0≠0:=λe=>J ⟨⟨ζc a1,ζc Ω⟩,e⟩;have h2:=(Z.split (a:=a) Ω).1;unfold Vm.ldE;rw[μ ⟨by omega,by omega⟩,show ((a:Nat):Int)/(v.pl.pg:Int)=((a/v.pl.pg:Nat):Int)from rfl,VP8 h2,V,ϑ h1]
 obtain⟨m1,m2⟩:=JER (v:=v1) hG.ok (t:=top) (p:=p) (f:=f) (c:=k) Ω hs255 (λj hj=>by
  rw[show (top:Int)+(j:Int)=((top+j:Nat):Int)by omega]
  exact G _ Ω Ω)
 obtain⟨v2,D⟩:∃v2,v2=mkVm v1 top ⟨p,f,k⟩:=⟨_,rfl⟩;have N:ZTP s s.is (λi=>!s.is i) v1:=hO.mid.grow hs hG;have Y:Z1d v1 v2:=by rw[D];exact(Z1d.refl hG.ok).mkVm _ _
 rw[<-D]at m2⊢;have I:∀b:Int,v2.ldE b=v1.ldE b:=λb=>Y.sm.ldE b
 have Xa:ZEw s v2:=by
  refine⟨hs,Y.ok,Y.sm.n.trans N.n,Y.sm.pg.trans N.pg,λi hi hu=>?_,λi hi hd=>?_⟩
  ·have h3:=hs.srcs hi;have B:∀b:Nat,top<=b->b<top+n->Vjz s.L i≠b:=λb b1 b2 e=>hs.apart ⟨h3.1,h3.2.1⟩ ⟨show s.cf.to<=b by omega,by omega⟩ (by rw[e]);have h4:=N.src i hi hu;rw[I,m2,ϑ (λe=>B top (π _) Ω Ω),ϑ (λe=>B (Vjz s.L i) Ω Ω rfl)];exact h4
  ·have h3:=hs.dsts hi;rw[I,m2,ϑ Ω,ϑ Ω];exact N.dst i hi hd
 refine⟨m1,Xa,?_⟩
 obtain⟨u',u1,u2,u3⟩:=QHK (n:=s.n) hs.n2 (f:=λa=>if a<top then u.ldV a else v2.ldV a) (λa=>by
  split
  ·exact h.ok.ldV_lt _
  ·exact Y.ok.ldV_lt _)
 have Xc:v2.pt.length=v.pt.length:=by rw[Y.sm.pt,hG.len Z]
 have Xb:∀b,b<v2.pt.length->(v2.pt.getD b 0≠0↔s.pS (at_ s.mv) b=true\/s.pT (top+n) (at_ s.mv) b=true):=λb hb=>by
  rw[Xc]at hb;rw[Y.sm.pt,hG.ma b hb,hF,h.pg b hb]
  have hT:s.pT (top+n) (at_ s.mv) b=true↔s.pT top (at_ s.mv) b=true\/(top/s.pg<=b/\b<=(top+n-1)/s.pg):=by
   rw[Sl.pT_iff,Sl.pT_iff,or_assoc];refine or_congr_right ⟨?_,?_⟩
   ·rintro⟨a,a1,a2,rfl⟩;rcases γ a top with h3|h3
    ·exact .inl ⟨a,a1,h3,rfl⟩
    ·exact .inr ⟨ζc h3,ζc Ω⟩
   ·rintro(⟨a,a1,a2,e⟩|⟨e1,e2⟩)
    ·exact⟨a,a1,by omega,e⟩
    ·rcases γ top (b*s.pg)with g|g
     ·refine⟨b*s.pg,by omega,?_,ξK _ Ω⟩;have:=(ζ3 (show 0<s.pg by omega)).1 e2;omega
     ·refine⟨top,by omega,by omega,?_⟩;have:=(ζ3 (show 0<s.pg by omega)).2 g;omega
  rw[hT];by_cases e:v.pt.getD b 0=0
  ·have J:=mt (h.pg b hb).2 (λhh=>hh e);constructor
   ·rintro(g|g)
    ·exact absurd g J
    ·exact .inr (.inr g.1)
   ·rintro(g|g|g)
    ·exact absurd (.inl g) J
    ·exact absurd (.inr g) J
    ·exact .inr ⟨g,e⟩
  ·have hy:=(h.pg b hb).1 e;exact⟨λ_=>hy.imp id .inl,λ_=>.inl hy⟩
 have Xd:top+n<=s.cf.lm:=hlm;refine⟨u',⟨Xb,h.ah,⟨s.mv,rfl,λ_ h=>h,h.ah,?_⟩,⟨by omega,hlm⟩,u1,u2,λi hi=>?_,λa a1 a2=>?_⟩,λa ha=>?_,?_,λi hi=>?_⟩
 ·rw[<-XeJ Xa Xd Xb,Y.sm.rm,hG.rm]
  have hus:v2.pl.used=v.pl.used+(J5L v top ((top+n:Nat):Int)).length:=by
   rw[<-hG.us,Y.ok.us,hG.ok.us,Y.sm.pt]
  have Xe:(J5L v top ((top+n:Nat):Int)).length<=n/s.pg+2:=by
   unfold J5L;rw[μ ⟨he,by omega⟩];refine ζb (ZmX _ _ _) ?_;unfold XZs;rw[V,show ((top+n:Nat):Int)-1=((top+n-1:Nat):Int)by omega,show ((top+n-1:Nat):Int)/(s.pg:Int)=(((top+n-1)/s.pg:Nat):Int)from rfl,show (top:Int)/(s.pg:Int)=((top/s.pg:Nat):Int)from rfl];have h3:=Xra (x:=top) (d:=n-1) E;have h4:=ζc (c:=s.pg) (show n-1<=n by omega);rw[show top+(n-1)=top+n-1 by omega]at h3;generalize (top+n-1)/s.pg=x1 at h3⊢;generalize top/s.pg=x2 at h3⊢;generalize (n-1)/s.pg=x3 at h3 h4;generalize n/s.pg=x4 at h4⊢;omega
  generalize n/s.pg=x4 at Xe hu;omega
 ·rw[u3 _ (by have:=(hs.dsts hi).2;omega),μ Ω];exact h.c i hi
 ·have hb:a<s.n:=Ω
  rw[I];rcases γ a top with h3|h3
  ·obtain⟨x1,x2⟩:=h.x a a1 h3;rw[m2,ϑ Ω,ϑ Ω,u3 a hb,μ h3,hG.ldV_all Z Ω,hG.ldE Z Ω];exact⟨by split <;> first|rfl|exact x1,x2⟩
  ·rw[u3 a hb,ϑ Ω];exact⟨G a h3 a2,rfl⟩
 ·rw[u3 a Ω,μ ha]
 ·rw[u3 top Ω,ϑ Ω,m2,μ rfl]
 ·rw[u3 _ Ω,ϑ Ω,m2,ϑ Ω,μ Ω]
end
end
section
open Go.RowKit Go.Shelf Word
attribute [local go_sem] Oper.semAt_some
theorem XWt{w:World}{m p1 b1 p2 b2 n:Nat}{L:List Ob}(hE:Ext w m p1 b1 p2 b2 n L)(hT:VRW w){f:Nat}(hf:f<2147483648):
  Calls prog 130 #[.pointer (some ⟨m,0,none⟩),.int .i64 64,.int .i64 f] w λe w'=>∃ff B,e=.returned (.tuple #[.pointer (some ⟨ff,0,none⟩),.int .i64 0])/\Gr w w'/\Fwd w' w.heap.size ff n B f L:=by
 refine(XRP hE hT 64 f (by decide)).mono ?_;have hb:ZZx (f:Int)=true:=by unfold ZZx;rw[κ Ω,κ Ω];rfl
 have hk:Y1d 64=true:=by decide
 rintro e w' ⟨hg,(⟨h,-⟩|⟨-,ff,B,base,hB,hbase,rfl,hF⟩)⟩
 ·rw[hk,hb]at h;cases h
 ·obtain rfl:f=base:=Ω
  exact⟨ff,B,rfl,hg,hF⟩
structure UmP(w8 wx:World)(S5:Nat->Prop)(q r g:Nat)(v2:Vm)(out:List Int)(qs q0 j pg tp:Nat):Prop where
 t:XF4 S5 w8 wx
 vm:∃Sj,(∀b,Sj b->plus S5 w8 b)/\QXZ wx Sj q (umN v2 qs (q0+j-qs))
 rt:V5d wx r g out
 q1:∀i,i<j->(q0+i)*pg<tp
section
variable {w:World} {S:Nat->Prop} {q r g:Nat} {v:Vm} {rs:List Int}
theorem JZL(hV:QXZ w S q v)(hn:v.n≠0)(hR:V5d w r g rs)(hT:VRW w)(htS:¬S 1)(hrS:¬S r)(hgS:¬S g)(fr tp room:Int):
  Calls prog 87 #[.pointer (some ⟨q,0,none⟩),.pointer (some ⟨r,0,none⟩),.int .i64 fr,.int .i64 tp,.int .i64 room] w (YYf w S q r g v rs fr tp room):=by
 have HV:=hid hV.cut;have HR:=hid hR;have HT:=hid hT;have I:=hid (ν htS (ν hrS hgS));have Vs:=hT.lt;have hrl:=hR.lt;have hn2:=hV.ok.n2;have Zb:=hV.ok.page;have Vp:=hid hV.ok;have V:=hid ((Gr.refl w).alloc (.cells #[.pointer (some ⟨q,0,none⟩)] 87));have Yr:=Rec.new w 87 [.pointer (some ⟨q,0,none⟩)];obtain⟨W0,Yo⟩:∃W0,W0=w.alloc (.cells #[.pointer (some ⟨q,0,none⟩)] 87):=⟨_,rfl⟩;have hsz0:W0.heap.size=w.heap.size+1:=by rw[Yo,η]
 rw[show w.alloc (.cells ([.pointer (some ⟨q,0,none⟩)]:List Value).toArray 87)=W0 from Yo.symm]at Yr;rw[<-Yo]at V;have Vv:=hid Yr;have Jh:=hid (JGL (HV.o.gr V.o) hn (HR.o.gr V.o) fr tp room);obtain⟨ce,hce⟩:∃ce:Int,ce=if JKs v.n fr tp room then 0 else 5:=⟨_,rfl⟩
 rw[<-hce]at Jh;have Ua:=hid hce;have c0:=Yr.cc 0;have cl:=Yr.lt;have Vr:=hid hn;clear hV hR hT htS hrS hgS Yr hce hn;have hmf:∀(fn:Fn) (first cap:Array Value) (w:World),(Instr.makeFunc fn first cap).run prog w=.ok (.func fn first cap) w:=λ_ _ _ _=>rfl;refine(ζa (n:=5)).1 ?_;refine callsIn_of_wp_marks func87 rfl trivial ?_ rfl;simp only[ntmps87,ξa,ζU,ξq,Nat.reduceAdd,Nat.reduceSub,ζ2,ζ1,ξf,ζ7,ξb,ζL];gi_upto_region 1 with(fail);rw[<-Yo];clear Yo;by_cases Xm:JKs v.n fr tp room=true
 ·obtain⟨h1,h2,h3,h4,h5⟩:=YMk.1 Xm;obtain rfl:ce=0:=by rw[Ua.o,μ Xm]
  have Yg:=hid Xm;obtain⟨f,rfl⟩:∃f:Nat,fr=f:=⟨fr.toNat,by omega⟩;obtain⟨t,rfl⟩:∃t:Nat,tp=t:=⟨tp.toNat,by omega⟩;obtain⟨k,rfl⟩:∃k:Nat,room=k:=⟨room.toNat,by omega⟩;have Mf:=hid (Jf0 (HV.o.gr V.o) Vr.o (HR.o.gr V.o) (V.o.tab Vs HT.o) (λh=>I.o.1 h.1) f t k Ω Ω Ω);clear Xm
  gi_upto_region 5 with(first
   | (refine⟨trivial,?_⟩;gi_at_call 128;refine(ζa.2 (Jh.o)).mono ?_;rintro e w1 ⟨rfl,rfl⟩)
   | (refine⟨trivial,?_⟩;gi_at_call 129;refine(ζa.2 (Mf.o)).mono ?_;rintro e w1 ⟨Zc,Yc,(⟨L,m,p1,b1,p2,b2,hI,rfl,hE,Jc,Jo,Je,Jd,Jq⟩|⟨Vc,rfl⟩)⟩ <;> (have Yi:=hid Zc;have Uw:=hid Yc;have Ja:=hid (Vv.o.touch Zc (λh=>by have:=h.2;omega));have Vg:=hid ((HR.o.gr V.o).touch Zc (λh=>I.o.2.1 h.1) (λh=>I.o.2.2 h.1));have y0:=Ja.o.cc 0;have yl:=Ja.o.lt;clear Zc Yc)))
  ·have HI:=hid hI;have hw1:=Yi.o.size;have Uy:=hid (HT.o.touch' ((V.o.touch _).trans Yi.o) (λh=>I.o.1 h.1));have Vq:=hid (XWt hE Uy.o (f:=f) Ω);have HX:=hid hE;have Yb:=hid (ν Jc (ν Jo (ν Je (ν Jd Jq))));clear hI hE Jc Jo Je Jd Jq;gi_upto_region 8 with(refine⟨trivial,?_⟩;gi_at_call 130;refine(ζa.2 (Vq.o)).mono ?_;rintro e w2 ⟨ff,B,rfl,Jy,hF⟩;have Uh:=hid Jy;have Jx:=hid hF;clear Jy hF);obtain⟨w3,Yj⟩:∃w3,w3=w2.alloc (.cells #[.pointer (some ⟨ff,0,none⟩)] 210):=⟨_,rfl⟩;have Yz:=Rec.new w2 210 [.pointer (some ⟨ff,0,none⟩)];obtain⟨fb,Zf⟩:∃fb,fb=w2.heap.size:=⟨_,rfl⟩;have Zy:Gr w2 w3:=by rw[Yj];exact(Gr.refl w2).alloc _
   have Jz:w3.heap.size=fb+1:=by rw[Yj,η,Zf]
   rw[show w2.alloc (.cells ([.pointer (some ⟨ff,0,none⟩)]:List Value).toArray 210)=w3 from Yj.symm]at Yz;rw[<-Zf]at Yz⊢;rw[<-Yj];have hz2:=Uh.o.size;have Ju:Hid (w1.heap.size<=fb/\fb+1=w3.heap.size/\w2.heap.size=fb):=⟨by omega,Jz.symm,Zf.symm⟩;have Ut:=hid Yz;have Xe:=hid (Uh.o.trans Zy);have Zs:=hid Zy;have Ui:=hid (Ja.o.gr Xe.o);have Vl:=hid (Uw.o.gr Xe.o);have Un:=hid (λ(W:World) (g:Gr w3 W)=>ZMu (Jx.o.gr (Zs.o.trans g)));have Uf:Hid (∀j (hj:j<L.length),f+sizes (L.take j)<=L[j].1):=⟨λj hj=>YnY HI.o.1.mkd.good (fr:=f) (λo ho=>by have:=HI.o.2 o ho;omega) hj⟩;clear Yj Zf Yz Zy y0 yl c0 cl
   have Vy:f+sizes L<=t:=by
    have hI:=HI.o;rcases ζE L.length with h0|h0
    ·have:L=[]:=ζv h0;subst this;simp only[sizes];omega
    ·have hj:L.length-1<L.length:=Ω
     have e1:=Uf.o _ hj;have e2:=hI.2 _ (χ hj);have e3:=Qsm hj;rw[show L.length-1+1=L.length by omega,ζT]at e3;omega
   have Zg:=hid (λ(W:World) (g:Gr w3 W)=>YrC (Vl.o.gr g) f (f+sizes L) Ω Ω);obtain⟨nn,Zv⟩:∃nn,nn=sizes L:=⟨_,rfl⟩;have Ya:=hid Zv;obtain⟨E,hE⟩:∃E,E=Jsl v f ((f+nn:Nat):Int):=⟨_,rfl⟩;rw[<-Zv]at Zg Un Vy;rw[<-hE]at Zg;have HE:=hid hE;have Xn:((f+nn:Nat):Int)=(f:Int)+(nn:Int):=by push_cast;rfl
   rw[Xn]at Zg;have Yd:=hid Xn;clear Zv hE Xn;have p0:=Ui.o.cc 0;have Vh:=Ut.o.cc 0;obtain⟨Sx,G,HS⟩:=ZJV.start λW'=>W'.cell? ⟨w.heap.size,0,none⟩=some (.pointer (some ⟨q,0,none⟩))/\W'.cell? ⟨fb,0,none⟩=some (.pointer (some ⟨ff,0,none⟩));have x1:=ZJV.fact G λ_ h=>h.1;have x2:=ZJV.fact G λ_ h=>h.2;have Xa:=HS.o (w3.drew) (⟨p0,Vh⟩);have Xh:Inhabited (ZJV Sx):=⟨⟨_,Xa⟩⟩;clear G;refine V0Y Sx 6 [([0,1,2],3),([],4)] [5] JBz (by kernel_rfl) (by kernel_rfl) Xa ?_;refine QgQ ?_
   try simp only[XZy,ζ,ξ]
   repeat(go_big_quiet_step (fail))
   refine θ ?_;gi_wp2_with((refine⟨trivial,?_⟩;gi_at_call 131;refine(ζa.2 (Un.o _ (Gr.refl w3).drew)).mono ?_;rintro e w4 ⟨rfl,Ur⟩;have Xg:=hid ((Gr.refl w3).drew.trans Ur);have Uo:=hid (Ui.o.gr Xg.o);have Zm:=hid (Ut.o.gr Xg.o);clear Ur));refine⟨.inr (ZJV.of (HS.o _ (⟨Uo.o.cc 0,Zm.o.cc 0⟩))),?_⟩;refine QgQ ?_
   try simp only[XZy,ζ,ξ]
   repeat(go_big_quiet_step (fail))
   refine θ ?_;gi_wp2_with((refine⟨trivial,?_⟩;gi_at_call 122;refine(ζa.2 (Zg.o _ Xg.o)).mono ?_;rintro e w5 ⟨rfl,Yx,Jv⟩;have Yp:=hid Yx;have Zq:=hid Jv;have Uc:=hid (Uo.o.touch Yx (λh=>by have:=h.1.2;omega));have Zu:=hid (Zm.o.touch Yx (λh=>by have:=h.1.2;have:=Ju.o;omega));clear Yx Jv));refine⟨.inr (ZJV.of (HS.o _ (⟨Uc.o.cc 0,Zu.o.cc 0⟩))),?_⟩;refine X0q ?_
   try simp only[XZy,ζ,ξ]
   repeat(go_big_quiet_step (fail))
   refine θ ?_;refine β ?_;clear x1 x2 Xa Xh;clear HS Sx;clear p0 Vh;have Ve:=hid ((Vg.o.gr (Xe.o.trans Xg.o)).touch Yp.o (λh=>I.o.2.1 h.1.1) (λh=>I.o.2.2 h.1.1));have Yk:Hid (XF4 S w w5):=⟨(((V.o.touch _).trans (Yi.o.mono (λi _ h=>h.1))).trans ((Xe.o.trans Xg.o).touch _)).trans (Yp.o.mono (λi _ h=>h.1.1))⟩;by_cases Ze:E=0
   ·subst Ze;obtain⟨v1,Yq,Yc⟩:=Zq.o;rw[<-Yd.o]at Yq;have Zi:=HE.o;rw[Ya.o]at Yq Zi;obtain⟨cx,-⟩:=YNw Vp.o HI.o Ω Ω Ω Zi.symm Yq;have Yw:=hid cx;have Uz:=hid Yq;have Js:=hid Zi;obtain⟨S5,Zz⟩:∃S5,S5=ZOk (plus (ZOk (ZOk S w) W0) w4) w5:=⟨_,rfl⟩;have hz4:=Xg.o.size;have hz5:=Yp.o.size
    have Xb:Hid (∀b,S5 b->(S b/\b<w.heap.size\/w4.heap.size<=b)/\b<w5.heap.size):=⟨λb hb=>by
     rw[Zz]at hb
     exact⟨hb.1.imp (λh=>h.1) id,hb.2⟩⟩
    have Mg:Hid (QXZ w5 S5 q v1):=⟨by rw[Zz];exact Yc.cut⟩;have c13l:=HX.o.hm;have Um:Ext w5 m p1 b1 p2 b2 v.n L:=(HX.o.gr (Xe.o.trans Xg.o)).touch Yp.o (λh=>by have:=h.1.2;have:=Yb.o.1;omega) (λh=>by have:=h.1.2;have:=Yb.o.2.1;omega) (λh=>by have:=h.1.2;have:=Yb.o.2.2.1;omega) (λh=>by have:=h.1.2;have:=Yb.o.2.2.2.1;omega) (λh=>by have:=h.1.2;have:=Yb.o.2.2.2.2;omega);have Mj:=hid Um;have Zn:=hid (HT.o.touch' Yk.o I.o.1);have Uk:XF4 (λi=>i<w.heap.size\/w3.heap.size<=i) w2 w5:=((Zs.o.trans Xg.o).touch _).trans (Yp.o.mono (λi _ h=>.inl h.1.2));have Vt:=hid Uk;clear Yq Zi Yc cx Zz Um Uk;gi_upto_region 11 with(fail);gi_wp2_with(refine⟨trivial,?_⟩;gi_at_call 132;refine(ζa.2 (JMu (some ⟨m,0,none⟩))).mono ?_;rintro e w6 ⟨rfl,rfl⟩);obtain⟨W6,Yh⟩:∃W6,W6=w5.alloc (.cells #[.pointer (some ⟨m,0,none⟩)] 103):=⟨_,rfl⟩;have Xu:Gr w5 W6:=by rw[Yh];exact(Gr.refl w5).alloc _
    have hs6:W6.heap.size=w5.heap.size+1:=by rw[Yh,η]
    have k6:W6.cell? ⟨w5.heap.size,0,none⟩=some (.pointer (some ⟨m,0,none⟩)):=by rw[Yh];exact(Boxed.new w5 103 (.pointer (some ⟨m,0,none⟩))).cell
    rw[<-Yh];clear Yh;have hfz:=Ju.o;have Zt:Hid (∀W,XF4 (λi=>i<w.heap.size\/w3.heap.size<=i) W6 W->Fwd W w1.heap.size ff v.n B f L):=⟨λW tt=>Jx.o.touch ((Vt.o.trans (Xu.touch _)).trans tt) (λkk h1 h2 h=>by omega)⟩
    have Z:Hid (∀b,w.heap.size<=b->b<w4.heap.size->¬(S5 b\/W6.heap.size<=b)):=⟨λb h1 h2 h=>by
     rcases h with h|h
     ·have:=(Xb.o b h).1;omega
     ·omega⟩
    have Xj:Hid (∀b,¬S b->b<w.heap.size->¬(S5 b\/W6.heap.size<=b)):=⟨λb h1 h2 h=>by
     rcases h with h|h
     ·rcases(Xb.o b h).1 with h'|h'
      ·exact h1 h'.1
      ·omega
     ·omega⟩
    have Zd:Hid (∀b,S5 b\/W6.heap.size<=b->b<w.heap.size\/w3.heap.size<=b):=⟨λb h=>by
     rcases h with h|h
     ·have:=(Xb.o b h).1;omega
     ·omega⟩
    have hml:=HX.o.hm;have hp1l:=HX.o.v1.hp;have hb1l:=HX.o.v1.hb;have hp2l:=HX.o.v2.hp;have hb2l:=HX.o.v2.hb;obtain⟨Jc,Jo,Je,Jd,Jq⟩:=Yb.o;have Jj:=hid (Uc.o.gr Xu);have Ye:=hid (Zu.o.gr Xu);have Mc:=hid (Ve.o.gr Xu);have Jt:=Zn.o.lt;have Yv:=hid Xu;have Vi:=hid k6;clear k6 Xu
    have tI:∀(j:Nat) A B',(XF4 (λi=>S5 i\/W6.heap.size<=i) W6 A/\j<=L.length/\∃Xc,QXZ A S5 q Xc/\Pkd v1 Xc L f (sizes (L.take j)))->XF4 (λi=>W6.heap.size<=i/\i<W6.heap.size+2+4) A B'->(XF4 (λi=>S5 i\/W6.heap.size<=i) W6 B'/\j<=L.length/\∃Xc,QXZ B' S5 q Xc/\Pkd v1 Xc L f (sizes (L.take j))):=λj A B' h tt=>by
     obtain⟨h1,h2,Xc,h3,h4⟩:=h;exact⟨h1.trans (tt.mono (λi _ h=>.inr h.1)),h2,Xc,h3.touch tt (λi hi _ h=>by have:=(Xb.o i hi).2;omega),h4⟩
    refine JYJ (K:=4) (s0:=0) rfl Ω (gf:=173) (lb:=#[.pointer (some ⟨w5.heap.size,0,none⟩)]) rfl trivial (enters_of func173 (by kernel_rfl) rfl)
     (Yd3 _ w5.heap.size m p1 b1 p2 b2 v.n L _) (λ_=>rfl)
     (λ(j:Nat) A=>XF4 (λi=>S5 i\/W6.heap.size<=i) W6 A/\j<=L.length/\∃Xc,QXZ A S5 q Xc/\Pkd v1 Xc L f (sizes (L.take j))) (λ_ _=>False) tI (λ_ _ _ h _=>h)
     (λj A h=>⟨(Mj.o.gr Yv.o).touch h.1 (Z.o _ Ω Ω) (Z.o _ Ω Ω) (Z.o _ Ω Ω) (Z.o _ Ω Ω) (Z.o _ Ω Ω),(Yv.o.tab Jt Zn.o).touch' h.1 (Xj.o _ I.o.1 Ω),(h.1.cell Ω (λh=>by
      rcases h with h|h
      ·have:=(Xb.o _ h).2;omega
      ·omega) 0).trans Vi.o,h.2.1⟩)
     ⟨XF4.refl _ _,ζh _,v1,Mg.o.gr Yv.o,by simpa[sizes]using Pkd.zero Yw.o.ok L f⟩ ?round ?done (λ_ _ _ _ h _=>h.elim)
    case round=>
     intro lp j x W7 hsz7 Zx Xl;dsimp only[VYF];gi_wp2;refine⟨Gr.refl _,λW8 Xo hI8=>?_⟩
     have Za:j<L.length:=by
      rcases γ j L.length with h|h
      ·exact h
      ·unfold YdH at Xl;rw[ζf h]at Xl;cases Xl
     obtain rfl:x=L[j]:=by unfold YdH at Xl;rw[δ Za]at Xl;exact(Option.some.inj Xl).symm
     obtain⟨Yl,-,vx,Vd,Ub⟩:=hI8;have c5:=(Jj.o.touch Yl (Z.o _ Ω Ω)).cell (j:=0) rfl;have Ji:=(Ye.o.touch Yl (Z.o _ Ω Ω)).cell (j:=0) rfl;have Mi:=hid (Q2p Vd (λW tt=>Zt.o W ((Yl.mono (λi _ h=>Zd.o i h)).trans (tt.mono (λi _ h=>Zd.o i (.inl h.1))))) Yw.o Za Ub);have Xv:=hid Yl;have Vk:=hid (Qsm Za);clear Zx Xl Xo Yl Vd Ub;gi_wp2_with(refine⟨trivial,?_⟩;gi_at_call 133;refine(CallsIn.inRound lp (ζa.2 (Mi.o))).mono ?_;rintro e w7 ⟨rfl,Ul,v7,Vu,Mh⟩);refine⟨Ul.mono (λi _ h=>.inl (by have:=(Xb.o i h.1).2;omega)),j+1,rfl,Xv.o.trans (Ul.mono (λi _ h=>.inl h.1)),Za,v7,Vu.mono (λb h=>h.1),?_⟩;rw[Vk.o];exact Mh
    case done=>
     rintro D j W7 hD rfl Zx hK;obtain⟨Xf,-,v2,Us,Jf⟩:=Zx;rw[ζT]at Jf;have c5:=(Jj.o.touch Xf (Z.o _ Ω Ω)).cell (j:=0) rfl;have Ji:=(Ye.o.touch Xf (Z.o _ Ω Ω)).cell (j:=0) rfl;have Xp:∀W,XF4 (λi=>i<w.heap.size\/w3.heap.size<=i) W7 W->Fwd W w1.heap.size ff v.n B f L:=λW tt=>Zt.o W ((Xf.mono (λi _ h=>Zd.o i h)).trans tt);have Md:=hid (ZKw (λW tt=>Xp W (tt.mono (λi _ h=>.inl Ω))) Ji Ω (Mc.o.touch Xf (Xj.o r I.o.2.1 Ω) (Xj.o g I.o.2.2 Ω)) (Vco Yw.o));have Mb:=hid (Jj.o.touch Xf (Z.o _ Ω Ω));have Va:=hid (Ye.o.touch Xf (Z.o _ Ω Ω));have Ug:=hid Xp;have Vx:=hid Xf;have Vn:=hid Us;have Ud:=hid Jf;have HK:=hid hK;have HD:=hid hD;have hz7:=Xf.size;clear c5 Ji Xp Xf Us Jf hK hD;gi_upto_region 16 with(refine⟨trivial,?_⟩;gi_at_call 123;refine(ζa.2 (Md.o)).mono ?_;rintro e w8 ⟨rfl,Xo,Jw⟩;have Xv:=hid Xo;have Vw:=hid Jw;have Jg:=hid (Mb.o.touch Xo (λh=>by omega));have Uq:=hid (Va.o.touch Xo (λh=>by omega));have hz8:=Xo.size;clear Xo Jw);have Up:Hid (∀W,XF4 (λi=>i<w.heap.size\/w3.heap.size<=i) w8 W->Fwd W w1.heap.size ff v.n B f L):=⟨λW tt=>Ug.o W ((Xv.o.mono (λi _ h=>.inl Ω)).trans tt)⟩;have Yn:¬S5 g:=λh=>Xj.o g I.o.2.2 Ω (.inl h);have Vf:=hid (Vn.o.touch Xv.o (λb hb _ h=>Yn (h▸hb)));have Ux:=hid Yn;clear Yn;have Xx:Hid (D=W6.heap.size/\D<W7.heap.size/\D≠g/\¬S5 D):=⟨HD.o,(ζn.1 HK.o).1,by rw[HD.o];omega,λh=>by rw[HD.o]at h;have:=(Xb.o _ h).2;omega⟩;have Me:Hid (w8.heap[D]?=some (.deferred (some []))):=⟨(Xv.o.block D Xx.o.2.1 Xx.o.2.2.1).trans HK.o⟩;have Ys:v2.pl.pg=v.pl.pg:=Ud.o.sm.pg.trans Uz.o.pg;have Jp:=hid (λ(W:World) (g':Gr w8 W)=>VML (Vf.o.gr g'));rw[Ys]at Jp;obtain⟨pg,Xs⟩:∃pg,pg=v.pl.pg:=⟨_,rfl⟩;have Yt:=hid Xs;rw[<-Xs]at Jp Zb;have Vj:Hid (v2.pl.pg=pg):=⟨by rw[Ys,Xs]⟩;obtain⟨q0,Yu⟩:∃q0,q0=f/pg:=⟨_,rfl⟩;have Zj:q0*pg<=f:=by rw[Yu];exact ζm f pg
     have Jl:=hid Yu;have g1:((f:Int).tdiv (pg:Int))=(q0:Int):=by rw[Yu];rfl
     have g2:((f:Int)/(pg:Int))=(q0:Int):=by rw[Yu];rfl
     have hpg0:(pg:Int)≠0:=Ω
     have hq0n:q0<=524288:=by have:=ζ8 f pg;omega
     have Vo:=hid Zj;obtain⟨qs,Jb⟩:∃qs,qs=Ym5 (f+nn) pg:=⟨_,rfl⟩;have Jn:=hid Jb
     have Zk:q0<=qs:=by
      rcases γ qs q0 with h|h
      ·exfalso;have h1:=(YmI (nt:=f+nn) (q:=qs) Zb.1).2 (by rw[Jb];exact π _);have h2:(qs+1)*pg<=q0*pg:=ζl _ Ω;rw[ξc,ξy]at h2;omega
      ·exact h
     have HQL:=hid Zk;have hft2:f+nn<=1048576:=Ω
     have Vb:Hid (UmP w8 w8 S5 q r g v2 (rs.map (toV L f)) qs q0 0 pg t):=⟨XF4.refl _ _,⟨S5,λb h=>.inl h,by rw[show q0+0-qs=0 by omega];exact Vf.o⟩,Vw.o,λi hi=>absurd hi (ζV _)⟩;have u5:=Jg.o.cc 0;have Zh:=Jg.o.lt;clear Xs Yu Ys Zj Jb Zk;gi_wp2_with(refine⟨trivial,?_⟩;gi_at_call 126;refine(ζa.2 (Jp.o _ (Gr.refl w8))).mono ?_;rintro e w9 ⟨rfl,rfl⟩);clear u5 Zh
     gi_loopw [20] (λs20 wx=>∃j:Nat,Hid (UmP w8 wx S5 q r g v2 (rs.map (toV L f)) qs q0 j pg t)/\s20=.int .i64 ((q0+j:Nat):Int)) (λs20 _=>t-(intOf s20).toNat*pg)
     case atStart=>exact⟨0,Vb,rfl⟩
     case round=>
      clear Vb;obtain⟨j,HU,rfl⟩:=hrel;obtain⟨Sj,Ue,Jr⟩:=HU.o.vm;have Jm:=λ(W:World) (g':Gr wr W)=>VML (Jr.gr g');rw[(Jow v2 qs _).2.1,Vj.o]at Jm;have Xi:=hid Jm;have Jk:=hid Jr;have Xk:=hid Ue;have Xt:=hid (Jg.o.touch HU.o.t (λh=>Z.o _ (π _) Ω (.inl h)));have Xr:=hid (Uq.o.touch HU.o.t (λh=>Z.o fb Ω Ω (.inl h)));have Xq:=hid (λ(W:World) (g':Gr wr W)=>ZMu (Up.o W ((HU.o.t.mono (λi _ h=>Zd.o i (.inl h))).trans (g'.touch _))));rw[<-Ya.o]at Xq;obtain⟨qq,Yf⟩:∃qq,qq=q0+j:=⟨_,rfl⟩;obtain⟨pp,Xw⟩:∃pp,pp=qq*pg:=⟨_,rfl⟩
      have hppb:pp<=1048576:=by
       rcases ζE j with h0|h0
       ·rw[Xw,Yf,h0,ξj];have:=Vo.o;omega
       ·have:=HU.o.q1 (j-1) Ω;have e:pp=(q0+(j-1))*pg+pg:=by rw[Xw,Yf,show q0+j=(q0+(j-1))+1 by omega,ξc,ξy]
        omega
      have hqb:qq<=pp:=by rw[Xw];exact ψa _ Ω
      have hmul:((qq:Int)*(pg:Int))=(pp:Int):=by rw[Xw];push_cast;rfl
      have J:=hid (ν Yf Xw);rw[<-Yf];clear Jm Jr Ue Yf Xw;have u5:=Xt.o.cc 0;have Zh:=Xt.o.lt;have u15:=Xr.o.cc 0;have Zr:=Xr.o.lt;by_cases Xy:pp<t
      ·have e1:decide ((pp:Int)<(t:Int))=true:=κ Ω;have e2:decide (pp<t)=true:=κ Xy;have Xz:=hid Xy;clear Xy;by_cases Yy:f+nn<=pp
       ·have e3:decide ((f:Int)+(nn:Int)<=(pp:Int))=true:=κ Ω;have Zw:=hid Yy;clear Yy;gi_upto_region 19 with(refine⟨trivial,?_⟩;gi_at_call 126;refine(ζa.2 (Xi.o _ (Gr.refl wr))).mono ?_;rintro e Xd ⟨rfl,rfl⟩);obtain⟨Sx,G,HS⟩:=ZJV.start λW'=>W'.cell? ⟨w.heap.size,0,none⟩=some (.pointer (some ⟨q,0,none⟩))/\W'.cell? ⟨fb,0,none⟩=some (.pointer (some ⟨ff,0,none⟩));have x1:=ZJV.fact G λ_ h=>h.1;have x2:=ZJV.fact G λ_ h=>h.2;have Xa:=HS.o (wr.drew) (⟨u5,u15⟩);have Xh:Inhabited (ZJV Sx):=⟨⟨_,Xa⟩⟩;clear G;refine V0Y Sx 7 [([0,1,4],2),([3],5)] [6] JBz (by kernel_rfl) (by kernel_rfl) Xa ?_;refine QgQ ?_
        try simp only[XZy,ζ,ξ]
        repeat(go_big_quiet_step (fail))
        refine θ ?_;gi_wp2_with((refine⟨trivial,?_⟩;gi_at_call 126;refine(ζa.2 (Xi.o _ (Gr.refl wr).drew)).mono ?_;rintro e Xd ⟨rfl,rfl⟩));refine⟨.inr (ZJV.of (HS.o _ (⟨u5,u15⟩))),?_⟩;refine QgQ ?_
        try simp only[XZy,ζ,ξ]
        repeat(go_big_quiet_step (fail))
        refine θ ?_;gi_wp2_with((refine⟨trivial,?_⟩;gi_at_call 131;refine(ζa.2 (Xq.o _ (Gr.refl wr).drew)).mono ?_;rintro e Xd ⟨rfl,N⟩;have Y:=hid ((Gr.refl wr).drew.trans N);have z5:=(Xt.o.gr Y.o).cell (j:=0) rfl;have Ma:=(Xt.o.gr Y.o).lt;have Ym:=(Xr.o.gr Y.o).cell (j:=0) rfl;clear N));refine⟨.inr (ZJV.of (HS.o _ (⟨z5,Ym⟩))),?_⟩;refine X0q ?_
        try simp only[XZy,ζ,ξ]
        repeat(go_big_quiet_step (fail))
        refine θ ?_;refine β ?_;clear x1 x2 Xa Xh;clear HS Sx;clear u5 Zh u15 Zr Ym;gi_wp2_with(refine⟨trivial,?_⟩;gi_at_call 127;refine(ζa.2 (JYA (Jk.o.gr Y.o) (qq:Int))).mono ?_;rintro e w11 ⟨rfl,Zl,Zp⟩;have Zo:=hid Zl;have Uu:=hid Zp;clear Zl Zp);go_roundw
        case rel=>
         have hzx:=HU.o.t.size;have hzy:=Y.o.size;refine⟨j+1,⟨⟨?_,⟨plus Sj Xd,λb hb=>?_,?_⟩,?_,λi hi=>?_⟩⟩,?_⟩
         ·exact(HU.o.t.trans (Y.o.touch _)).trans' Zo.o (λb hb h=>(Xk.o b h).elim id (λh=>by omega))
         ·rcases hb with h|h
          ·exact Xk.o b h
          ·right;omega
         ·have h1:=Uu.o;have h2:=(YmI (nt:=f+nn) (q:=qq) Zb.1).1 (by rw[<-J.o.2];exact Zw.o);rw[<-Jn.o]at h2;have e:q0+(j+1)-qs=(q0+j-qs)+1:=by have:=J.o.1;omega
          rw[e]
          show QXZ _ _ _ ((umN v2 qs (q0+j-qs)).um ((qs+(q0+j-qs):Nat):Int))
          rw[show qs+(q0+j-qs)=qq by have:=J.o.1;omega];exact h1
         ·refine(HU.o.rt.gr Y.o).touch Zo.o (λh=>?_) (λh=>?_)
          ·exact(Xk.o _ h).elim (λh=>Xj.o r I.o.2.1 Ω (.inl h)) (λh=>by omega)
          ·exact(Xk.o _ h).elim Ux.o (λh=>by omega)
         ·rcases γ i j with h|h
          ·exact HU.o.q1 i h
          ·obtain rfl:i=j:=Ω
           rw[<-J.o.1,<-J.o.2];exact Xz.o
         ·rw[show q0+(j+1)=qq+1 by rw[J.o.1];omega]
          go_num
        case measure=>
         have h1:=Xz.o;have h2:=J.o.2;simp only[intOf];rw[show ((qq:Int)+1).toNat=qq+1 by omega,τ,ξc,ξy,<-h2];omega
       ·have e3:decide ((f:Int)+(nn:Int)<=(pp:Int))=false:=ψ Ω;have Zw:=hid Yy;clear Yy;gi_upto_region 19 with(refine⟨trivial,?_⟩;gi_at_call 126;refine(ζa.2 (Xi.o _ (Gr.refl wr))).mono ?_;rintro e Xd ⟨rfl,rfl⟩);obtain⟨Sx,G,HS⟩:=ZJV.start λW'=>W'.cell? ⟨w.heap.size,0,none⟩=some (.pointer (some ⟨q,0,none⟩))/\W'.cell? ⟨fb,0,none⟩=some (.pointer (some ⟨ff,0,none⟩));have x1:=ZJV.fact G λ_ h=>h.1;have x2:=ZJV.fact G λ_ h=>h.2;have Xa:=HS.o (wr.drew) (⟨u5,u15⟩);have Xh:Inhabited (ZJV Sx):=⟨⟨_,Xa⟩⟩;clear G;refine V0Y Sx 7 [([0,1,4],2),([3],5)] [6] JBz (by kernel_rfl) (by kernel_rfl) Xa ?_;refine QgQ ?_
        try simp only[XZy,ζ,ξ]
        repeat(go_big_quiet_step (fail))
        refine θ ?_;gi_wp2_with((refine⟨trivial,?_⟩;gi_at_call 126;refine(ζa.2 (Xi.o _ (Gr.refl wr).drew)).mono ?_;rintro e Xd ⟨rfl,rfl⟩));refine⟨.inr (ZJV.of (HS.o _ (⟨u5,u15⟩))),?_⟩;refine QgQ ?_
        try simp only[XZy,ζ,ξ]
        repeat(go_big_quiet_step (fail))
        refine θ ?_;gi_wp2_with((refine⟨trivial,?_⟩;gi_at_call 131;refine(ζa.2 (Xq.o _ (Gr.refl wr).drew)).mono ?_;rintro e Xd ⟨rfl,N⟩;have Y:=hid ((Gr.refl wr).drew.trans N);have z5:=(Xt.o.gr Y.o).cell (j:=0) rfl;have Ma:=(Xt.o.gr Y.o).lt;have Ym:=(Xr.o.gr Y.o).cell (j:=0) rfl;clear N));refine⟨.inr (ZJV.of (HS.o _ (⟨z5,Ym⟩))),?_⟩;refine X0q ?_
        try simp only[XZy,ζ,ξ]
        repeat(go_big_quiet_step (fail))
        refine θ ?_;refine β ?_;clear x1 x2 Xa Xh;clear HS Sx;clear u5 Zh u15 Zr Ym;gi_wp2;go_roundw
        case rel=>
         refine⟨j+1,⟨⟨HU.o.t.trans (Y.o.touch _),⟨Sj,Xk.o,?_⟩,HU.o.rt.gr Y.o,λi hi=>?_⟩⟩,?_⟩
         ·have h1:=Jk.o.gr Y.o
          have h2:¬qs<=qq:=λh=>Zw.o (by
           rw[J.o.2]
           exact(YmI Zb.1).2 (by rw[<-Jn.o];exact h))
          have e:q0+(j+1)-qs=q0+j-qs:=by have:=J.o.1;omega
          rw[e];exact h1
         ·rcases γ i j with h|h
          ·exact HU.o.q1 i h
          ·obtain rfl:i=j:=Ω
           rw[<-J.o.1,<-J.o.2];exact Xz.o
         ·rw[show q0+(j+1)=qq+1 by rw[J.o.1];omega]
          go_num
        case measure=>
         have h1:=Xz.o;have h2:=J.o.2;simp only[intOf];rw[show ((qq:Int)+1).toNat=qq+1 by omega,τ,ξc,ξy,<-h2];omega
      ·have e1:decide ((pp:Int)<(t:Int))=false:=ψ Ω;have e2:decide (pp<t)=false:=ψ Xy;have Xz:=hid Xy;clear Xy
       gi_wp2_with(first
        | (refine⟨trivial,?_⟩;gi_at_call 126;refine(ζa.2 (Xi.o _ (Gr.refl wr))).mono ?_;rintro e Xd ⟨rfl,rfl⟩)
        | (refine⟨trivial,?_⟩;gi_at_call 131;refine(ζa.2 (Xq.o _ (Gr.refl wr))).mono ?_;rintro e Xd ⟨rfl,N⟩;have Y:=hid N;clear N))
       have Vz:Xd.heap[D]?=some (.deferred (some [])):=by
        have h1:=HU.o.t.size;rw[Y.o.block (by have:=Xx.o.2.1;omega),HU.o.t.block D (by have:=Xx.o.2.1;omega) Xx.o.2.2.2];exact Me.o
       refine⟨by simp,.inl ⟨_,_,rfl,run_takeDeferred Vz,?_⟩⟩;have tt:=Vx3 Xd D (.deferred none);have hd:=Xx.o;have h8x:=HU.o.t.size;refine⟨.tuple #[.int .i64 ((f:Int)+(nn:Int)),.int .i64 0],?_,?_,.inr ⟨Yg.o,.inr ⟨L,f,t,HI.o,rfl,rfl,.inr ⟨Js.o.symm,?_,v1,v2,j,⟨Uz.o,Yw.o,Ud.o,?_,?_⟩,?_,?_⟩⟩⟩⟩
       ·simp[results,f87,go_sem]
       ·have a1:=Yk.o.trans (Yv.o.touch S)
        have a2:=a1.trans' Vx.o (λb hb h=>by
         rcases h with h|h
         ·rcases(Xb.o b h).1 with h'|h'
          ·exact h'.1
          ·omega
         ·omega)
        have a3:=(a2.mono (T:=λb=>b=g\/S b) (λ_ _ h=>.inr h)).trans (Xv.o.mono (λi _ h=>.inl h))
        have a4:=a3.trans' HU.o.t (λb hb h=>by
         rcases(Xb.o b h).1 with h'|h'
         ·exact .inr h'.1
         ·omega)
        exact(a4.trans (Y.o.touch _)).trans' tt (λb hb h=>by omega)
       ·rw[<-Ya.o];push_cast;rfl
       ·intro i hi;rw[<-Yt.o,<-Jl.o];exact HU.o.q1 i hi
       ·rw[<-Yt.o,<-Jl.o,<-J.o.1,<-J.o.2];have:=Xz.o;omega
       ·unfold VYG;rw[<-Ya.o,<-Yt.o,<-Jn.o,<-Jl.o];refine((Jk.o.gr Y.o).touch tt (λb hb _ h=>?_)).mono (λb hb=>?_)
        ·rcases Xk.o b hb with h'|h'
         ·exact hd.2.2.2 (h▸h')
         ·omega
        ·rcases Xk.o b hb with h'|h'
         ·exact(Xb.o b h').1.imp (λh=>h.1) (λh=>by omega)
         ·right;omega
       ·exact(HU.o.rt.gr Y.o).touch tt (λh=>by omega) (λh=>hd.2.2.1 h.symm)
   ·have d0:(E !=0)=true:=by simpa using Ze
    have Uj:=hid Ze;clear Ze;gi_wp2;refine⟨.tuple #[.int .i64 0,.int .i64 E],?_,Yk.o.mono (λi _ h=>.inr h),.inr ⟨Yg.o,.inr ⟨L,f,t,HI.o,rfl,rfl,.inl ⟨?_,?_,?_,Ve.o⟩⟩⟩⟩
    ·simp[results,f87,go_sem]
    ·rw[<-Ya.o,<-HE.o];exact Uj.o
    ·rw[<-Ya.o,<-HE.o]
    ·have hF:J5L v f ((f+nn:Nat):Int)=[]:=by unfold J5L;rw[ϑ (λh=>Uj.o (HE.o.trans h.1))]
     obtain⟨v',hg,hv⟩:=Zq.o;rw[<-Yd.o,hF]at hg;have h1:=Yi.o.size;have h2:=(Xe.o.trans Xg.o).size;exact⟨v',hg,hv.mono (λb hb=>hb.elim (λh=>.inl h.1.1) (λh=>.inr Ω))⟩
  ·have Uv:=hid Vc;clear Vc;gi_wp2;refine⟨.tuple #[.int .i64 0,.int .i64 25],?_,?_,.inr ⟨Yg.o,.inl ⟨Uv.o,rfl,?_,?_⟩⟩⟩
   ·simp[results,f87,go_sem]
   ·exact(V.o.touch _).trans (Yi.o.mono (λi _ h=>.inr h.1))
   ·exact Uw.o.mono (λb h=>h.1.1)
   ·exact Vg.o
 ·obtain rfl:ce=5:=by rw[Ua.o,ϑ Xm]
  have Yg:=hid Xm;clear Xm;gi_wp2_with(refine⟨trivial,?_⟩;gi_at_call 128;refine(ζa.2 (Jh.o)).mono ?_;rintro e w1 ⟨rfl,rfl⟩);refine⟨.tuple #[.int .i64 0,.int .i64 5],?_,?_,.inl ⟨by simpa using Yg.o,rfl,?_,?_⟩⟩
  ·simp[results,f87,go_sem]
  ·exact V.o.touch _
  ·exact(HV.o.gr V.o).mono (λb h=>h.1)
  ·exact HR.o.gr V.o
end
end
section
open Go.RowKit Word
section
variable {w:World} {A0 A:Option Addr} {cp cr M:Nat} {v:Vm} {rs O:List Int} {L:List Ob}
end
def us(l:List Nat):List Value:=l.map λx=>.int .u64 (x:Nat)
section
variable {w:World} {A0 A:Option Addr} {cp cr M:Nat} {v:Vm} {rs O:List Int} {L:List Ob}
end
end
section
open Go.RowKit Word
theorem Qst{v v1:Vm}(h:ZAR v){f t:Nat}(_ht:t<=v.n)(hE:Jsl v f t=0)(hG:Ji4 v v1 (J5L v f t)){a:Nat}(ha:a<v.n):
  v1.ldE a=0↔v.ldE a=0\/(f<t/\f/v.pl.pg<=a/v.pl.pg/\a/v.pl.pg<=(t-1)/v.pl.pg):=by
 have hp:=h.page;rw[hG.ldE h ha];rcases γ f t with Z|Z
 ·have hF:J5L v f t=Jfy v ((f:Int)/v.pl.pg).toNat (XZs v f t):=by unfold J5L;rw[μ ⟨hE,by omega⟩]
  have e1:((f:Int)/(v.pl.pg:Int)).toNat=f/v.pl.pg:=by rw[<-ζM];exact τ _
  have e2:XZs v f t=(t-1)/v.pl.pg+1-f/v.pl.pg:=by
   unfold XZs;rw[show (t:Int)-1=((t-1:Nat):Int)by omega,<-ζM,<-ζM];have:f/v.pl.pg<=(t-1)/v.pl.pg:=ζc Ω;omega
  have g0:f/v.pl.pg<=(t-1)/v.pl.pg:=ζc Ω;rw[hF];have Y:a/v.pl.pg∈Jfy v ((f:Int)/v.pl.pg).toNat (XZs v f t)↔(f/v.pl.pg<=a/v.pl.pg/\a/v.pl.pg<f/v.pl.pg+((t-1)/v.pl.pg+1-f/v.pl.pg))/\v.pt.getD (a/v.pl.pg) 0=0:=by rw[YYE,e1,e2]
  by_cases h0:v.pt.getD (a/v.pl.pg) 0=0
  ·have hl:v.ldE a=12:=by rw[h.ldE_of ha,μ h0]
   rw[hl];constructor
   ·intro hx
    split at hx
    ·rename_i hc;have:=Y.1 hc;exact .inr ⟨Z,by omega⟩
    ·cases hx
   ·rintro(hx|hx)
    ·cases hx
    ·rw[μ (Y.2 ⟨by omega,h0⟩)]
  ·have hl:v.ldE a=0:=by rw[h.ldE_of ha,ϑ h0]
   rw[ϑ (λhc=>h0 (Y.1 hc).2),hl];exact⟨λ_=>.inl rfl,λ_=>rfl⟩
 ·have hF:J5L v f t=[]:=by unfold J5L;rw[ϑ (λhc=>by have:=hc.2;omega)]
  rw[hF,ϑ (by simp)];exact⟨.inl,λhx=>hx.elim id (λhx=>by omega)⟩
section
variable {v v1 v2:Vm} {rs:List Int} {f t j:Nat} {L:List Ob}
theorem JyP.base(d:JyP v rs f t L v1 v2 j):(VYG v v2 f (f+sizes L) j).n=v.n/\(VYG v v2 f (f+sizes L) j).pl.pg=v.pl.pg/\(VYG v v2 f (f+sizes L) j).pl.rm=v.pl.rm/\ZAR (VYG v v2 f (f+sizes L) j)/\v2.n=v.n/\v2.pl.pg=v.pl.pg:=by
 obtain⟨e1,e2,e3,-⟩:=Jow v2 (Ym5 (f+sizes L) v.pl.pg) (f/v.pl.pg+j-Ym5 (f+sizes L) v.pl.pg);have n2:v2.n=v.n:=d.st.sm.n.trans d.gr.n;have p2:v2.pl.pg=v.pl.pg:=d.st.sm.pg.trans d.gr.pg;exact⟨e1.trans n2,e2.trans p2,e3.trans (d.st.sm.rm.trans d.gr.rm),JjA d.st.ok _ _,n2,p2⟩
theorem JyP.ldE(d:JyP v rs f t L v1 v2 j)(h:ZAR v)(hE:Jsl v f ((f+sizes L:Nat):Int)=0)(hn:f+sizes L<=v.n){a:Nat}(ha:a<v.n):
  (VYG v v2 f (f+sizes L) j).ldE a=0↔(v.ldE a=0\/(0<sizes L/\f/v.pl.pg<=a/v.pl.pg/\a/v.pl.pg<=(f+sizes L-1)/v.pl.pg))/\¬(Ym5 (f+sizes L) v.pl.pg<=a/v.pl.pg/\a/v.pl.pg<f/v.pl.pg+j):=by
 obtain⟨-,-,-,-,n2,p2⟩:=d.base;have h1:=Qst h hn hE d.gr ha;unfold VYG;rw[X0U d.st.ok _ _ (by rw[n2];exact ha),p2,d.st.sm.ldE];rw[show (0<sizes L/\f/v.pl.pg<=a/v.pl.pg/\a/v.pl.pg<=(f+sizes L-1)/v.pl.pg)↔(f<f+sizes L/\f/v.pl.pg<=a/v.pl.pg/\a/v.pl.pg<=(f+sizes L-1)/v.pl.pg)from⟨λh=>⟨by omega,h.2⟩,λh=>⟨by omega,h.2⟩⟩];rw[<-h1];by_cases hx:Ym5 (f+sizes L) v.pl.pg<=a/v.pl.pg/\a/v.pl.pg<Ym5 (f+sizes L) v.pl.pg+(f/v.pl.pg+j-Ym5 (f+sizes L) v.pl.pg)
 ·rw[μ hx];exact⟨(λh=>by cases h),λh=>absurd (show Ym5 (f+sizes L) v.pl.pg<=a/v.pl.pg/\a/v.pl.pg<f/v.pl.pg+j by omega) h.2⟩
 ·rw[ϑ hx];exact⟨λh=>⟨h,λh'=>hx Ω⟩,λh=>h.1⟩
theorem JyP.ldV(d:JyP v rs f t L v1 v2 j){a:Nat}(ha:a<v.n)(hl:¬(Ym5 (f+sizes L) v.pl.pg<=a/v.pl.pg/\a/v.pl.pg<f/v.pl.pg+j)):(VYG v v2 f (f+sizes L) j).ldV a=v2.ldV a:=by
 obtain⟨-,-,-,-,n2,p2⟩:=d.base;exact VIn d.st.ok _ _ (by rw[n2];exact ha) (by rw[p2];omega)
theorem JyP.word(d:JyP v rs f t L v1 v2 j)(h:ZAR v)(hn:f+sizes L<=v.n){i:Nat}(hi:i<sizes L):(VYG v v2 f (f+sizes L) j).ldV ((f+i:Nat):Int)=(QRw v1 L f L).getD i 0:=by
 have hp:=h.page
 rw[d.ldV Ω (λhx=>by
  have h1:=(YmI (nt:=f+sizes L) (pg:=v.pl.pg) hp.1).2 hx.1;have:=ζm (f+i) v.pl.pg
  omega)]
 exact d.st.row i hi
end
theorem VRx{q0 pg tp j:Nat}(h1:∀i,i<j->(q0+i)*pg<tp)(h2:tp<=(q0+j)*pg)(q:Nat)(hq:q0<=q):q<q0+j↔q*pg<tp:=by
 constructor
 ·intro h;have:=h1 (q-q0) Ω
  rwa [show q0+(q-q0)=q by omega]at this
 ·intro h;rcases γ q (q0+j)with h'|h'
  ·exact h'
  ·exfalso;have:=ζl pg h';omega
end
section
open Go.RowKit Word
theorem Qx9(L:List Ob){i j:Nat}(h:i<=j):sizes (L.take i)<=sizes (L.take j):=by
 induction j with
 | zero=>rw[ψE.1 h];exact π _
 | succ j ih=>
  rcases γ j i with h'|h'
  ·obtain rfl:i=j+1:=Ω
   exact π _
  ·refine ζb (ih h') ?_;rcases γ j L.length with hj|hj
   ·rw[Qsm hj];omega
   ·rw[ψb Ω,ψb Ω];exact π _
structure Vpy(u a:Vm)(rs:List Int)(L:List Ob)(f n:Nat):Prop where
 mks:Zx6 u rs n L
 un:u.n=n
 ok:ZAR u
 f1:1<=f
 top:f+sizes L<=n
 n2:n<=524288
 ge:∀o∈L,f<=o.1
 ld:∀i,i<sizes L->a.ldE ((f+i:Nat):Int)=0
 wd:∀i,i<sizes L->a.ldV ((f+i:Nat):Int)=(QRw u L f L).getD i 0
section
variable {u a:Vm} {rs:List Int} {L:List Ob} {f n:Nat}
theorem Vpy.to(h:Vpy u a rs L f n){b:Int}(hb:Hs L b):∃j,∃hj:j<L.length,(L[j].1:Int)=b/\toV L f b=((f+sizes (L.take j):Nat):Int):=by
 obtain⟨o,ho,he⟩:=hb;obtain⟨j,hj,rfl⟩:=ζt ho;refine⟨j,hj,he,?_⟩;have h1:=(h.mks.mkd.good.sz _ (χ hj)).1;have:=(YXt h.mks.mkd.good (base:=f) hj (a:=b) Ω Ω).1;rw[this];omega
theorem Vpy.zero(h:Vpy u a rs L f n):toV L f 0=0:=by
 have hn:¬ZH8 L 0<L.length:=λhx=>by
  have h1:=JBb hx;have h2:=h.ge _ (χ hx);have:=h.f1;omega
 exact(YPG hn).1
theorem Vpy.word(h:Vpy u a rs L f n){j m:Nat}(hj:j<L.length)(hm:m<L[j].2):a.ldE ((f+sizes (L.take j)+m:Nat):Int)=0/\a.ldV ((f+sizes (L.take j)+m:Nat):Int)=pkW u L f L[j].1 m:=by
 have h2:=VfC hj;have e:f+sizes (L.take j)+m=f+(sizes (L.take j)+m):=Ω
 rw[e];exact⟨h.ld _ Ω,by rw[h.wd _ Ω,Ywe u L f L hj hm]⟩
end
end
section
open Go.RowKit Word
theorem QDj{u a:Vm}{rs:List Int}{L:List Ob}{f n:Nat}(h:Vpy u a rs L f n):XhE u a (Rch u rs) (toV L f) f (f+sizes L):=by
 have hM:=h.mks;have hn2:=h.n2;have Y:∀{j:Nat} (hj:j<L.length),u.osz ((L[j].1:Nat):Int)=(L[j].2:Nat):=λhj=>((hM.mkd.ats _ (χ hj)).2.2).symm;refine⟨h.zero,λb hb m hm=>?_,λb hb=>?_,λb b' hb hb'=>?_⟩
 ·obtain⟨j,hj,rfl,e⟩:=h.to (hM.all _ hb);rw[Y hj]at hm;obtain⟨x1,x2⟩:=h.word hj (m:=m) Ω;rw[e,show ((f+sizes (L.take j):Nat):Int)+(m:Int)=((f+sizes (L.take j)+m:Nat):Int)by omega];refine⟨x1,?_⟩;rw[x2,YfZ u L f L[j].1 m rfl,show ((L[j].1:Nat):Int)+(m:Int)=((L[j].1+m:Nat):Int)by omega];by_cases hT:1<=m/\(m:Int)<=(u.rdH ((L[j].1:Nat):Int)).p
  ·rw[μ hT];by_cases h0:u.ldV ((L[j].1+m:Nat):Int)=0
   ·rw[ϑ (λhh=>hh.2 h0),h0];exact h.zero.symm
   ·rw[μ ⟨hT,h0⟩];have:=ZEN hM.mkd.good Ω f (u.ldV ((L[j].1+m:Nat):Int):Nat);omega
  ·rw[ϑ hT,ϑ (λhh=>hT hh.1)]
 ·obtain⟨j,hj,rfl,e⟩:=h.to (hM.all _ hb);have h1:=VfC hj;rw[e,Y hj];omega
 ·obtain⟨j,hj,rfl,e⟩:=h.to (hM.all _ hb);obtain⟨i,hi,rfl,e'⟩:=h.to (hM.all _ hb');have s1:=Qsm hj;have s2:=Qsm hi;rw[e,e',Y hj,Y hi];rcases ζW j i with hl|hl|hl
  ·have:=Qx9 L (show j+1<=i by omega);exact .inr (.inl Ω)
  ·subst hl;exact .inl rfl
  ·have:=Qx9 L (show i+1<=j by omega);exact .inr (.inr Ω)
end
section
open Go.RowKit Word
structure ShA(base top:Nat)(v:Vm):Prop where
 ok:ZAR v
 al:base%v.pl.pg=0
 bt:base<=top/\top<=v.n
 pg:∀a:Nat,a<v.n->(v.ldE a=0↔base<=a/\a/v.pl.pg*v.pl.pg<top)
section
variable {v v1 v2 v':Vm} {base top W:Nat}
theorem ShA.ld(h:ShA base top v){a:Nat}(h1:base<=a)(h2:a<top):v.ldE a=0:=(h.pg a (by have:=h.bt;omega)).2 ⟨h1,ξL (ζm _ _) h2⟩
theorem Vod{b p g:Nat}(hg:1<=g)(hb:b%g=0):b<=p*g↔b/g<=p:=by
 have h1:=ζx b g;rw[hb,ξj,ζJ]at h1;constructor
 ·intro h;exact Nat.le_of_mul_le_mul_right Ω (show 0<g by omega)
 ·intro h;have:=ζl g h;omega
theorem ShA.map(h:ShA base top v){p:Nat}(hp:p<v.pt.length):v.pt.getD p 0≠0↔base/v.pl.pg<=p/\p*v.pl.pg<top:=by
 have Y:=h.ok.page.1
 have hn:p*v.pl.pg<v.n:=by
  have h1:=h.ok.np;have h2:=Nat.mul_lt_mul_of_pos_right hp (show 0<v.pl.pg by omega);omega
 have h1:=h.pg _ hn;have e:p*v.pl.pg/v.pl.pg=p:=ξK _ Ω;rw[h.ok.ldE_of hn,e,Vod Y h.al]at h1;rw[<-h1];constructor
 ·intro hh;rw[ϑ hh]
 ·intro hh e2;rw[μ e2]at hh;cases hh
theorem Y5B{base W top p g:Nat}(hg:1<=g)(h1:base%g=0)(h2:W%g=0)(ht:top<=base+W)(hp:p*g<top):p<base/g+W/g:=by
 have e1:=ζx base g;have e2:=ζx W g;rw[h1,ξj,ζJ]at e1;rw[h2,ξj,ζJ]at e2;refine Nat.lt_of_mul_lt_mul_right (a:=g) ?_;rw[ξc];omega
theorem ShA.used(h:ShA base top v)(hW:W%v.pl.pg=0)(ht:top<=base+W):v.pl.used<=W/v.pl.pg:=by
 have Y:=h.ok.page.1;rw[h.ok.us];refine ζb (Vj4 (g:=λp=>decide (base/v.pl.pg<=p/\p<base/v.pl.pg+W/v.pl.pg)) λp hp hh=>?_) (ζb (ZH7 _ _ _) (Nat.le_of_eq (ξS ..)));rw[ψd,h.map hp]at hh;exact κ ⟨hh.1,Y5B Y h.al hW ht hh.2⟩
theorem ShA.need(h:ShA base top v){n:Nat}(hn:1<=n)(hW:W%v.pl.pg=0)(ht:top+n<=base+W)(hb:base+W<=v.n)(hrm:W/v.pl.pg<=v.pl.rm):Jsl v top ((top+n:Nat):Int)=0:=by
 have J:=h.ok.page.1;have V:=h.bt;obtain⟨p0,Y⟩:∃p0,p0=top/v.pl.pg:=⟨_,rfl⟩;obtain⟨p1,Z⟩:∃p1,p1=(top+n-1)/v.pl.pg:=⟨_,rfl⟩;have hp01:p0<=p1:=by rw[Y,Z];exact ζc Ω
 have hp1l:p1<v.pt.length:=by rw[Z];exact(h.ok.split (a:=top+n-1) Ω).1
 have eA:((top:Int)/(v.pl.pg:Int)).toNat=p0:=by
  rw[show (top:Int)/(v.pl.pg:Int)=((top/v.pl.pg:Nat):Int)from rfl,τ,Y]
 have eB:XZs v top ((top+n:Nat):Int)=p1+1-p0:=by
  unfold XZs;rw[show ((top+n:Nat):Int)-1=((top+n-1:Nat):Int)by omega,show ((top+n-1:Nat):Int)/(v.pl.pg:Int)=(((top+n-1)/v.pl.pg:Nat):Int)from rfl,show (top:Int)/(v.pl.pg:Int)=((top/v.pl.pg:Nat):Int)from rfl,<-Y,<-Z];omega
 unfold Jsl;rw[ϑ Ω,ϑ Ω,eA,eB,μ];rw[<-Y0i h.ok Ω];refine ζb (Vj4 (g:=λp=>decide (base/v.pl.pg<=p/\p<base/v.pl.pg+W/v.pl.pg)) λp hp hh=>?_) (ζb (ZH7 _ _ _) (ζb (Nat.le_of_eq (ξS ..)) hrm));rw[ζY,ψd,ζe]at hh;refine κ ?_;rcases hh with hh|hh
 ·rw[h.map hp]at hh;exact⟨hh.1,Y5B J h.al hW Ω hh.2⟩
 ·have h1:base/v.pl.pg<=p0:=by rw[Y];exact ζc V.1
  refine⟨by omega,Y5B J h.al hW ht ?_⟩;have h2:=ζl v.pl.pg (show p<=p1 by omega);have h3:=ζm (top+n-1) v.pl.pg;rw[<-Z]at h3;omega
theorem ShA.alloc(h:ShA base top v){p f k n:Nat}(hs255:p+f+k<=255)(hn:n=1+p+f+k)(h0:0<top)(hle:top+n<=v.n)(he:Jsl v top ((top+n:Nat):Int)=0)(hG:Ji4 v v1 (J5L v top ((top+n:Nat):Int))):
  Y3I v1 top ⟨p,f,k⟩=0/\ShA base (top+n) (mkVm v1 top ⟨p,f,k⟩)/\Z1d v1 (mkVm v1 top ⟨p,f,k⟩)/\(∀a:Nat,a<top->(mkVm v1 top ⟨p,f,k⟩).ldV a=v.ldV a)/\(mkVm v1 top ⟨p,f,k⟩).ldV top=YsO p f k/\∀i:Nat,i<p+f+k->(mkVm v1 top ⟨p,f,k⟩).ldV ((top+1+i:Nat):Int)=0:=by
 have Z:=h.ok.page.1;have J:=h.bt
 have hl:∀a:Nat,a<v.n->(v1.ldE a=0↔base<=a/\a/v.pl.pg*v.pl.pg<top+n):=λa ha=>by
  rw[Qst h.ok hle he hG ha,h.pg a ha];have q1:=ζm a v.pl.pg;have q2:=ζx a v.pl.pg;have q3:=ξC a (show 0<v.pl.pg by omega);rw[ζJ]at q2;constructor
  ·rintro(⟨a1,a2⟩|⟨-,a1,a2⟩)
   ·exact⟨a1,by omega⟩
   ·have h1:base/v.pl.pg<=a/v.pl.pg:=ζb (ζc J.1) a1;have h2:=(Vod Z h.al).2 h1;have h3:=ζl v.pl.pg a2;have h4:=ζm (top+n-1) v.pl.pg;exact⟨by omega,by omega⟩
  ·rintro⟨a1,a2⟩;rcases γ (a/v.pl.pg*v.pl.pg) top with h1|h1
   ·exact .inl ⟨a1,h1⟩
   ·refine .inr ⟨by omega,?_,?_⟩
    ·exact ζc Ω
    ·rw[ζ3 Ω];omega
 obtain⟨m1,m2⟩:=JER (v:=v1) hG.ok (t:=top) (p:=p) (f:=f) (c:=k) h0 hs255 (λj hj=>by
  rw[show (top:Int)+(j:Int)=((top+j:Nat):Int)by omega]
  exact(hl _ Ω).2 ⟨by omega,by have:=ζm (top+j) v.pl.pg;omega⟩)
 have Y:Z1d v1 (mkVm v1 top ⟨p,f,k⟩):=(Z1d.refl hG.ok).mkVm _ _;refine⟨m1,⟨Y.ok,by rw[Y.sm.pg,hG.pg];exact h.al,⟨by omega,by rw[Y.sm.n,hG.n];exact hle⟩,λa ha=>?_⟩,Y,λa ha=>?_,?_,λi hi=>?_⟩
 ·rw[Y.sm.n,hG.n]at ha;rw[Y.sm.ldE,Y.sm.pg,hG.pg];exact hl a ha
 ·rw[m2,ϑ Ω,ϑ Ω];exact hG.ldV_all h.ok Ω
 ·rw[m2,μ rfl]
 ·rw[m2,ϑ Ω,μ Ω]
theorem HpA.shut{s:Sl}{u:Vm}(hO:ZEw s v)(h:HpA top u s v)(hall:∀i,i<sizes s.L->s.is i=true):ShA s.cf.to top v/\∀a:Nat,s.cf.to<=a->a<top->v.ldE a=0/\v.ldV a=u.ldV a:=by
 obtain⟨h1,h2⟩:=h.done hO hall;have hs:=hO.st;have Y:=hO.mid.pg;have Z:=hs.pg.1;have hlm:=h.lm;refine⟨⟨hO.mid.ok,by rw[Y];exact hs.cf.at_,⟨by omega,by have:=hs.cf.ln;rw[hO.mid.n];omega⟩,λa ha=>?_⟩,h2⟩;rw[hO.mid.ok.ldE_of ha,Y];have h3:=h1 (a/s.pg) (by rw[<-Y];exact(hO.mid.ok.split ha).1);have q1:=ζm a s.pg;have q2:=ζx a s.pg;have q3:=ξC a (show 0<s.pg by omega);rw[ζJ]at q2;constructor
 ·intro hh;have J:v.pt.getD (a/s.pg) 0≠0:=λe=>by rw[μ e]at hh;cases hh
  obtain⟨b,b1,b2,b3⟩:=h3.1 J;have h4:s.cf.to/s.pg<=a/s.pg:=by rw[<-b3];exact ζc b1
  have h5:=(Vod Z hs.cf.at_).2 h4;have h6:=ζm b s.pg;rw[b3]at h6;exact⟨by omega,by omega⟩
 ·rintro⟨a1,a2⟩;have h4:s.cf.to<=a/s.pg*s.pg:=(Vod Z hs.cf.at_).2 (ζc a1);exact ϑ (h3.2 ⟨a/s.pg*s.pg,h4,a2,ξK _ Ω⟩)
end
end
section
open Go.RowKit Word
section
variable {v v1 v2 v':Vm} {base top W:Nat} {g:Gph} {F:Nat->Nat} {c:Cf} {L:List Ob} {rs:List Int}
theorem Img.grown(h:Img v g F base top)(hv:ZAR v)(hG:∃E,Ji4 v v1 E)(ht:top<=v.n):Img v1 g F base top:=by
 obtain⟨E,hG⟩:=hG;refine h.mem λa h1 h2 hl=>⟨?_,hG.ldV_all hv Ω⟩
 rw[hG.ldE hv Ω]
 split
 ·rfl
 ·exact hl
theorem Img.roots(h:Img v g F base top){T:Int->Int}{lo hi:Nat}(hm:XhE v v' (Rch v (g.S.map λx=>(F x:Int))) T lo hi):(g.S.map λx=>(F x:Int)).map T=g.S.map λx=>(((T (F x)).toNat:Nat):Int):=by
 rw[List.map_map];refine ξR λx hx=>?_
 show T (F x)=_
 by_cases h0:x=0
 ·subst h0;rw[h.z]
  show T 0=_
  rw[show (((0:Nat):Int))=0 from rfl,hm.z];rfl
 ·have:=(hm.lo _ (h.rch_of (Gph.Rd.root hx h0))).1;omega
theorem ShA.needC(h:ShA base top v)(hW:W%v.pl.pg=0)(ht:top<=base+W){t0 N:Nat}(hto:t0%v.pl.pg=0)(hN:N<=W)(hb:t0+N<=v.n)(hrm:2*(W/v.pl.pg)<=v.pl.rm):Jsl v t0 ((t0+N:Nat):Int)=0:=by
 have J:=h.ok.page.1;have hbt:=h.bt;rcases ζE N with rfl|hN0
 ·unfold Jsl;rw[ϑ Ω,μ Ω]
 obtain⟨p0,Y⟩:∃p0,p0=t0/v.pl.pg:=⟨_,rfl⟩;obtain⟨p1,Z⟩:∃p1,p1=(t0+N-1)/v.pl.pg:=⟨_,rfl⟩;have hp01:p0<=p1:=by rw[Y,Z];exact ζc Ω
 have eA:((t0:Int)/(v.pl.pg:Int)).toNat=p0:=by
  rw[show (t0:Int)/(v.pl.pg:Int)=((t0/v.pl.pg:Nat):Int)from rfl,τ,Y]
 have eB:XZs v t0 ((t0+N:Nat):Int)=p1+1-p0:=by
  unfold XZs;rw[show ((t0+N:Nat):Int)-1=((t0+N-1:Nat):Int)by omega,show ((t0+N-1:Nat):Int)/(v.pl.pg:Int)=(((t0+N-1)/v.pl.pg:Nat):Int)from rfl,show (t0:Int)/(v.pl.pg:Int)=((t0/v.pl.pg:Nat):Int)from rfl,<-Y,<-Z];omega
 have hu:=h.used hW ht;have hl:=ZmX v p0 (p1+1-p0)
 have hp1W:p1<p0+W/v.pl.pg:=by
  rw[Y];refine Y5B J hto hW (show t0+N<=t0+W by omega) ?_;have:=ζm (t0+N-1) v.pl.pg;rw[<-Z]at this;omega
 unfold Jsl;rw[ϑ Ω,ϑ Ω,eA,eB,μ Ω]
theorem ShA.copied(h:ShA c.fr c.tp v)(hcf:VeB v.pl.pg v.n c)(hfit:c.to+sizes L<=c.lm)(hE:Jsl v c.to ((c.to+sizes L:Nat):Int)=0){k kq:Nat}(hD:Qgx v rs c L v1 v2 k kq):
  ShA c.to (c.to+sizes L) (umN v2 (c.fr/v.pl.pg) kq)/\(umN v2 (c.fr/v.pl.pg) kq).n=v.n/\(umN v2 (c.fr/v.pl.pg) kq).pl.pg=v.pl.pg/\(umN v2 (c.fr/v.pl.pg) kq).pl.rm=v.pl.rm/\∀a:Nat,c.to<=a->a<c.to+sizes L->¬(c.fr/v.pl.pg<=a/v.pl.pg/\a/v.pl.pg<c.fr/v.pl.pg+kq):=by
 have Y:=h.ok.page.1;have hln:=hcf.ln;have hlm:=hcf.lm;obtain⟨e1,e2,e3,-⟩:=Jow v2 (c.fr/v.pl.pg) kq;have n2:v2.n=v.n:=hD.st.cp.sm.n.trans hD.gr.n;have p2:v2.pl.pg=v.pl.pg:=hD.st.cp.sm.pg.trans hD.gr.pg;have hq:∀q,c.fr/v.pl.pg<=q->(q<c.fr/v.pl.pg+kq↔q*v.pl.pg<c.tp):=λq hq=>VRx hD.q1 hD.q2 q hq
 have Z:∀a:Nat,c.to<=a->a<c.lm->¬(c.fr/v.pl.pg<=a/v.pl.pg/\a/v.pl.pg<c.fr/v.pl.pg+kq):=λa a1 a2 hh=>by
  have h1:=(hq _ hh.1).1 hh.2;have h2:=(Vod Y hcf.af).2 hh.1;have h3:=ζm a v.pl.pg;have hu:=XSg (n:=c.tp) Y
  have hn:c.lm<=c.fr\/upN c.tp v.pl.pg<=c.to:=by
   have:=hcf.ap;omega
  rcases hn with e|e
  ·omega
  ·have h4:=(Vod (b:=c.to) Y hcf.at_).2 (ζc a1);omega
 refine⟨⟨JjA hD.st.cp.ok _ _,?_,⟨ζS _ _,?_⟩,λa ha=>?_⟩,e1.trans n2,e2.trans p2,e3.trans (hD.st.cp.sm.rm.trans hD.gr.rm),λa a1 a2=>Z a a1 Ω⟩
 ·rw[e2,p2];exact hcf.at_
 ·rw[e1,n2];omega
 ·rw[e1,n2]at ha;rw[e2,p2,X0U hD.st.cp.ok _ _ (by rw[n2];exact ha),p2,hD.st.cp.sm.ldE];have h1:=Qst h.ok Ω hE hD.gr ha;rw[h.pg a ha]at h1;have q1:=ζm a v.pl.pg;have q2:=ζx a v.pl.pg;have q3:=ξC a (show 0<v.pl.pg by omega);rw[ζJ]at q2;by_cases hx:c.fr/v.pl.pg<=a/v.pl.pg/\a/v.pl.pg<c.fr/v.pl.pg+kq
  ·rw[μ hx];refine⟨(λhh=>by cases hh),λ⟨a1,a2⟩=>absurd hx ?_⟩;have h4:=(Vod (b:=c.to) Y hcf.at_).2 (ζc a1);have:=Z (a/v.pl.pg*v.pl.pg) h4 Ω;rw[ξK _ (show 0<v.pl.pg by omega)]at this;exact this
  ·rw[ϑ hx,h1];constructor
   ·rintro(⟨a1,a2⟩|⟨a0,a1,a2⟩)
    ·have h2:c.fr/v.pl.pg<=a/v.pl.pg:=ζc a1;exact absurd ⟨h2,(hq _ h2).2 a2⟩ hx
    ·have h4:=(Vod (b:=c.to) Y hcf.at_).2 a1;have h5:=ζl v.pl.pg a2;have h6:=ζm (c.to+sizes L-1) v.pl.pg;exact⟨by omega,by omega⟩
   ·rintro⟨a1,a2⟩;refine .inr ⟨?_,ζc a1,?_⟩
    ·have h4:=(Vod (b:=c.to) Y hcf.at_).2 (ζc a1);omega
    ·rw[ζ3 Ω];omega
theorem ShA.packed(h:ShA base top v){j:Nat}(hfit:base+sizes L<=top)(hE:Jsl v base ((base+sizes L:Nat):Int)=0)(hD:JyP v rs base top L v1 v2 j):
  ShA base (base+sizes L) (VYG v v2 base (base+sizes L) j)/\(VYG v v2 base (base+sizes L) j).n=v.n/\(VYG v v2 base (base+sizes L) j).pl.pg=v.pl.pg/\(VYG v v2 base (base+sizes L) j).pl.rm=v.pl.rm:=by
 have Y:=h.ok.page.1;have hbt:=h.bt;obtain⟨b1,b2,b3,b4,-,-⟩:=hD.base;refine⟨⟨b4,by rw[b2];exact h.al,⟨ζS _ _,by rw[b1];omega⟩,λa ha=>?_⟩,b1,b2,b3⟩;rw[b1]at ha;rw[b2,hD.ldE h.ok hE Ω ha,h.pg a ha];have q1:=ζm a v.pl.pg;have q2:=ζx a v.pl.pg;have q3:=ξC a (show 0<v.pl.pg by omega);rw[ζJ]at q2;rw[<-YmI (nt:=base+sizes L) (pg:=v.pl.pg) (q:=a/v.pl.pg) Y];constructor
 ·rintro⟨h1|⟨a0,a1,a2⟩,h2⟩
  ·refine⟨h1.1,Nat.lt_of_not_le λh3=>h2 ⟨h3,(VRx hD.q1 hD.q2 _ (ζc h1.1)).2 h1.2⟩⟩
  ·have h4:=(Vod (b:=base) Y h.al).2 a1;have h5:=ζl v.pl.pg a2;have h6:=ζm (base+sizes L-1) v.pl.pg;exact⟨by omega,by omega⟩
 ·rintro⟨a1,a2⟩;exact⟨.inl ⟨a1,by omega⟩,λhh=>by omega⟩
theorem YxV(hv:ZAR v)(hM:Zx6 v rs v.n L)(hE:Jsl v base ((base+sizes L:Nat):Int)=0)(hn:base+sizes L<=v.n){j:Nat}(hD:JyP v rs base top L v1 v2 j):XhE v1 (VYG v v2 base (base+sizes L) j) (Rch v1 rs) (toV L base) base (base+sizes L):=by
 have hw:=hD.gr.wider hv;have Y:=hv.page;refine QDj (n:=v.n) ⟨hw.marks hM,hD.gr.n,hD.gr.ok,hD.cx.fr1,hn,hv.n2,λo ho=>(hD.cx.inn o ho).1,λi hi=>?_,λi hi=>hD.word hv hn hi⟩;refine(hD.ldE hv hE hn Ω).2 ⟨.inr ⟨by omega,ζc Ω,ζc Ω⟩,λhx=>?_⟩;have h1:=(YmI (nt:=base+sizes L) (pg:=v.pl.pg) Y.1).2 hx.1;have:=ζm (base+i) v.pl.pg;omega
end
end
section
open Go.RowKit Word
theorem XUb{v gv:Vm}{rs:List Int}{c:Cf}{L:List Ob}{n:Nat}(hM:Zx6 v rs n L)(hn:n<=524288)
  (hg:∀i,i<sizes L->gv.ldE ((c.to+i:Nat):Int)=0/\gv.ldV ((c.to+i:Nat):Int)=(V4X v c L).c i):XhE v gv (Rch v rs) (toV L c.to) c.to (c.to+sizes L):=by
 have hG:=hM.mkd.good
 have Y:∀{j:Nat} (hj:j<L.length),0<L[j].1/\v.osz ((L[j].1:Nat):Int)=(L[j].2:Nat):=λhj=>by
  obtain⟨-,h2,h3⟩:=hM.mkd.ats _ (χ hj);have:=(QXB h2).1;exact⟨by omega,h3.symm⟩
 have hz:toV L c.to 0=0:=by
  refine(YPG λhx=>?_).1;have h1:=JBb hx;have h2:=(Y hx).1;omega
 have Z:∀a,Rch v rs a->∃(j:Nat) (hj:j<L.length),(L[j].1:Int)=a/\toV L c.to a=((c.to+sizes (L.take j):Nat):Int):=λa ha=>by
  obtain⟨o,ho,he⟩:=hM.all a ha;obtain⟨j,hj,rfl⟩:=ζt ho;have hs:=(hG.sz _ (χ hj)).1;have:=(YXt hG (base:=(c.to:Int)) hj (a:=a) Ω Ω).1;exact⟨j,hj,he,by rw[this];omega⟩
 refine⟨hz,λb hb m hm=>?_,λb hb=>?_,λb b' hb hb'=>?_⟩
 ·obtain⟨j,hj,rfl,e⟩:=Z b hb;rw[(Y hj).2]at hm;have J:m<L[j].2:=Ω
  have hmid:=VfC hj;obtain⟨x1,x2⟩:=hg (sizes (L.take j)+m) Ω;rw[e,show ((c.to+sizes (L.take j):Nat):Int)+(m:Int)=((c.to+(sizes (L.take j)+m):Nat):Int)by omega];refine⟨x1,?_⟩
  have hc:(V4X v c L).c (sizes (L.take j)+m)=cvH L c.to (v.rdH ((L[j].1:Nat):Int)) m (v.ldV ((L[j].1+m:Nat):Int)):=by
   show cvH L c.to (v.rdH ((L.getD (XEF L (sizes (L.take j)+m)) (0,0)).1:Nat)) (sizes (L.take j)+m-sizes (L.take (XEF L (sizes (L.take j)+m)))) (v.ldV (Vjz L (sizes (L.take j)+m):Nat))=_
   rw[VNq hj J,YZF hj J,ξS,φ,δ hj];rfl
  rw[x2,hc,show ((L[j].1:Nat):Int)+(m:Int)=((L[j].1+m:Nat):Int)by omega];unfold cvH;by_cases hT:1<=m/\(m:Int)<=(v.rdH ((L[j].1:Nat):Int)).p
  ·rw[μ hT];by_cases h0:v.ldV ((L[j].1+m:Nat):Int)=0
   ·rw[ϑ (λhh=>hh.2 h0),h0];exact hz.symm
   ·rw[μ ⟨hT,h0⟩];have:=ZEN hG Ω c.to (v.ldV ((L[j].1+m:Nat):Int):Nat);omega
  ·rw[ϑ hT,ϑ (λhh=>hT hh.1)]
 ·obtain⟨j,hj,rfl,e⟩:=Z b hb;have h1:=VfC hj;rw[e,(Y hj).2];omega
 ·obtain⟨j,hj,rfl,e⟩:=Z b hb;obtain⟨i,hi,rfl,e'⟩:=Z b' hb';have s1:=Qsm hj;have s2:=Qsm hi;rw[e,e',(Y hj).2,(Y hi).2];rcases ζW j i with hl|hl|hl
  ·have:=Qx9 L (show j+1<=i by omega);exact .inr (.inl Ω)
  ·subst hl;exact .inl rfl
  ·have:=Qx9 L (show i+1<=j by omega);exact .inr (.inr Ω)
end
section
open Go.RowKit Word
def rnL(q base top lim:Nat):List Value:=[.pointer (some ⟨q,0,none⟩),.int .i64 base,.int .i64 top,.int .i64 lim]
abbrev Joi(w:World)(rn q base top lim:Nat):Prop:=Rec w rn 154 (rnL q base top lim)
section
variable {w:World} {S:Nat->Prop} {q rn base top lim:Nat} {v:Vm}
theorem YN8(hV:QXZ w S q v)(hn:v.n≠0)(h1:base<=lim)(h2:lim<=v.n):Calls prog 42 #[.pointer (some ⟨q,0,none⟩),.int .i64 base,.int .i64 lim] w λe w'=>∃rn,e=.returned (.tuple #[.pointer (some ⟨rn,0,none⟩),.int .i64 0])/\Gr w w'/\w.heap.size<=rn/\Joi w' rn q base base lim:=by
 have HW:=hid (Xwn hV);have hn2:=hV.ok.n2;have d0:((v.n:Int)==0)=false:=by simp;omega
 have d1:decide ((base:Int)<0)=false:=ψ Ω;have d2:decide ((lim:Int)<(base:Int))=false:=ψ Ω;have d3:decide ((v.n:Int)<(lim:Int))=false:=ψ Ω;have HR:=hid (Rec.new w 154 (rnL q base base lim));clear hV;go_enter func42,ntmps42;go_wp2_with(go_at_call 52;refine JmE (HW.o) ?_);go_ret2;exact⟨w.heap.size,rfl,(Gr.refl w).alloc _,π _,HR.o⟩
theorem JWq(h:Joi w rn q base top lim):Calls prog 136 #[.pointer (some ⟨rn,0,none⟩)] w λe w'=>e=.returned (.bool false)/\w=w':=by
 have c0:=h.cc 0;clear h;go_enter func136,ntmps136;go_wp2;go_ret;exact⟨rfl,rfl⟩
theorem JFl(h:Joi w rn q base top lim):Calls prog 88 #[.pointer (some ⟨rn,0,none⟩)] w λe w'=>e=.returned (.int .i64 base)/\w=w':=by
 have HN:=hid (JWq h);have c0:=h.cc 1;clear h;go_enter func88,ntmps88;go_wp2_with(go_at_call 136;refine JmE (HN.o) ?_);go_ret;exact⟨rfl,rfl⟩
theorem Vkj(h:Joi w rn q base top lim):Calls prog 89 #[.pointer (some ⟨rn,0,none⟩)] w λe w'=>e=.returned (.int .i64 top)/\w=w':=by
 have HN:=hid (JWq h);have c0:=h.cc 2;clear h;go_enter func89,ntmps89;go_wp2_with(go_at_call 136;refine JmE (HN.o) ?_);go_ret;exact⟨rfl,rfl⟩
theorem JDi(h:Joi w rn q base top lim){t:Nat}(h1:base<=t)(h2:t<=lim):Calls prog 90 #[.pointer (some ⟨rn,0,none⟩),.int .i64 t] w λe w'=>e=.returned (.int .i64 0)/\XF4 (λk=>k=rn) w w'/\Joi w' rn q base t lim:=by
 have HN:=hid (JWq h);have c1:=h.cc 1;have c2:=h.cc 2;have c3:=h.cc 3;have cf:=h.free 2;have cl:=h.lt;have HS:=hid (h.set 2 (.int .i64 t));have HT:Hid (XF4 (λk=>k=rn) w (w.setCell ⟨rn,2,none⟩ (.int .i64 t))):=⟨(XF4.refl (λk=>k=rn) w).setCell (a:=⟨rn,2,none⟩) (λ_=>rfl) _⟩;have d1:decide ((t:Int)<(base:Int))=false:=ψ Ω;have d2:decide ((lim:Int)<(t:Int))=false:=ψ Ω;clear h;go_enter func90,ntmps90;go_wp2_with(go_at_call 136;refine JmE (HN.o) ?_);go_ret;exact⟨rfl,HT.o,HS.o⟩
def VhE(w:World)(S:Nat->Prop)(q rn base top lim n:Nat)(v:Vm)(e:Ending)(w':World):Prop:=
 (lim<top+n/\e=.returned (.tuple #[.int .i64 0,.int .i64 21])/\Gr w w') ∨
 (top+n<=lim/\e=.returned (.tuple #[.int .i64 top,.int .i64 0])/\XF4 (λk=>k=rn\/S k) w w'/\Y1U w' (plus S w) q v (J5L v top ((top+n:Nat):Int))/\Joi w' rn q base (top+n) lim)
theorem Xej(h:Joi w rn q base top lim)(hV:QXZ w S q v)(hS:¬S rn){n:Nat}(hn:1<=n)(htl:top<=lim)(hlv:lim<=v.n)(hE:top+n<=lim->Jsl v top ((top+n:Nat):Int)=0):Calls prog 103 #[.pointer (some ⟨rn,0,none⟩),.int .i64 n] w (VhE w S q rn base top lim n v):=by
 have HN:=hid (JWq h);have hn2:=hV.ok.n2;have c0:=h.cc 0;have c2:=h.cc 2;have c3:=h.cc 3;have cl:=h.lt;have d0:decide ((n:Int)<1)=false:=ψ Ω;rcases γ lim (top+n)with G|E
 ·have d1:decide ((lim:Int)-(top:Int)<(n:Int))=true:=κ Ω;have HL:=hid G;clear h hV hE hn G;go_enter func103,ntmps103;go_upto_region 5 with(go_at_call 136;refine JmE (HN.o) ?_);go_quiet (fail);go_wp2;go_ret2;exact .inl ⟨HL.o,rfl,(Gr.refl w).drewN _⟩
 ·have d1:decide ((lim:Int)-(top:Int)<(n:Int))=false:=ψ Ω;have Z:=hid (λ(W:World) (g:Gr w W)=>VfQ (hV.gr g) top (top+n) Ω Ω);rw[hE E]at Z;have HL:=hid E;have HR:=hid h;have D:=hid hS;have e1:(((top+n:Nat)):Int)=(top:Int)+n:=Ω
  rw[e1]at Z;have I:=hid e1;clear h hV hE hS e1;go_enter func103,ntmps103;go_upto_region 5 with(go_at_call 136;refine JmE (HN.o) ?_);go_quiet (fail);go_upto_region 7 with(fail);clear c0 c2 c3;obtain⟨Sx,J,HS⟩:=ZJV.start λW'=>Joi W' rn q base top lim;have c0:=ZJV.fact J λ_ h=>h.cell (j:=0) rfl;have c2:=ZJV.fact J λ_ h=>h.cell (j:=2) rfl;have Y:=HS.o _ (HR.o.gr ((Gr.refl w).drewN nq).drew);have N:Inhabited (ZJV Sx):=⟨⟨_,Y⟩⟩;clear J;refine Vv2 Sx 16 [([0,1,2,3,4,5,6,7,8,9,10,11,12,13],14)] [15] (by kernel_rfl) (by kernel_rfl) Y ?_;refine XGW ?_
  try simp only[XZy,ζ,ξ]
  repeat(go_big_quiet_step (fail))
  refine θ ?_;go_wp2_with((go_at_call 122;refine(Z.o _ ((Gr.refl w).drewN _)).mono ?_;rintro e w2 ⟨rfl,ht,hg⟩;have HT:=hid ht;have HG:=hid hg;have r2:=(HR.o.gr ((Gr.refl w).drewN (nq+1))).touch ht D.o;have k2:=r2.cc 2;have kf:=r2.free 2;have V:=hid r2;clear ht hg r2));refine⟨.inr (ZJV.of (HS.o _ (V.o))),?_⟩;refine Z9U ?_
  try simp only[XZy,ζ,ξ]
  repeat(go_big_quiet_step (fail))
  refine θ ?_;refine β ?_;clear c0 c2 Y N;clear HS Sx;go_wp2;go_ret2;refine .inr ⟨HL.o,rfl,?_,?_,?_⟩
  ·exact((((Gr.refl w).drewN _).touch _).trans (HT.o.mono (λ_ _ h=>.inr h))).setCell (a:=⟨rn,2,none⟩) (λ_=>.inl rfl) _
  ·obtain⟨v',h1,h2⟩:=HG.o;rw[I.o];refine⟨v',h1,h2.touch ((XF4.refl (λk=>k=rn) _).setCell (a:=⟨rn,2,none⟩) (λ_=>rfl) _) (λk hk _ e=>?_)⟩;have:=HR.o.lt;rcases hk with hk|hk
   ·exact D.o (e▸hk)
   ·have:w.heap.size<=k:=hk;omega
  ·have:=V.o.set 2 (.int .i64 ((top:Int)+n))
   show Rec _ rn _ (rnL q base (top+n) lim)
   unfold rnL at this⊢;rw[I.o];exact this
end
end
section
open Go.RowKit Word
def XIV(l l':List Bool):Prop:=l'.length=l.length/\∀i,at_ l i=true->at_ l' i=true
theorem XIV.refl(l:List Bool):XIV l l:=⟨rfl,λ_ h=>h⟩
theorem XIV.trans{a b c:List Bool}(h:XIV a b)(k:XIV b c):XIV a c:=⟨k.1.trans h.1,λi hi=>k.2 i (h.2 i hi)⟩
theorem XIV.set(l:List Bool)(k:Nat):XIV l (l.set k true):=by
 refine⟨υ ..,λi hi=>?_⟩;rcases γ k l.length with h|h
 ·rw[QXV h]
  split
  ·rfl
  ·exact hi
 ·rw[List.set_eq_of_length_le h];exact hi
theorem XIV.step(l:List Bool):XIV l (V65 l):=by
 unfold V65
 split
 ·exact XIV.set _ _
 ·exact XIV.refl _
theorem XIV.run(A k n:Nat)(l:List Bool):XIV l (XwB A k n l):=by
 induction n generalizing l with
 | zero=>exact XIV.refl _
 | succ n ih=>
  unfold XwB
  split
  ·exact(XIV.step l).trans (ih _)
  ·exact XIV.refl _
theorem XIV.touch(A k:Nat)(l:List Bool):XIV l (Zz3 A k l):=by
 unfold Zz3
 split
 ·exact XIV.refl _
 ·exact(XIV.run A k k l).trans (XIV.set _ _)
theorem XIV.mvd{l l':List Bool}(h:XIV l l'):XRM l<=XRM l':=by
 unfold XRM;rw[h.1];exact Vj4 λi _ hi=>h.2 i hi
theorem Sl.tch_mono(s:Sl)(b:Int):XIV s.mv (s.tch b).mv:=by
 show XIV s.mv (if inF s.L s.cf.to b then Zz3 s.cf.ah ((b-s.cf.to).toNat/s.cf.bk) s.mv else s.mv)
 split
 ·exact XIV.touch _ _ _
 ·exact XIV.refl _
theorem Sl.lf_mono{s s':Sl}(h:XIV s.mv s'.mv):s'.lf<=s.lf:=by
 have h1:=h.mvd;have h2:=h.1
 show s'.mv.length-XRM s'.mv<=s.mv.length-XRM s.mv
 omega
theorem QGs{l:List Bool}(hf:ftL l<l.length):XRM (V65 l)=XRM l+1/\XRM l+1<=l.length:=by
 have hz:at_ l (ftL l)=false:=by
  have h1:(!at_ l (ftL l))=true:=JyT (λk=>!at_ l k) _ hf;simpa using h1
 have h1:=Jso hf hz;have h2:cnt (at_ (l.set (ftL l) true)) l.length<=l.length:=QMh _ _
 have h3:XRM (V65 l)=XRM l+1:=by
  unfold XRM V65;rw[μ hf,υ];exact h1
 refine⟨h3,?_⟩;unfold XRM;omega
theorem Sl.lf_step{s:Sl}(h:s.ft<s.mv.length):s.step.lf+1=s.lf:=by
 obtain⟨h1,h2⟩:=QGs (l:=s.mv) h
 show (V65 s.mv).length-XRM (V65 s.mv)+1=s.mv.length-XRM s.mv
 rw[Xb3,h1];omega
end
section
open Go.RowKit Word
structure HCf where
 kd:Nat
 pg:Nat
 bk:Nat
 wd:Nat
 sl:Nat
 st:Nat
 ah:Nat
 tr:Nat
def HCf.q(c:HCf):Nat:=max 1 (c.bk/c.pg)
def HCf.spare(c:HCf):Nat:=(c.ah+2)*(c.q+3)
def HCf.fr(c:HCf):Nat:=if c.kd=1 then c.wd/c.pg+c.spare else if c.kd=2 then 2*(c.wd/c.pg)else c.wd/c.pg
def HCf.n(c:HCf):Nat:=if c.kd=3 then c.pg+c.wd else c.pg+c.wd+c.wd
structure HCf.Ok(c:HCf):Prop where
 kd:1<=c.kd/\c.kd<=3
 pg:Jnk c.pg=true
 bk:Y1d c.bk=true
 wd:16<=c.wd/\c.wd<=131072
 dv:c.wd%c.pg=0
 pw:c.pg<=c.wd
 sl:1<=c.sl/\c.sl<=64
 st:1<=c.st/\c.st<=4096
 ah:c.ah<=16
 fr:c.fr<=4096
def X2H(c:HCf):List Value:=[.int .i64 c.kd,.int .i64 c.pg,.int .i64 c.bk,.int .i64 c.wd,.int .i64 c.sl,.int .i64 c.st,.int .i64 c.ah,.float .f64 c.tr]
def Jdq(c:HCf):Value:=.agg (X2H c).toArray
structure HAd where
 hp:Nat
 q:Nat
 r:Nat
 g:Nat
 rn:Nat
def hpL(c:HCf)(A:HAd)(cy:Option Nat)(cyc blk:Int):List Value:=
 [.int .i64 c.kd,.int .i64 c.pg,.int .i64 c.bk,.int .i64 c.wd,.int .i64 c.sl,.int .i64 c.st,.int .i64 c.ah,.float .f64 c.tr,
  .pointer (some ⟨A.q,0,none⟩),.pointer (some ⟨A.r,0,none⟩),.pointer (some ⟨A.rn,0,none⟩),.pointer (cy.map λy=>⟨y,0,none⟩),.int .i64 cyc,.int .i64 blk]
structure XL4(w:World)(X:Nat->Prop)(A:HAd)(c:HCf)(base top:Nat)(rs:List Int)(cy:Option Nat)(cyc blk:Int):Prop where
 row:Rec w A.hp 92 (hpL c A cy cyc blk)
 rn:Joi w A.rn A.q base top (base+c.wd)
 rt:V5d w A.r A.g rs
 tab:VRW w
 n1:A.hp≠A.r/\A.hp≠A.g/\A.hp≠A.rn/\A.hp≠1
 n2:A.r≠A.g/\A.r≠A.rn/\A.r≠1
 n3:A.g≠A.rn/\A.g≠1/\A.rn≠1
 x:¬X A.hp/\¬X A.r/\¬X A.g/\¬X A.rn/\¬X 1
section
variable {w w':World} {X S T:Nat->Prop} {A:HAd} {c:HCf} {base top:Nat} {rs:List Int} {cy:Option Nat} {cyc blk:Int}
theorem XL4.lt(h:XL4 w X A c base top rs cy cyc blk):A.hp<w.heap.size/\A.r<w.heap.size/\A.g<w.heap.size/\A.rn<w.heap.size/\1<w.heap.size:=⟨h.row.lt,h.rt.lt.1,h.rt.lt.2,h.rn.lt,h.tab.lt⟩
theorem XL4.touch(h:XL4 w X A c base top rs cy cyc blk)(t:XF4 T w w')(hT:¬T A.hp/\¬T A.r/\¬T A.g/\¬T A.rn/\¬T 1):XL4 w' X A c base top rs cy cyc blk:=
 ⟨h.row.touch t hT.1,h.rn.touch t hT.2.2.2.1,h.rt.touch t hT.2.1 hT.2.2.1,t.tab h.tab.lt hT.2.2.2.2 h.tab,h.n1,h.n2,h.n3,h.x⟩
theorem XL4.gr(h:XL4 w X A c base top rs cy cyc blk)(g:Gr w w'):XL4 w' X A c base top rs cy cyc blk:=h.touch (g.touch (λ_=>False)) ⟨id,id,id,id,id⟩
theorem XL4.mem(h:XL4 w X A c base top rs cy cyc blk)(t:XF4 X w w'):XL4 w' (plus X w) A c base top rs cy cyc blk:=by
 obtain⟨l1,l2,l3,l4,l5⟩:=h.lt;obtain⟨x1,x2,x3,x4,x5⟩:=h.x;have k:=h.touch t h.x;exact⟨k.row,k.rn,k.rt,k.tab,k.n1,k.n2,k.n3,λe=>e.elim x1 (λe=>by omega),λe=>e.elim x2 (λe=>by omega),λe=>e.elim x3 (λe=>by omega),λe=>e.elim x4 (λe=>by omega),λe=>e.elim x5 (λe=>by omega)⟩
theorem XL4.sub{X':Nat->Prop}(h:XL4 w X A c base top rs cy cyc blk)(hx:∀k,k<w.heap.size->X' k->X k):XL4 w X' A c base top rs cy cyc blk:=by
 obtain⟨l1,l2,l3,l4,l5⟩:=h.lt;obtain⟨x1,x2,x3,x4,x5⟩:=h.x;exact⟨h.row,h.rn,h.rt,h.tab,h.n1,h.n2,h.n3,λe=>x1 (hx _ l1 e),λe=>x2 (hx _ l2 e),λe=>x3 (hx _ l3 e),λe=>x4 (hx _ l4 e),λe=>x5 (hx _ l5 e)⟩
theorem XL4.root{rs':List Int}(h:XL4 w X A c base top rs cy cyc blk)(t:XF4 (λk=>k=A.g) w w')(hr:V5d w' A.r A.g rs'):XL4 w' X A c base top rs' cy cyc blk:=
 ⟨h.row.touch t h.n1.2.1,h.rn.touch t (λe=>h.n3.1 e.symm),hr,t.tab h.tab.lt (λe=>h.n3.2.1 e.symm) h.tab,h.n1,h.n2,h.n3,h.x⟩
theorem XL4.turn{top':Nat}(h:XL4 w X A c base top rs cy cyc blk)(t:XF4 (λk=>k=A.rn) w w')(hr:Joi w' A.rn A.q base top' (base+c.wd)):XL4 w' X A c base top' rs cy cyc blk:=
 ⟨h.row.touch t h.n1.2.2.1,hr,h.rt.touch t h.n2.2.1 h.n3.1,t.tab h.tab.lt (λe=>h.n3.2.2 e.symm) h.tab,h.n1,h.n2,h.n3,h.x⟩
end
structure HVm(c:HCf)(v:Vm):Prop where
 n:v.n=c.n
 pg:v.pl.pg=c.pg
 rm:v.pl.rm=c.fr
def YLQ(c:HCf)(fr tp t0:Nat):Cf:=⟨fr,tp,t0,t0+c.wd,c.bk,c.st,c.ah⟩
def HpB(rm top:Nat)(u:Vm)(s:Sl)(v:Vm):Prop:=HpA top u s v/\v.pl.rm=rm
theorem Qyf(rm top:Nat)(u:Vm):SlJ (HpB rm top u):=⟨λ_ _ _ hO hA hk _ _=>hA.1.need hO hk,λ_ _ _ _ hO hA hk hm hc hM=>⟨hA.1.step hO hk hm hc hM,hM.rm.trans hA.2⟩⟩
structure Zvh(w:World)(X:Nat->Prop)(A:HAd)(c:HCf)(base top:Nat)(u:Vm)(y:Nat)(z:ZH1)(s:Sl)(v:Vm)(R Sv:Nat->Prop):Prop where
 cy:Cyc w R y A.q z s
 vm:QXZ w Sv A.q v
 hv:HVm c v
 ok:ZEw s v
 a:HpA top u s v
 x:∀k,R k\/Sv k->X k
 d:∀k,R k->¬Sv k
 tab:VRW w
 t1:¬R 1
 t2:¬Sv 1
 bs:s.cf.to=base
 lm:s.cf.lm=base+c.wd
 bk:s.cf.bk=c.bk
 ah:s.cf.ah=c.ah
 kd:c.kd=1
def V2z(w:World)(X:Nat->Prop)(A:HAd)(c:HCf)(base top:Nat)(u:Vm):Option Nat->Nat->Nat->Prop
 | none,lf,_=>QXZ w X A.q u/\HVm c u/\ShA base top u/\lf=0
 | some y,lf,nb=>∃z s v R Sv,Zvh w X A c base top u y z s v R Sv/\s.lf=lf/\s.mv.length=nb
section
variable {w w':World} {X X' T:Nat->Prop} {A:HAd} {c:HCf} {base top:Nat} {u:Vm} {o:Option Nat} {lf nb:Nat}
theorem V2z.touch(h:V2z w X A c base top u o lf nb)(t:XF4 T w w')(hT:∀k,k<w.heap.size->T k->¬X k/\k≠1)(hx:∀k,X k->X' k):V2z w' X' A c base top u o lf nb:=by
 match o,h with
 | none,⟨h1,h2,h3,h4⟩=>exact⟨(h1.touch t (λk hk hl ht=>(hT k hl ht).1 hk)).mono hx,h2,h3,h4⟩
 | some y,⟨z,s,v,R,Sv,h,e1,e2⟩=>
  have hl:=h.cy.od.lt;exact⟨z,s,v,R,Sv,⟨h.cy.touch t (λk hk ht=>(hT k (hl k hk) ht).1 (h.x k (.inl hk))),h.vm.touch t (λk hk hl ht=>(hT k hl ht).1 (h.x k (.inr hk))),h.hv,h.ok,h.a,λk hk=>hx k (h.x k hk),h.d,t.tab h.tab.lt (λht=>(hT _ h.tab.lt ht).2 rfl) h.tab,h.t1,h.t2,h.bs,h.lm,h.bk,h.ah,h.kd⟩,e1,e2⟩
theorem V2z.gr(h:V2z w X A c base top u o lf nb)(g:Gr w w'):V2z w' X A c base top u o lf nb:=h.touch (g.touch (λ_=>False)) (λ_ _ h=>h.elim) (λ_ h=>h)
theorem V2z.cut(h:V2z w X A c base top u o lf nb):V2z w (ZOk X w) A c base top u o lf nb:=by
 match o,h with
 | none,⟨h1,h2,h3,h4⟩=>exact⟨h1.cut,h2,h3,h4⟩
 | some y,⟨z,s,v,R,Sv,h,e1,e2⟩=>
  exact⟨z,s,v,R,ZOk Sv w,⟨h.cy,h.vm.cut,h.hv,h.ok,h.a,λk hk=>hk.elim (λhk=>⟨h.x k (.inl hk),h.cy.od.lt k hk⟩) (λhk=>⟨h.x k (.inr hk.1),hk.2⟩),λk hk hk2=>h.d k hk hk2.1,h.tab,h.t1,λhk=>h.t2 hk.1,h.bs,h.lm,h.bk,h.ah,h.kd⟩,e1,e2⟩
theorem V2z.ok(h:V2z w X A c base top u o lf nb):ZAR u:=by
 match o,h with
 | none,⟨h1,_⟩=>exact h1.ok
 | some y,⟨z,s,v,R,Sv,h,e1,e2⟩=>exact h.a.ok
end
def tyH:Option Nat->TypeId
 | none=>87
 | some _=>90
def fnH(a b:FuncId):Option Nat->FuncId
 | none=>a
 | some _=>b
def ptH(q:Nat):Option Nat->Value
 | none=>.pointer (some ⟨q,0,none⟩)
 | some y=>.pointer (some ⟨y,0,none⟩)
def spH(A:HAd)(c:HCf)(base top:Nat)(o:Option Nat)(lf nb:Nat):Sp:=
 ⟨tyH o,ptH A.q o,fnH 176 261 o,λa=>∃n:Nat,a=n/\base<=n/\n<top,True,λk=>k=1,
  λu X w=>(∃l,l<=lf/\V2z w X A c base top u o l nb)/\1<w.heap.size⟩
section
variable {w w':World} {X:Nat->Prop} {A:HAd} {c:HCf} {base top:Nat} {u:Vm} {o:Option Nat} {lf nb:Nat}
theorem Zvh.tch{y:Nat}{z:ZH1}{s:Sl}{v v':Vm}{R Sv:Nat->Prop}(h:Zvh w X A c base top u y z s v R Sv){a:Int}(hf:Q1M w w' R Sv y A.q z (HpB c.fr top u) (s.tch a) v'):Zvh w' (plus X w) A c base top u y z (s.tch a) v' R (plus Sv w):=by
 have hl:=h.cy.od.lt;have J:=h.tab.lt;have Z:=hf.ok;refine⟨hf.cy,hf.vm,⟨?_,?_,?_⟩,hf.ok,hf.j.1,λk hk=>?_,λk hk Y=>?_,hf.t.tab J (λhk=>hk.elim h.t1 h.t2) h.tab,h.t1,λhk=>hk.elim h.t2 (λhk=>by omega),h.bs,h.lm,h.bk,h.ah,h.kd⟩
 ·rw[Z.mid.n,<-h.hv.n,h.ok.mid.n];rfl
 ·rw[Z.mid.pg,<-h.hv.pg,h.ok.mid.pg];rfl
 ·exact hf.j.2
 ·rcases hk with hk|hk|hk
  ·exact .inl (h.x k (.inl hk))
  ·exact .inl (h.x k (.inr hk))
  ·exact .inr hk
 ·rcases Y with Y|Y
  ·exact h.d k hk Y
  ·have:=hl k hk;omega
theorem ZDq(n:Nat)(a:Addr)(w:World):(method (n+1) 90 (.pointer (some a)) "Load").run prog w=.ok (261,.pointer (some a)) w:=by kernel_rfl
theorem XjE(n:Nat)(a:Addr)(w:World):(nilAhead (n+1) 90 (.pointer (some a)) "Load").run prog w=.ok (some false) w:=by kernel_rfl
theorem QBN(A:HAd)(c:HCf)(base top:Nat)(o:Option Nat)(lf nb:Nat):(spH A c base top o lf nb).Ok:=by
 refine⟨λn w=>?_,λn w=>?_,λargs w=>?_,λw=>?_,λh=>?_,λ{u S S' T' w w'} h t hT hs=>?_,λ{u S w} h k hk=>?_,λ{u S w} h=>?_,λ{u S w} h a ha=>?_⟩
 ·cases o with
  | none=>exact Ye4 n _ w
  | some y=>exact XjE n _ w
 ·cases o with
  | none=>exact V01 n _ w
  | some y=>exact ZDq n _ w
 ·cases o with
  | none=>kernel_rfl
  | some y=>kernel_rfl
 ·cases o with
  | none=>kernel_rfl
  | some y=>kernel_rfl
 ·obtain⟨⟨l,-,hm⟩,-⟩:=h;exact hm.ok
 ·obtain⟨⟨l,hl,hm⟩,h2⟩:=h;exact⟨⟨l,hl,hm.touch t (λk hk ht=>hT k hk ht) hs⟩,ω h2 t.size⟩
 ·rw[show k=1 from hk];exact h.2
 ·obtain⟨⟨l,hl,hm⟩,h2⟩:=h;exact⟨⟨l,hl,hm.cut⟩,h2⟩
 ·obtain⟨⟨l,hl,hm⟩,h2⟩:=h;obtain⟨n,rfl,h3,h4⟩:=ha
  match o,hm with
  | none,⟨h5,h6,h7,h8⟩=>
   refine(VW8 h5 (n:Int)).mono ?_;rintro e w' ⟨rfl,g⟩;exact⟨rfl,g.touch _,⟨l,hl,(h5.gr g).mono (λ_ h=>.inl h),h6,h7,h8⟩,ω h2 g.size⟩
  | some y,⟨z,s,v,R,Sv,h,e1,e2⟩=>
   have hs:=h.ok.st;have hlm:=h.a.lm;have hln:=hs.cf.ln;have hn2:=hs.n2;refine(QeN (Qyf c.fr top u) h.cy h.ok ⟨h.a,h.hv.rm⟩ h.tab h.t2 h.t1 h.vm h.d (n:Int) Ω).mono ?_;rintro e w' ⟨v',rfl,hf⟩;have Y:s.cf.to<=n:=by rw[h.bs];exact h3
   obtain⟨d1,d2⟩:=hf.j.1.ld hf.ok (a:=n) Y h4 (λi hi e=>by rw[e];exact Sl.tch_is hs hi);have d3:=h.a.un n Ω;refine⟨by rw[d1,d2,d3],hf.t.mono (λk _ hk=>⟨trivial,h.x k hk⟩),⟨(s.tch n).lf,?_,z,s.tch n,v',R,plus Sv w,h.tch hf,rfl,?_⟩,ω h2 hf.t.size⟩
   ·have:=Sl.lf_mono (Sl.tch_mono s (n:Int));omega
   ·rw[(Sl.tch_mono s (n:Int)).1];exact e2
end
end
end Go.Proofs.YteihjlcmjecmfaaGreatDoor
