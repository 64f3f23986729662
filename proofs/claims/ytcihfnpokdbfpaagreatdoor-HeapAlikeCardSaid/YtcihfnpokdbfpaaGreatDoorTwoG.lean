/- Lemmas. -/
import Derived.Test.YtcihfnpokdbfpaaGreatDoorTwoF
import Derived.Maps.OwnIn
namespace Go.Proofs.YtcihfnpokdbfpaaGreatDoor
open _root_.Go.Proofs.Tryz
set_option maxHeartbeats 3200000
set_option maxRecDepth 100000
variable{I:(Nat->Bool)->Act->World->Prop}{a:Act}{K:Act->Prop}{listed:Array Bool}{ops:Array Oper}{Q:Exit->Act->World->Prop}{F:Fence}{kd:Int}{g:Int->Int}{R:List (Bool×Nat)}{r:List (List Nat×Nat)}{ds:List (Nat×List Nat)}{rs:List Int}{fin l l' qs:List Nat}{L:List Ob}{rest:List Oper}{xs:List Value}{B L0 L1 L2 ap b base c f hi i id k lo n nF off p x y z:Nat}{o oi:Oper}{md:Region.Mode}{T:TypeId}{v v':Vm}{w w' w0:World}{S:World->Prop}
structure Pc where
 f:Int
 t:Int
 s:Nat
 deriving DecidableEq,Inhabited
variable{P:List Pc}
def EN:List Pc->Int->Int->List Pc
 | [],x,y=>[⟨x,y,1⟩]
 | [p],x,y=>if p.f+p.s=x then [⟨p.f,p.t,p.s+1⟩]else [p,⟨x,y,1⟩]
 | p :: q :: r,x,y=>p :: EN (q :: r) x y
theorem Y0{x y:Int}(h:∀p,P.getLast?=some p->p.f+p.s≠x):EN P x y=P++[⟨x,y,1⟩]:=by
 induction P with
 | nil=>rfl
 | cons p r ih=>
  cases r with
  | nil=>unfold EN;simp_all
  | cons q r=>unfold EN;simp_all
theorem WZ{p:Pc}{x y:Int}(h:p.f+p.s=x):EN (P++[p]) x y=P++[⟨p.f,p.t,p.s+1⟩]:=by
 induction P with
 | nil=>simp[EN,h]
 | cons q r ih=>
  cases r with
  | nil=>simp only[ζv,ζ4,EN]at ih⊢;rw[θ h]
  | cons s r=>simp only[ζv,EN]at ih⊢;rw[ih]
def pcs(g:Int->Int)(at_:Int):Nat->List Pc
 | 0=>[]
 | k+1=>EN (pcs g at_ k) (g (at_+k)) (at_+k)
structure NY(g:Int->Int)(a:Int)(k:Nat)(P:List Pc):Prop where
 pos:∀p∈P,1<=p.s
 word:∀p∈P,∀i:Nat,i<p.s->g (p.t+i)=p.f+i
 first:∀h:0<P.length,P[0].t=a
 next:∀i (h:i+1<P.length),P[i+1].t=P[i].t+P[i].s/\P[i].f+P[i].s≠P[i+1].f
 last:∀p,P.getLast?=some p->p.t+p.s=a+k
 none:P=[]->k=0
theorem Z8N{α:Type}{P:List α}(h:P≠[]):∃Q p,P=Q++[p]:=⟨P.dropLast,P.getLast h,(ξ9 h).symm⟩
theorem QBb(g:Int->Int)(a:Int)(k:Nat):NY g a k (pcs g a k):=by
 induction k with
 | zero=>exact⟨λp h=>(by cases h),λp h=>(by cases h),λh=>absurd h (by simp[pcs]),λi h=>absurd h (by simp[pcs]),λp h=>(by simp[pcs]at h),λ_=>rfl⟩
 | succ k ih=>
  unfold pcs;generalize pcs g a k=P at ih;by_cases hP:P=[]
  ·subst hP;obtain rfl:=ih.none rfl;refine⟨λp h=>?_,λp h i hi=>?_,λh=>by simp[EN],λi h=>absurd h (by simp[EN]),λp h=>?_,λh=>by simp[EN]at h⟩
   ·simp[EN]at h;subst h;exact μ 1
   ·simp[EN]at h;subst h;have hi:i<1:=hi;obtain rfl:i=0:=Ω
    simp
   ·simp[EN]at h;subst h;simp
  ·obtain⟨Q,p,rfl⟩:=Z8N hP;have hl:=ih.last p (by simp);have hps:=ih.pos p (by simp);by_cases hx:p.f+p.s=g (a+k)
   ·rw[WZ hx];refine⟨λq h=>?_,λq h i hi=>?_,λh=>?_,λi h=>?_,λq h=>?_,λh=>by simp at h⟩
    ·rcases ζs.1 h with h|h
     ·exact ih.pos q (ξq _ h)
     ·rw[ζO.1 h];exact Nat.le_add_left ..
    ·rcases ζs.1 h with h|h
     ·exact ih.word q (ξq _ h) i hi
     ·rw[ζO.1 h]at hi⊢;have hi:i<p.s+1:=hi
      show g (p.t+i)=p.f+i
      rcases δ i p.s with h1|h1
      ·exact ih.word p (by simp) i h1
      ·obtain rfl:i=p.s:=Ω
       rw[hl,hx]
    ·have:=ih.first (by simp)
     cases Q with
     | nil=>simpa using this
     | cons q r=>simpa using this
    ·have X:i+1<(Q++[p]).length:=by simpa using h
     have:=ih.next i X
     have h':i+1<Q.length+1:=by simpa using h
     rcases δ (i+1) Q.length with h1|h1
     ·rw[ζJ h1,ζJ Ω]at this⊢;exact this
     ·obtain h2:i+1=Q.length:=Ω
      rw[ψe Ω,ζJ Ω]at this⊢;simpa[h2]using this
    ·simp at h;subst h;show p.t+((p.s+1:Nat):Int)=_;omega
   ·rw[Y0 (λq h=>by simp at h;subst h;exact hx)];refine⟨λq h=>?_,λq h i hi=>?_,λh=>?_,λi h=>?_,λq h=>?_,λh=>by simp at h⟩
    ·rcases ζs.1 h with h|h
     ·exact ih.pos q h
     ·rw[ζO.1 h];exact μ 1
    ·rcases ζs.1 h with h|h
     ·exact ih.word q h i hi
     ·rw[ζO.1 h]at hi⊢;have hi:i<1:=hi;obtain rfl:i=0:=Ω
      simp
    ·have:=ih.first (by simp)
     rw[ζJ (by simp)];exact this
    ·have h':i+1<(Q++[p]).length+1:=by simpa using h
     rcases δ (i+1) (Q++[p]).length with h1|h1
     ·have:=ih.next i h1
      have h4:i<(Q++[p]).length:=Nat.lt_of_succ_lt h1;rw[ζJ h1,ζJ h4];exact this
     ·have h2:i+1=(Q++[p]).length:=Ω
      have h3:i=Q.length:=by simp at h2;omega
      rw[ψe Ω,ζJ Ω];subst h3;simp only[h2,Nat.sub_self,List.getElem_singleton,ψe (μ _)];exact⟨hl.symm,hx⟩
    ·simp at h;subst h;push_cast;omega
theorem QTh(g:Int->Int)(a:Int)(k:Nat):(pcs g a k).length<=k:=by
 induction k with
 | zero=>exact μ _
 | succ k ih=>
  unfold pcs;generalize pcs g a k=P at ih;by_cases hP:P=[]
  ·subst hP;simp[EN]
  ·obtain⟨Q,p,rfl⟩:=Z8N hP
   grind [WZ,Y0]
theorem Qox{a:Int}(hP:pcs g a k=P)(hn:∀p,P.getLast?=some p->p.f+p.s≠g (a+k))(h1:1<=n)(hw:∀i,i<n->g (a+k+i)=g (a+k)+i):
  pcs g a (k+n)=P++[⟨g (a+k),a+k,n⟩]:=by
 induction n with
 | zero=>omega
 | succ n ih=>
  by_cases h0:n=0
  ·subst h0
   show EN (pcs g a k) (g (a+k)) (a+k)=_
   rw[hP,Y0 hn]
  ·have:=ih Ω (λi hi=>hw i Ω)
   show EN (pcs g a (k+n)) (g (a+(k+n:Nat))) (a+(k+n:Nat))=_
   grind [WZ]
theorem NY.ends{a:Int}(h:NY g a k P):∀(d i:Nat) (hi:i<P.length),P.length-i=d->P[i].t+P[i].s<=a+k/\a<=P[i].t:=by
 have lo:∀i (hi:i<P.length),a<=P[i].t:=by
  intro i
  induction i with
  | zero=>intro hi;rw[h.first hi];omega
  | succ i ih=>
   intro hi;have:=(h.next i hi).1
   grind
 intro d
 induction d with
 | zero=>omega
 | succ d ih=>
  intro i hi hd;refine⟨?_,lo i hi⟩;by_cases hl:i+1<P.length
  ·have h1:=(h.next i hl).1
   grind
  ·have:=h.last (P[i]) (by grind);omega
def LC(P:List Pc)(z:Int)(i:Nat):Int:=if h:i<P.length then P[i].t else z
theorem ZV{z:Int}(h:i<P.length):LC P z i=P[i].t:=by unfold LC;simp_all
theorem VID(P:List Pc)(z:Int):LC P z P.length=z:=by unfold LC;simp_all
theorem XLy{a:Int}(h:NY g a k P)(hk:1<=k):LC P (a+k) 0=a:=by
 by_cases hP:P=[]
 ·have:=h.none hP;omega
 ·have hl:0<P.length:=List.length_pos_iff.2 hP;rw[ZV hl,h.first hl]
theorem Xv7{a:Int}(h:NY g a k P)(hi:i<P.length):LC P (a+k) (i+1)=P[i].t+P[i].s:=by
 by_cases hl:i+1<P.length
 ·rw[ZV hl,(h.next i hl).1]
 ·have hx:=h.last (P[i]) (by grind);unfold LC
  grind
open Go.RowKit Word
theorem ZSj(h:AS n L)(hn:n<=1048576)(base:Nat)(b:Int):0<=CZ L base b/\CZ L base b<=1048576:=by
 cases hin:inF L base b with
 | false=>grind [N4]
 | true=>
  obtain⟨j,hj,_,e2,e3,_,_⟩:=Zeb h hin;have:=h.sz _ (χ hj);omega
section
variable{F:Nat}
def IN(L:List Ob)(base B:Nat)(b:Int):Int:=if inF L base b then (b-base)/B else 0
theorem ZAe(hP:Pln w F p n B base L)(hT:AQ w)(b:Int)(hb:b<=9223372036854775807):BB prog 327 #[pP p,iI b] w (.tuple #[iI (IN L base B b),iI (GN L base b)]):=by
 obtain⟨h1,h2,h3,f,c0,c1,hF⟩:=hP;have U:=DR h3;have hbs:=hF.2.2.1;have HT:=hT;obtain⟨hg,hn⟩:=hF.good;have hs:=GJ hg;unfold BB;cases hin:inF L base b with
 | false=>
  have E:=ι (N4 hin);have E2:Hid (IN L base B b=0):=⟨by unfold IN;rw[hin];rfl⟩;rw[E.o.2.2,E2.o];go_enter func327,ntmps327;go_wp2_with(go_at_call 293;refine Qa (OS hF HT b hb) λw1 X=>?_;rw[E.o.1,E.o.2.2]);go_ret2
  simp_all
 | true=>
  obtain⟨i1,i2⟩:=F6.1 hin;have E2:Hid (IN L base B b=(b-base)/B):=⟨by unfold IN;rw[hin];rfl⟩;have E:Hid (GN L base b=0):=⟨by unfold GN;rw[hin];rfl⟩;rw[E.o,E2.o];have w1:IntKind.i64.wrap (b-(base:Int))=b-(base:Int):=ζp _ Ω;have hb1:(1:Int)<=(B:Int):=U.1;have Y:(0:Int)<=b-(base:Int):=Ω
  have hB0:((B:Int)==0)=false:=ζl.2 Ω;have hdiv:(b-(base:Int)).tdiv (B:Int)=(b-(base:Int))/(B:Int):=Int.tdiv_eq_ediv_of_nonneg Y;have hdl:(b-(base:Int))/(B:Int)<=b-(base:Int):=Int.ediv_le_self _ Y;have hd0:0<=(b-(base:Int))/(B:Int):=Int.ediv_nonneg Y Ω;have w2:IntKind.i64.wrap ((b-(base:Int))/(B:Int))=(b-(base:Int))/(B:Int):=ζp _ Ω;go_enter func327,ntmps327;go_wp2_with(go_at_call 293;refine Qa (OS hF HT b hb) λw1 X=>?_;rw[E.o])
  rename World=>wz
  have z0:∀xs m,(grow wz xs m).cell? ⟨p,0,none⟩=some (pP f):=λxs m=>((X.trans (grown wz xs m)).cell h1 0).trans c0;have z1:∀xs m,(grow wz xs m).cell? ⟨p,1,none⟩=some (iI B):=λxs m=>((X.trans (grown wz xs m)).cell h1 1).trans c1;refine JX (by kernel_rfl) (by kernel_rfl) ?_
  repeat(go_big_quiet_step ((go_at_call 263;have hc:=λxs m=>JwE (hF.gr (X.trans (grown wz xs m)));exact BB.grown_same (hc _ _))))
  refine ζb ?_;intro _ J;obtain⟨⟨xs,nq⟩,Z⟩:=J;subst Z;go_wp2;go_ret2;exact⟨rfl,X.trans (grown wz _ _)⟩
def VWm(w:World)(L:List Ob)(base at_ to:Nat)(e:Ending)(w':World):Prop:=
 ∃r:Nat,e=.returned (.tuple #[iI (CZ L base at_),iI r])/\Gr w w'/\1<=r/\at_+r<=to/\(∀i,i<r->CZ L base ((at_:Int)+i)=CZ L base at_+i)/\(at_+r<to->CZ L base at_+r≠CZ L base ((at_:Int)+r))
theorem Zkm(hP:Pln w F p n B base L)(hT:AQ w)(at_ to:Nat)(ha:at_<to)(hto:(to:Int)<=4294967296):Calls prog 264 #[pP p,iI at_,iI to] w (VWm w L base at_ to):=by
 obtain⟨h1,h2,h3,f,c0,c1,hF⟩:=hP;have HT:=hT;obtain⟨hg,hn⟩:=hF.good;have E:=(λb=>ZSj hg hn base b);obtain⟨v,hv⟩:=ε (CZ L base at_);have HV:=hv.symm;have O:=E at_;rw[<-hv]at O;clear h3 hT hg hv;go_in;go_wp2_with(go_at_call 293;refine Qa (OS hF HT at_ Ω) λw1 I=>?_;rw[HV];have N:=ι I)
 go_loopw [10] (λs wr=>∃r:Nat,Hid (1<=r/\at_+r<=to/\∀i,i<r->CZ L base ((at_:Int)+i)=v+i)/\Hid (Gr w wr)/\s=iI r) (λs _=>to-(intOf s).toNat)
 case atStart=>exact⟨1,⟨μ _,by omega,λi hi=>by obtain rfl:i=0:=Ω;simpa using HV⟩,N,rfl⟩
 case round=>
  rename World=>wr
  obtain⟨r,hr,X,rfl⟩:=hrel;obtain⟨V,U,-⟩:=hr.o;have k0:=(X.o.cell h1 0).trans c0;by_cases hlt:at_+r<to
  ·obtain⟨x,hx⟩:=ε (CZ L base ((at_:Int)+(r:Int)));have HX:=hx.symm;clear hx;by_cases Z:x=v+r
   ·have M:(x !=v+(r:Int))=false:=by simp[Z]
    go_wp2_with(go_at_call 293;refine Qa (OS (hF.gr X.o) (X.o.tab HT.lt HT) _ Ω) λw1 Y=>?_;rw[HX];have J:=ι (X.o.trans Y);clear Y);go_roundw
    case rel=>exact⟨r+1,⟨by omega,by omega,λi hi=>by rcases δ i r with h|h;exact hr.o.2.2 i h;(obtain rfl:i=r:=Ω);rw[HX,Z]⟩,J,by go_num⟩
    case measure=>simp[intOf];omega
   ·have M:(x !=v+(r:Int))=true:=by simp[Z]
    go_wp2_with(go_at_call 293;refine Qa (OS (hF.gr X.o) (X.o.tab HT.lt HT) _ Ω) λw1 Y=>?_;rw[HX];have J:=ι (X.o.trans Y);clear Y);go_ret2;exact⟨r,by rw[HV];rfl,J.o,V,U,λi hi=>by rw[HV];exact hr.o.2.2 i hi,λ_ h=>Z (by rw[<-HX,<-h,HV])⟩
  ·go_wp2;go_ret2;exact⟨r,by rw[HV];rfl,X.o,V,U,λi hi=>by rw[HV];exact hr.o.2.2 i hi,λh=>by omega⟩
end
def F8(P:List Pc):List Value:=P.flatMap λq=>[iI q.f,iI q.t,iI (q.s:Nat)]
theorem YGE(P Q:List Pc):F8 (P++Q)=F8 P++F8 Q:=by simp[F8]
theorem Zcu(h:i<P.length):(F8 P)[i*3]?=some (iI P[i].f)/\(F8 P)[i*3+1]?=some (iI P[i].t)/\(F8 P)[i*3+2]?=some (iI (P[i].s:Nat)):=by
 induction P generalizing i with
 | nil=>grind
 | cons o r ih=>
  have e:F8 (o :: r)=iI o.f :: iI o.t :: iI (o.s:Nat) :: F8 r:=rfl;rw[e];cases i with
  | zero=>simp_all
  | succ i=>
   grind
def I0(w:World)(A:Option Addr)(P:List Pc):Prop:=∀i (h:i<P.length),∃g,A=some ⟨g,0,none⟩/\g<w.heap.size ∧
 w.cell? ⟨g,i*3,none⟩=some (iI P[i].f)/\w.cell? ⟨g,i*3+1,none⟩=some (iI P[i].t)/\w.cell? ⟨g,i*3+2,none⟩=some (iI (P[i].s:Nat))
theorem I0.gr{A:Option Addr}(h:I0 w A P)(t:Gr w w'):I0 w' A P:=λi hi=>by
 obtain⟨g,rfl,h1,h2,h3,h4⟩:=h i hi;exact⟨g,rfl,ϑ h1 t.size,(t.cell h1 _).trans h2,(t.cell h1 _).trans h3,(t.cell h1 _).trans h4⟩
theorem XfI{T:Nat}{v:Value}(h:w.ownsRow base T 3 v P.length (F8 P)):∃A c,v=.slice A P.length c/\I0 w A P/\∀a,A=some a->base<=a.block:=by
 by_cases hn:P.length=0
 ·obtain⟨_,⟨rfl,_⟩|⟨g,c,cur,rfl,e2,_⟩⟩:=h
  ·exact⟨none,0,by rw[hn],λi hi=>by omega,λa e=>by cases e⟩
  ·exact⟨some ⟨g,0,none⟩,c,rfl,λi hi=>by omega,λa e=>by grind⟩
 ·obtain⟨g,c,rfl,hb,_,_,hg⟩:=E6 h hn;refine⟨some ⟨g,0,none⟩,c,rfl,λi hi=>?_,λa e=>by grind⟩
  grind [Zcu,BU]
theorem ZkK{T:Nat}{v:Value}{q:Pc}(h:w.ownsRow base T 3 v (P.length+1) (F8 P++[iI q.f,iI q.t,iI (q.s:Nat)])):w.ownsRow base T 3 v (P++[q]).length (F8 (P++[q])):=by
 rw[YGE,ζm];exact h
theorem Vdu:(prog.info? 295).map (λi=>(i.zero,i.size,i.bytes))=some (some (.agg #[iI 0,iI 0,iI 0]),3,24):=by kernel_rfl
def JC(L:List Ob)(B base:Nat)(k:Int):List Pc:=pcs (CZ L base) (I8 L B base k) (J2 L B base k-I8 L B base k).toNat
theorem JYH{k:Int}(h:EC L B k=false):JC L B base k=[]:=by
 unfold JC;rw[(PD h).1,(PD h).2.1];rfl
theorem VYq(hg:AS n L)(hn:n<=1048576)(hB:1<=B)(hb:base<2147483648){k:Int}(h:EC L B k=true):
  ∃a z:Nat,I8 L B base k=a/\J2 L B base k=z/\a<z/\z<=2148532224/\z<=a+B/\base<=a/\z<=base+AC L:=by
 have hk0:0<=k:=by unfold EC at h;simp_all
 obtain⟨j,rfl⟩:∃j:Nat,k=j:=⟨k.toNat,by omega⟩;have hlt:=QC8 hB h;have hs:=GJ hg;obtain⟨e1,e2,-⟩:=O8 (base:=base) h;refine⟨base+j*B,base+min (j*B+B) (AC L),by rw[e1];rfl,by omega,by omega,by omega,by omega,by omega,by omega⟩
theorem ZbI(hg:AS n L)(hn:n<=1048576)(hB:1<=B)(hb:base<2147483648)(k:Int):(JC L B base k).length<=B:=by
 cases hin:EC L B k with
 | false=>grind [JYH]
 | true=>
  obtain⟨a,z,ea,ez,_,_,hz,_,_⟩:=VYq hg hn hB hb hin;unfold JC
  grind [QTh]
section
variable{F:Nat}
def Jzj(w:World)(P:List Pc)(c:Int)(e:Ending)(w':World):Prop:=
 ∃A cap,e=.returned (.tuple #[.slice A P.length cap,iI c])/\Gr w w'/\I0 w' A P/\∀a,A=some a->w.heap.size<=a.block
theorem Y4j(hP:Pln w F p n B base L)(hT:AQ w)(k:Int):Calls prog 211 #[pP p,iI k] w (Jzj w (JC L B base k) (NM L B k)):=by
 have HP:=hP;obtain⟨h1,h2,h3,f,c0,c1,hF⟩:=hP;obtain⟨hg,hn⟩:=hF.good;have hbp:=DR h3;have Xf:=hF.2.2.1;cases hin:EC L B k with
 | false=>
  have E:=(PD (base:=base) hin);have E2:=ι (JYH (base:=base) hin);rw[E2.o,E.2.2];clear hF h3 hg hin;go_in;go_wp2_with(go_at_call 210;refine Qa (WV HP k) λw1 J=>?_;rw[E.1,E.2.1,E.2.2]);go_ret2;exact⟨none,0,rfl,J,λi hi=>absurd hi (by simp),λa e=>by cases e⟩
 | true=>
  obtain⟨a0,z,ea,ez,hlt,hz,hzB,-,-⟩:=VYq hg hn Ω Xf hin;have E:=(ξ ea (ξ ez (O8 (base:=base) hin).2.2));have E2:Hid (JC L B base k=pcs (CZ L base) a0 (z-a0)):=⟨by unfold JC;rw[ea,ez];congr 1;omega⟩;rw[E2.o,E.2.2];obtain⟨i0,hi,Xm,Xe,Xg⟩:=info_parts Vdu;obtain⟨g,M⟩:=ε (CZ L base);rw[<-M];have Xn:=M;clear hF h3 hg hin ea ez M;go_in;go_wp2_with(go_at_call 210;refine Qa (WV HP k) λw1 J=>?_;rw[E.1,E.2.1,E.2.2];have Xa:=J;clear J)
  go_loopw [6,9] (λs6 s9 wr=>∃(X m:Nat) (P:List Pc),Hid (X=a0+m)/\X<=z/\a0<=X/\Hid (pcs g a0 m=P)/\P.length<=X/\Hid (X < z->∀q,P.getLast?=some q->q.f+q.s≠g X)/\Hid (wr.ownsRow w1.heap.size 295 3 s9 P.length (F8 P))/\Hid (AB (λi=>w1.heap.size<=i) w1 wr)/\s6=iI X) (λs6 _ _=>z-(intOf s6).toNat)
  case atStart=>exact⟨a0,0,[],⟨rfl⟩,by omega,μ _,⟨rfl⟩,by simp,⟨λ_ q h=>by simp at h⟩,⟨FD _ _ _ _⟩,⟨AB.refl _ _⟩,rfl⟩
  case round=>
   obtain⟨X,m,P,N,hle,hge,hp,hpl,I,U,ht,rfl⟩:=hrel;have HG:=((Xa.touch (λ_=>False)).trans' ht.o (λi hi h=>by have:=Xa.size;omega)).gr;have hwl:=ht.o.size;by_cases Xd:X < z
   ·go_wp2_with(first|(go_at_call 264;refine(Zkm (HP.gr HG) (HG.tab hT.lt hT) X z Xd Ω).mono ?_;rintro e w3 ⟨r,rfl,O,Xj,hr2,G,V⟩;rw[<-Xn]at G V⊢;have HR:=(ξ G V);have Xb:=(CF U.o O);have hz3:=O.size;(obtain⟨fv,D⟩:=ε (g X));have Xc:=D.symm;rw[<-D];clear G V D)|(at_builtin;refine wpList_append_own _ rfl _ _ 291 rfl w1.heap.size 295 i0 _ 3 24 underlying291 hi Xm Xe Xg rfl (by decide) u9 P.length (F8 P) rfl (CF Xb ((Gr.refl _).alloc _)) ⟨w3.heap.size,0,none⟩ 1 1 [iI fv,iI X,iI r] rfl rfl (ζY (cs:=#[iI fv,iI X,iI r]) (t:=295) (fr:=(0,0)) (heap_alloc_new w3 _)) (by simp[Value.oneCell']) (by unfold maxLen;omega) Ω (by simp only[π];omega) ?_;intro v4 w4 Z Y _;have Xk:=ι (ZkK (q:=⟨fv,X,r⟩) Z);have Xl:=((((Gr.refl w3).alloc (.cells #[.int .i64 fv,.int .i64 X,.int .i64 r] 295)).touch (λk=>w1.heap.size<=k)).trans (DT Y _ (λ_ e _=>(A9 Xb e).1)));clear Z Y))
    go_roundw
    case rel=>
     refine⟨X + r,m+r,P++[⟨fv,X,r⟩],⟨by rw[N.o];omega⟩,by omega,by omega,⟨?_⟩,by simp;omega,⟨λhzz q hq=>?_⟩,Xk,⟨(ht.o.trans (O.touch _)).trans Xl⟩,by go_num⟩
     ·have e1:=N.o;have ee:(a0:Int)+(m:Int)=(X:Int):=Ω
      have hh:=Qox (g:=g) (a:=a0) (k:=m) hp.o (by rw[ee];exact I.o Xd) Xj (by rw[ee];exact HR.1);rw[hh,ee,Xc]
     ·simp at hq;subst hq;have:=HR.2 hzz;rw[Xc]at this;push_cast;exact this
    case measure=>simp[intOf];omega
   ·obtain rfl:X=z:=Ω
    go_wp2;go_ret2;obtain⟨A,c,hA,Xi,Xh⟩:=XfI U.o;have e1:=hp.o;have e2:m=X - a0:=by have:=N.o;omega
    subst e2;rw[e1];exact⟨A,c,by rw[<-hA];rfl,HG,Xi,λa h=>ω Xa.size (Xh a h)⟩
end
structure ZxU where
 pg:Nat
 H:List Hdr
 P:List Nat
 R:List Nat
 bk:Nat
 st:Nat
 ah:Nat
section
variable(x:ZxU)
end
structure DH(v v':Vm):Prop where
 ok:AH v'
 sm:BW v v'
theorem DH.refl(h:AH v):DH v v:=⟨h,BW.refl v⟩
theorem DH.trans{a b c:Vm}(h:DH a b)(k:DH b c):DH a c:=⟨k.ok,h.sm.trans k.sm⟩
theorem DH.st(h:DH v v')(a:Int)(hx:x<18446744073709551616):DH v (v'.st a x):=⟨h.ok.st a hx,h.sm.trans (BW.st _ _ _)⟩
theorem DH.mkV{v v':Vm}(h:DH v v')(a:Int){x:Nat}(hx:x<18446744073709551616)(m:Nat):DH v (mkV v' a x m):=by
 induction m with
 | zero=>exact h.st a hx
 | succ m ih=>exact ih.st _ (by decide)
theorem DH.mkVm{v v':Vm}(h:DH v v')(a:Int)(hd:Hdr):DH v (mkVm v' a hd):=by
 unfold Go.Proofs.YtcihfnpokdbfpaaGreatDoor.mkVm
 split
 ·rename_i h0;unfold IL at h0
  split at h0
  ·cases h0
  ·split at h0
   ·cases h0
   ·rename_i h1;obtain⟨p,f,c,rfl,hs⟩:=TQ (ξM.1 h1);exact h.mkV a (ZW (by simp_all)) _
 ·exact h
theorem XS7(hs:p+f+c<=255):tkE (C8 p f c)=0/\tkH (C8 p f c)=⟨p,f,c⟩:=by
 have e:C8 p f c=(4294967295-(p+256*f+65536*c+2768240640))*4294967296+(p+256*f+65536*c+2768240640):=rfl;have a1:C8 p f c%4294967296=p+256*f+65536*c+2768240640:=Ω
 have a2:C8 p f c/4294967296=4294967295-(p+256*f+65536*c+2768240640):=Ω
 have a3:C8 p f c%256=p:=Ω
 have a4:C8 p f c/256%256=f:=Ω
 have a5:C8 p f c/65536%256=c:=Ω
 have hok:GT (C8 p f c)=true:=by
  unfold GT;rw[a1,a2,a3,a4,a5];simp only[ζd,ζg]
  grind
 unfold tkE tkH
 simp_all
theorem XUd(h:AH v)(a:Int)(hx:x<18446744073709551616)(m:Nat)(hm:∀j:Nat,j<=m->v.ldE (a+j)=0)(b:Int):(mkV v a x m).ldV b=if b=a then x else if a<b/\b<=a+m then 0 else v.ldV b:=by
 induction m with
 | zero=>
  have h0:=hm 0 (μ _);rw[show a+((0:Nat):Int)=a by omega]at h0
  show (v.st a x).ldV b=_
  rw[h.st_ldV x h0]
  grind
 | succ m ih=>
  have ih:=ih (λj hj=>hm j Ω);have X:=((DH.refl h).mkV a hx m).ok
  have hl:(mkV v a x m).ldE (a+1+m)=0:=by
   rw[QBF,show a+1+(m:Int)=a+((m+1:Nat):Int)by omega];exact hm (m+1) (μ _)
  show ((mkV v a x m).st (a+1+m) 0).ldV b=_
  rw[X.st_ldV 0 hl,ih]
  grind
theorem VzI{a:Int}(h:∀j:Nat,j<=n->v.ldE (a+j)=0):mkE v a n=0:=by
 induction n with
 | zero=>
  have:=h 0 (μ _)
  rwa [show a+((0:Nat):Int)=a by omega]at this
 | succ n ih=>
  show (if mkE v a n≠0 then mkE v a n else v.ldE (a+1+n))=0
  rw[ψ (λhn=>hn (ih (λj hj=>h j Ω))),show a+1+(n:Int)=a+((n+1:Nat):Int)by omega];exact h (n+1) (μ _)
theorem JER(h:AH v){t:Nat}(ht:0<t)(hs:p+f+c<=255)(hl:∀j:Nat,j<=p+f+c->v.ldE ((t:Int)+j)=0):
  IL v t ⟨p,f,c⟩=0/\∀b:Int,(mkVm v t ⟨p,f,c⟩).ldV b=if b=t then C8 p f c else if (t:Int)<b/\b<=t+((p+f+c:Nat):Int)then 0 else v.ldV b:=by
 have h0:IL v t ⟨p,f,c⟩=0:=by
  unfold IL;rw[ψ Ω,ψ (by grind [DM])];exact VzI hl
 refine⟨h0,λb=>?_⟩;unfold mkVm;rw[θ h0];exact XUd h t (ZW hs) _ hl b
section
variable{x:ZxU}{v0:Vm}
end
theorem JW8{v1 v2:Vm}{c:Cf}{kq:Nat}(hv:AH v)(hM:BO v rs n L)(hf:GI v L)(hD:WK v rs c L v1 v2 k kq)
  (hu:∀a:Nat,c.to<=a->a<c.to+AC L->¬(c.fr/v.pl.pg<=a/v.pl.pg/\a/v.pl.pg<c.fr/v.pl.pg+kq)):
  OD v (umN v2 (c.fr/v.pl.pg) kq) (Rch v rs) (B7 v1 (AV v1 rs k) c.to) c.to (c.to+AC L):=by
 have hw:=hD.gr.wider hv;have hS:=hM.sound;have X:=hD.st;obtain⟨J,E⟩:=hD.cx.done hD.ke;have Xa:=hD.ke;have N:=hD.cx.map;have htop:=hD.cx.top;obtain⟨O,hO⟩:=ε (AV v1 rs k);rw[<-hO]at X J E Xa⊢;have Y:∀a,Rch v rs a->∃(j:Nat) (hj:j<O.length),O[j]=a:=λa ha=>ζt (J a ((hw.rch hS a).2 ha));have U:∀a,Rch v rs a->v1.rdH a=v.rdH a:=λa ha=>(hw.rd (hS.rd a ha)).2;have Z:∀a,Rch v rs a->v1.osz a=v.osz a:=λa ha=>by unfold Vm.osz;rw[U a ha]
 have h0:(0:Int)∉O:=λh=>by
  have:=(DQ (hD.cx.mks.sound.rd _ (X.rch 0 h))).1;omega
 have Xc:v2.pl.pg=v.pl.pg:=X.cp.sm.pg.trans hD.gr.pg;have hn2:v2.n=v1.n:=X.cp.sm.n;refine⟨QN v1 _ h0,λa ha m hm=>?_,λa ha=>?_,λa b ha hb=>?_⟩
 ·obtain⟨j,hj,rfl⟩:=Y a ha;have V:(m:Int)<v1.osz O[j]:=by rw[Z _ ha];exact hm
  have hpl:=place_lt v1 hj V;have hs0:=G2 v1 (O.take j);obtain⟨i,hi⟩:∃i:Nat,(i:Int)=AK v1 (O.take j)+m:=⟨(AK v1 (O.take j)+m).toNat,by omega⟩;have hil:i<AC L:=Ω
  rw[YK v1 X.nd _ hj];have e:(c.to:Int)+AK v1 (O.take j)+m=((c.to+i:Nat):Int):=Ω
  have A:¬(c.fr/v.pl.pg<=(c.to+i)/v2.pl.pg/\(c.to+i)/v2.pl.pg<c.fr/v.pl.pg+kq):=by
   rw[Xc];exact hu (c.to+i) Ω Ω
  have I:c.to+i<v2.n:=Ω
  rw[e,X5 X.cp.ok _ _ I,VIn X.cp.ok _ _ I A,ψ A,X.cp.sm.ldE];refine⟨N _ Ω Ω,?_⟩;obtain⟨o,ho,D⟩:=hM.all _ ha;have Xd:=(hM.mkd.ats o ho).2.2
  have Xb:v.ldE (O[j]+m)=0:=by
   rw[<-D];refine hf o ho m ?_;rw[D]at Xd;omega
  have G:=(hw.le _ Xb).2;have M:O.getD j 0=O[j]:=by rw[κ,τ hj];rfl
  rw[<-e];by_cases hT:1<=m/\(m:Int)<=(v.rdH O[j]).p
  ·rw[θ hT];have:=X.cp.trn j hj m V ⟨hT.1,.inl ⟨by omega,by rw[M,U _ ha];exact hT.2⟩⟩;rw[this,G]
  ·rw[ψ hT,X.cp.raw j hj m V (λht=>hT (by
    obtain⟨t1,t2|t2⟩:=ht
    ·refine⟨t1,?_⟩;have:=t2.2;rw[M,U _ ha]at this;exact this
    ·omega)),G]
 ·obtain⟨j,hj,rfl⟩:=Y a ha;have:=XE v1 (c.to:Int) (χ hj);rw[Z _ ha]at this;omega
 ·obtain⟨j,hj,rfl⟩:=Y a ha;obtain⟨i,hi,rfl⟩:=Y b hb;rw[YK v1 X.nd _ hj,YK v1 X.nd _ hi];have s1:=MG v1 hj;have s2:=MG v1 hi;rw[Z _ ha]at s1;rw[Z _ hb]at s2;rcases ζS j i with h|h|h
  ·have:=TN v1 O (show j+1<=i from h);exact .inr (.inl Ω)
  ·subst h;exact .inl rfl
  ·have:=TN v1 O (show i+1<=j from h);exact .inr (.inr Ω)
theorem BH.put{P:Program}{k e t:TypeId}{f:Int->Option Value}(h:BH P k w b n f)(K:Maps.Keyed P k)(ht:P.underlying t=some (.map k e))(hk:P.underlying k=some (.int .i64))(hn:n<maxLen)(key:Int)(val:Value)(hw:(Lit.int .i64 key).wf=true):
  ∃w',(Instr.mapUpdate t (.map (some b)) (.int .i64 key) val).run P w=.ok () w'/\BH P k w' b (n+1) (λy=>if y=key then some val else f y)/\AB (λi=>i=b) w w':=by
 obtain⟨D,hD,hf⟩:=h;have X:=Maps.keyOf_int_mk (P:=P) hk hw;obtain⟨w',Z,h1,h2⟩:=hD.update K ht hn X (val:=val) (d:=.held val) (ps:=[]) rfl;refine⟨w',Z,⟨_,h1,λy hy=>?_⟩,DT h2 _ (λi hi _=>by cases hi;rfl)⟩;by_cases e:y=key
 ·subst e;dsimp only;rw[θ rfl];refine⟨Maps.has_put_same hD.isMap (K.key X) _,λv hv z=>?_⟩;cases hv;exact Maps.atKey_put_same hD.isMap (K.key X) _ _
 ·dsimp only;rw[ψ e];have Y:(Lit.int .i64 y)≠.int .i64 key:=λh=>e (by injection h);exact⟨(Maps.has_put_other Y _).trans (hf y hy).1,λv hv z=>(Maps.atKey_put_other Y _ _).trans ((hf y hy).2 v hv z)⟩
section
variable{r g:Nat}
theorem VMw(h:A7 w r g rs){i:Int}(hi:slE rs i≠0):Calls prog 78 #[pP r,iI i] w λe w'=>e=.returned (.tuple #[iI 0,iI 17])/\Gr w w':=by
 have HC:=(TG (h.gr ((Gr.refl w).alloc (.cells #[.int .i64 i] 3))) (b:=w.heap.size) (i:=i) ((Rec.new w 3 [iI i]).cell (j:=0) rfl));rw[show slE rs i=17 by unfold slE at hi⊢;omega]at HC;go_in;go_wp2_with(go_at_call 160;refine HC.mono ?_;rintro e w1 ⟨rfl,rfl⟩);go_ret2;exact⟨rfl,(Gr.refl w).alloc _⟩
theorem QST(h:A7 w r g rs){i:Int}(hi:slE rs i≠0)(a:Int):Calls prog 83 #[pP r,iI i,iI a] w λe w'=>e=.returned (iI 17)/\Gr w w':=by
 have HC:=(TG (h.gr ((Gr.refl w).alloc (.cells #[.int .i64 i] 3))) (b:=w.heap.size) (i:=i) ((Rec.new w 3 [iI i]).cell (j:=0) rfl));rw[show slE rs i=17 by unfold slE at hi⊢;omega]at HC;go_in;go_wp2_with(go_at_call 160;refine HC.mono ?_;rintro e w1 ⟨rfl,rfl⟩);go_ret;exact⟨rfl,(Gr.refl w).alloc _⟩
theorem ZP2(h:A7 w r g rs){i k:Int}(c0:w.cell? ⟨b,0,none⟩=some (iI i))(c1:w.cell? ⟨b,1,none⟩=some (iI k)):cQ 160 #[pP r,.slice (some ⟨b,0,none⟩) 2 2] w (iI (if slE rs i=0 then slE rs k else 17)):=by
 have cr:=h.rcd.cc 0;have Y:=h.le;have hbl:=A6 c0;obtain⟨n,hn⟩:=ε rs.length
 have X:∀j:Int,(slE rs j=0/\decide (j<0)=false/\decide ((n:Int)<=j)=false)\/(slE rs j=17/\(decide (j<0)=true\/(decide (j<0)=false/\decide ((n:Int)<=j)=true))):=λj=>by
  unfold slE
  grind
 rw[<-hn]at cr Y;have HI:=ι (X i);have HK:=ι (X k);generalize slE rs i=x at HI⊢;generalize slE rs k=y at HK⊢;clear X hn;rcases HI.o with⟨rfl,d0,d1⟩|⟨rfl,d⟩
 ·rw[θ rfl];go_enter func160,ntmps160;go_wp2
  go_loopw [11] (λs11 wr=>∃j:Nat,j<=2/\wr=w/\s11=iI j/\Hid (j=2->y=0)) (λs11 _=>2-(intOf s11).toNat)
  case atStart=>grind
  case round=>
   obtain⟨j,hj,rfl,rfl,HY⟩:=hrel;rcases(by omega:j=0\/j=1\/j=2)with rfl|rfl|rfl
   ·go_wp2;go_round
    case rel=>exact⟨1,by omega,trivial,by go_num,⟨λh=>by omega⟩⟩
    case measure=>simp[intOf]
   ·rcases HK.o with⟨rfl,q0,q1⟩|⟨rfl,q|⟨q,q2⟩⟩
    ·go_wp2;go_round
     case rel=>exact⟨2,by omega,trivial,by go_num,⟨λ_=>trivial⟩⟩
     case measure=>simp[intOf]
    ·go_wp2;go_ret
     simp_all
    ·go_wp2;go_ret
     simp_all
   ·have hy:=HY.o rfl;subst hy;go_wp2;go_ret
    simp_all
 ·rw[ψ (by decide)];rcases d with d0|⟨d0,d1⟩
  all_goals
   go_enter func160,ntmps160;go_wp2
   go_loopw [11] (λs11 wr=>wr=w/\s11=iI 0) (λ_ _=>0)
   case atStart=>simp_all
   case round=>
    obtain⟨rfl,rfl⟩:=hrel;go_wp2;go_ret
    simp_all
def QU(rs:List Int)(i k:Int):List Int:=if slE rs i=0/\slE rs k=0 then rs.set i.toNat (rs.getD k.toNat 0)else rs
theorem Jv2(h:A7 w r g rs)(i k:Int):Calls prog 167 #[pP r,iI i,iI k] w λe w'=>e=.returned (iI (if slE rs i=0 then slE rs k else 17))/\AB (λb=>b=g) w w'/\A7 w' r g (QU rs i k):=by
 have hg:=(Gr.refl w).alloc (.cells #[.int .i64 i,.int .i64 k] 3);have HC:=(ZP2 (h.gr hg) (b:=w.heap.size) (i:=i) (k:=k) ((Rec.new w 3 [iI i,iI k]).cell (j:=0) rfl) ((Rec.new w 3 [iI i,iI k]).cell (j:=1) rfl));have h':=h.gr hg;have E:=h'.le;have N:∀j,slE rs j=0\/slE rs j=17:=λj=>by unfold slE;omega
 by_cases X:slE rs i=0/\slE rs k=0
 ·have Z:∀j,slE rs j=0->0<=j/\j<rs.length:=λj hj=>by
   unfold slE at hj;omega
  obtain⟨i',rfl⟩:∃i':Nat,i=i':=⟨i.toNat,by grind⟩;obtain⟨k',rfl⟩:∃k':Nat,k=k':=⟨k.toNat,by grind⟩;have hi:=(Z _ X.1).2;have hk:=(Z _ X.2).2;have J:i' < rs.length:=Ω
  have V:k' < rs.length:=Ω
  have HX:Hid (QU rs i' k'=rs.set i' rs[k']):=⟨by unfold QU;simp_all⟩;have I:=(λ(W:World) (gg:Gr w W)=>(h.gr gg).cell V);have D:=((h.gr hg).cell J);have M:=(λ(W:World) (gg:Gr w W)=>GG (h.gr gg).row i');rw[θ X.1,X.2]at HC⊢;obtain⟨x,hx⟩:=ε (rs[k']);rw[<-hx]at I HX;obtain⟨n,hn⟩:=ε rs.length;have U:=(λ(W:World) (gg:Gr w W)=>(h.gr gg).rcd.cell (j:=0) rfl);rw[<-hn]at U E hi hk J V;have HI0:=J;clear h' hx hn X N Z;go_in;go_upto_region 3 with(go_at_call 160;refine HC.mono ?_;rintro e w1 ⟨rfl,rfl⟩);have z0:=M _ hg;generalize rs[i']=xo at D;obtain⟨Sx,Y,HS⟩:=AA.start λW'=>Gr w W';have y0:=AA.fact Y λ_ h=>U _ h;have y1:=AA.fact Y λ_ h=>I _ h;have y2:∀p:AA Sx,p.w.frozen? ⟨g,i',none⟩=false:=λp=>by have h:=AA.get Y p;exact M _ h
  have O:=HS.o _ (hg.drew);have inst:Inhabited (AA Sx):=⟨⟨_,O⟩⟩;clear Y;refine BI Sx 13 [([0,1,2,3,4,5,6,7,8,9,10,11,12],13)] [] O ?_;refine AL ?_;go_wp2;refine⟨.inl trivial,?_⟩;refine EM ?_;refine ζb ?_;refine ζx ?_;go_wp2;go_ret;exact⟨rfl,AB.setCell (S:=λb=>b=g) (hg.drew.touch _) (a:=⟨g,i',none⟩) (λ_=>rfl) _,by rw[HX.o];exact(h.gr hg.drew).set i' x⟩
 ·have HX:Hid (QU rs i k=rs):=⟨ψ X⟩
  have he:(if slE rs i=0 then slE rs k else 17)=17:=by
   grind
  rw[he]at HC⊢;go_in;go_wp2_with(go_at_call 160;refine HC.mono ?_;rintro e w1 ⟨rfl,rfl⟩);go_ret;exact⟨rfl,hg.touch _,by rw[HX.o];exact h'⟩
end
theorem XC(b:Nat)(w:World):(callFunc 91 #[uU b]).run prog w=.ok (.value (.float .f64 b)) w:=by kernel_rfl
theorem ZI9(b:Nat)(w:World):(callFunc 98 #[.float .f64 b]).run prog w=.ok (.value (uU b)) w:=by kernel_rfl
theorem Q9(b:Nat)(w:World):cQ 25 #[uU b] w (.float .f64 b):=by
 have h1:=XC b;go_enter func25,ntmps25;go_wp2;go_ret
 simp_all
theorem J6(b:Nat)(w:World):cQ 30 #[.float .f64 b] w (uU b):=by
 have h1:=ZI9 b;go_enter func30,ntmps30;go_wp2;go_ret
 simp_all
structure Sp.Wr(z:Sp)(FS:FuncId):Prop where
 ns:∀n w,(nilAhead (n+1) z.T z.rv "Store").run prog w=.ok (some false) w
 ms:∀n w,(method (n+1) z.T z.rv "Store").run prog w=.ok (FS,z.rv) w
 cs:∀args w,(callFunc FS args).run prog w=.ok (.enter FS args) w
 st:∀{u S w},z.I u S w->∀(a:Int) (x:Nat),z.P a->x<18446744073709551616->Calls prog FS #[z.rv,iI a,uU x] w (λe w'=>e=.returned (iI (u.ldE a))/\AB S w w'/\z.I (u.st a x) (plus S w) w')
def Sp.W(z:Sp)(u:Vm)(S:Nat->Prop)(w w':World):Prop:=AB S w w'/\z.I u (plus S w) w'
def Vm.seV(v:Vm)(a i kd:Int)(x:Nat):Vm:=if v.plE a i kd=0 then v.st (a+1+i) x else v
section
variable{z:Sp}{FS:FuncId}{S:Nat->Prop}{w1:World}
theorem Sp.E.toW(h:z.E v S w w'):z.W v S w w':=⟨h.1.mono (λ_ _ h=>h.2),h.2⟩
theorem Sp.E.transW(h:z.E v S w w1)(k:z.W v' (plus S w) w1 w')(hS:z.Ok):z.W v' S w w':=by
 have hz:=h.1.size;refine⟨(h.1.mono (λ_ _ h=>h.2)).trans' k.1 (λi hi hh=>hh.elim id (λh=>by omega)),hS.mono k.2 (λi hi=>?_)⟩;rcases hi with h1|h1
 ·exact h1
 ·exact .inr Ω
theorem Sp.W.gr(h:z.W v S w w1)(g:Gr w1 w')(hS:z.Ok):z.W v S w w':=⟨h.1.trans (g.touch _),hS.gr h.2 g⟩
theorem QV8(hS:z.Ok)(hI:z.I v S w)(a i:Int)(hP:0<a->z.P a)(hQ:v.plE a i 3=0->z.P (a+1+i)):Calls prog 214 #[z.v,iI a,iI i] w λe w'=>e=.returned (.tuple #[uU (v.gtV a i 3:Nat),iI (v.gtE a i 3)])/\z.E v S w w':=by
 have HG:=(Y6 hS hI a i 3 (by decide) hP hQ);go_in;go_wp2_with(go_at_call 230;refine Qa (HG) λw1 HG1=>?_);go_ret2
 simp_all
theorem QUr(hS:z.Ok)(hI:z.I v S w)(a i:Int)(hP:0<a->z.P a)(hQ:v.plE a i 2=0->z.P (a+1+i)):Calls prog 178 #[z.v,iI a,iI i] w λe w'=>e=.returned (.tuple #[.float .f64 (v.gtV a i 2),iI (v.gtE a i 2)])/\z.E v S w w':=by
 have HG:=(Y6 hS hI a i 2 (by decide) hP hQ);generalize v.gtV a i 2=x at HG⊢;go_in
 go_wp2_with(first|(go_at_call 230;refine Qa (HG) λw1 HG1=>?_)|(go_at_call 25;refine AJ (Q9 x _) ?_))
 go_ret2
 simp_all
theorem QnX(hS:z.Ok)(hW:z.Wr FS)(hI:z.I v S w)(a i kd:Int)(hk:kd≠0)(hP:0<a->z.P a)(hQ:v.plE a i kd=0->z.P (a+1+i))(hx:x<18446744073709551616):Calls prog 231 #[z.v,iI a,iI i,iI kd,uU x] w λe w'=>e=.returned (iI (v.gtE a i kd))/\z.W (v.seV a i kd x) S w w':=by
 have X:=(RI hS hI a i kd hk hP);have n1:=hW.ns;have n2:=hW.ms;have n3:=hW.cs;have HW:=hW;have HX:=hx;unfold Sp.v at X⊢;by_cases hE:v.plE a i kd=0
 ·have HE:Hid (v.gtE a i kd=v.ldE (a+1+i)/\v.seV a i kd x=v.st (a+1+i) x):=⟨⟨ψ (λh=>h hE),θ hE⟩⟩;have HA:Hid (v.plA a i kd=a+1+i):=⟨θ hE⟩;rw[hE,HA.o]at X;have J:=(hQ hE);generalize a+1+i=U at HE X J;go_in
  go_wp2_with(first|(go_at_call 229;refine Qa (X) λw1 Z=>?_;have Y:=Z)|(refine Qa (HW.st Y.2 U x J HX) λw2 M=>?_;have V:Hid (z.W (v.st U x) (plus S w) w1 w2):=⟨M⟩))
  go_ret;exact⟨AU HE.o.1.symm,by rw[HE.o.2];exact Y.transW V.o hS⟩
 ·have HE:Hid (v.gtE a i kd=v.plE a i kd/\v.seV a i kd x=v):=⟨⟨θ hE,ψ hE⟩⟩;obtain⟨y,hy⟩:=ε (v.plE a i kd);have d2:(y==0)=false:=by rw[hy];simpa using hE
  rw[<-hy]at HE X;clear hE hy hI hP hQ hW hx;go_in;go_wp2_with(go_at_call 229;refine Qa (X) λw1 Y=>?_);go_ret;exact⟨AU HE.o.1.symm,by rw[HE.o.2];exact Y.toW⟩
theorem XXd(hS:z.Ok)(hW:z.Wr FS)(hI:z.I v S w)(a i:Int)(hP:0<a->z.P a)(hQ:v.plE a i 3=0->z.P (a+1+i))(hx:x<18446744073709551616):Calls prog 172 #[z.v,iI a,iI i,uU x] w λe w'=>e=.returned (iI (v.gtE a i 3))/\z.W (v.seV a i 3 x) S w w':=by
 have HG:=(QnX hS hW hI a i 3 (by decide) hP hQ hx);go_in;go_wp2_with(go_at_call 231;refine Qa (HG) λw1 HG1=>?_);go_ret
 simp_all
theorem Ycv(hS:z.Ok)(hW:z.Wr FS)(hI:z.I v S w)(a i:Int)(hP:0<a->z.P a)(hQ:v.plE a i 2=0->z.P (a+1+i))(hx:x<18446744073709551616):Calls prog 171 #[z.v,iI a,iI i,.float .f64 x] w λe w'=>e=.returned (iI (v.gtE a i 2))/\z.W (v.seV a i 2 x) S w w':=by
 have HG:=(QnX hS hW hI a i 2 (by decide) hP hQ hx);go_in
 go_wp2_with(first|(go_at_call 30;refine AJ (J6 x _) ?_)|(go_at_call 231;refine Qa (HG) λw1 HG1=>?_))
 go_ret
 simp_all
theorem Xz9(hS:z.Ok)(hW:z.Wr FS)(hI:z.I v S w)(a i:Int)(hP:0<a->z.P a)(hQ:v.plE a i 1=0->z.P (a+1+i))(hx:x<=2147483647):Calls prog 166 #[z.v,iI a,iI i,iI x] w λe w'=>e=.returned (iI (v.gtE a i 1))/\z.W (v.seV a i 1 x) S w w':=by
 have X:=(RI hS hI a i 1 (by decide) hP);have n1:=hW.ns;have n2:=hW.ms;have n3:=hW.cs;have HW:=hW;have HX:Hid (x<18446744073709551616):=⟨by omega⟩;have e1:decide ((x:Int)<0)=false:=ζ Ω;have e2:decide (2147483647<(x:Int))=false:=ζ Ω;have e3:IntKind.u64.wrap (x:Int)=(x:Int):=by rw[ζG];omega
 unfold Sp.v at X⊢;by_cases hE:v.plE a i 1=0
 ·have HE:Hid (v.gtE a i 1=v.ldE (a+1+i)/\v.seV a i 1 x=v.st (a+1+i) x):=⟨⟨ψ (λh=>h hE),θ hE⟩⟩;have HA:Hid (v.plA a i 1=a+1+i):=⟨θ hE⟩;rw[hE,HA.o]at X;have J:=(hQ hE);generalize a+1+i=U at HE X J;go_in
  go_wp2_with(first|(go_at_call 229;refine Qa (X) λw1 Z=>?_;have Y:=Z)|(refine Qa (HW.st Y.2 U x J HX.o) λw2 M=>?_;have V:Hid (z.W (v.st U x) (plus S w) w1 w2):=⟨M⟩))
  go_ret;exact⟨AU HE.o.1.symm,by rw[HE.o.2];exact Y.transW V.o hS⟩
 ·have HE:Hid (v.gtE a i 1=v.plE a i 1/\v.seV a i 1 x=v):=⟨⟨θ hE,ψ hE⟩⟩;obtain⟨y,hy⟩:=ε (v.plE a i 1);have d2:(y==0)=false:=by rw[hy];simpa using hE
  rw[<-hy]at HE X;clear hE hy hI hP hQ hW hx;go_in;go_wp2_with(go_at_call 229;refine Qa (X) λw1 Y=>?_);go_ret;exact⟨AU HE.o.1.symm,by rw[HE.o.2];exact Y.toW⟩
end
def Gph.Ro(g:Gph)(x:Nat):Prop:=x=0\/g.Rd x
theorem Gph.at_ro{g:Gph}{i:Int}(h:g.sl i=true):g.Ro (g.at i):=by
 unfold Gph.sl at h;rw[ζd,ζg,ζg]at h;by_cases h0:g.at i=0
 ·exact .inl h0
 ·refine .inr (Gph.Rd.root ?_ h0);unfold Gph.at
  simp_all
def Gph.erE(g:Gph)(x:Nat)(i kd:Int):Int:=if x=0 then 18 else if BS (g.ob x).hdr i=0 then 19 else if BS (g.ob x).hdr i=kd then 0 else 20
theorem Gph.fdE_er{g:Gph}{a:Int}(h:g.sl a=true)(i kd:Int):g.fdE a i kd=g.erE (g.at a) i kd:=by unfold Gph.fdE Gph.erE;rw[θ h]
section
variable{g:Gph}{F:Nat->Nat}
theorem Z3T{g:Gph}(ho:g.Ok)(hx:g.Rd x){i:Int}(hk:kd≠0)(h:BS (g.ob x).hdr i=kd):∃n:Nat,i=n/\n<(g.ob x).p+(g.ob x).f+(g.ob x).k/\(kd=1↔n<(g.ob x).p):=by
 obtain⟨h1,h2⟩:=ho.rd hx;have hl:=(ho.len _ (Gph.ob_mem h1 h2)).2;have hN:CD (g.ob x).hdr=1+((g.ob x).p:Int)+(g.ob x).f+(g.ob x).k:=θ (DM hl);unfold BS at h
 split at h
 ·rename_i hin;refine⟨i.toNat,by omega,by omega,?_⟩;have hp:(g.ob x).hdr.p=((g.ob x).p:Int):=rfl;omega
 omega
theorem Img.plE(h:Img v g F lo hi)(hx:g.Ro x)(i:Int)(hk:kd≠0):v.plE (F x) i kd=g.erE x i kd:=by
 unfold Vm.plE Gph.erE;rcases hx with rfl|hx
 ·rw[h.z,θ rfl];have:v.rdE ((0:Nat):Int)=18:=by unfold Vm.rdE;omega
  assumption
 ·have hp:=h.pos hx;have h0:x≠0:=λe=>by rw[e,h.z]at hp;omega
  rw[h.rd x hx,ψ (λhh=>hh rfl),h.hd x hx,ψ h0];omega
theorem Img.inP(h:Img v g F lo hi)(ho:g.Ok)(hx:g.Ro x){i:Int}(hk:kd≠0)(he:g.erE x i kd=0):g.Rd x/\∃n:Nat,i=n/\n<(g.ob x).p+(g.ob x).f+(g.ob x).k/\(kd=1↔n<(g.ob x).p)/\(F x:Int)+1+i=((F x+1+n:Nat):Int)/\lo<=F x+1+n/\F x+1+n<hi:=by
 unfold Gph.erE at he;have h0:x≠0:=λe=>by omega
 rw[ψ h0]at he;have hr:=hx.resolve_left h0
 have e:BS (g.ob x).hdr i=kd:=by
  omega
 obtain⟨n,rfl,h1,h2⟩:=Z3T ho hr hk e;have:=h.lo x hr;have hz:(g.ob x).size=1+(g.ob x).p+(g.ob x).f+(g.ob x).k:=rfl
 grind
theorem Img.gtE(h:Img v g F lo hi)(ho:g.Ok)(hx:g.Ro x)(i:Int)(hk:kd≠0):v.gtE (F x) i kd=g.erE x i kd:=by
 unfold Vm.gtE;rw[h.plE hx i hk];by_cases he:g.erE x i kd=0
 ·rw[ψ (λhh=>hh he),he];obtain⟨hr,n,rfl,h1,h2,h3,-,-⟩:=h.inP ho hx hk he;rcases δ n (g.ob x).p with h4|h4
  ·have:=(NP (h.pt x hr n h4).1).2.2.1;exact this
  ·exact(h.wd x hr n h4 h1).1
 omega
theorem Img.gtV(h:Img v g F lo hi)(ho:g.Ok)(hx:g.Ro x)(i:Int)(hk:kd≠0)(hk1:kd≠1):v.gtV (F x) i kd=if g.erE x i kd=0 then (g.ob x).w.getD i.toNat 0 else 0:=by
 unfold Vm.gtV;rw[h.plE hx i hk];by_cases he:g.erE x i kd=0
 ·rw[ψ (λhh=>hh he),θ he];obtain⟨hr,n,rfl,h1,h2,h3,-,-⟩:=h.inP ho hx hk he;exact(h.wd x hr n (ξQ λh4=>hk1 (h2.2 h4)) h1).2
 simp_all
theorem Img.ptE(h:Img v g F lo hi)(ho:g.Ok)(hx:g.Ro x)(i:Int):v.ptE (F x) i=g.erE x i 1/\(g.erE x i 1=0->v.ptV (F x) i=F ((g.ob x).w.getD i.toNat 0)/\g.Ro ((g.ob x).w.getD i.toNat 0)):=by
 by_cases he:g.erE x i 1=0
 ·obtain⟨hr,n,rfl,h1,h2,h3,-,-⟩:=h.inP ho hx (by decide) he;have h4:=h2.1 rfl;obtain⟨p1,p2⟩:=h.pt x hr n h4;refine⟨p1.trans he.symm,λ_=>⟨p2,?_⟩⟩;by_cases h0:(g.ob x).w.getD n 0=0
  ·exact .inl h0
  ·exact .inr (hr.step (RU ho hr h4) h0)
 ·refine⟨?_,λhh=>absurd hh he⟩;unfold Vm.ptE;rw[h.gtE ho hx i (by decide),θ he]
theorem Img.seV(h:Img v g F lo hi)(hv:AH v)(ho:g.Ok)(hx:g.Ro x)(i:Int)(hk:kd≠0)(y:Nat)(hy:kd=1->g.Ro y)(hhi:hi<=2147483647):g.erE x i kd=0->Img (v.seV (F x) i kd (if kd=1 then F y else y)) (g.put x i.toNat y) F lo hi:=λhe=>by
 obtain⟨hr,n,rfl,h1,h2,h3,h4,h5⟩:=h.inP ho hx hk he;have X:v.plE (F x) n kd=0:=(h.plE hx n hk).trans he;unfold Vm.seV;rw[θ X,h3,β]
 have hl:v.ldE ((F x+1+n:Nat):Int)=0:=by
  have:=h.gtE ho hx n hk;unfold Vm.gtE at this
  simp_all
 refine h.put ho hr h1 (λhn=>hy (h2.2 hn)) hhi λa a1 a2 a3=>?_;rw[GO,hv.st_ldV _ hl]
 grind
end
theorem Y7w{P:Program}(w:World)
  (hg:o.guard=none) (m x v:Operand) (t:TypeId) (hop:o.op=Op.mapUpdate t m x v)
  (k e:TypeId) (K:Maps.Keyed P k) (ht:P.underlying t=some (.map k e)) (hk:P.underlying k=some (.int .i64)) (b n:Nat) (f:Int->Option Value)
  (hm:a.eval m=.map (some b)) (hown:BH P k w b n f) (hn:n<maxLen) (key:Int) (val:Value) (hx:a.eval x=.int .i64 key) (hv:a.eval v=val) (hw:(Lit.int .i64 key).wf=true)
  (hK:∀w',BH P k w' b (n+1) (λy=>if y=key then some val else f y)->AB (λi=>i=b) w w'->wpListIn F nF P ops Q rest (a.put o.dst undef) w'):
  wpListIn F nF P ops Q (o :: rest) a w:=by
 obtain⟨w',X,h1,h2⟩:=hown.put K ht hk hn key val hw;refine wpListIn_plain hg λK' hK'=>?_;refine⟨by simp[Oper.about,hop],?_⟩;rw[Oper.semAt_plain F _ _ (by simp_all)];simp[execOp,hop,hm,hx,hv,X,Result.andThen];exact hK' _ _ (hK w' h1 h2)
theorem V63{P:Program}(w:World)
  (hg:o.guard=none) (l c:Operand) (t:TypeId) (hop:o.op=Op.makeSlice t l c)
  (base:Nat) (e:TypeId) (i:TypeInfo) (z:Value) (size:Nat) (h1:P.underlying t=some (.slice e)) (h2:P.info? e=some i) (h3:i.zero=some z) (h4:i.size=size)
  (kl kc:IntKind) (n:Nat) (hl:a.eval l=.int kl n) (hc:a.eval c=.int kc n) (b1:n*size<=16777216) (b2:i.bytes*n<=281474976710656) (b3:n<=maxLen) (b4:base<=w.heap.size)
  (hK:∀w',w'.ownsRow base e size (.slice (some ⟨w.heap.size,0,none⟩) n n) n (madeCells z.cells (n*size)).toList->w.grownBy w' none->wpListIn F nF P ops Q rest (a.put o.dst (.slice (some ⟨w.heap.size,0,none⟩) n n)) w'):
  wpListIn F nF P ops Q (o :: rest) a w:=by
 obtain⟨w',X,r1,r2⟩:=run_makeSlice_full (P:=P) w base t e i z size h1 h2 h3 h4 kl kc n b1 b2 b3 b4;refine wpListIn_plain hg λK' hK'=>?_;refine⟨by simp[Oper.about,hop],?_⟩;rw[Oper.semAt_plain F _ _ (by simp_all)];simp[execOp,hop,hl,hc,X,Result.andThen];exact hK' _ _ (hK w' r1 r2)
theorem Ya9{P:Program}(w:World)
  (hg:o.guard=none) (t:TypeId) (hop:o.op=Op.makeMap t none) (hK:wpListIn F nF P ops Q rest (a.put o.dst (.map (some w.heap.size))) (w.alloc (.map #[] 0))):wpListIn F nF P ops Q (o :: rest) a w:=by
 have X:(Instr.makeMap t none).run P w=.ok (.map (some w.heap.size)) (w.alloc (.map #[] 0)):=rfl;refine wpListIn_plain hg λK' hK'=>?_;refine⟨by simp[Oper.about,hop],?_⟩;rw[Oper.semAt_plain F _ _ (by simp_all)];simp[execOp,hop,X,Result.andThen];exact hK' _ _ hK
theorem J0U(z:Value)(n:Nat):(madeCells #[z] n).toList=List.replicate n z:=by
 unfold madeCells;apply ξA
 ·simp
 grind
def VS(md:Region.Mode)(ops:Array Oper)(ds:List (Nat×List Nat)):Bool:=ds.all λd=>match ops[d.1]? with
 | some o=>d.2.all λi=>o.after.any λe=>Region.binds md e&&e.on==i
 | none=>false
def UI(md:Region.Mode)(ops:Array Oper):Bool:=(List.range ops.size).all λj=>match ops[j]? with
 | some o=>o.after.all λe=>!Region.binds md e||decide (e.on<j)
 | none=>true
def XEe(l0:Array Bool)(ds:List (Nat×List Nat))(n:Nat):Bool:=(List.range n).all λk=>l0.getD k false||ds.any λd=>d.1==k
def upD(D:Nat->Bool)(k:Nat):Nat->Bool:=λj=>if j=k then true else D j
theorem XRT{f g:Nat->Bool}(h:∀j,g j=true->f j=true)(hi:i<n)(h1:f i=true)(h2:g i=false):cnt g n+1<=cnt f n:=by
 have key:∀m,cnt g m+(if i<m then 1 else 0)<=cnt f m:=λm=>by
  induction m with
  | zero=>simp[MU]
  | succ m ih=>
   rw[C1,C1];by_cases e:i=m
   ·simp_all
   ·have h4:(g m).toNat<=(f m).toNat:=by cases hg:g m <;> cases hf:f m <;> simp_all
    grind
 grind
section
variable{P:Program}{l:List Oper}
def O0(F:Fence)(n:Nat)(P:Program)(l:List Oper)(S:World->Prop)(Q:Exit->Act->World->Prop)(I:(Nat->Bool)->Act->World->Prop):List (Nat×List Nat)->Prop
 | []=>True
 | d :: r=>(∀(D:Nat->Bool) (a:Act) (w:World),I D a w->S w->D d.1=false->(∀i∈d.2,D i=true)->wpListIn F n P l.toArray (Exit.then (λa2 w2=>S w2/\I (upD D d.1) a2 w2) Q) (AF l [d.1]) a w)/\O0 F n P l S Q I r
theorem J0P(h:O0 F n P l S Q I ds){d:Nat×List Nat}(hd:d∈ds):
  ∀(D:Nat->Bool) (a:Act) (w:World),I D a w->S w->D d.1=false->(∀i∈d.2,D i=true)->wpListIn F n P l.toArray (Exit.then (λa2 w2=>S w2/\I (upD D d.1) a2 w2) Q) (AF l [d.1]) a w:=by
 induction ds with
 | nil=>cases hd
 | cons e r ih=>
  rcases ξC.1 hd with rfl|hd
  ·exact h.1
  ·exact ih h.2 hd
theorem YEX(hlow:UI md l.toArray=true)(hr:Region.ready md l.toArray listed=[])(hs:listed.size=l.toArray.size):∀j,j<l.toArray.size->listed.getD j false=true:=by
 intro j
 induction j using Nat.strongRecOn with
 | ind j ih=>
  intro hj;cases hb:listed.getD j false with
  | true=>rfl
  | false=>
   exfalso;have X:l.toArray[j]?=some l.toArray[j]:=Array.getElem?_eq_getElem hj;have hl:=ζ1.1 hlow j (ξp.2 hj);rw[X]at hl;have hl:(l.toArray[j].after.all λe=>!Region.binds md e||decide (e.on<j))=true:=hl
   have hm:j∈Region.ready md l.toArray listed:=by
    refine mem_ready.2 ⟨?_,_,X,λe he hbe=>?_⟩
    ·grind
    ·have h1:=Array.all_eq_true_iff_forall_mem.1 hl e he
     grind
   simp_all
theorem SF(hi:i<listed.size):(λj=>(listed.setIfInBounds i true).getD j false)=upD (λj=>listed.getD j false) i:=by
 funext j
 unfold upD;simp only[ξO,Array.getElem?_setIfInBounds]
 grind
theorem QPK(hlow:UI md l.toArray=true)(hwt:VS md l.toArray ds=true)(hst:O0 F n P l S Q I ds)
  (hfin:∀(D:Nat->Bool) (a:Act) (w:World),I D a w->S w->(∀j,j<l.toArray.size->D j=true)->Q .normal a w):
  ∀(f:Nat) (listed:Array Bool) (a:Act) (w:World),BE md l.toArray listed->listed.size=l.toArray.size->cnt (λj=>!listed.getD j false) l.toArray.size<=f →
   (∀k,k<l.toArray.size->listed.getD k false=false->∃d∈ds,d.1=k)->S w->I (λj=>listed.getD j false) a w->IE F n P md l.toArray Q S z f listed a w:=by
 intro f
 induction f with
 | zero=>
  intro listed a w hc hs hf Y hS hI
  have X:∀j,j<l.toArray.size->listed.getD j false=true:=λj hj=>by
   grind [XK]
  refine⟨?_,hfin _ a w hI hS X⟩;cases hr:Region.ready md l.toArray listed with
  | nil=>rfl
  | cons i r=>
   exfalso;have hi:i∈Region.ready md l.toArray listed:=by rw[hr];exact ζu ..
   obtain⟨h1,o,ho,-⟩:=mem_ready.1 hi
   grind
 | succ f ih=>
  intro listed a w hc hs hf Y hS hI;refine⟨λhr=>hfin _ a w hI hS (YEX hlow hr hs),λi hi=>?_⟩;obtain⟨h1,o,ho,X⟩:=mem_ready.1 hi;have V:i<l.toArray.size:=(ζq.1 ho).1
  have J:listed.getD i false=false:=by
   rw[ξO,Array.getElem?_eq_getElem Ω]at h1⊢;exact h1
  obtain⟨d,hd,rfl⟩:=Y i V J;have hw:=ζ1.1 hwt d hd;rw[ho]at hw;have hw:(d.2.all λi=>o.after.any λe=>Region.binds md e&&e.on==i)=true:=hw
  have U:∀i∈d.2,listed.getD i false=true:=λi hi=>by
   have h2:=ζ1.1 hw i hi;obtain⟨e,he,h3⟩:=Array.any_eq_true'.1 h2;obtain⟨h4,h5⟩:=ξa.1 h3;have h5:e.on=i:=by simpa using h5
   rw[<-h5];exact X e he h4
  have Z:=J0P hst hd _ a w hI hS J U;rw[EK ho]at Z;refine QY ho (λa2 w2 h2=>⟨.inr h2.1,ih _ a2 w2 (hc.set hi) (by rw[Array.size_setIfInBounds];exact hs) ?_ ?_ h2.1 ?_⟩) Z
  ·have hd':=XRT (f:=λj=>!listed.getD j false) (g:=λj=>!(listed.setIfInBounds d.1 true).getD j false) (n:=l.toArray.size) (i:=d.1) (λj hj=>by
    have e:=congrFun (SF (listed:=listed) (i:=d.1) Ω) j;rw[e]at hj;unfold upD at hj
    split at hj
    ·simp at hj
    ·exact hj) V (by rw[J];rfl) (by
    have e:=congrFun (SF (listed:=listed) (i:=d.1) Ω) d.1;rw[e];unfold upD
    rw[θ rfl];rfl)
   omega
  ·intro k hk hl;have e:=congrFun (SF (listed:=listed) (i:=d.1) Ω) k;rw[e]at hl;unfold upD at hl
   split at hl
   ·cases hl
   ·exact Y k hk hl
  grind [SF]
theorem JSy(S:World->Prop)(qs:List Nat)(l0:Array Bool)(ds:List (Nat×List Nat))(I:(Nat->Bool)->Act->World->Prop)(hF:∀f,F.fn f)(hm:P.follows .mixedOrders=true)
  (hB:(GY l.toArray&&Region.noSelect l.toArray&&UI .any l.toArray&&VS .any l.toArray ds&&XEe l0 ds l.toArray.size&&decide (G9 .any l.toArray qs (Array.replicate l.toArray.size false)=some l0)&&decide (l0.size=l.toArray.size)&&decide (qs.length+cnt (λj=>!l0.getD j false) l.toArray.size=l.toArray.size))=true) (hS:S w.drew)
  (h:wpQuiet P l.toArray (λw'=>∃p:AA S,w'=p.w) (λa'=>I (λj=>l0.getD j false) a' w.drew) (AF l qs) a)
  (hst:O0 F n P l (λw'=>∃p:AA S,w'=p.w) (NoPanic Q) I ds)
  (hfin:∀(D:Nat->Bool) (a:Act) (w:World),I D a w->(∃p:AA S,w=p.w)->(∀j,j<l.toArray.size->D j=true)->NoPanic Q .normal a w):(Code.region id l.toArray true).wpIn F n P Q a w:=by
 simp only[ζd,ζg]at hB;obtain⟨⟨⟨⟨⟨⟨⟨V,X⟩,Y⟩,U⟩,Z⟩,M⟩,N⟩,J⟩:=hB;refine wpIn_mono (wpIn_region_any hm ?_) NoPanic.imp;have hz:DF .any l.toArray l.toArray.size=true:=by unfold DF;simp
 have:=QV (F:=F) (n:=n) (P:=P) (Q:=NoPanic Q) (S:=λw'=>∃p:AA S,w'=p.w) (md:=.any) (f:=cnt (λj=>!l0.getD j false) l.toArray.size) (K:=λa'=>I (λj=>l0.getD j false) a' w.drew) hF V X (λc a b w h=>h) hz (AA.of hS)
  (λa hc hI=>QPK Y U hst hfin _ l0 a w.drew hc N (μ _) (λk hk hl=>by
   have:=ζ1.1 Z k (ξp.2 hk)
   simp_all) (AA.of hS) hI) qs _ a M (BE.none .any l.toArray) h
 rw[J]at this;exact RE _ _ _ _ this
theorem VMF(S:World->Prop)(qs:List Nat)(l0:Array Bool)(ds:List (Nat×List Nat))(I:Act->(Nat->Bool)->Act->World->Prop)(hF:∀f,F.fn f)(hm:P.follows .mixedOrders=true)
  (hB:(GY l.toArray&&Region.noSelect l.toArray&&UI .any l.toArray&&VS .any l.toArray ds&&XEe l0 ds l.toArray.size&&decide (G9 .any l.toArray qs (Array.replicate l.toArray.size false)=some l0)&&decide (l0.size=l.toArray.size)&&decide (qs.length+cnt (λj=>!l0.getD j false) l.toArray.size=l.toArray.size))=true) (hS:S w.drew)
  (h:wpQuiet P l.toArray (λw'=>∃p:AA S,w'=p.w) (λa'=>I a (λj=>l0.getD j false) a' w.drew) (AF l qs) a)
  (hst:O0 F n P l (λw'=>∃p:AA S,w'=p.w) (NoPanic Q) (I a) ds)
  (hfin:∀(D:Nat->Bool) (a':Act) (w:World),I a D a' w->(∃p:AA S,w=p.w)->(∀j,j<l.toArray.size->D j=true)->NoPanic Q .normal a' w):(Code.region id l.toArray true).wpIn F n P Q a w:=
 JSy S qs l0 ds (I a) hF hm hB hS h hst hfin
end
section
variable{P:Program}
def LY(P:Program)(md:Region.Mode)(ops:Array Oper)(Q:Exit->Act->World->Prop)(S:World->Prop)(z:Nat):Nat->Array Bool->Act->World->Prop
 | 0,listed,a,w=>Region.ready md ops listed=[]/\Q .normal a w
 | f+1,listed,a,w=>
  (Region.ready md ops listed=[]->Q .normal a w) ∧
  ∀i∈Region.ready md ops listed,wpOp P ops Q i (λa' w'=>(z<=i\/S w')/\LY P md ops Q S z f (listed.setIfInBounds i true) a' w') a w
theorem ZmF{z:Nat}:∀(f:Nat) (listed:Array Bool) (a:Act) (w:World),LY P md ops Q S z f listed a w->wpAny P md ops Q f listed a w
 | 0,_,_,_,h=>h
 | f+1,_,_,_,h=>⟨h.1,λi hi=>wpOp_mono (λa' w' h'=>ZmF f _ a' w' h'.2) (h.2 i hi)⟩
def IA(md:Region.Mode)(ops:Array Oper)(z:Nat):Bool:=(List.range ops.size).all λk=>decide (k<z)||(List.range z).all λi=>anc md ops ops.size k i
theorem Z9(hz:IA md ops z=true)(h:BE md ops listed)(hr:k∈Region.ready md ops listed)(hk:z<=k)(hi:i<z):listed.getD i false=true:=by
 obtain⟨_,oz,hoz,hall⟩:=mem_ready.1 hr;simp only[IA,ζW,ζg,ζ1,ξp]at hz
 grind [O7]
theorem YjG{v:Value}(hi:ops[i]?=some oi)(hiz:i<z)(hsel:∀(j:Nat) (o:Oper) cs b,ops[j]?=some o->o.op≠.select cs b)
  (hQ:∀c a w,Q (.panic c) (a.put oi.dst v) w->Q (.panic c) a w) (hz:IA md ops z=true):
  ∀(f:Nat) (listed:Array Bool) (a:Act) (w:World),BE md ops listed →
   (∀j oj,ops[j]?=some oj->j≠i->listed.getD j true=false->(∀e∈oj.after,Region.binds md e=true->e.on≠i)->oi.apart ops oj=true) →
   i∈Region.ready md ops listed->YieldsIf P ops S oi v a->S w →
   LY P md ops Q S z f (listed.setIfInBounds i true) (a.put oi.dst v) w->LY P md ops Q S z (f+1) listed a w:=by
 intro f
 induction f with
 | zero=>
  intro listed a w _ _ hr hy hS H;refine⟨λh=>(by simp_all),λj hj=>?_⟩;by_cases X:j=i
  ·subst X;exact hy.wpOp hi hS ⟨.inr hS,H⟩
  ·have:=ready_mono hj X;rw[H.1]at this;cases this
 | succ f ih=>
  intro listed a w O Y hr hy hS H;refine⟨λh=>(by simp_all),λj hj=>?_⟩;by_cases X:j=i
  ·subst X;exact hy.wpOp hi hS ⟨.inr hS,H⟩
  ·have h1:=H.2 j (ready_mono hj X);obtain⟨U,oj,V,M⟩:=mem_ready.1 hj;have Z:=(mem_ready.1 hr).1;have D:¬z<=j:=λe=>IF Z (Z9 hz O hj e hiz);have N:∀e∈oj.after,Region.binds md e=true->e.on≠i:=λe he hb heq=>IF Z (heq▸M e he hb);have h2:=wpOp_putIf V (Y j oj V X U N) (λcs b=>hsel i oi cs b hi) (λcs b=>hsel j oj cs b V) hQ hy h1
   have J:∀k ok,ops[k]?=some ok->k≠i->(listed.setIfInBounds j true).getD k true=false →
     (∀e∈ok.after,Region.binds md e=true->e.on≠i)->oi.apart ops ok=true:=λk ok hk hki Z hno=>by
    refine Y k ok hk hki ?_ hno;by_cases I:j=k
    ·subst I;exact U
    ·rw[getD_set_ne true I]at Z;exact Z
   refine wpOp_mono (λa' w' h3=>?_) h2;obtain⟨h3,h4,h5⟩:=h3;have E:S w':=h4.resolve_left D;refine⟨h4,ih (listed.setIfInBounds j true) a' w' (O.set hj) J (ready_mono hr (Ne.symm X)) h3 E ?_⟩
   grind [ξ0]
def JD(md:Region.Mode)(ops:Array Oper)(z:Nat):List (Bool×Nat)->Array Bool->Bool
 | [],listed=>(Region.ready md ops listed).isEmpty
 | (true,k) :: r,listed=>decide (Region.ready md ops listed=[k])&&(decide (k<z)||r.all λx=>x.1)&&JD md ops z r (listed.setIfInBounds k true)
 | (false,k) :: r,listed=>(Region.ready md ops listed).contains k&&Region.free md ops listed k&&((ops[k]?).any H8)&&decide (k<z)&&JD md ops z r (listed.setIfInBounds k true)
def MZ(P:Program)(l:List Oper)(S:World->Prop)(z:Nat)(Q:Exit->Act->World->Prop):List (List Nat×Nat)->List Nat->Act->World->Prop
 | [],fin,a,w=>wpQuiet P l.toArray S (λa'=>Q .normal a' w) (AF l fin) a
 | (qs,k) :: r,fin,a,w=>wpQuiet P l.toArray S (λa'=>wpList P l.toArray (Exit.then (λa2 w2=>(z<=k\/S w2)/\MZ P l S z Q r fin a2 w2) Q) (AF l [k]) a' w) (AF l qs) a
end
section
variable{P:Program}{l:List Oper}
theorem ZF(hsel:Region.noSelect l.toArray=true)(hQ:∀c a b w,Q (.panic c) b w->Q (.panic c) a w)(hz:IA md l.toArray z=true){w:World}{K:Act->Prop}{R:List (Bool×Nat)}{f:Nat}
  (hK:∀listed a,JD md l.toArray z R listed=true->BE md l.toArray listed->K a->LY P md l.toArray Q S z f listed a w):
  ∀(qs:List Nat) (listed:Array Bool) (a:Act),(S w\/qs=[])->JD md l.toArray z (qs.map (λk=>(false,k))++R) listed=true->BE md l.toArray listed->wpQuiet P l.toArray S K (AF l qs) a →
   LY P md l.toArray Q S z (qs.length+f) listed a w
 | [],listed,a,_,hB,hc,h=>by simpa using hK listed a hB hc h
 | k :: qs,listed,a,hS,hB,hc,h=>by
  have hS:S w:=hS.resolve_right (by simp);simp only[ξr,ζv,JD,ζd]at hB;obtain⟨⟨⟨⟨hr,hf⟩,hq⟩,hkz⟩,J⟩:=hB;cases ho:l.toArray[k]? with
  | none=>simp_all
  | some o=>
   rw[ho]at hq;have Y:k∈Region.ready md l.toArray listed:=by simp_all
   rw[EK ho]at h;simp only[wpQuiet]at h
   have hy:∃v,YieldsIf P l.toArray S o v a/\wpQuiet P l.toArray S K (AF l qs) (a.put o.dst v):=by
    split at h
    ·rename_i hw;obtain⟨v,h1,h2⟩:=h
     grind [MP]
    ·rename_i hw;exact⟨undef,.inr ⟨by simp_all,rfl⟩,h⟩
   obtain⟨v,hy,Z⟩:=hy;have X:(k :: qs).length+f=(qs.length+f)+1:=by simp;omega
   rw[X];exact YjG ho (by simp_all) (Region.noSelect_spec hsel) (λc a w h=>hQ c a _ w h) hz _ listed a w hc (Region.free_spec ho hf) Y hy hS (ZF hsel hQ hz hK qs _ _ (.inl hS) J (hc.set Y) Z)
theorem ZHG(hsel:Region.noSelect l.toArray=true)(hQ:∀c a b w,Q (.panic c) b w->Q (.panic c) a w)(hz:IA md l.toArray z=true):
  ∀(segs:List (List Nat×Nat)) (fin:List Nat) (listed:Array Bool) (a:Act) (w:World),JD md l.toArray z (AY segs fin) listed=true->BE md l.toArray listed->(S w\/((AY segs fin).all λx=>x.1)=true)->MZ P l S z Q segs fin a w →
   LY P md l.toArray Q S z (AY segs fin).length listed a w
 | [],fin,listed,a,w,hB,hc,hS,h=>by
  have hS':S w\/fin=[]:=hS.imp id λh=>by
   cases fin with
   | nil=>rfl
   | cons x y=>simp[AY]at h
  have:=ZF (R:=[]) (f:=0) (K:=λa'=>Q .normal a' w) hsel hQ hz (λlisted a hB _ h=>⟨by simpa[JD]using hB,h⟩) fin listed a hS' (by simpa[AY]using hB) hc h;simpa[AY]using this
 | (qs,k) :: r,fin,listed,a,w,hB,hc,hS,h=>by
  have hS':S w\/qs=[]:=hS.imp id λh=>by
   cases qs with
   | nil=>rfl
   | cons x y=>simp[AY]at h
  have X:(AY ((qs,k) :: r) fin).length=qs.length+((AY r fin).length+1):=by simp[AY]
  rw[X];refine ZF hsel hQ hz (λlisted a hB hc h=>?_) qs listed a hS' (by assumption) hc h;simp only[JD,ζd,ζg,ζW]at hB;obtain⟨⟨hr,hkz⟩,Z⟩:=hB;have Y:k∈Region.ready md l.toArray listed:=by rw[hr];simp
  refine⟨λh0=>(by simp_all),λi hi=>?_⟩;rw[hr]at hi;obtain rfl:i=k:=by simp_all
  obtain⟨_,o,ho,_⟩:=mem_ready.1 Y;rw[EK ho]at h;refine ML ho (λa2 w2 h2=>⟨h2.1,ZHG hsel hQ hz r fin _ a2 w2 Z (hc.set Y) ?_ h2.2⟩) h
  grind
theorem Xw6
  (h:wpQuiet P l.toArray S (λa'=>wpList P l.toArray (Exit.then (λa2 w2=>(z<=k\/S w2)/\MZ P l S z Q r fin a2 w2) Q) (AF l [k]) a' w) (AF l qs) a):MZ P l S z Q ((qs,k) :: r) fin a w:=h
theorem YqX(h:wpQuiet P l.toArray S (λa'=>Q .normal a' w) (AF l fin) a):MZ P l S z Q [] fin a w:=h
theorem YvE(S:World->Prop)(z:Nat)(segs:List (List Nat×Nat))(fin:List Nat)(hm:P.follows .mixedOrders=true)
  (hB:(Region.noSelect l.toArray&&IA .any l.toArray z&&JD .any l.toArray z (AY segs fin) (Array.replicate l.toArray.size false)&&(AY segs fin).length==l.toArray.size)=true) (hS:S w.drew)
  (h:MZ P l (λw'=>∃p:AA S,w'=p.w) z (NoPanic Q) segs fin a w.drew):(Code.region id l.toArray true).wp P Q a w:=by
 simp only[ζd,ξk]at hB;obtain⟨⟨⟨Y,hz⟩,hB⟩,X⟩:=hB;refine wp_region_noPanic (wp_region_any hm ?_);have:=ZHG (P:=P) (Q:=NoPanic Q) (md:=.any) Y (λc a b w h=>h) hz segs fin _ a w.drew hB (BE.none .any l.toArray) (.inl (AA.of hS)) h;rw[X]at this;exact ZmF _ _ _ _ this
theorem Z7(S:World->Prop)(z:Nat)(segs:List (List Nat×Nat))(fin:List Nat)(hS:S w.drew)(h:MZ P l (λw'=>∃p:AA S,w'=p.w) z (NoPanic Q) segs fin a w.drew)(hm:P.follows .mixedOrders=true:=by kernel_rfl)(hB:(Region.noSelect l.toArray&&IA .any l.toArray z&&JD .any l.toArray z (AY segs fin) (Array.replicate l.toArray.size false)&&(AY segs fin).length==l.toArray.size)=true:=by kernel_rfl) :(Code.region id l.toArray true).wp P Q a w := YvE S z segs fin hm hB hS h
end
theorem Vie(h1:1<=n):n &&& (n-1)=0↔∃k,n=2 ^ k:=by
 constructor
 ·induction n using Nat.strongRecOn with
  | _ n ih=>
   intro h0;by_cases hn:n=1
   ·exact⟨0,hn⟩
   ·have e1:(n &&& (n-1)) >>> 1=n >>> 1 &&& (n-1) >>> 1:=Nat.shiftRight_and_distrib ..;simp only[Nat.shiftRight_succ,Nat.shiftRight_zero]at e1;rcases Nat.mod_two_eq_zero_or_one n with h|h
    ·rw[show (n-1)/2=n/2-1 by omega]at e1;obtain⟨k,hk⟩:=ih (n/2) Ω Ω Ω;exact⟨k+1,by omega⟩
    grind
 simp_all
theorem QdJ{a:Nat}(ha:a<9223372036854775808)(hb:b<9223372036854775808):bits .and .i64 (a:Int) (b:Int)=((a &&& b:Nat):Int):=by
 have h1:(BitVec.ofInt 64 (a:Int)).toNat=a:=by
  grind
 have h2:(BitVec.ofInt 64 (b:Int)).toNat=b:=by
  grind
 show IntKind.i64.wrap ((BitVec.ofInt 64 (a:Int) &&& BitVec.ofInt 64 (b:Int)).toNat:Int)=_
 rw[BitVec.toNat_and,h1,h2];have:a &&& b<=a:=ψN;exact ζp _ Ω
theorem XyG(h:n<9223372036854775808):C0 (n:Int)=true↔∃k,n=2 ^ k:=by
 unfold C0;by_cases h0:n=0
 ·grind
 ·rw[φ Ω,ψg,show ((n:Int)-1)=((n-1:Nat):Int)by omega,QdJ h Ω,<-Vie Ω];simp
def ER(n lo hi:Int):Bool:=C0 n&&decide (lo<=n)&&decide (n<=hi)
theorem IT{n lo hi:Int}(h:ER n lo hi=true):lo<=n/\n<=hi/\C0 n=true:=by
 unfold ER at h
 simp_all
theorem X6(n:Int):ER n 1 1024=BQ n:=by
 rw[OA];unfold ER;cases h:C0 n with
 | false=>rfl
 | true=>
  have:0<n:=by
   unfold C0 at h
   simp_all
  grind
theorem V2o{a:Nat}(ha:C0 (a:Int)=true)(hb:C0 (b:Int)=true)(ha2:a<9223372036854775808)(hb2:b<9223372036854775808)(h:a<=b):b%a=0:=by
 grind [XyG,Nat.pow_le_pow_iff_right,Nat.mod_eq_zero_of_dvd,Nat.pow_dvd_pow]
theorem XTi(n:Nat)(hn:n<18446744073709551616):bits .xor .u64 IntKind.u64.max (n:Int)=((18446744073709551615-n:Nat):Int):=by
 have h1:(BitVec.ofInt 64 (n:Int)).toNat=n:=by
  rw[BitVec.ofInt_natCast,BitVec.toNat_ofNat];exact ψr Ω
 have h2:BitVec.ofInt 64 IntKind.u64.max=BitVec.allOnes 64:=by decide
 show IntKind.u64.wrap ((BitVec.ofInt 64 IntKind.u64.max ^^^ BitVec.ofInt 64 (n:Int)).toNat:Int)=_
 rw[h2,BitVec.allOnes_xor,BitVec.toNat_not,h1,ζG];omega
theorem ZmL(hb:b<18446744073709551616):bits .and .u64 (b:Int) 9223372036854775808=((if sgN<=b then 9223372036854775808 else 0:Nat):Int):=by
 have e:(9223372036854775808:Int)=((9223372036854775808:Nat):Int):=rfl;rw[e,EP b _ hb Ω];refine congrArg Nat.cast (ξm λi=>?_);rw[Nat.testBit_and,show (9223372036854775808:Nat)=2 ^ 63 from rfl,Nat.testBit_two_pow];by_cases hi:63=i
 ·subst hi;rw[φ rfl,ψw,Nat.testBit_eq_decide_div_mod_eq];unfold sgN
  split
  ·rw[Nat.testBit_two_pow,φ Ω];rfl
  ·rw[Nat.zero_testBit,ζ Ω]
 ·rw[ζ hi,ψW]
  split
  ·rw[Nat.testBit_two_pow,ζ hi]
  ·rw[Nat.zero_testBit]
theorem Jrr(hb:b<9223372036854775808):bits .or .u64 (b:Int) 9223372036854775808=((b+9223372036854775808:Nat):Int):=by
 have e:(9223372036854775808:Int)=((1*9223372036854775808:Nat):Int):=rfl;rw[e,bits_or_u64_nat b _ Ω Ω,K8 b 1 63 9223372036854775808 (by decide) hb,ξl,ξI]
theorem VsF(hb:b<18446744073709551616):bits .and .u64 (b:Int) 4503599627370495=((b%4503599627370496:Nat):Int):=by
 have e:(4503599627370495:Int)=((4503599627370495:Nat):Int):=rfl;rw[e,EP b _ hb Ω,show (4503599627370495:Nat)=2 ^ 52-1 from rfl,Nat.and_two_pow_sub_one_eq_mod]
theorem Y5q(hb:b<4096):bits .and .u64 (b:Int) 2047=((b%2048:Nat):Int):=by
 have e:(2047:Int)=((2047:Nat):Int):=rfl;rw[e,EP b _ Ω Ω,show (2047:Nat)=2 ^ 11-1 from rfl,Nat.and_two_pow_sub_one_eq_mod]
theorem Zvp(b:Nat)(hb:b<18446744073709551616)(w:World):cQ 173 #[.float .f64 b] w (.bool (decide (sgN<=b))):=by
 have h1:=ZmL hb;by_cases h:sgN<=b
 ·rw[θ h]at h1;rw[φ h];clear h;go_enter func173,ntmps173;go_wp2_with(go_at_call 30;refine AJ (J6 b _) ?_);go_ret;exact⟨rfl,rfl⟩
 ·rw[ψ h]at h1;rw[ζ h];clear h;go_enter func173,ntmps173;go_wp2_with(go_at_call 30;refine AJ (J6 b _) ?_);go_ret;exact⟨rfl,rfl⟩
def PN(b:Nat):Nat:=if sgN<=b then 18446744073709551615-b else b+9223372036854775808
theorem J82(b:Nat)(hb:b<18446744073709551616)(w:World):cQ 266 #[.float .f64 b] w (uU (PN b:Nat)):=by
 have h1:=ZmL hb;unfold PN;by_cases h:sgN<=b
 ·rw[θ h]at h1;rw[θ h];have h2:=XTi b hb;clear h;go_enter func266,ntmps266;go_wp2_with(go_at_call 30;refine AJ (J6 b _) ?_);go_ret;exact⟨rfl,rfl⟩
 ·rw[ψ h]at h1;rw[ψ h];have h2:=Jrr (b:=b) (by unfold sgN at h;omega);clear h;go_enter func266,ntmps266;go_wp2_with(go_at_call 30;refine AJ (J6 b _) ?_);go_ret;exact⟨rfl,rfl⟩
theorem ZXy{a:Nat}(ha:a<18446744073709551616)(hb:b<18446744073709551616):decide (PN a<PN b)=IX a b:=by
 unfold PN IX sgN;by_cases h1:9223372036854775808<=a
 ·by_cases h2:9223372036854775808<=b
  ·simp only[h1,h2,if_true,decide_true,bne_self_eq_false,Bool.false_eq_true,if_false];exact ξy.2 Ω
  ·simp only[h1,h2,if_true,if_false,decide_true,decide_false];rw[φ Ω];rfl
 ·by_cases h2:9223372036854775808<=b
  ·simp only[h1,h2,if_true,if_false,decide_true,decide_false];rw[ζ Ω];rfl
  ·simp only[h1,h2,if_false,decide_false,bne_self_eq_false,Bool.false_eq_true];exact ξy.2 Ω
theorem ZZy(a b:Nat)(ha:a<18446744073709551616)(hb:b<18446744073709551616)(w:World):cQ 216 #[.float .f64 a,.float .f64 b] w (.bool (IX a b)):=by
 have HK:=ι (ZXy ha hb);have HX:=ι (ξ ha hb);generalize IX a b=bb at HK⊢;clear ha hb;go_enter func216,ntmps216;go_wp2_with(go_at_call 266;refine AJ (J82 _ (by first|exact HX.o.1 |exact HX.o.2) _) ?_);go_ret;exact⟨by rw[<-HK.o];congr 2,rfl⟩
def FX(b:Nat):Int:=if AM<b%sgN then 4 else if b%sgN=AM then 3 else if 4503599627370496<=b%sgN then 2 else if 0<b%sgN then 1 else 0
theorem Y8f(b:Nat)(hb:b<18446744073709551616)(w:World):cQ 37 #[.float .f64 b] w (iI (FX b)):=by
 have h1:=VsF hb;have h2:bits .and .u64 (((b/4503599627370496:Nat):Int)) 2047=((b/4503599627370496%2048:Nat):Int):=Y5q Ω
 have hx:(FX b=4/\b/4503599627370496%2048=2047/\b%4503599627370496≠0)\/(FX b=3/\b/4503599627370496%2048=2047/\b%4503599627370496=0)\/(FX b=2/\b/4503599627370496%2048≠2047/\b/4503599627370496%2048≠0)\/(FX b=1/\b/4503599627370496%2048=0/\b%4503599627370496≠0)\/(FX b=0/\b/4503599627370496%2048=0/\b%4503599627370496=0):=by
  unfold FX AM sgN
  split
  ·exact .inl ⟨rfl,by omega,by omega⟩
  ·split
   ·exact .inr (.inl ⟨rfl,by omega,by omega⟩)
   ·split
    ·exact .inr (.inr (.inl ⟨rfl,by omega,by omega⟩))
    ·split
     ·exact .inr (.inr (.inr (.inl ⟨rfl,by omega,by omega⟩)))
     ·exact .inr (.inr (.inr (.inr ⟨rfl,by omega,by omega⟩)))
 have h3:((b:Int)/4503599627370496)=((b/4503599627370496:Nat):Int):=rfl;generalize FX b=kd at hx⊢;obtain⟨q,hq⟩:=ε (b/4503599627370496);rw[<-hq]at h2 h3 hx;obtain⟨x,X⟩:=ε (q%2048);rw[<-X]at h2 hx;obtain⟨y,hy⟩:=ε (b%4503599627370496);rw[<-hy]at h1 hx;have hq2:IntKind.u64.wrap (q:Int)=(q:Int):=by rw[ζG];omega
 clear hq X hy hb;rcases hx with⟨rfl,e1,e2⟩|⟨rfl,e1,e2⟩|⟨rfl,e1,e2⟩|⟨rfl,e1,e2⟩|⟨rfl,e1,e2⟩
 all_goals
  go_enter func37,ntmps37;go_wp2_with(go_at_call 30;refine AJ (J6 b _) ?_);go_ret;exact⟨rfl,rfl⟩
theorem YhX{B:Nat}:∀(l:List Nat) (i:Nat),lv B (l.take (i+1))=lv B (l.take i)+l.getD i 0*B ^ i
 | [],i=>by simp[lv]
 | x :: xs,0=>by simp[lv]
 | x :: xs,i+1=>by
  have h:=YhX (B:=B) xs i;simp only[ξE,lv,List.getD_cons_succ];rw[h,ψx,Nat.pow_succ,show xs.getD i 0*(B ^ i*B)=B*(xs.getD i 0*B ^ i)by ac_rfl];omega
theorem I4(hB:0<B)(h:∀x∈l,x<B)(i:Nat):l.getD i 0<B:=by
 rw[κ];rcases δ i l.length with hi|hi
 ·rw[τ hi];exact h _ (χ hi)
 ·rw[ζz hi];exact hB
theorem P9(l:List Nat)(i j y:Nat):(l.set i y).getD j 0=if j=i/\i<l.length then y else l.getD j 0:=by
 rw[κ,κ,ψE];by_cases e:i=j
 ·subst e;by_cases h:i<l.length
  ·rw[θ rfl,θ h,θ ⟨rfl,h⟩];rfl
  ·rw[θ rfl,ψ h,ψ (λhh=>h hh.2),ζz Ω]
 ·rw[ψ e,ψ (λhh=>e hh.1.symm)]
theorem VV(h:∀x∈l,x<B)(hy:y<B):∀x∈l.set i y,x<B:=λx hx=>by
 rcases ζL hx with h1|h1
 ·exact h x h1
 ·rw[h1];exact hy
structure IR(B:Nat)(l l':List Nat)(i c:Nat):Prop where
 len:l'.length=l.length
 sum:lv B l' + lv B (l.take i)+c*B ^ i=B ^ i+B ^ i*lv B (l.drop i)
 same:∀j,i<=j->l'.getD j 0=l.getD j 0
 dig:∀x∈l',x<B
 car:c<=1
theorem IR.zero(h:∀x∈l,x<B):IR B l l 0 1:=⟨rfl,by simp[lv];omega,λ_ _=>rfl,h,μ _⟩
theorem IR.step(hB:1<B)(hl:∀x∈l,x<B)(h:IR B l l' i c)(hi:i<l.length):IR B l (l'.set i ((B-1-l.getD i 0+c)%B)) (i+1) ((B-1-l.getD i 0+c)/B):=by
 obtain⟨h1,h2,h3,h4,h5⟩:=h;have hx:=I4 Ω hl i;have hs:=TK B l' (i:=i) Ω ((B-1-l.getD i 0+c)%B);rw[h3 i (μ _)]at hs;have hd:=ζo (B-1-l.getD i 0+c) B;rw[SX hi]at h2;refine⟨by rw[ζa];exact h1,?_,λj hj=>?_,VV h4 (ζN _ Ω),?_⟩
 ·rw[YhX];clear h3 h4 hl;generalize l.getD i 0=x at hx hs hd h2⊢;generalize (B-1-x+c)%B=y at hs hd⊢;generalize (B-1-x+c)/B=q at hd⊢;have e:y+B*q+x+1=B+c:=Ω
  have e2:=congrArg (· * B ^ i) e;simp only[ζP,ξl]at e2;rw[ψx]at h2;generalize lv B (l.drop (i+1))=Y at h2⊢;rw[Nat.pow_succ,show q*(B ^ i*B)=B*q*B ^ i by ac_rfl,show B ^ i*B*Y=B ^ i*(B*Y)by ac_rfl,ζA (B ^ i) B];rw[ζA (B ^ i) x]at h2;omega
 ·rw[P9,ψ Ω];exact h3 j Ω
 ·have:(B-1-l.getD i 0+c)/B<2:=by rw[ζC Ω];omega
  omega
theorem IR.done(h:IR B l l' l.length c)(hp:0<lv B l):lv B l'=B ^ l.length-lv B l:=by
 have h2:=h.sum;rw[ζ0,List.drop_length]at h2;simp only[lv,Nat.mul_zero,ζ7]at h2;rcases(by have:=h.car;omega:c=0\/c=1)with rfl|rfl
 ·omega
 ·omega
theorem Q8s(h:¬lv B l<2 ^ (64*k+off)):0<lv B l:=by
 rcases ζF (lv B l)with h0|h0
 ·exact absurd (h0▸Nat.two_pow_pos _) h
 ·exact h0
theorem YnF(hl:∀x∈l,x<2 ^ 64)(hn:l.length=k+1):l.getD k 0/2 ^ 63=0↔lv (2 ^ 64) l<2 ^ (64*k+63):=by
 have h1:=VFZ hl (i:=k) (off:=63) Ω (by decide);have h2:=Q5 (Nat.two_pow_pos 64) hl
 have X:(2:Nat) ^ (64*(k+1))=2 ^ (64*k+63)*2:=by
  rw[show 64*(k+1)=64*k+63+1 by omega,Nat.pow_succ]
 rw[hn,<-Nat.pow_mul,X]at h2;clear X;have h3:l.getD k 0<2 ^ 64:=I4 (Nat.two_pow_pos 64) hl k;have p:0<2 ^ (64*k+63):=Nat.two_pow_pos _;generalize 2 ^ (64*k+63)=M at *
 have h4:lv (2 ^ 64) l/M<2:=by
  rw[ζC p];omega
 have h5:l.getD k 0/2 ^ 63<2:=by rw[ζC (Nat.two_pow_pos 63)];omega
 have h6:lv (2 ^ 64) l/M=0↔lv (2 ^ 64) l<M:=by
  constructor
  ·intro h;exact(Nat.div_eq_zero_iff_lt p).1 h
  ·intro h;exact ψd h
 rw[<-h6];generalize lv (2 ^ 64) l/M=A at h1 h4⊢;generalize l.getD k 0/2 ^ 63=C at h1 h5⊢;omega
theorem Qrb(hl:∀x∈l,x<2 ^ 64)(hn:l.length=35):l.getD 34 0/2 ^ 63=0↔lv (2 ^ 64) l<2 ^ (64*34+63):=YnF (k:=34) hl hn
theorem QaL:256*BZ AM<2 ^ (64*34+63):=by decide +kernel
def frL(l:List Nat)(k:Nat):Nat:=(l.getD (k/64) 0/2 ^ (k%64)+l.getD (k/64+1) 0*2 ^ (64-k%64)%18446744073709551616)%9007199254740992
theorem QER(hl:∀x∈l,x<2 ^ 64)(hk:k/64<l.length):lv (2 ^ 64) l/2 ^ k%9007199254740992=frL l k:=by
 have h:=ZrJ hl hk (ζN k (show 0<64 by decide));rw[ζo]at h;exact h
def blL(l:List Nat)(k:Nat):Prop:=(∃x∈l.take (k/64),x≠0)\/l.getD (k/64) 0%2 ^ (k%64)≠0
theorem JKi(hl:∀x∈l,x<2 ^ 64)(hk:k/64<l.length):0<lv (2 ^ 64) l%2 ^ k↔blL l k:=by
 have h:=YPW hl hk (ζN k (show 0<64 by decide));rw[ζo]at h;unfold blL;constructor
 ·intro hp;refine Classical.byContradiction λhn=>?_;have:lv (2 ^ 64) l%2 ^ k=0:=h.2 ⟨λx hx=>Classical.byContradiction λX=>hn (.inl ⟨x,hx,X⟩),Classical.byContradiction λX=>hn (.inr X)⟩;omega
 ·intro hb;refine Nat.pos_of_ne_zero λh0=>?_;obtain⟨h1,h2⟩:=h.1 h0;rcases hb with⟨x,hx,X⟩|hb
  ·exact X (h1 x hx)
  ·exact hb h2
theorem Qkn(ho:off<64):(0<x*2 ^ (63-off)%18446744073709551616*2%18446744073709551616/\0<off)↔x%2 ^ off≠0:=by
 rw[X5x ho];have hp:=Nat.two_pow_pos (64-off);constructor
 ·rintro⟨h1,-⟩ h0;rw[h0]at h1;omega
 ·intro h;refine⟨Nat.mul_pos hp (Nat.pos_of_ne_zero h),Nat.pos_of_ne_zero λh0=>?_⟩;subst h0;exact h (Nat.mod_one _)
theorem Yt9(hl:∀x∈l,x<2 ^ 64)(hk:k/64<l.length):lv (2 ^ 64) l/2 ^ k%2=l.getD (k/64) 0/2 ^ (k%64)%2:=by
 have h:=VFZ hl hk (ζN k (show 0<64 by decide));rw[ζo]at h;exact h
theorem Vrg(hl:∀x∈l,x<2 ^ 64)(hk:k=CQ (lv (2 ^ 64) l)-53)(hi:k/64<l.length):(k=0->E4 (lv (2 ^ 64) l)=min (frL l 0) AM) ∧
  (0<k->l.getD ((k-1)/64) 0/2 ^ ((k-1)%64)%2=1->(frL l k%2=1\/blL l (k-1))->E4 (lv (2 ^ 64) l)=min (k*4503599627370496+frL l k+1) AM) ∧
  (0<k->¬(l.getD ((k-1)/64) 0/2 ^ ((k-1)%64)%2=1/\(frL l k%2=1\/blL l (k-1)))->E4 (lv (2 ^ 64) l)=min (k*4503599627370496+frL l k) AM):=by
 have hj:(k-1)/64<l.length:=Ω
 have h1:=QER hl hi;have h2:=Yt9 hl hj;have h3:=JKi hl hj
 have e:E4 (lv (2 ^ 64) l)=min (if 0<k/\l.getD ((k-1)/64) 0/2 ^ ((k-1)%64)%2=1/\(frL l k%2=1\/0<lv (2 ^ 64) l%2 ^ (k-1))then k*4503599627370496+frL l k+1 else k*4503599627370496+frL l k) AM:=by
  unfold E4;simp only[<-hk];rw[h1,h2]
 rw[e];refine⟨λh0=>?_,λh0 ha hb=>?_,λh0 hn=>?_⟩
 ·rw[ψ Ω,h0,ξ5,ζ6]
 ·rw[θ ⟨h0,ha,hb.imp id h3.2⟩]
 ·rw[ψ (λhh=>hn ⟨hh.2.1,hh.2.2.imp id h3.1⟩)]
def PB(o:Oper):Bool:=match o.op with| .extract .. | .move _| .assign _=>true|_=>false
section
variable{P:Program}
def IU(ops:Array Oper)(k:Nat):Bool:=(ops[k]?).any PB
theorem J27{v:Value}(hp:PB o=true)(hy:YieldsIf P ops S o v a)(hS:S w0):YieldsIf P ops (λ_=>True) o v a:=by
 rcases hy with⟨hw,hv⟩|⟨hw,rfl⟩
 ·refine .inl ⟨hw,λw _=>?_⟩;have h:=hv w0 hS;unfold PB at hp
  split at hp
  ·rename_i t ix he;unfold execOp at h⊢;rw[he]at h⊢;simp only[Instr.extract]at h⊢
   split at h
   ·split at h
    ·simp[go_sem]at h⊢;exact h
    ·simp[go_sem]at h
   ·simp[go_sem]at h
  ·rename_i x he;unfold execOp at h⊢;rw[he]at h⊢;simp[go_sem]at h⊢;exact h
  ·rename_i x he;unfold execOp at h⊢;rw[he]at h⊢;simp[go_sem]at h⊢;exact h
  ·cases hp
 ·exact .inr ⟨hw,rfl⟩
def MA(P:Program)(md:Region.Mode)(ops:Array Oper)(Q:Exit->Act->World->Prop)(S:World->Prop)(z:Nat):Nat->Array Bool->Act->World->Prop
 | 0,listed,a,w=>Region.ready md ops listed=[]/\Q .normal a w
 | f+1,listed,a,w=>
  (Region.ready md ops listed=[]->Q .normal a w) ∧
  ∀i∈Region.ready md ops listed,wpOp P ops Q i (λa' w'=>(i=z\/(S w->S w'))/\MA P md ops Q S z f (listed.setIfInBounds i true) a' w') a w
theorem Vfs{z:Nat}:∀(f:Nat) (listed:Array Bool) (a:Act) (w:World),MA P md ops Q S z f listed a w->wpAny P md ops Q f listed a w
 | 0,_,_,_,h=>h
 | f+1,_,_,_,h=>⟨h.1,λi hi=>wpOp_mono (λa' w' h'=>Vfs f _ a' w' h'.2) (h.2 i hi)⟩
def M7(md:Region.Mode)(ops:Array Oper)(z:Nat):Bool:=(List.range ops.size).all λi=>decide (i=z)||IU ops i||anc md ops ops.size z i
theorem XTA(hz:M7 md ops z=true)(h:BE md ops listed)(hr:z∈Region.ready md ops listed)(hi:i<ops.size)(hne:i≠z)(hp:IU ops i=false):listed.getD i false=true:=by
 obtain⟨_,oz,Y,X⟩:=mem_ready.1 hr;simp only[M7,ζW,ζg,ζ1,ξp]at hz
 have h3:anc md ops ops.size z i=true:=by
  rcases hz i hi with(h1|h1)|h1
  ·exact absurd h1 hne
  ·rw[hp]at h1;cases h1
  ·exact h1
 exact O7 h _ z i oz Y X h3
theorem VAh{v:Value}(hi:ops[i]?=some oi)(hne:i≠z)(hsel:∀(j:Nat) (o:Oper) cs b,ops[j]?=some o->o.op≠.select cs b)
  (hQ:∀c a w,Q (.panic c) (a.put oi.dst v) w->Q (.panic c) a w) (hz:M7 md ops z=true) {S':World->Prop} (hS':(S'=S/\IU ops i=false)\/S'=λ_=>True):
  ∀(f:Nat) (listed:Array Bool) (a:Act) (w:World),BE md ops listed →
   (∀j oj,ops[j]?=some oj->j≠i->listed.getD j true=false->(∀e∈oj.after,Region.binds md e=true->e.on≠i)->oi.apart ops oj=true) →
   i∈Region.ready md ops listed->YieldsIf P ops S' oi v a->S' w →
   MA P md ops Q S z f (listed.setIfInBounds i true) (a.put oi.dst v) w->MA P md ops Q S z (f+1) listed a w:=by
 intro f
 induction f with
 | zero=>
  intro listed a w _ _ hr hy hS H;refine⟨λh=>(by rw[h]at hr;cases hr),λj hj=>?_⟩;by_cases X:j=i
  ·subst X;exact hy.wpOp hi hS ⟨.inr id,H⟩
  ·have:=ready_mono hj X;rw[H.1]at this;cases this
 | succ f ih=>
  intro listed a w O Y hr hy hS H;refine⟨λh=>(by rw[h]at hr;cases hr),λj hj=>?_⟩;by_cases X:j=i
  ·subst X;exact hy.wpOp hi hS ⟨.inr id,H⟩
  ·have h1:=H.2 j (ready_mono hj X);obtain⟨U,oj,V,M⟩:=mem_ready.1 hj;have Z:=(mem_ready.1 hr).1;have N:∀e∈oj.after,Region.binds md e=true->e.on≠i:=λe he hb heq=>IF Z (heq▸M e he hb);have h2:=wpOp_putIf V (Y j oj V X U N) (λcs b=>hsel i oi cs b hi) (λcs b=>hsel j oj cs b V) hQ hy h1
   have J:∀k ok,ops[k]?=some ok->k≠i->(listed.setIfInBounds j true).getD k true=false →
     (∀e∈ok.after,Region.binds md e=true->e.on≠i)->oi.apart ops ok=true:=λk ok hk hki Z hno=>by
    refine Y k ok hk hki ?_ hno;by_cases I:j=k
    ·subst I;exact U
    ·rw[getD_set_ne true I]at Z;exact Z
   refine wpOp_mono (λa' w' h3=>?_) h2;obtain⟨h3,h4,h5⟩:=h3
   have D:S' w':=by
    rcases hS' with⟨rfl,E⟩|rfl
    ·rcases h4 with h4|h4
     ·subst h4;exact(IF Z (XTA hz O hj (ζq.1 hi).1 hne E)).elim
     ·exact h4 hS
    ·trivial
   refine⟨h4,ih (listed.setIfInBounds j true) a' w' (O.set hj) J (ready_mono hr (Ne.symm X)) h3 D ?_⟩;rw[ξ0 _ _ X];exact h5
def I7(md:Region.Mode)(ops:Array Oper)(z:Nat):List (Bool×Nat)->Array Bool->Bool
 | [],listed=>(Region.ready md ops listed).isEmpty
 | (true,k) :: r,listed=>decide (Region.ready md ops listed=[k])&&(decide (k≠z)||r.all λx=>x.1||IU ops x.2)&&I7 md ops z r (listed.setIfInBounds k true)
 | (false,k) :: r,listed=>(Region.ready md ops listed).contains k&&Region.free md ops listed k&&((ops[k]?).any H8)&&decide (k≠z)&&I7 md ops z r (listed.setIfInBounds k true)
def M9(P:Program)(l:List Oper)(S:World->Prop)(z:Nat)(Q:Exit->Act->World->Prop):List (List Nat×Nat)->List Nat->Act->World->Prop
 | [],fin,a,w=>wpQuiet P l.toArray S (λa'=>Q .normal a' w) (AF l fin) a
 | (qs,k) :: r,fin,a,w=>wpQuiet P l.toArray S (λa'=>wpList P l.toArray (Exit.then (λa2 w2=>(k=z\/S w2)/\M9 P l S z Q r fin a2 w2) Q) (AF l [k]) a' w) (AF l qs) a
end
section
variable{P:Program}{l:List Oper}
theorem YO(hsel:Region.noSelect l.toArray=true)(hQ:∀c a b w,Q (.panic c) b w->Q (.panic c) a w)(hz:M7 md l.toArray z=true){w w0:World}(hw0:S w0){K:Act->Prop}{R:List (Bool×Nat)}{f:Nat}
  (hK:∀listed a,I7 md l.toArray z R listed=true->BE md l.toArray listed->K a->MA P md l.toArray Q S z f listed a w):
  ∀(qs:List Nat) (listed:Array Bool) (a:Act),(S w\/(qs.all λk=>IU l.toArray k)=true)->I7 md l.toArray z (qs.map (λk=>(false,k))++R) listed=true->BE md l.toArray listed->wpQuiet P l.toArray S K (AF l qs) a →
   MA P md l.toArray Q S z (qs.length+f) listed a w
 | [],listed,a,_,hB,hc,h=>by simpa using hK listed a hB hc h
 | k :: qs,listed,a,hS,hB,hc,h=>by
  simp only[ξr,ζv,I7,ζd]at hB;obtain⟨⟨⟨⟨hr,hf⟩,hq⟩,hkz⟩,hB'⟩:=hB;cases ho:l.toArray[k]? with
  | none=>rw[ho]at hq;cases hq
  | some o=>
   rw[ho]at hq;have hq:H8 o=true:=hq;have Y:k∈Region.ready md l.toArray listed:=by simpa using hr
   rw[EK ho]at h;simp only[wpQuiet]at h
   have hy:∃v,YieldsIf P l.toArray S o v a/\wpQuiet P l.toArray S K (AF l qs) (a.put o.dst v):=by
    split at h
    ·rename_i hw;obtain⟨v,h1,h2⟩:=h;exact⟨v,MP hq hw h1,h2⟩
    ·rename_i hw;exact⟨undef,.inr ⟨by simpa using hw,rfl⟩,h⟩
   obtain⟨v,hy,U⟩:=hy;have J:(k :: qs).length+f=(qs.length+f)+1:=by simp;omega
   have Z:IU l.toArray k=PB o:=by unfold IU;rw[ho];rfl
   have X:=YO hsel hQ hz hw0 hK qs (listed.setIfInBounds k true) (a.put o.dst v) (hS.imp id λhS=>by simp only[List.all_cons,ζd]at hS;exact hS.2) hB' (hc.set Y) U;rw[J];cases hp:PB o with
   | true=>
    exact VAh ho (by simpa using hkz) (Region.noSelect_spec hsel) (λc a w h=>hQ c a _ w h) hz (S':=λ_=>True) (.inr rfl) _ listed a w hc (Region.free_spec ho hf) Y (J27 hp hy hw0) trivial X
   | false=>
    have V:S w:=hS.resolve_right (λhS=>by simp only[List.all_cons,ζd]at hS;rw[Z,hp]at hS;exact Bool.false_ne_true hS.1);exact VAh ho (by simpa using hkz) (Region.noSelect_spec hsel) (λc a w h=>hQ c a _ w h) hz (S':=S) (.inl ⟨rfl,Z.trans hp⟩) _ listed a w hc (Region.free_spec ho hf) Y hy V X
theorem JM9(hsel:Region.noSelect l.toArray=true)(hQ:∀c a b w,Q (.panic c) b w->Q (.panic c) a w)(hz:M7 md l.toArray z=true){w0:World}(hw0:S w0):
  ∀(segs:List (List Nat×Nat)) (fin:List Nat) (listed:Array Bool) (a:Act) (w:World),I7 md l.toArray z (AY segs fin) listed=true->BE md l.toArray listed->(S w\/((AY segs fin).all λx=>x.1||IU l.toArray x.2)=true)->M9 P l S z Q segs fin a w →
   MA P md l.toArray Q S z (AY segs fin).length listed a w
 | [],fin,listed,a,w,hB,hc,hS,h=>by
  have hS':S w\/(fin.all λk=>IU l.toArray k)=true:=hS.imp id λh=>by
   simp only[AY,List.all_map]at h;rw[ζ1]at h⊢;intro k hk;simpa using h k hk
  have:=YO (R:=[]) (f:=0) (K:=λa'=>Q .normal a' w) hsel hQ hz hw0 (λlisted a hB _ h=>⟨by simpa[I7]using hB,h⟩) fin listed a hS' (by simpa[AY]using hB) hc h;simpa[AY]using this
 | (qs,k) :: r,fin,listed,a,w,hB,hc,hS,h=>by
  have hS':S w\/(qs.all λk=>IU l.toArray k)=true:=hS.imp id λh=>by
   simp only[AY,List.all_append,List.all_map,ζd]at h;have h:=h.1;rw[ζ1]at h⊢;intro k hk;simpa using h k hk
  have X:(AY ((qs,k) :: r) fin).length=qs.length+((AY r fin).length+1):=by simp[AY]
  rw[X];refine YO hsel hQ hz hw0 (λlisted a hB hc h=>?_) qs listed a hS' (by simpa[AY]using hB) hc h;simp only[I7,ζd,ζg,ζW]at hB;obtain⟨⟨hr,Z⟩,J⟩:=hB;have Y:k∈Region.ready md l.toArray listed:=by rw[hr];simp
  refine⟨λh0=>(by rw[hr]at h0;cases h0),λi hi=>?_⟩;rw[hr]at hi;obtain rfl:i=k:=by simpa using hi
  obtain⟨_,o,ho,_⟩:=mem_ready.1 Y;rw[EK ho]at h;refine ML ho (λa2 w2 h2=>⟨h2.1.imp id (λh _=>h),JM9 hsel hQ hz hw0 r fin _ a2 w2 J (hc.set Y) ?_ h2.2⟩) h;rcases h2.1 with h3|h3
  ·exact .inr (Z.resolve_left (λh=>h h3))
  ·exact .inl h3
theorem VvO
  (h:wpQuiet P l.toArray S (λa'=>wpList P l.toArray (Exit.then (λa2 w2=>(k=z\/S w2)/\M9 P l S z Q r fin a2 w2) Q) (AF l [k]) a' w) (AF l qs) a):M9 P l S z Q ((qs,k) :: r) fin a w:=h
theorem JV4(h:wpQuiet P l.toArray S (λa'=>Q .normal a' w) (AF l fin) a):M9 P l S z Q [] fin a w:=h
theorem Ztp(S:World->Prop)(z:Nat)(segs:List (List Nat×Nat))(fin:List Nat)(hm:P.follows .mixedOrders=true)
  (hB:(Region.noSelect l.toArray&&M7 .any l.toArray z&&I7 .any l.toArray z (AY segs fin) (Array.replicate l.toArray.size false)&&(AY segs fin).length==l.toArray.size)=true) (hS:S w.drew)
  (h:M9 P l (λw'=>∃p:AA S,w'=p.w) z (NoPanic Q) segs fin a w.drew):(Code.region id l.toArray true).wp P Q a w:=by
 simp only[ζd,ξk]at hB;obtain⟨⟨⟨Y,hz⟩,hB⟩,X⟩:=hB;refine wp_region_noPanic (wp_region_any hm ?_);have:=JM9 (P:=P) (Q:=NoPanic Q) (md:=.any) (S:=λw'=>∃p:AA S,w'=p.w) Y (λc a b w h=>h) hz (AA.of hS) segs fin _ a w.drew hB (BE.none .any l.toArray) (.inl (AA.of hS)) h;rw[X]at this;exact Vfs _ _ _ _ this
theorem OT(S:World->Prop)(z:Nat)(segs:List (List Nat×Nat))(fin:List Nat)(hS:S w.drew)(h:M9 P l (λw'=>∃p:AA S,w'=p.w) z (NoPanic Q) segs fin a w.drew)(hm:P.follows .mixedOrders=true:=by kernel_rfl)(hB:(Region.noSelect l.toArray&&M7 .any l.toArray z&&I7 .any l.toArray z (AY segs fin) (Array.replicate l.toArray.size false)&&(AY segs fin).length==l.toArray.size)=true:=by kernel_rfl) :(Code.region id l.toArray true).wp P Q a w := Ztp S z segs fin hm hB hS h
end
structure SmS where
 n:List Nat
 na:Bool
 pl:Bool
 mi:Bool
 ct:Int
 ze:Int
variable{s s':SmS}
def smL(s:SmS):List Value:=.bool true :: ((s.n.map λx:Nat=>uU x)++[.bool s.na,.bool s.pl,.bool s.mi,iI s.ct,iI s.ze])
structure BA(w:World)(p:Nat)(s:SmS):Prop where
 row:Rec w p 252 (smL s)
 len:s.n.length=35
 dig:∀x∈s.n,x<18446744073709551616
theorem BA.limb(h:BA w p s)(hi:i<35):w.cell? ⟨p,1+i,none⟩=some (uU (s.n.getD i 0:Nat)):=by
 have hl:=h.len;refine h.row.cell ?_;unfold smL;rw[ξI,ν,ζX (by rw[ζE];omega),ξD,κ,τ Ω];rfl
theorem BA.dig1(h:BA w p s)(i:Nat):s.n.getD i 0<18446744073709551616:=I4 (by decide) h.dig i
theorem BA.put(h:BA w p s)(hi:i<35)(hy:y<18446744073709551616):BA (w.setCell ⟨p,1+i,none⟩ (.int .u64 (y:Nat))) p {s with n:=s.n.set i y}:=by
 have hl:=h.len;refine⟨?_,by rw[ζa];exact hl,VV h.dig hy⟩;have:=h.row.set (1+i) (uU (y:Nat));unfold smL at this⊢;rw[ξI 1 i,ζf,List.set_append_left _ _ (by rw[ζE];omega),<-ξX (f:=λx:Nat=>uU x)]at this;rw[ξI 1 i];exact this
theorem BA.gr(h:BA w p s)(g:Gr w w'):BA w' p s:=⟨h.row.gr g,h.len,h.dig⟩
theorem BA.touch{T:Nat->Prop}(h:BA w p s)(t:AB T w w')(hp:¬T p):BA w' p s:=⟨h.row.touch t hp,h.len,h.dig⟩
theorem QxN(x y:Nat)(w:World):(callFunc 235 #[uU x,uU y,uU 0]).run prog w=.ok (.value (.tuple #[uU (((x+y+0)%18446744073709551616:Nat):Int),uU (((x+y+0)/18446744073709551616:Nat):Int)])) w:=by kernel_rfl
theorem ZHD(x y:Nat)(w:World):(callFunc 235 #[uU x,uU y,uU 1]).run prog w=.ok (.value (.tuple #[uU (((x+y+1)%18446744073709551616:Nat):Int),uU (((x+y+1)/18446744073709551616:Nat):Int)])) w:=by kernel_rfl
theorem Zio(x y:Nat)(w:World):(callFunc 276 #[uU x,uU y,uU 0]).run prog w=.ok (.value (.tuple #[uU (((x+18446744073709551616-y-0)%18446744073709551616:Nat):Int),uU ((if x<y+0 then 1 else 0:Nat):Int)])) w:=by kernel_rfl
theorem ZrR(x y:Nat)(w:World):(callFunc 276 #[uU x,uU y,uU 1]).run prog w=.ok (.value (.tuple #[uU (((x+18446744073709551616-y-1)%18446744073709551616:Nat):Int),uU ((if x<y+1 then 1 else 0:Nat):Int)])) w:=by kernel_rfl
theorem Jlz(x y c:Nat)(hc:c<=1)(w:World):(callFunc 235 #[uU x,uU y,uU c]).run prog w=.ok (.value (.tuple #[uU (((x+y+c)%18446744073709551616:Nat):Int),uU (((x+y+c)/18446744073709551616:Nat):Int)])) w:=by
 rcases(by omega:c=0\/c=1)with rfl|rfl
 ·exact QxN x y w
 ·exact ZHD x y w
theorem Vlq(x y c:Nat)(hc:c<=1)(w:World):(callFunc 276 #[uU x,uU y,uU c]).run prog w=.ok (.value (.tuple #[uU (((x+18446744073709551616-y-c)%18446744073709551616:Nat):Int),uU ((if x<y+c then 1 else 0:Nat):Int)])) w:=by
 rcases(by omega:c=0\/c=1)with rfl|rfl
 ·exact Zio x y w
 ·exact ZrR x y w
theorem JiS{n:List Nat}(hl:n.length=35)(hd:∀x∈n,x<18446744073709551616):lv 18446744073709551616 n<18446744073709551616 ^ 35:=by
 have:=Q5 (B:=18446744073709551616) (by decide) hd;rw[hl]at this;exact this
theorem Q40{d:Nat}(e1:L1+c*B ^ (i+1)=L0+(lo+0)*B ^ i)(e2:L2+d*B ^ (i+1+1)=L1+(hi+c)*B ^ (i+1)):L2+d*B ^ (i+2)=L0+(lo+B*hi)*B ^ i:=by
 rw[show lo+0=lo from rfl]at e1;rw[ζP]at e2;rw[ζP,ζA B hi,ψv,<-Nat.pow_succ',show i+2=i+1+1 from rfl]
 show L2+d*B ^ (i+1+1)=L0+(lo*B ^ i+hi*B ^ (i+1))
 omega
structure ZjC(w:World)(p:Nat)(s:SmS)(i b c x y d:Nat):Prop where
 cell:w.cell? ⟨p,1+i,none⟩=some (uU (x:Nat))
 ex:x=s.n.getD i 0
 ext:∀W,(callFunc 235 #[uU x,uU b,uU c]).run prog W=.ok (.value (.tuple #[uU (y:Nat),uU (d:Nat)])) W
 at':BA ((w.setCell ⟨p,1+i,none⟩ (.int .u64 (y:Nat))).drew) p {s with n:=s.n.set i y}
 t:AB (λk=>k=p) w (w.setCell ⟨p,1+i,none⟩ (.int .u64 (y:Nat))).drew
 sum:lv 18446744073709551616 (s.n.set i y)+d*18446744073709551616 ^ (i+1)=lv 18446744073709551616 s.n+(b+c)*18446744073709551616 ^ i
 d1:d<=1
 y1:y<18446744073709551616
theorem BA.add(h:BA w p s)(hi:i<35)(hb:b<18446744073709551616)(hc:c<=1):∃x y d,ZjC w p s i b c x y d:=by
 have hx:=h.dig1 i;have hs:=Vk5 (B:=18446744073709551616) (l:=s.n) (i:=i) (by rw[h.len];exact hi) (b+c);rw[<-ξv]at hs;have hy:(s.n.getD i 0+b+c)%18446744073709551616<18446744073709551616:=ζN _ (by decide);refine⟨_,_,_,h.limb hi,rfl,λW=>Jlz _ b c hc W,(h.put hi hy).gr (Gr.refl _).drew,((AB.refl (λk=>k=p) w).setCell (a:=⟨p,1+i,none⟩) (λ_=>rfl) _).drew,hs,?_,hy⟩;omega
def P8(w:World)(p:Nat)(s:SmS)(V:Nat)(w':World):Prop:=AB (λk=>k=p) w w'/\∃n c,BA w' p {s with n:=n}/\lv 18446744073709551616 n+c*18446744073709551616 ^ 35=lv 18446744073709551616 s.n+V
def XeB(w:World)(p:Nat)(s:SmS)(V i c:Nat)(w':World):Prop:=AB (λk=>k=p) w w'/\c<=1/\∃n,BA w' p {s with n:=n}/\lv 18446744073709551616 n+c*18446744073709551616 ^ i=lv 18446744073709551616 s.n+V
theorem Qmn(h:BA w ap s)(hi35:i+1<35)(hlo:lo<18446744073709551616)(hhi:hi<18446744073709551616):Calls prog 234 #[pP ap,iI i,uU lo,uU hi] w λe w'=>e=.returned (.tuple #[])/\P8 w ap s ((lo+18446744073709551616*hi)*18446744073709551616 ^ i) w':=by
 obtain⟨V,hV⟩:=ε ((lo+18446744073709551616*hi)*18446744073709551616 ^ i);rw[<-hV];have HV:=ι hV;clear hV;obtain⟨x,y,c,hA⟩:=h.add (i:=i) (b:=lo) (c:=0) Ω hlo Ω;have HX:=ι (ξ hi35 (ξ hlo hhi));have HA:=ι hA;have ha:∀W,(callFunc 235 #[uU x,uU lo,uU 0]).run prog W=.ok (.value (.tuple #[uU (y:Nat),uU (c:Nat)])) W:=hA.ext;have z1:=hA.cell;have cl:=h.row.lt;have zf:=h.row.free;have HC:=ι (λ(W:World) (gg:Gr w W)=>h.gr gg);have b1:(i:Int)<35:=Ω
 have b2:(i:Int)+1<35:=Ω
 clear h hA hlo hhi;go_in;go_upto_region 1 with(fail);obtain⟨Sx,J,HS⟩:=AA.start λW'=>BA W' ap s;have y1:∀p:AA Sx,p.w.cell? ⟨ap,1+i,none⟩=some (uU (x:Nat)):=λp=>by have h:=AA.get J p;exact by rw[HA.o.ex];exact h.limb (by have:=HX.o.1;omega)
 have Y:=HS.o _ (HC.o _ (Gr.refl w).drew);have Z:Inhabited (AA Sx):=⟨⟨_,Y⟩⟩;clear J;refine OT Sx 16 [([0,1,2,3,4,5,6,7,8,13,14],9),([10,11,12,15],16)] [17] Y ?_;refine GV ?_;go_wp2_with(fail);refine⟨.inr (AA.of (HS.o _ (HC.o _ (Gr.refl w).drew))),?_⟩;refine GV ?_;go_wp2_with(fail);refine⟨.inl trivial,?_⟩;refine NK ?_;clear y1 Y Z;clear HS Sx;clear ha z1 cl zf HC;have h1:=HA.o.at';obtain⟨w1,U⟩:=ε ((w.setCell ⟨ap,1+i,none⟩ (.int .u64 (y:Nat))).drew);have O:Hid (AB (λk=>k=ap) w w1):=⟨by rw[U];exact HA.o.t⟩;rw[<-U]at h1⊢;clear U;obtain⟨j,hj⟩:=ε (i+1);have HJ:=ι hj;have j1:((i:Int)+1)=(j:Int):=Ω
 have j2:(j:Int)<35:=Ω
 obtain⟨x2,y2,d,hB⟩:=h1.add (i:=j) (b:=hi) (c:=c) Ω HX.o.2.2 HA.o.d1;have HB:=ι hB;have ha:=hB.ext;have z1:=hB.cell;have cl:=h1.row.lt;have zf:=h1.row.free;have HC:=ι (λ(W:World) (gg:Gr w1 W)=>h1.gr gg);clear h1 hB hj b2;go_upto_region 2 with(fail);obtain⟨Sx,J,HS⟩:=AA.start λW'=>BA W' ap {s with n:=s.n.set i y};have y1:∀p:AA Sx,p.w.cell? ⟨ap,1+j,none⟩=some (uU (x2:Nat)):=λp=>by have h:=AA.get J p;exact by rw[HB.o.ex];exact h.limb Ω
 have Y:=HS.o _ (HC.o _ (Gr.refl w1).drew);have Z:Inhabited (AA Sx):=⟨⟨_,Y⟩⟩;clear J;refine OT Sx 19 [([0,1,2,3,4,5,6,7,8,9,10,11,16,17],12),([13,14,15,18],19)] [20] Y ?_;refine GV ?_;go_wp2_with(fail);refine⟨.inr (AA.of (HS.o _ (HC.o _ (Gr.refl w1).drew))),?_⟩;refine GV ?_;go_wp2_with(fail);refine⟨.inl trivial,?_⟩;refine NK ?_;clear y1 Y Z;clear HS Sx;clear ha z1 cl zf HC;have h2:=HB.o.at';obtain⟨w2,M⟩:=ε ((w1.setCell ⟨ap,1+j,none⟩ (.int .u64 (y2:Nat))).drew);have N:Hid (AB (λk=>k=ap) w w2):=⟨by rw[M];exact O.o.trans HB.o.t⟩;rw[<-M]at h2⊢
 have I:Hid (XeB w ap s V (i+2) d w2):=⟨N.o,HB.o.d1,_,h2,by
  have e1:=HA.o.sum;have e2:=HB.o.sum;rw[HJ.o]at e2⊢;rw[HV.o]
  exact Q40 e1 e2⟩
 clear M h2;clear O HA HB HJ j1 j2 N b1;go_wp2
 go_loopw [8,9] (λs8 s9 wr=>∃m d:Nat,m<=35/\Hid (XeB w ap s V m d wr)/\s8=uU d/\s9=iI m) (λ_ s9 _=>35-(intOf s9).toNat)
 case atStart=>exact⟨i+2,d,by omega,I,rfl,by go_num⟩
 case round=>
  clear I HX hi35;obtain⟨m,d',hm,HP,rfl,rfl⟩:=hrel;by_cases G:m<35
  ·have D:(m:Int)<35:=Ω
   by_cases E:0<d'
   ·have hdI:(0:Int)<d':=Ω
    obtain⟨n,h1,X⟩:=HP.o.2.2;obtain⟨x3,y3,d3,hB⟩:=h1.add (i:=m) (b:=0) (c:=d') G Ω HP.o.2.1;have HB:=ι hB;have ha:∀W,(callFunc 235 #[uU x3,uU 0,uU d']).run prog W=.ok (.value (.tuple #[uU (y3:Nat),uU (d3:Nat)])) W:=hB.ext;have z1:=hB.cell;have cl:=h1.row.lt;have zf:=h1.row.free;have HC:=ι (λ(W:World) (gg:Gr wr W)=>h1.gr gg);have HS:=ι X;clear h1 hB X;go_upto_region 6 with(fail);obtain⟨Sx,J,HS⟩:=AA.start λW'=>BA W' ap {s with n:=n};have y1:∀p:AA Sx,p.w.cell? ⟨ap,1+m,none⟩=some (uU (x3:Nat)):=λp=>by have h:=AA.get J p;exact by rw[HB.o.ex];exact h.limb Ω
    have Y:=HS.o _ (HC.o _ (Gr.refl wr).drew);have Z:Inhabited (AA Sx):=⟨⟨_,Y⟩⟩;clear J;refine OT Sx 16 [([0,1,2,3,4,5,6,7,8,13,14],9),([10,11,12,15],16)] [17] Y ?_;refine GV ?_;go_wp2_with(fail);refine⟨.inr (AA.of (HS.o _ (HC.o _ (Gr.refl wr).drew))),?_⟩;refine GV ?_;go_wp2_with(fail);refine⟨.inl trivial,?_⟩;refine NK ?_;clear y1 Y Z;clear HS Sx;clear ha z1 cl zf HC;go_wp2;go_round
    case rel=>
     refine⟨m+1,d3,by omega,⟨HP.o.1.trans HB.o.t,HB.o.d1,_,HB.o.at',?_⟩,rfl,by go_num⟩;have e2:=HB.o.sum;have e1:=HS.o;rw[ζ6]at e2
     show lv _ (n.set m y3)+_=_
     have e2:lv 18446744073709551616 (n.set m y3)+d3*18446744073709551616 ^ (m+1)=lv 18446744073709551616 n+d' * 18446744073709551616 ^ m:=e2;omega
    case measure=>simp[intOf];omega
   ·obtain rfl:d'=0:=Ω
    have HZ:=HP;clear HP E;go_wp2;refine ζk (ζh rfl _ _ _) rfl ⟨rfl,HZ.o.1,?_⟩;obtain⟨n,h1,X⟩:=HZ.o.2.2;rw[ξ5]at X;exact⟨n,0,h1,by rw[ξ5];exact X⟩
  ·have D:¬(m:Int)<35:=Ω
   obtain rfl:m=35:=Ω
   have HZ:=HP;clear HP;go_wp2;refine ζk (ζh rfl _ _ _) rfl ⟨rfl,HZ.o.1,?_⟩;obtain⟨n,h1,X⟩:=HZ.o.2.2;exact⟨n,d',h1,X⟩
theorem VGC{d:Nat}(e1:L1+(lo+0)*B ^ i=L0+c*B ^ (i+1))(e2:L2+(hi+c)*B ^ (i+1)=L1+d*B ^ (i+1+1)):L2+(lo+B*hi)*B ^ i=L0+d*B ^ (i+2):=by
 rw[show lo+0=lo from rfl]at e1;rw[ζP]at e2;rw[ζP,ζA B hi,ψv,<-Nat.pow_succ',show i+2=i+1+1 from rfl]
 show L2+(lo*B ^ i+hi*B ^ (i+1))=L0+d*B ^ (i+1+1)
 omega
structure Z5B(w:World)(p:Nat)(s:SmS)(i b c x y d:Nat):Prop where
 cell:w.cell? ⟨p,1+i,none⟩=some (uU (x:Nat))
 ex:x=s.n.getD i 0
 ext:∀W,(callFunc 276 #[uU x,uU b,uU c]).run prog W=.ok (.value (.tuple #[uU (y:Nat),uU (d:Nat)])) W
 at':BA ((w.setCell ⟨p,1+i,none⟩ (.int .u64 (y:Nat))).drew) p {s with n:=s.n.set i y}
 t:AB (λk=>k=p) w (w.setCell ⟨p,1+i,none⟩ (.int .u64 (y:Nat))).drew
 sum:lv 18446744073709551616 (s.n.set i y)+(b+c)*18446744073709551616 ^ i=lv 18446744073709551616 s.n+d*18446744073709551616 ^ (i+1)
 d1:d<=1
 y1:y<18446744073709551616
theorem BA.sub(h:BA w p s)(hi:i<35)(hb:b<18446744073709551616)(hc:c<=1):∃x y d,Z5B w p s i b c x y d:=by
 have hx:=h.dig1 i;have hl:i<s.n.length:=by rw[h.len];exact hi
 have hy:(s.n.getD i 0+18446744073709551616-b-c)%18446744073709551616<18446744073709551616:=ζN _ (by decide);refine⟨_,_,_,h.limb hi,rfl,λW=>Vlq _ b c hc W,(h.put hi hy).gr (Gr.refl _).drew,((AB.refl (λk=>k=p) w).setCell (a:=⟨p,1+i,none⟩) (λ_=>rfl) _).drew,?_,by split <;> omega,hy⟩;by_cases hz:s.n.getD i 0<b+c
 ·rw[θ hz,ξl,show (s.n.getD i 0+18446744073709551616-b-c)%18446744073709551616=s.n.getD i 0+18446744073709551616-(b+c)by omega];exact Q0J hl Ω
 ·rw[ψ hz,ξ5,ζ7,show (s.n.getD i 0+18446744073709551616-b-c)%18446744073709551616=s.n.getD i 0-(b+c)by omega];exact J9G hl Ω
def PV(w:World)(p:Nat)(s:SmS)(V:Nat)(w':World):Prop:=AB (λk=>k=p) w w'/\∃n c,BA w' p {s with n:=n}/\lv 18446744073709551616 n+V=lv 18446744073709551616 s.n+c*18446744073709551616 ^ 35
def JZT(w:World)(p:Nat)(s:SmS)(V i c:Nat)(w':World):Prop:=AB (λk=>k=p) w w'/\c<=1/\∃n,BA w' p {s with n:=n}/\lv 18446744073709551616 n+V=lv 18446744073709551616 s.n+c*18446744073709551616 ^ i
theorem Yk8(h:BA w ap s)(hi35:i+1<35)(hlo:lo<18446744073709551616)(hhi:hi<18446744073709551616):Calls prog 233 #[pP ap,iI i,uU lo,uU hi] w λe w'=>e=.returned (.tuple #[])/\PV w ap s ((lo+18446744073709551616*hi)*18446744073709551616 ^ i) w':=by
 obtain⟨V,hV⟩:=ε ((lo+18446744073709551616*hi)*18446744073709551616 ^ i);rw[<-hV];have HV:=ι hV;clear hV;obtain⟨x,y,c,hA⟩:=h.sub (i:=i) (b:=lo) (c:=0) Ω hlo Ω;have HX:=ι (ξ hi35 (ξ hlo hhi));have HA:=ι hA;have ha:∀W,(callFunc 276 #[uU x,uU lo,uU 0]).run prog W=.ok (.value (.tuple #[uU (y:Nat),uU (c:Nat)])) W:=hA.ext;have z1:=hA.cell;have cl:=h.row.lt;have zf:=h.row.free;have HC:=ι (λ(W:World) (gg:Gr w W)=>h.gr gg);have b1:(i:Int)<35:=Ω
 have b2:(i:Int)+1<35:=Ω
 clear h hA hlo hhi;go_in;go_upto_region 1 with(fail);obtain⟨Sx,J,HS⟩:=AA.start λW'=>BA W' ap s;have y1:∀p:AA Sx,p.w.cell? ⟨ap,1+i,none⟩=some (uU (x:Nat)):=λp=>by have h:=AA.get J p;exact by rw[HA.o.ex];exact h.limb (by have:=HX.o.1;omega)
 have Y:=HS.o _ (HC.o _ (Gr.refl w).drew);have Z:Inhabited (AA Sx):=⟨⟨_,Y⟩⟩;clear J;refine OT Sx 16 [([0,1,2,3,4,5,6,7,8,13,14],9),([10,11,12,15],16)] [17] Y ?_;refine GV ?_;go_wp2_with(fail);refine⟨.inr (AA.of (HS.o _ (HC.o _ (Gr.refl w).drew))),?_⟩;refine GV ?_;go_wp2_with(fail);refine⟨.inl trivial,?_⟩;refine NK ?_;clear y1 Y Z;clear HS Sx;clear ha z1 cl zf HC;have h1:=HA.o.at';obtain⟨w1,U⟩:=ε ((w.setCell ⟨ap,1+i,none⟩ (.int .u64 (y:Nat))).drew);have O:Hid (AB (λk=>k=ap) w w1):=⟨by rw[U];exact HA.o.t⟩;rw[<-U]at h1⊢;clear U;obtain⟨j,hj⟩:=ε (i+1);have HJ:=ι hj;have j1:((i:Int)+1)=(j:Int):=Ω
 have j2:(j:Int)<35:=Ω
 obtain⟨x2,y2,d,hB⟩:=h1.sub (i:=j) (b:=hi) (c:=c) Ω HX.o.2.2 HA.o.d1;have HB:=ι hB;have ha:=hB.ext;have z1:=hB.cell;have cl:=h1.row.lt;have zf:=h1.row.free;have HC:=ι (λ(W:World) (gg:Gr w1 W)=>h1.gr gg);clear h1 hB hj b2;go_upto_region 2 with(fail);obtain⟨Sx,J,HS⟩:=AA.start λW'=>BA W' ap {s with n:=s.n.set i y};have y1:∀p:AA Sx,p.w.cell? ⟨ap,1+j,none⟩=some (uU (x2:Nat)):=λp=>by have h:=AA.get J p;exact by rw[HB.o.ex];exact h.limb Ω
 have Y:=HS.o _ (HC.o _ (Gr.refl w1).drew);have Z:Inhabited (AA Sx):=⟨⟨_,Y⟩⟩;clear J;refine OT Sx 19 [([0,1,2,3,4,5,6,7,8,9,10,11,16,17],12),([13,14,15,18],19)] [20] Y ?_;refine GV ?_;go_wp2_with(fail);refine⟨.inr (AA.of (HS.o _ (HC.o _ (Gr.refl w1).drew))),?_⟩;refine GV ?_;go_wp2_with(fail);refine⟨.inl trivial,?_⟩;refine NK ?_;clear y1 Y Z;clear HS Sx;clear ha z1 cl zf HC;have h2:=HB.o.at';obtain⟨w2,M⟩:=ε ((w1.setCell ⟨ap,1+j,none⟩ (.int .u64 (y2:Nat))).drew);have N:Hid (AB (λk=>k=ap) w w2):=⟨by rw[M];exact O.o.trans HB.o.t⟩;rw[<-M]at h2⊢
 have I:Hid (JZT w ap s V (i+2) d w2):=⟨N.o,HB.o.d1,_,h2,by
  have e1:=HA.o.sum;have e2:=HB.o.sum;rw[HJ.o]at e2⊢;rw[HV.o]
  exact VGC e1 e2⟩
 clear M h2;clear O HA HB HJ j1 j2 N b1;go_wp2
 go_loopw [8,9] (λs8 s9 wr=>∃m d:Nat,m<=35/\Hid (JZT w ap s V m d wr)/\s8=uU d/\s9=iI m) (λ_ s9 _=>35-(intOf s9).toNat)
 case atStart=>exact⟨i+2,d,by omega,I,rfl,by go_num⟩
 case round=>
  clear I HX hi35;obtain⟨m,d',hm,HP,rfl,rfl⟩:=hrel;by_cases G:m<35
  ·have D:(m:Int)<35:=Ω
   by_cases E:0<d'
   ·have hdI:(0:Int)<d':=Ω
    obtain⟨n,h1,X⟩:=HP.o.2.2;obtain⟨x3,y3,d3,hB⟩:=h1.sub (i:=m) (b:=0) (c:=d') G Ω HP.o.2.1;have HB:=ι hB;have ha:∀W,(callFunc 276 #[uU x3,uU 0,uU d']).run prog W=.ok (.value (.tuple #[uU (y3:Nat),uU (d3:Nat)])) W:=hB.ext;have z1:=hB.cell;have cl:=h1.row.lt;have zf:=h1.row.free;have HC:=ι (λ(W:World) (gg:Gr wr W)=>h1.gr gg);have HS:=ι X;clear h1 hB X;go_upto_region 6 with(fail);obtain⟨Sx,J,HS⟩:=AA.start λW'=>BA W' ap {s with n:=n};have y1:∀p:AA Sx,p.w.cell? ⟨ap,1+m,none⟩=some (uU (x3:Nat)):=λp=>by have h:=AA.get J p;exact by rw[HB.o.ex];exact h.limb Ω
    have Y:=HS.o _ (HC.o _ (Gr.refl wr).drew);have Z:Inhabited (AA Sx):=⟨⟨_,Y⟩⟩;clear J;refine OT Sx 16 [([0,1,2,3,4,5,6,7,8,13,14],9),([10,11,12,15],16)] [17] Y ?_;refine GV ?_;go_wp2_with(fail);refine⟨.inr (AA.of (HS.o _ (HC.o _ (Gr.refl wr).drew))),?_⟩;refine GV ?_;go_wp2_with(fail);refine⟨.inl trivial,?_⟩;refine NK ?_;clear y1 Y Z;clear HS Sx;clear ha z1 cl zf HC;go_wp2;go_round
    case rel=>
     refine⟨m+1,d3,by omega,⟨HP.o.1.trans HB.o.t,HB.o.d1,_,HB.o.at',?_⟩,rfl,by go_num⟩;have e2:=HB.o.sum;have e1:=HS.o;rw[ζ6]at e2
     show lv _ (n.set m y3)+_=_
     have e2:lv 18446744073709551616 (n.set m y3)+d' * 18446744073709551616 ^ m=lv 18446744073709551616 n+d3*18446744073709551616 ^ (m+1):=e2;omega
    case measure=>simp[intOf];omega
   ·obtain rfl:d'=0:=Ω
    have HZ:=HP;clear HP E;go_wp2;refine ζk (ζh rfl _ _ _) rfl ⟨rfl,HZ.o.1,?_⟩;obtain⟨n,h1,X⟩:=HZ.o.2.2;rw[ξ5]at X;exact⟨n,0,h1,by rw[ξ5];exact X⟩
  ·have D:¬(m:Int)<35:=Ω
   obtain rfl:m=35:=Ω
   have HZ:=HP;clear HP;go_wp2;refine ζk (ζh rfl _ _ _) rfl ⟨rfl,HZ.o.1,?_⟩;obtain⟨n,h1,X⟩:=HZ.o.2.2;exact⟨n,d',h1,X⟩
theorem Ym8{m by':Nat}(hb:by'<=4096)(w:World):Calls prog 232 #[uU m,iI by'] w λe w'=>e=.returned (.tuple #[iI (by' / 64:Nat),uU (m*2 ^ (by' % 64)%18446744073709551616:Nat),uU (m/2 ^ (64-by' % 64):Nat)])/\Gr w w':=by
 have e1:((by':Int).tdiv 64)=((by' / 64:Nat):Int):=rfl;have e2:((by':Int).tmod 64)=((by' % 64:Nat):Int):=rfl;have ho:by' % 64<64:=ζN _ (by decide)
 have ha:by' / 64<=64:=Ω
 generalize by' / 64=Y at e1 ha⊢
 generalize by' % 64=X at e2 ho⊢
 have e3:IntKind.u64.wrap ((m:Int)*2 ^ X)=((m*2 ^ X%18446744073709551616:Nat):Int):=by
  rw[ζG,ξB,ψa,Int.natCast_pow];rfl
 have e4:((m:Int)/2 ^ (64-X))=((m/2 ^ (64-X):Nat):Int):=by rw[ζ2,Int.natCast_pow];rfl
 have H3:=ι e3;have H4:=ι e4;clear e3 e4;go_in;go_upto_region 2 with(fail);go_quiet (fail);go_wp2;rw[H3.o,H4.o];refine ζH (v:=.tuple #[iI Y,uU (m*2 ^ X%18446744073709551616:Nat),uU (m/2 ^ (64-X):Nat)]) ?_ rfl ⟨rfl,(Gr.refl w).drewN _⟩;simp[results,results232,go_sem]
def PF(w:World)(p:Nat)(s:SmS)(b:Nat)(w':World):Prop:=if sgN<=b then PV w p s (BZ (b-sgN)) w' else P8 w p s (BZ b) w'
theorem Qbi(h:b<AM):EG b/64+1<35/\E7 b*2 ^ (EG b%64)%18446744073709551616<18446744073709551616/\E7 b/2 ^ (64-EG b%64)<18446744073709551616 ∧
  (E7 b*2 ^ (EG b%64)%18446744073709551616+18446744073709551616*(E7 b/2 ^ (64-EG b%64)))*18446744073709551616 ^ (EG b/64)=BZ b:=by
 have h1:=Vyu (ξV h);have h2:=V6a b;have h3:E7 b/2 ^ (64-EG b%64)<=E7 b:=ζV _ _;have h4:=ZW9 (m:=E7 b) (off:=EG b%64) (ζN _ (by decide));have h5:=Xll (E7 b) (EG b);refine⟨by omega,ζN _ (by decide),by omega,?_⟩;rw[Z2l]
 show (_%2 ^ 64+2 ^ 64*_)*(2 ^ 64) ^ _=_
 rw[h4,h5]
theorem Y51(hx:x=b%sgN)(h:x<AM):b/4503599627370496%2048=x/4503599627370496/\b%4503599627370496=x%4503599627370496/\x/4503599627370496<=2046:=by
 unfold sgN at hx;unfold AM at h;omega
theorem QFO(h:BA w p s)(hb:b<18446744073709551616)(hf:b%sgN<AM):Calls prog 174 #[pP p,.float .f64 b] w λe w'=>e=.returned (.tuple #[])/\PF w p s b w':=by
 obtain⟨x,hx⟩:=ε (b%sgN);rw[<-hx]at hf;obtain⟨q1,q2,q3⟩:=Y51 hx hf;obtain⟨i1,i2,i3,i4⟩:=Qbi hf
 have HE:Hid (PF w p s b=if sgN<=b then PV w p s (BZ x)else P8 w p s (BZ x)):=⟨by
  funext w'
  unfold PF;by_cases hs:sgN<=b
  ·rw[θ hs,θ hs,show x=b-sgN by unfold sgN at hx hs⊢;omega]
  ·rw[ψ hs,ψ hs,show x=b by unfold sgN at hx hs;omega]⟩
 have HS:=ι (λ(W:World)=>Ym8 (m:=E7 x) (by':=EG x) (by have:=Vyu (ξV hf);omega) W);have HP:=ι (λ(W:World) (gg:Gr w W)=>Qmn (h.gr gg) i1 i2 i3);have HM:=ι (λ(W:World) (gg:Gr w W)=>Yk8 (h.gr gg) i1 i2 i3);rw[i4]at HP HM;clear i4;obtain⟨M,A⟩:=ε (EG x/64);obtain⟨lo,I⟩:=ε (E7 x*2 ^ (EG x%64)%18446744073709551616);obtain⟨hi,G⟩:=ε (E7 x/2 ^ (64-EG x%64));rw[<-A,<-I,<-G]at HS HP HM;clear A I G i1 i2 i3;have Z:E7 x=if x/4503599627370496=0 then x%4503599627370496 else x%4503599627370496+4503599627370496:=rfl
 have U:EG x=x/4503599627370496-1:=rfl;have g1:=VsF hb;have g2:bits .and .u64 (((b/4503599627370496:Nat):Int)) 2047=((b/4503599627370496%2048:Nat):Int):=Y5q Ω;rw[q2]at g1;rw[q1]at g2;have g3:((b:Int)/4503599627370496)=((b/4503599627370496:Nat):Int):=rfl;have D:=ζN x (show 0<4503599627370496 by decide);generalize b/4503599627370496=q at g2 g3;generalize x%4503599627370496=mm at g1 Z D;generalize x/4503599627370496=ee at g2 Z U q3
 have g4:bits .or .u64 (mm:Int) 4503599627370496=((mm+4503599627370496:Nat):Int):=by
  have e:(4503599627370496:Int)=((1*4503599627370496:Nat):Int):=rfl;rw[e,bits_or_u64_nat mm _ Ω Ω,K8 mm 1 52 4503599627370496 (by decide) D,ξl,ξI]
 have g5:IntKind.i64.wrap (ee:Int)=(ee:Int):=ζp _ Ω;generalize E7 x=mt at Z HS;generalize EG x=ex at U HS;generalize BZ x=V at HE HP HM;have HB:=ι (λW=>J6 b W);have HG:=ι (λW=>Zvp b hb W)
 have Xa:(ee=0/\mt=mm/\ex=0)\/(0<ee/\mt=mm+4503599627370496/\ex=ee-1):=by
  by_cases h0:ee=0
  ·rw[θ h0]at Z;exact .inl ⟨h0,Z,by omega⟩
  ·rw[ψ h0]at Z;exact .inr ⟨by omega,Z,U⟩
 rw[HE.o]
 have N:(sgN<=b/\decide (sgN<=b)=true)\/(¬sgN<=b/\decide (sgN<=b)=false):=by
  by_cases hs:sgN<=b
  ·exact .inl ⟨hs,φ hs⟩
  ·exact .inr ⟨hs,ζ hs⟩
 generalize decide (sgN<=b)=sb at HG N;have HW:Hid (∀W W',Gr w W->P8 W p s V W'->P8 w p s V W'):=⟨λW W' gg hh=>⟨(gg.touch _).trans hh.1,hh.2⟩⟩;have O:Hid (∀W W',Gr w W->PV W p s V W'->PV w p s V W'):=⟨λW W' gg hh=>⟨(gg.touch _).trans hh.1,hh.2⟩⟩;clear hx Z U HE hf h;rcases Xa with⟨rfl,rfl,rfl⟩|⟨h0,rfl,rfl⟩
 ·have E:Hid (∀W,Calls prog 232 #[uU mt,iI 0] W λe w'=>e=.returned (.tuple #[iI M,uU lo,uU hi])/\Gr W w'):=⟨HS.o⟩;have g20:bits .and .u64 (q:Int) 2047=0:=g2;clear HS g2;rcases N with⟨hs,rfl⟩|⟨hs,rfl⟩
  ·rw[θ hs];clear hs hb;go_in
   go_wp2_with(first|(go_at_call 30;refine AJ (HB.o _) ?_)|(go_at_call 232;refine Qb (E.o _) λw1 Y=>?_)|(go_at_call 173;refine AJ (HG.o _) ?_)|(go_at_call 233;refine Qb (HM.o _ Y.o) λw2 J=>?_))
   exact ζk (ζh rfl _ _ _) rfl ⟨rfl,O.o _ _ Y.o J.o⟩
  ·rw[ψ hs];clear hs hb;go_in
   go_wp2_with(first|(go_at_call 30;refine AJ (HB.o _) ?_)|(go_at_call 232;refine Qb (E.o _) λw1 Y=>?_)|(go_at_call 173;refine AJ (HG.o _) ?_)|(go_at_call 234;refine Qb (HP.o _ Y.o) λw2 J=>?_))
   exact ζk (ζh rfl _ _ _) rfl ⟨rfl,HW.o _ _ Y.o J.o⟩
 ·have e0:(0:Int)<ee:=Ω
  have e1:((ee:Int)-1)=((ee-1:Nat):Int):=Ω
  generalize ee-1=ex at e1 HS;generalize mm+4503599627370496=mt at g4 HS;rcases N with⟨hs,rfl⟩|⟨hs,rfl⟩
  ·rw[θ hs];clear hs hb h0;go_in
   go_wp2_with(first|(go_at_call 30;refine AJ (HB.o _) ?_)|(go_at_call 232;refine Qb (HS.o _) λw1 Y=>?_)|(go_at_call 173;refine AJ (HG.o _) ?_)|(go_at_call 233;refine Qb (HM.o _ Y.o) λw2 J=>?_))
   exact ζk (ζh rfl _ _ _) rfl ⟨rfl,O.o _ _ Y.o J.o⟩
  ·rw[ψ hs];clear hs hb h0;go_in
   go_wp2_with(first|(go_at_call 30;refine AJ (HB.o _) ?_)|(go_at_call 232;refine Qb (HS.o _) λw1 Y=>?_)|(go_at_call 173;refine AJ (HG.o _) ?_)|(go_at_call 234;refine Qb (HP.o _ Y.o) λw2 J=>?_))
   exact ζk (ζh rfl _ _ _) rfl ⟨rfl,HW.o _ _ Y.o J.o⟩
def smT(s:SmS):List Value:=[.bool s.na,.bool s.pl,.bool s.mi,iI s.ct,iI s.ze]
theorem VU(s:SmS):smL s=.bool true :: ((s.n.map λx:Nat=>uU x)++smT s):=rfl
theorem BA.tail(h:BA w p s){v:Value}(hv:(smT s)[k]?=some v):w.cell? ⟨p,36+k,none⟩=some v:=by
 refine h.row.cell ?_;rw[VU,show 36+k=(35+k)+1 by omega,ν,ζ5 (by rw[ζE,h.len];omega),ζE,h.len,show 35+k-35=k by omega];exact hv
theorem BA.setT(h:BA w p s){v:Value}(hn:s'.n=s.n)(hv:(smT s).set k v=smT s'):BA (w.setCell ⟨p,36+k,none⟩ v) p s':=by
 refine⟨?_,by rw[hn];exact h.len,by rw[hn];exact h.dig⟩;have:=h.row.set (36+k) v;rw[VU,show 36+k=(35+k)+1 by omega,ζf,ψQ _ _ (by rw[ζE,h.len];omega),ζE,h.len,show 35+k-35=k by omega,hv,<-hn,<-VU]at this;rw[show 36+k=(35+k)+1 by omega];exact this
structure ES(l:List Nat)(s:SmS):Prop where
 n:(lv 18446744073709551616 s.n:Int)=((CO l:Int)-CP l)%((18446744073709551616 ^ 35:Nat):Int)
 na:s.na=l.any λb=>decide (AM<b%sgN)
 pl:s.pl=l.any λb=>b==AM
 mi:s.mi=l.any λb=>b==AM+sgN
 ct:s.ct=(l.length:Nat)
 ze:s.ze=((l.filter λb=>b==sgN).length:Nat)
def smZ:SmS:=⟨List.replicate 35 0,false,false,false,0,0⟩
theorem ES.zero:ES [] smZ:=by
 refine⟨?_,rfl,rfl,rfl,rfl,rfl⟩;have:lv 18446744073709551616 smZ.n=0:=(O5 (by decide)).2 (λx hx=>ξg hx);rw[this];rfl
theorem QFq(w:World):Calls prog 104 #[] w λe w'=>e=.returned (pP w.heap.size)/\Gr w w'/\BA w' w.heap.size smZ:=by
 have HR:Hid (BA (w.alloc (.cells (smL smZ).toArray 252)) w.heap.size smZ):=⟨Rec.new w _ _,by decide,λx hx=>by rw[ξg hx];decide⟩;go_in;go_wp2;go_ret;exact⟨rfl,(Gr.refl w).alloc _,HR.o⟩
theorem ZN(l:List Nat)(b:Nat):CO (l++[b])=CO l+if b<AM then BZ b else 0:=by simp[CO]
theorem ZK(l:List Nat)(b:Nat):CP (l++[b])=CP l+if 9223372036854775808<=b/\b<9223372036854775808+AM then BZ (b-9223372036854775808)else 0:=by simp[CP]
theorem ES.app(h:ES l s)(hn:(lv 18446744073709551616 s'.n:Int)=((CO (l++[b]):Int)-CP (l++[b]))%((18446744073709551616 ^ 35:Nat):Int))(h1:s'.na=(s.na||decide (AM<b%sgN)))(h2:s'.pl=(s.pl||b==AM))(h3:s'.mi=(s.mi||b==AM+sgN))(h4:s'.ct=s.ct+1)
  (h5:s'.ze=s.ze+if b=sgN then 1 else 0):ES (l++[b]) s':=by
 refine⟨hn,?_,?_,?_,?_,?_⟩
 ·rw[h1,h.na];simp
 ·rw[h2,h.pl];simp
 ·rw[h3,h.mi];simp
 ·rw[h4,h.ct];simp
 ·rw[h5,h.ze];by_cases hb:b=sgN
  ·simp[hb,List.filter_append]
  ·simp[hb,List.filter_append]
theorem VGu(h:(lv 18446744073709551616 s.n:Int)=((CO l:Int)-CP l)%((18446744073709551616 ^ 35:Nat):Int))(hf:b%sgN<AM)(hb:b<18446744073709551616)(he:PF w p s b w'):AB (λk=>k=p) w w'/\∃n,BA w' p {s with n:=n}/\(lv 18446744073709551616 n:Int)=((CO (l++[b]):Int)-CP (l++[b]))%((18446744073709551616 ^ 35:Nat):Int):=by
 unfold PF at he;by_cases hs:sgN<=b
 ·rw[θ hs]at he;obtain⟨t,n,c,h1,h2⟩:=he;refine⟨t,n,h1,?_⟩;have:=Ye6 (K:=18446744073709551616 ^ 35) h (JiS h1.len h1.dig) h2;rw[ZN,ZK,ψ (show ¬b<AM by unfold sgN at hs;unfold AM;omega),θ (show 9223372036854775808<=b/\b<9223372036854775808+AM by unfold sgN at hs hf;omega),this];congr 1
  show _-(BZ (b-9223372036854775808):Int)=_
  omega
 ·rw[ψ hs]at he;obtain⟨t,n,c,h1,h2⟩:=he;refine⟨t,n,h1,?_⟩;have:=XYn (K:=18446744073709551616 ^ 35) h (JiS h1.len h1.dig) h2;rw[ZN,ZK,θ (show b<AM by unfold sgN at hs hf;omega),ψ (show ¬(9223372036854775808<=b/\b<9223372036854775808+AM)by unfold sgN at hs;omega),this];congr 1;omega
theorem Y7(h:ES l s)(b:Nat)(hf:AM<=b%sgN\/b%sgN=0):(lv 18446744073709551616 s.n:Int)=((CO (l++[b]):Int)-CP (l++[b]))%((18446744073709551616 ^ 35:Nat):Int):=by
 have v0:BZ 0=0:=by decide
 rw[ZN,ZK,h.n];congr 1;unfold sgN at hf
 have e1:(if b<AM then BZ b else 0)=0:=by
  split
  ·rename_i hb;have:b=0:=by unfold AM at hf hb;omega
   rw[this,v0]
  ·rfl
 have e2:(if 9223372036854775808<=b/\b<9223372036854775808+AM then BZ (b-9223372036854775808)else 0)=0:=by
  split
  ·rename_i hb;have:b-9223372036854775808=0:=by unfold AM at hf hb;omega
   rw[this,v0]
  ·rfl
 rw[e1,e2];omega
def SM(w:World)(p:Nat)(l:List Nat)(w':World):Prop:=AB (λk=>k=p) w w'/\∃s',BA w' p s'/\ES l s'
theorem Zhn{b:Nat}:(FX b=4/\AM<b%sgN)\/(FX b=3/\b%sgN=AM)\/(FX b=0/\b%sgN=0)\/((FX b=1\/FX b=2)/\0<b%sgN/\b%sgN<AM):=by
 unfold FX
 split
 ·exact .inl ⟨rfl,by assumption⟩
 ·split
  ·exact .inr (.inl ⟨rfl,by assumption⟩)
  ·split
   ·exact .inr (.inr (.inr ⟨.inr rfl,by omega,by omega⟩))
   ·split
    ·exact .inr (.inr (.inr ⟨.inl rfl,by omega,by omega⟩))
    ·exact .inr (.inr (.inl ⟨rfl,by omega⟩))
theorem XQS(h:BA w p s)(hS:ES l s)(hl:l.length<=255)(hb:b<18446744073709551616):Calls prog 106 #[pP p,.float .f64 b] w λe w'=>e=.returned (.tuple #[])/\SM w p (l++[b]) w':=by
 have HK:=ι (λW=>Y8f b hb W);have HG:=ι (λW=>Zvp b hb W);have hk:=@Zhn b;have c0:w.cell? ⟨p,0,none⟩=some (.bool true):=h.row.cc 0;have A:w.cell? ⟨p,39,none⟩=some (iI s.ct):=h.tail (k:=3) rfl;have cl:=h.row.lt;have zf:=h.row.free;have Xc:=hS.ct;have Xa:0<=s.ct/\s.ct<=255:=Ω
 have h1:BA (w.setCell ⟨p,39,none⟩ (.int .i64 (s.ct+1))) p {s with ct:=s.ct+1}:=h.setT (k:=3) rfl rfl;have Y:=ι ((AB.refl (λk=>k=p) w).setCell (a:=⟨p,39,none⟩) (λ_=>rfl) (iI (s.ct+1)));obtain⟨ct,O⟩:=ε s.ct;rw[<-O]at A Xa h1 Y;have HC:=ι O;have HS:=ι hS;clear Xc O h hS;obtain⟨w1,I⟩:=ε (w.setCell ⟨p,39,none⟩ (.int .i64 (ct+1)));rw[<-I]at h1 Y;have Xf:=ι I;have H1:=ι h1;clear I;go_in;go_upto_region 2 with(fail);rw[<-Xf.o];clear c0 A cl zf Xa;have cl:=h1.row.lt;have zf:=h1.row.free;have E:w1.cell? ⟨p,36,none⟩=some (.bool s.na):=h1.tail (k:=0) rfl;have D:w1.cell? ⟨p,37,none⟩=some (.bool s.pl):=h1.tail (k:=1) rfl;have G:w1.cell? ⟨p,38,none⟩=some (.bool s.mi):=h1.tail (k:=2) rfl;have V:w1.cell? ⟨p,40,none⟩=some (iI s.ze):=h1.tail (k:=4) rfl;clear h1;generalize FX b=kd at hk HK;rcases hk with⟨rfl,hx⟩|⟨rfl,hx⟩|⟨rfl,hx⟩|⟨Xd,J,X⟩
 ·have HX:=ι hx;clear hx;go_wp2_with(go_at_call 37;refine AJ (HK.o _) ?_);refine ζk (ζh rfl _ _ _) rfl ?_;refine⟨rfl,Y.o.setCell (a:=⟨p,36,none⟩) (λ_=>rfl) _,{s with ct:=s.ct+1,na:=true},?_,?_⟩
  ·have:=H1.o;rw[HC.o]at this;exact this.setT (k:=0) rfl rfl
  ·have hx:=HX.o;refine HS.o.app (Y7 HS.o _ (.inl (ξV hx))) (by rw[φ hx,Bool.or_true]) ?_ ?_ rfl ?_
   ·rw[ξT (λe=>by rw[e]at hx;exact absurd hx (by decide)),ξJ]
   ·rw[ξT (λe=>by rw[e]at hx;exact absurd hx (by decide)),ξJ]
   ·rw[ψ (λe=>by rw[e]at hx;exact absurd hx (by decide))];exact(Int.add_zero _).symm
 ·have hgt:∀W,(binOp BinOp.gtr 22 (.float .f64 9218868437227405312) (.float .f64 0)).run prog W=.ok (.bool true) W:=λW=>by kernel_rfl
  have hlt:∀W,(binOp BinOp.lss 22 (.float .f64 9218868437227405312) (.float .f64 0)).run prog W=.ok (.bool false) W:=λW=>by kernel_rfl
  have hgt2:∀W,(binOp BinOp.gtr 22 (.float .f64 18442240474082181120) (.float .f64 0)).run prog W=.ok (.bool false) W:=λW=>by kernel_rfl
  have hlt2:∀W,(binOp BinOp.lss 22 (.float .f64 18442240474082181120) (.float .f64 0)).run prog W=.ok (.bool true) W:=λW=>by kernel_rfl
  have N:b=9218868437227405312\/b=18442240474082181120:=by
   unfold sgN AM at hx;omega
  have HX:=ι hx;clear hx;obtain⟨na,pl,mi,ze,hf⟩:∃na pl mi ze,na=s.na/\pl=s.pl/\mi=s.mi/\ze=s.ze:=⟨_,_,_,_,rfl,rfl,rfl,rfl⟩;rw[<-hf.1]at E;rw[<-hf.2.1]at D;rw[<-hf.2.2.1]at G;rw[<-hf.2.2.2]at V;have HF:=ι hf;clear hf
  have Z:Hid (∀W' pl' mi',AB (λk=>k=p) w W'->pl'=(pl||b==AM)->mi'=(mi||b==AM+sgN)->BA W' p {s with ct:=s.ct+1,pl:=pl',mi:=mi'}->SM w p (l++[b]) W'):=⟨λW' pl' mi' t e1 e2 hm=>⟨t,_,hm,by
   have hx:=HX.o;refine HS.o.app (Y7 HS.o _ (.inl Ω)) ?_ (by rw[<-HF.o.2.1];exact e1) (by rw[<-HF.o.2.2.1];exact e2) rfl ?_
   ·rw[ζ Ω,ξJ]
   ·rw[ψ (λe=>by rw[e]at hx;exact absurd hx (by decide))];exact(Int.add_zero _).symm⟩⟩
  have Xg:Hid (∀(W:World) (x y:Bool),W=(w1.setCell ⟨p,37,none⟩ (.bool x)).setCell ⟨p,38,none⟩ (.bool y)->AB (λk=>k=p) w W/\BA W p {s with ct:=s.ct+1,pl:=x,mi:=y}):=⟨λW x y e=>by
   subst e;refine⟨(Y.o.setCell (a:=⟨p,37,none⟩) (λ_=>rfl) _).setCell (a:=⟨p,38,none⟩) (λ_=>rfl) _,?_⟩;have h:=H1.o;rw[HC.o]at h;have h2:BA _ p {s with ct:=s.ct+1,pl:=x}:=h.setT (k:=1) rfl rfl
   exact h2.setT (k:=2) rfl rfl⟩
  rcases N with rfl|rfl
  all_goals
   cases pl
   all_goals
    cases mi
    all_goals
     go_wp2_with(go_at_call 37;refine AJ (HK.o _) ?_);obtain⟨t,hm⟩:=Xg.o _ _ _ rfl;exact ζk (ζh rfl _ _ _) rfl ⟨rfl,Z.o _ _ _ t (by decide) (by decide) hm⟩
 ·have N:(b=0/\decide (sgN<=b)=false)\/(b=sgN/\decide (sgN<=b)=true):=by
   unfold sgN at hx⊢;rcases(by omega:b=0\/b=9223372036854775808)with rfl|rfl
   ·exact .inl ⟨rfl,by decide⟩
   ·exact .inr ⟨rfl,by decide⟩
  have Xb:0<=s.ze/\s.ze<=255:=by
   have h1:=HS.o.ze;have h2:=List.length_filter_le (λb=>b==sgN) l;omega
  obtain⟨ze,M⟩:=ε s.ze;rw[<-M]at V Xb;have HZ:=ι M;have HX:=ι hx;clear hx M
  have Z:Hid (∀W' z',AB (λk=>k=p) w W'->z'=s.ze+(if b=sgN then 1 else 0)->BA W' p {s with ct:=s.ct+1,ze:=z'}->SM w p (l++[b]) W'):=⟨λW' z' t e1 hm=>⟨t,_,hm,by
   have hx:=HX.o;refine HS.o.app (Y7 HS.o _ (.inr hx)) ?_ ?_ ?_ rfl e1
   ·rw[ζ (by unfold AM;omega),ξJ]
   ·rw[ξT (λe=>by rw[e]at hx;exact absurd hx (by decide)),ξJ]
   ·rw[ξT (λe=>by rw[e]at hx;exact absurd hx (by decide)),ξJ]⟩⟩
  rcases N with⟨rfl,U⟩|⟨rfl,U⟩
  ·rw[U]at HG;clear U
   go_wp2_with(first|(go_at_call 37;refine AJ (HK.o _) ?_)|(go_at_call 173;refine AJ (HG.o _) ?_))
   refine ζk (ζh rfl _ _ _) rfl ?_;have h:=H1.o;rw[HC.o]at h;exact⟨rfl,Z.o _ s.ze Y.o (by rw[ψ (by decide)];omega) h⟩
  ·rw[U]at HG;clear U
   go_wp2_with(first|(go_at_call 37;refine AJ (HK.o _) ?_)|(go_at_call 173;refine AJ (HG.o _) ?_))
   refine ζk (ζh rfl _ _ _) rfl ?_;have h:=H1.o;rw[HC.o]at h;exact⟨rfl,Z.o _ (ze+1) (Y.o.setCell (a:=⟨p,40,none⟩) (λ_=>rfl) _) (by rw[θ trivial,HZ.o]) (h.setT (k:=4) rfl rfl)⟩
 ·have HN:=ι (QFO H1.o hb X);have HX:=ι (ξ J X);have HB:=ι hb;clear J X hb E D G V;rcases Xd with rfl|rfl
  all_goals
   go_wp2_with(first|(go_at_call 37;refine AJ (HK.o _) ?_)|(go_at_call 174;refine Qb (HN.o) λw2 Xe=>?_))
   refine ζk (ζh rfl _ _ _) rfl ?_;obtain⟨J,X⟩:=HX.o;obtain⟨t,n,h3,h4⟩:=VGu (s:={s with ct:=ct+1}) (l:=l) HS.o.n X HB.o Xe.o;rw[HC.o]at h3;refine⟨rfl,Y.o.trans t,{s with ct:=s.ct+1,n:=n},h3,?_⟩;refine HS.o.app h4 ?_ ?_ ?_ rfl ?_
   ·rw[ζ Ω,ξJ]
   ·rw[ξT (λe=>by rw[e]at X;exact absurd X (by decide)),ξJ]
   ·rw[ξT (λe=>by rw[e]at X;exact absurd X (by decide)),ξJ]
   ·rw[ψ (λe=>by rw[e]at J;exact absurd J (by decide))];exact(Int.add_zero _).symm
theorem YaP{W:World}(h:Rec W b T xs):∀(n i:Nat) (acc:Array Value),i+n=xs.length->(loadCellsFrom ⟨b,0,none⟩ i n acc).run prog W=.ok (acc++(xs.drop i).toArray) W:=by
 intro n
 induction n with
 | zero=>
  intro i acc hi;rw[ψo Ω];simp[loadCellsFrom,go_sem]
 | succ n ih=>
  intro i acc hi;have hc:=h.cell (j:=i) (u:=xs[i]' Ω) (τ _);unfold loadCellsFrom;simp only[Sem.run_bind];rw[show (load (Addr.add ⟨b,0,none⟩ i)).run prog W=.ok (xs[i]' Ω) W by simp[go_sem,hc]];simp only[Result.andThen];rw[ih (i+1) _ Ω,ξH (show i<xs.length by omega)];simp
theorem QD{W:World}(h:Rec W b T xs)(hA:(isAgg T).run prog W=.ok true W)(hS:(sizeOf T).run prog W=.ok xs.length W):(loadVar T ⟨b,0,none⟩).run prog W=.ok (.agg xs.toArray) W:=by
 have:=YaP h xs.length 0 #[] Ω;simp[loadVar,Sem.run_bind,hA,hS,Result.andThen,loadCells,this,go_sem]
theorem WU(a:Addr)(k:FloatKind)(b:Nat)(w:World):(store a (.float k b)).run prog w=stored prog w a (.float k b) .plain:=run_store _ _ _ _ _ rfl
def lbL(n:List Nat):List Value:=n.map λx:Nat=>uU x
structure BY(w:World)(b:Nat)(n:List Nat):Prop where
 row:Rec w b 250 (lbL n)
 len:n.length=35
 dig:∀x∈n,x<18446744073709551616
section
variable{n:List Nat}
theorem BY.limb(h:BY w b n)(hi:i<35):w.cell? ⟨b,i,none⟩=some (uU (n.getD i 0:Nat)):=by
 refine h.row.cell ?_;unfold lbL;rw[ξD,κ,τ (by rw[h.len];exact hi)];rfl
theorem BY.put(h:BY w b n)(hy:y<18446744073709551616):BY (w.setCell ⟨b,i,none⟩ (.int .u64 (y:Nat))) b (n.set i y):=by
 refine⟨?_,by rw[ζa];exact h.len,VV h.dig hy⟩;have:=h.row.set i (uU (y:Nat));unfold lbL at this⊢;rw[ξX];exact this
theorem BY.gr(h:BY w b n)(g:Gr w w'):BY w' b n:=⟨h.row.gr g,h.len,h.dig⟩
theorem BY.new(w:World)(hl:n.length=35)(hd:∀x∈n,x<18446744073709551616):BY (w.alloc (.cells (lbL n).toArray 250)) w.heap.size n:=⟨Rec.new w _ _,hl,hd⟩
def lbV(n:List Nat):Value:=.agg (lbL n).toArray
theorem Yaq(w:World):(sizeOf 250).run prog w=.ok 35 w:=by kernel_rfl
theorem BY.load(h:BY w b n):(loadVar 250 ⟨b,0,none⟩).run prog w=.ok (lbV n) w:=by
 refine QD h.row (by kernel_rfl) ?_;have:(lbL n).length=35:=by unfold lbL;rw[ζE];exact h.len
 rw[this];exact Yaq w
end
theorem ZR2{n:List Nat}(hl:n.length=35)(hd:∀x∈n,x<18446744073709551616){at':Nat}(ha:at' / 64<35)(w:World):Calls prog 237 #[lbV n,iI at'] w λe w'=>e=.returned (uU (frL n at':Nat))/\Gr w w':=by
 have H:=ι (BY.new w hl hd);have e1:((at':Int).tdiv 64)=((at' / 64:Nat):Int):=rfl;have e2:((at':Int).tmod 64)=((at' % 64:Nat):Int):=rfl;have ho:at' % 64<64:=ζN _ (by decide);have c1:=H.o.limb ha;have c2:at' / 64+1<35->(w.alloc (.cells (lbL n).toArray 250)).cell? ⟨w.heap.size,at' / 64+1,none⟩=some (uU (n.getD (at' / 64+1) 0:Nat)):=λh=>H.o.limb h;have HF:Hid (frL n at'=(n.getD (at' / 64) 0/2 ^ (at' % 64)+n.getD (at' / 64+1) 0*2 ^ (64-at' % 64)%18446744073709551616)%9007199254740992):=⟨rfl⟩;have hx:=I4 (B:=18446744073709551616) (by decide) hd (at' / 64);have hy:=I4 (B:=18446744073709551616) (by decide) hd (at' / 64+1);have U:¬at' / 64+1<35->n.getD (at' / 64+1) 0=0:=λh=>by rw[κ,ζz Ω];rfl
 generalize frL n at'=fr at HF⊢;generalize n.getD (at' / 64) 0=x at c1 HF hx;generalize n.getD (at' / 64+1) 0=y at c2 HF hy U;generalize at' / 64=q at e1 c1 c2 ha U;generalize at' % 64=J at e2 ho HF;have g1:IntKind.i64.wrap (q:Int)=(q:Int):=ζp _ Ω;have h1:((x:Int)/2 ^ J)=((x/2 ^ J:Nat):Int):=by rw[ζ2,Int.natCast_pow];rfl
 have h2:IntKind.u64.wrap ((y:Int)*2 ^ (64-J))=((y*2 ^ (64-J)%18446744073709551616:Nat):Int):=by
  rw[ζG,ξB,ψa,Int.natCast_pow];rfl
 have A:y*2 ^ (64-J)%18446744073709551616<18446744073709551616:=ζN _ (by decide);have I:x/2 ^ J<18446744073709551616:=ξx (ζV _ _) hx;have M:x/2 ^ J<2 ^ (64-J):=(ζC (Nat.two_pow_pos _)).2 (by rw[<-Nat.pow_add,show 64-J+J=64 by omega];exact hx)
 have V:∃t,t<2 ^ J/\y*2 ^ (64-J)%18446744073709551616=t*2 ^ (64-J):=by
  refine⟨y%2 ^ J,ζN _ (Nat.two_pow_pos _),?_⟩;have e:(18446744073709551616:Nat)=2 ^ J*2 ^ (64-J):=by rw[<-Nat.pow_add,show J+(64-J)=64 by omega]
  rw[e,Nat.mul_mod_mul_right]
 have N:x/2 ^ J+y*2 ^ (64-J)%18446744073709551616<18446744073709551616:=by
  obtain⟨t,ht1,ht⟩:=V;rw[ht];have e:(18446744073709551616:Nat)=2 ^ J*2 ^ (64-J):=by rw[<-Nat.pow_add,show J+(64-J)=64 by omega]
  rw[e];have:=ζj (2 ^ (64-J)) (show t+1<=2 ^ J by omega);rw[ζP,ξl]at this;omega
 have h3:bits .or .u64 ((x/2 ^ J:Nat):Int) ((y*2 ^ (64-J)%18446744073709551616:Nat):Int)=((x/2 ^ J+y*2 ^ (64-J)%18446744073709551616:Nat):Int):=by
  rw[bits_or_u64_nat _ _ I A];obtain⟨t,-,ht⟩:=V;rw[ht,K8 _ t (64-J) _ rfl M,ξI]
 have h4:∀z:Nat,z<18446744073709551616->bits .and .u64 (z:Int) 9007199254740991=((z%9007199254740992:Nat):Int):=λz hz=>by
  have e:(9007199254740991:Int)=((9007199254740991:Nat):Int):=rfl;rw[e,EP z _ hz Ω,show (9007199254740991:Nat)=2 ^ 53-1 from rfl,Nat.and_two_pow_sub_one_eq_mod]
 have k1:=h4 _ N;have k2:=h4 _ I;obtain⟨X,hX⟩:=ε (x/2 ^ J);obtain⟨Y,hY⟩:=ε (y*2 ^ (64-J)%18446744073709551616);rw[<-hX,<-hY]at HF h3 k1;rw[<-hX]at h1 k2;rw[<-hY]at h2;have G:=ι ((Gr.refl w).alloc (.cells (lbL n).toArray 250));have O:Hid (¬q+1<35->Y=0):=⟨λh=>by rw[hY,U h,ξ5]⟩;have Xd:w.heap.size<(w.alloc (.cells (lbL n).toArray 250)).heap.size:=by rw[π];omega
 unfold lbV;obtain⟨w1,E⟩:=ε (w.alloc (.cells (lbL n).toArray 250));rw[<-E]at c1 c2 G Xd;have D:=ι E;have Xb:(lbL n).toArray.size=35:=by unfold lbL;simp[hl]
 generalize (lbL n).toArray=arr at D Xb⊢;clear E hX hY V N I A M hx hy U hd hl H h4;by_cases hq:q+1<35
 ·have Xe:=c2 hq;obtain⟨q1,Xa⟩:=ε (q+1);have hq1:((q:Int)+1)=(q1:Int):=Ω
  have Xc:(q1:Int)<35:=Ω
  rw[<-Xa]at Xe;clear c2 hq Xa O;generalize X+Y=Z at h3 k1 HF;go_in;go_upto_region 1 with(fail);rw[<-D.o];go_wp2;go_ret;exact⟨by rw[HF.o];rfl,G.o⟩
 ·have Xc:¬((q:Int)+1)<35:=Ω
  have Xf:=O.o hq;subst Xf;rw[ζ7]at HF;clear c2 O hq;go_in;go_upto_region 1 with(fail);rw[<-D.o];go_wp2;go_ret;exact⟨by rw[HF.o];rfl,G.o⟩
end Go.Proofs.YtcihfnpokdbfpaaGreatDoor
