/- Part 7 of what ListPlays leans on: my own lemmas, merged by shake.py. -/
import Derived.Test.YteihjlcmjecmfaaGreatDoorListPlaysF
import Derived.Maps.OwnIn
import Derived.Deep.MidRow
namespace Go.Proofs.YteihjlcmjecmfaaGreatDoor
open _root_.Go.Proofs.Tryz
set_option maxHeartbeats 1600000
set_option maxRecDepth 100000
open Go.RowKit Word
def Pln(w:World)(F p n B:Nat)(base:Nat)(L:List Ob):Prop:=
 p<w.heap.size/\F<=p/\BJ B=true/\∃f,w.cell? ⟨p,0,none⟩=some (pP f)/\w.cell? ⟨p,1,none⟩=some (iI B)/\Fwd w F f n B base L
theorem Pln.gr{w w':World}{F p n B base:Nat}{L:List Ob}(h:Pln w F p n B base L)(g:Gr w w'):Pln w' F p n B base L:=by
 obtain⟨h1,h2,h3,f,c0,c1,hF⟩:=h;exact⟨υ h1 g.size,h2,h3,f,(g.cell h1 0).trans c0,(g.cell h1 1).trans c1,hF.gr g⟩
def Vkw(w:World)(n:Nat)(L:List Ob)(k b:Int)(e:Ending)(w':World):Prop:=
 Gr w w'/\(((BJ k&&F2 b)=false/\e=.returned (.tuple #[.pointer none,iI 5]))\/((BJ k&&F2 b)=true/\∃p B base:Nat,k=B/\b=base/\e=.returned (.tuple #[pP p,iI 0])/\Pln w' w.heap.size p n B base L))
theorem YGs{w:World}{m p1 b1 p2 b2 n:Nat}{L:List Ob}(hE:Ext w m p1 b1 p2 b2 n L)(hT:AP w)(k b:Int)(hk:k<=9223372036854775807):
  Calls prog 155 #[pP m,iI k,iI b] w (Vkw w n L k b):=by
 have HT:=hT;cases hgo:(BJ k&&F2 b)with
 | false=>
  go_enter func155,ntmps155;go_wp2_with(go_at_call 130;refine(VQ hE HT k b hk).mono ?_;rintro e w2 ⟨X,⟨-,rfl⟩|⟨hb,-⟩⟩;rotate_left;(rw[hgo]at hb;cases hb);have Y:=X);go_ret2;exact⟨Y,.inl ⟨hgo,rfl⟩⟩
 | true=>
  have HK:=(ζ5.1 hgo).1;go_enter func155,ntmps155;go_wp2_with(go_at_call 130;refine(VQ hE HT k b hk).mono ?_;rintro e w2 ⟨X,⟨hb,-⟩|⟨-,f,B,base,hB,Z,rfl,hO⟩⟩;(rw[hgo]at hb;cases hb);have HO:=hO;have HB:=hB;have J:=Z);go_ret2;have hs:=X.size;refine⟨X.alloc _,.inr ⟨hgo,_,B,base,HB,J,rfl,by simp,by omega,by rw[<-HB];exact HK,f,ζF ..,?_,HO.gr ((Gr.refl _).alloc _)⟩⟩
  simp_all
section
variable {w:World} {F p n B base:Nat} {L:List Ob}
theorem RD{f:Nat}(c0:w.cell? ⟨p,0,none⟩=some (pP f)):cQ 156 #[pP p] w (pP f):=by
 go_enter func156,ntmps156;go_wp2;go_ret
 simp_all
theorem WM(hP:Pln w F p n B base L):A4 prog 158 #[pP p] w (iI (nbl (sizes L) B:Nat)):=by
 obtain⟨h1,h2,h3,f,c0,c1,hF⟩:=hP;obtain⟨hg,hn⟩:=hF.good;have hs:=FW hg;have Z:=DE h3;have HB:=h3;obtain⟨s,X⟩:∃s,s=sizes L:=⟨_,rfl⟩;have HS:=X.symm;rw[<-X]at hs⊢;obtain⟨u,hu⟩:∃u,u=(s+B-1)/B*B:=⟨_,rfl⟩;obtain⟨N,hN⟩:∃N,N=nbl s B:=⟨_,rfl⟩
 have hq:(u:Int)/(B:Int)=(N:Int):=by
  rw[hu,hN];unfold nbl
  grind [Int.natCast_mul,Int.mul_ediv_cancel]
 have hul:(u:Int)<=1049600:=by
  have:=ζj (s+B-1) B;omega
 have HU:=hu.symm;have hNl:N<=s:=by grind [LL]
 rw[<-hN];have z0:∀xs m,(grow w xs m).cell? ⟨p,0,none⟩=some (pP f):=λxs m=>((grown w xs m).cell h1 0).trans c0;have z1:∀xs m,(grow w xs m).cell? ⟨p,1,none⟩=some (iI B):=λxs m=>((grown w xs m).cell h1 1).trans c1;have hb1:(1:Int)<=(B:Int):=Z.1;have hB0:((B:Int)==0)=false:=ζo.2 Ω;clear h3 hg X hu hN Z;unfold A4;go_enter func158,ntmps158;go_wp2;refine I1 (by kernel_rfl) (by kernel_rfl) ?_
 repeat(go_big_quiet_step (first
  | (go_at_call 157;have hc:=λxs m=>Y1 (hF.gr (grown w xs m));simp only[HS]at hc;exact A4.grown_same (hc _ _))
  | (go_at_call 196;have hc:=λxs m=>Xnz s B (ζa hs (ζa hn (by decide))) HB (grow w xs m);simp only[HU]at hc;exact A4.grown_same (hc _ _))))
 refine ψ ?_;intro _ J;obtain⟨⟨xs,nq⟩,Y⟩:=J;subst Y;go_wp2;go_ret;exact⟨rfl,grown w _ _⟩
def DO(L:List Ob)(B:Nat)(k:Int):Bool:=decide (0<=k)&&decide (k<(nbl (sizes L) B:Nat))
def ID(L:List Ob)(B:Nat)(base k:Int):Int:=if DO L B k then base+k*B else 0
def I4(L:List Ob)(B:Nat)(base k:Int):Int:=if DO L B k then base+min (k*B+B) (sizes L:Nat)else 0
def LX(L:List Ob)(B:Nat)(k:Int):Int:=if DO L B k then 0 else 11
theorem NJ{L:List Ob}{B:Nat}{base k:Int}(h:DO L B k=false):ID L B base k=0/\I4 L B base k=0/\LX L B k=11:=by unfold ID I4 LX;simp_all
theorem NE{L:List Ob}{B:Nat}{base k:Int}(h:DO L B k=true):ID L B base k=base+k*B/\I4 L B base k=base+min (k*B+B) (sizes L:Nat)/\LX L B k=0:=by unfold ID I4 LX;simp_all
theorem XyY{L:List Ob}{B:Nat}{k:Int}(h:k<0\/((nbl (sizes L) B:Nat):Int)<=k):DO L B k=false:=by
 unfold DO
 grind
theorem ZC{L:List Ob}{B j:Nat}(hB:1<=B)(h:DO L B j=true):j*B<sizes L:=by
 unfold DO at h;simp at h
 grind [I0]
theorem T7(hP:Pln w F p n B base L)(k:Int):A4 prog 180 #[pP p,iI k] w (.tuple #[iI (ID L B base k),iI (I4 L B base k),iI (LX L B k)]):=by
 have HP:=hP;obtain⟨h1,h2,h3,f,c0,c1,hF⟩:=hP;obtain⟨hg,hn⟩:=hF.good;have hs:=FW hg;have G:=DE h3;have hbs:=hF.2.2.1;obtain⟨N,hN⟩:∃N,N=nbl (sizes L) B:=⟨_,rfl⟩;have HN:=hN.symm;unfold A4;by_cases A:k<0
 ·have E:=(NJ (base:=base) (XyY (L:=L) (B:=B) (.inl A)));rw[E.1,E.2.1,E.2.2];go_enter func180,ntmps180;go_wp2
  go_ret3
  exact⟨rfl,Gr.refl _⟩
 ·obtain⟨j,rfl⟩:∃j:Nat,k=j:=⟨k.toNat,by omega⟩;by_cases hk1:N<=j
  ·have E:=(NJ (base:=base) (XyY (L:=L) (B:=B) (k:=j) (.inr Ω)));rw[E.1,E.2.1,E.2.2];clear hN;go_enter func180,ntmps180;go_wp2_with(go_at_call 158;refine(WM HP).mono ?_;rintro e w1 ⟨rfl,X⟩;rw[HN])
   go_ret3
   exact⟨rfl,X⟩
  ·have O:DO L B j=true:=by unfold DO;rw[<-hN];simp;omega
   have I:=ZC Ω O;have E:=(NE (base:=base) O);rw[E.1,E.2.1,E.2.2];obtain⟨t,ht⟩:∃t,t=j*B:=⟨_,rfl⟩;have Z:(j:Int)*(B:Int)=(t:Int):=by rw[ht];push_cast;rfl
   rw[<-ht]at I;rw[Z];obtain⟨s,U⟩:∃s,s=sizes L:=⟨_,rfl⟩;have HS:=U.symm;rw[<-U]at hs I⊢;have w1:IntKind.i64.wrap ((j:Int)*(B:Int))=(t:Int):=by rw[Z];exact ζx _ Ω
   have w2:IntKind.i64.wrap ((base:Int)+(t:Int))=(base:Int)+(t:Int):=ζx _ Ω;have w3:IntKind.i64.wrap ((base:Int)+(t:Int)+(B:Int))=(base:Int)+(t:Int)+(B:Int):=ζx _ Ω
   have hmin:∀w',(Builtin.min_ #[3,3] 3 #[iI ((base:Int)+(t:Int)+(B:Int)),iI ((base:Int)+(s:Int))]).run prog w'=.ok (iI ((base:Int)+min ((t:Int)+(B:Int)) (s:Int))) w':=λw'=>by
    rw[VW];rw[show min ((base:Int)+(t:Int)+(B:Int)) ((base:Int)+(s:Int))=(base:Int)+min ((t:Int)+(B:Int)) (s:Int)by omega]
   clear hN U ht O G Z;go_enter func180,ntmps180;go_wp2_with(go_at_call 158;refine(WM HP).mono ?_;rintro e w1 ⟨rfl,X⟩;rw[HN])
   rename World=>wz
   have z0:∀xs m,(grow wz xs m).cell? ⟨p,0,none⟩=some (pP f):=λxs m=>((X.trans (grown wz xs m)).cell h1 0).trans c0;have z1:∀xs m,(grow wz xs m).cell? ⟨p,1,none⟩=some (iI B):=λxs m=>((X.trans (grown wz xs m)).cell h1 1).trans c1;refine I1 (by kernel_rfl) (by kernel_rfl) ?_
   repeat(go_big_quiet_step ((go_at_call 214;have hc:=λxs m=>YT (hF.gr (X.trans (grown wz xs m)));exact A4.grown_same (hc _ _))))
   refine ψ ?_;intro _ V;obtain⟨⟨xs,nq⟩,Y⟩:=V;subst Y;obtain⟨wy,M⟩:∃wy,wy=grow wz xs nq:=⟨_,rfl⟩;have J:=(show Gr w wy from by rw[M];exact X.trans (grown _ _ _));have y0:∀xs m,(grow wy xs m).cell? ⟨p,0,none⟩=some (pP f):=λxs m=>((J.trans (grown wy xs m)).cell h1 0).trans c0;have y1:∀xs m,(grow wy xs m).cell? ⟨p,1,none⟩=some (iI B):=λxs m=>((J.trans (grown wy xs m)).cell h1 1).trans c1;rw[<-M];clear M z0 z1;go_wp2;refine I1 (by kernel_rfl) (by kernel_rfl) ?_
   repeat(go_big_quiet_step ((go_at_call 131;have hc:=λxs m=>MZ (hF.gr (J.trans (grown wy xs m)));simp only[HS]at hc;exact A4.grown (hc _ _))))
   refine ψ ?_;intro _ V;obtain⟨⟨ys,mq⟩,Y⟩:=V;subst Y;go_wp2
   go_ret3
   exact⟨rfl,J.trans (grown wy _ _)⟩
end
structure Pc where
 f:Int
 t:Int
 s:Nat
 deriving DecidableEq,Inhabited
def DY:List Pc->Int->Int->List Pc
 | [],x,y=>[⟨x,y,1⟩]
 | [p],x,y=>if p.f+p.s=x then [⟨p.f,p.t,p.s+1⟩]else [p,⟨x,y,1⟩]
 | p :: q :: r,x,y=>p :: DY (q :: r) x y
theorem V9{P:List Pc}{x y:Int}(h:∀p,P.getLast?=some p->p.f+p.s≠x):DY P x y=P++[⟨x,y,1⟩]:=by
 induction P with
 | nil=>rfl
 | cons p r ih=>
  cases r with
  | nil=>unfold DY;simp_all
  | cons q r=>unfold DY;simp_all
theorem UA{P:List Pc}{p:Pc}{x y:Int}(h:p.f+p.s=x):DY (P++[p]) x y=P++[⟨p.f,p.t,p.s+1⟩]:=by
 induction P with
 | nil=>simp[DY,h]
 | cons q r ih=>
  cases r with
  | nil=>simp only[ζu,ζN,DY]at ih⊢;rw[μ h]
  | cons s r=>simp only[ζu,DY]at ih⊢;rw[ih]
def pcs(g:Int->Int)(at_:Int):Nat->List Pc
 | 0=>[]
 | k+1=>DY (pcs g at_ k) (g (at_+k)) (at_+k)
structure L8(g:Int->Int)(a:Int)(k:Nat)(P:List Pc):Prop where
 pos:∀p∈P,1<=p.s
 word:∀p∈P,∀i:Nat,i<p.s->g (p.t+i)=p.f+i
 first:∀h:0<P.length,P[0].t=a
 next:∀i (h:i+1<P.length),P[i+1].t=P[i].t+P[i].s/\P[i].f+P[i].s≠P[i+1].f
 last:∀p,P.getLast?=some p->p.t+p.s=a+k
 none:P=[]->k=0
theorem Z8N{α:Type}{P:List α}(h:P≠[]):∃Q p,P=Q++[p]:=⟨P.dropLast,P.getLast h,(ξO h).symm⟩
theorem QBb(g:Int->Int)(a:Int)(k:Nat):L8 g a k (pcs g a k):=by
 induction k with
 | zero=>exact⟨λp h=>(by cases h),λp h=>(by cases h),λh=>absurd h (by simp[pcs]),λi h=>absurd h (by simp[pcs]),λp h=>(by simp[pcs]at h),λ_=>rfl⟩
 | succ k ih=>
  unfold pcs;generalize pcs g a k=P at ih;by_cases hP:P=[]
  ·subst hP;obtain rfl:=ih.none rfl;refine⟨λp h=>?_,λp h i hi=>?_,λh=>by simp[DY],λi h=>absurd h (by simp[DY]),λp h=>?_,λh=>by simp[DY]at h⟩
   ·simp[DY]at h;subst h;exact π 1
   ·simp[DY]at h;subst h;have hi:i<1:=hi;obtain rfl:i=0:=Ω
    simp
   ·simp[DY]at h;subst h;simp
  ·obtain⟨Q,p,rfl⟩:=Z8N hP;have hl:=ih.last p (by simp);have hps:=ih.pos p (by simp);by_cases hx:p.f+p.s=g (a+k)
   ·rw[UA hx];refine⟨λq h=>?_,λq h i hi=>?_,λh=>?_,λi h=>?_,λq h=>?_,λh=>by simp at h⟩
    ·rcases ζt.1 h with h|h
     ·exact ih.pos q (ξw _ h)
     ·rw[ζO.1 h];exact Nat.le_add_left ..
    ·rcases ζt.1 h with h|h
     ·exact ih.word q (ξw _ h) i hi
     ·rw[ζO.1 h]at hi⊢;have hi:i<p.s+1:=hi
      show g (p.t+i)=p.f+i
      rcases ω i p.s with h1|h1
      ·exact ih.word p (by simp) i h1
      ·obtain rfl:i=p.s:=Ω
       rw[hl,hx]
    ·have:=ih.first (by simp)
     cases Q with
     | nil=>simpa using this
     | cons q r=>simpa using this
    ·have X:i+1<(Q++[p]).length:=by simpa using h
     have:=ih.next i X
     have h':i+1<Q.length+1:=by simpa using h
     rcases ω (i+1) Q.length with h1|h1
     ·rw[ζE h1,ζE Ω]at this⊢;exact this
     ·obtain h2:i+1=Q.length:=Ω
      rw[ξW Ω,ζE Ω]at this⊢;simpa[h2]using this
    ·simp at h;subst h;show p.t+((p.s+1:Nat):Int)=_;omega
   ·rw[V9 (λq h=>by simp at h;subst h;exact hx)];refine⟨λq h=>?_,λq h i hi=>?_,λh=>?_,λi h=>?_,λq h=>?_,λh=>by simp at h⟩
    ·rcases ζt.1 h with h|h
     ·exact ih.pos q h
     ·rw[ζO.1 h];exact π 1
    ·rcases ζt.1 h with h|h
     ·exact ih.word q h i hi
     ·rw[ζO.1 h]at hi⊢;have hi:i<1:=hi;obtain rfl:i=0:=Ω
      simp
    ·have:=ih.first (by simp)
     rw[ζE (by simp)];exact this
    ·have h':i+1<(Q++[p]).length+1:=by simpa using h
     rcases ω (i+1) (Q++[p]).length with h1|h1
     ·have:=ih.next i h1
      have h4:i<(Q++[p]).length:=Nat.lt_of_succ_lt h1;rw[ζE h1,ζE h4];exact this
     ·have h2:i+1=(Q++[p]).length:=Ω
      have h3:i=Q.length:=by simp at h2;omega
      rw[ξW Ω,ζE Ω];subst h3;simp only[h2,Nat.sub_self,List.getElem_singleton,ξW (π _)];exact⟨hl.symm,hx⟩
    ·simp at h;subst h;push_cast;omega
theorem QTh(g:Int->Int)(a:Int)(k:Nat):(pcs g a k).length<=k:=by
 induction k with
 | zero=>exact π _
 | succ k ih=>
  unfold pcs;generalize pcs g a k=P at ih;by_cases hP:P=[]
  ·subst hP;simp[DY]
  ·obtain⟨Q,p,rfl⟩:=Z8N hP
   grind [UA,V9]
theorem Qox{g:Int->Int}{a:Int}{k:Nat}{P:List Pc}(hP:pcs g a k=P)(hn:∀p,P.getLast?=some p->p.f+p.s≠g (a+k)){n:Nat}(h1:1<=n)(hw:∀i,i<n->g (a+k+i)=g (a+k)+i):
  pcs g a (k+n)=P++[⟨g (a+k),a+k,n⟩]:=by
 induction n with
 | zero=>omega
 | succ n ih=>
  by_cases h0:n=0
  ·subst h0
   show DY (pcs g a k) (g (a+k)) (a+k)=_
   rw[hP,V9 hn]
  ·have:=ih Ω (λi hi=>hw i Ω)
   show DY (pcs g a (k+n)) (g (a+(k+n:Nat))) (a+(k+n:Nat))=_
   grind [UA]
theorem L8.ends{g:Int->Int}{a:Int}{k:Nat}{P:List Pc}(h:L8 g a k P):∀(d i:Nat) (hi:i<P.length),P.length-i=d->P[i].t+P[i].s<=a+k/\a<=P[i].t:=by
 have lo:∀i (hi:i<P.length),a<=P[i].t:=by
  intro i
  induction i with
  | zero=>intro hi;rw[h.first hi];omega
  | succ i ih=>
   intro hi;have:=(h.next i hi).1
   grind
 intro d
 induction d with
 | zero=>omega
 | succ d ih=>
  intro i hi hd;refine⟨?_,lo i hi⟩;by_cases hl:i+1<P.length
  ·have h1:=(h.next i hl).1
   grind
  ·have:=h.last (P[i]) (by grind);omega
def JU(P:List Pc)(z:Int)(i:Nat):Int:=if h:i<P.length then P[i].t else z
theorem XC{P:List Pc}{z:Int}{i:Nat}(h:i<P.length):JU P z i=P[i].t:=by unfold JU;simp_all
theorem VID(P:List Pc)(z:Int):JU P z P.length=z:=by unfold JU;simp_all
theorem XLy{g:Int->Int}{a:Int}{k:Nat}{P:List Pc}(h:L8 g a k P)(hk:1<=k):JU P (a+k) 0=a:=by
 by_cases hP:P=[]
 ·have:=h.none hP;omega
 ·have hl:0<P.length:=List.length_pos_iff.2 hP;rw[XC hl,h.first hl]
theorem Xv7{g:Int->Int}{a:Int}{k:Nat}{P:List Pc}(h:L8 g a k P){i:Nat}(hi:i<P.length):JU P (a+k) (i+1)=P[i].t+P[i].s:=by
 by_cases hl:i+1<P.length
 ·rw[XC hl,(h.next i hl).1]
 ·have hx:=h.last (P[i]) (by grind);unfold JU
  grind
theorem ZSj{n:Nat}{L:List Ob}(h:AO n L)(hn:n<=1048576)(base:Nat)(b:Int):0<=CP L base b/\CP L base b<=1048576:=by
 cases hin:inF L base b with
 | false=>grind [L9]
 | true=>
  obtain⟨j,hj,_,e2,e3,_,_⟩:=Zeb h hin;have:=h.sz _ (χ hj);omega
section
variable {w:World} {F p n B base:Nat} {L:List Ob}
def G0(L:List Ob)(base B:Nat)(b:Int):Int:=if inF L base b then (b-base)/B else 0
theorem ZAe(hP:Pln w F p n B base L)(hT:AP w)(b:Int)(hb:b<=9223372036854775807):A4 prog 264 #[pP p,iI b] w (.tuple #[iI (G0 L base B b),iI (F3 L base b)]):=by
 obtain⟨h1,h2,h3,f,c0,c1,hF⟩:=hP;have J:=DE h3;have hbs:=hF.2.2.1;have HT:=hT;obtain⟨hg,hn⟩:=hF.good;have hs:=FW hg;unfold A4;cases hin:inF L base b with
 | false=>
  have E:=ι (L9 hin);have E2:Hid (G0 L base B b=0):=⟨by unfold G0;rw[hin];rfl⟩;rw[E.o.2.2,E2.o];go_enter func264,ntmps264;go_wp2_with(go_at_call 232;refine(M3 hF HT b hb).mono ?_;rintro e w1 ⟨rfl,X⟩;rw[E.o.1,E.o.2.2]);go_ret2
  simp_all
 | true=>
  obtain⟨i1,i2⟩:=FH.1 hin;have E2:Hid (G0 L base B b=(b-base)/B):=⟨by unfold G0;rw[hin];rfl⟩;have E:Hid (F3 L base b=0):=⟨by unfold F3;rw[hin];rfl⟩;rw[E.o,E2.o];have w1:IntKind.i64.wrap (b-(base:Int))=b-(base:Int):=ζx _ Ω;have hb1:(1:Int)<=(B:Int):=J.1;have Y:(0:Int)<=b-(base:Int):=Ω
  have hB0:((B:Int)==0)=false:=ζo.2 Ω;have hdiv:(b-(base:Int)).tdiv (B:Int)=(b-(base:Int))/(B:Int):=Int.tdiv_eq_ediv_of_nonneg Y;have hdl:(b-(base:Int))/(B:Int)<=b-(base:Int):=Int.ediv_le_self _ Y;have hd0:0<=(b-(base:Int))/(B:Int):=Int.ediv_nonneg Y Ω;have w2:IntKind.i64.wrap ((b-(base:Int))/(B:Int))=(b-(base:Int))/(B:Int):=ζx _ Ω;go_enter func264,ntmps264;go_wp2_with(go_at_call 232;refine(M3 hF HT b hb).mono ?_;rintro e w1 ⟨rfl,X⟩;rw[E.o])
  rename World=>wz
  have z0:∀xs m,(grow wz xs m).cell? ⟨p,0,none⟩=some (pP f):=λxs m=>((X.trans (grown wz xs m)).cell h1 0).trans c0;have z1:∀xs m,(grow wz xs m).cell? ⟨p,1,none⟩=some (iI B):=λxs m=>((X.trans (grown wz xs m)).cell h1 1).trans c1;refine I1 (by kernel_rfl) (by kernel_rfl) ?_
  repeat(go_big_quiet_step ((go_at_call 214;have hc:=λxs m=>YT (hF.gr (X.trans (grown wz xs m)));exact A4.grown_same (hc _ _))))
  refine ψ ?_;intro _ U;obtain⟨⟨xs,nq⟩,Z⟩:=U;subst Z;go_wp2;go_ret2;exact⟨rfl,X.trans (grown wz _ _)⟩
def VWm(w:World)(L:List Ob)(base at_ to:Nat)(e:Ending)(w':World):Prop:=
 ∃r:Nat,e=.returned (.tuple #[iI (CP L base at_),iI r])/\Gr w w'/\1<=r/\at_+r<=to/\(∀i,i<r->CP L base ((at_:Int)+i)=CP L base at_+i)/\(at_+r<to->CP L base at_+r≠CP L base ((at_:Int)+r))
theorem Zkm(hP:Pln w F p n B base L)(hT:AP w)(at_ to:Nat)(ha:at_<to)(hto:(to:Int)<=4294967296):
  Calls prog 215 #[pP p,iI at_,iI to] w (VWm w L base at_ to):=by
 obtain⟨h1,h2,h3,f,c0,c1,hF⟩:=hP;have HT:=hT;obtain⟨hg,hn⟩:=hF.good;have A:=(λb=>ZSj hg hn base b);obtain⟨v,hv⟩:∃v,v=CP L base at_:=⟨_,rfl⟩;have HV:=hv.symm;have M:=A at_;rw[<-hv]at M;clear h3 hT hg hv;go_enter func215,ntmps215;go_wp2_with(go_at_call 232;refine(M3 hF HT at_ Ω).mono ?_;rintro e w1 ⟨rfl,O⟩;rw[HV];have I:=ι O)
 go_loopw [10] (λs wr=>∃r:Nat,Hid (1<=r/\at_+r<=to/\∀i,i<r->CP L base ((at_:Int)+i)=v+i)/\Hid (Gr w wr)/\s=iI r) (λs _=>to-(intOf s).toNat)
 case atStart=>exact⟨1,⟨π _,by omega,λi hi=>by obtain rfl:i=0:=Ω;simpa using HV⟩,I,rfl⟩
 case round=>
  rename World=>wr
  obtain⟨r,hr,X,rfl⟩:=hrel;obtain⟨V,U,-⟩:=hr.o;have k0:=(X.o.cell h1 0).trans c0;by_cases hlt:at_+r<to
  ·obtain⟨x,hx⟩:∃x,x=CP L base ((at_:Int)+(r:Int)):=⟨_,rfl⟩;have HX:=hx.symm;clear hx;by_cases Z:x=v+r
   ·have G:(x !=v+(r:Int))=false:=by simp[Z]
    go_wp2_with(go_at_call 232;refine(M3 (hF.gr X.o) (X.o.tab HT.lt HT) _ Ω).mono ?_;rintro e w1 ⟨rfl,Y⟩;rw[HX];have J:=ι (X.o.trans Y);clear Y);go_roundw
    case rel=>exact⟨r+1,⟨by omega,by omega,λi hi=>by rcases ω i r with h|h;exact hr.o.2.2 i h;(obtain rfl:i=r:=Ω);rw[HX,Z]⟩,J,by go_num⟩
    case measure=>simp[intOf];omega
   ·have G:(x !=v+(r:Int))=true:=by simp[Z]
    go_wp2_with(go_at_call 232;refine(M3 (hF.gr X.o) (X.o.tab HT.lt HT) _ Ω).mono ?_;rintro e w1 ⟨rfl,Y⟩;rw[HX];have J:=ι (X.o.trans Y);clear Y);go_ret2;exact⟨r,by rw[HV];rfl,J.o,V,U,λi hi=>by rw[HV];exact hr.o.2.2 i hi,λ_ h=>Z (by rw[<-HX,<-h,HV])⟩
  ·go_wp2;go_ret2;exact⟨r,by rw[HV];rfl,X.o,V,U,λi hi=>by rw[HV];exact hr.o.2.2 i hi,λh=>by omega⟩
end
def FJ(P:List Pc):List Value:=P.flatMap λq=>[iI q.f,iI q.t,iI (q.s:Nat)]
theorem YGE(P Q:List Pc):FJ (P++Q)=FJ P++FJ Q:=by simp[FJ]
theorem Zcu{P:List Pc}{i:Nat}(h:i<P.length):(FJ P)[i*3]?=some (iI P[i].f)/\(FJ P)[i*3+1]?=some (iI P[i].t)/\(FJ P)[i*3+2]?=some (iI (P[i].s:Nat)):=by
 induction P generalizing i with
 | nil=>grind
 | cons o r ih=>
  have e:FJ (o :: r)=iI o.f :: iI o.t :: iI (o.s:Nat) :: FJ r:=rfl;rw[e];cases i with
  | zero=>simp_all
  | succ i=>
   grind
def H4(w:World)(A:Option Addr)(P:List Pc):Prop:=∀i (h:i<P.length),∃g,A=some ⟨g,0,none⟩/\g<w.heap.size ∧
 w.cell? ⟨g,i*3,none⟩=some (iI P[i].f)/\w.cell? ⟨g,i*3+1,none⟩=some (iI P[i].t)/\w.cell? ⟨g,i*3+2,none⟩=some (iI (P[i].s:Nat))
theorem H4.gr{w w':World}{A:Option Addr}{P:List Pc}(h:H4 w A P)(t:Gr w w'):H4 w' A P:=λi hi=>by
 obtain⟨g,rfl,h1,h2,h3,h4⟩:=h i hi;exact⟨g,rfl,υ h1 t.size,(t.cell h1 _).trans h2,(t.cell h1 _).trans h3,(t.cell h1 _).trans h4⟩
theorem XfI{w:World}{base T:Nat}{v:Value}{P:List Pc}(h:w.ownsRow base T 3 v P.length (FJ P)):∃A c,v=.slice A P.length c/\H4 w A P/\∀a,A=some a->base<=a.block:=by
 by_cases hn:P.length=0
 ·obtain⟨_,⟨rfl,_⟩|⟨g,c,cur,rfl,e2,_⟩⟩:=h
  ·exact⟨none,0,by rw[hn],λi hi=>by omega,λa e=>by cases e⟩
  ·exact⟨some ⟨g,0,none⟩,c,rfl,λi hi=>by omega,λa e=>by grind⟩
 ·obtain⟨g,c,rfl,hb,_,_,hg⟩:=E7 h hn;refine⟨some ⟨g,0,none⟩,c,rfl,λi hi=>?_,λa e=>by grind⟩
  grind [Zcu,BM]
theorem ZkK{w:World}{base T:Nat}{v:Value}{P:List Pc}{q:Pc}(h:w.ownsRow base T 3 v (P.length+1) (FJ P++[iI q.f,iI q.t,iI (q.s:Nat)])):w.ownsRow base T 3 v (P++[q]).length (FJ (P++[q])):=by
 rw[YGE,ζh];exact h
theorem Vdu:(prog.info? 260).map (λi=>(i.zero,i.size,i.bytes))=some (some (.agg #[iI 0,iI 0,iI 0]),3,24):=by kernel_rfl
def IG(L:List Ob)(B base:Nat)(k:Int):List Pc:=pcs (CP L base) (ID L B base k) (I4 L B base k-ID L B base k).toNat
theorem YG{L:List Ob}{B base:Nat}{k:Int}(h:DO L B k=false):IG L B base k=[]:=by
 unfold IG;rw[(NJ h).1,(NJ h).2.1];rfl
theorem VYq{n:Nat}{L:List Ob}(hg:AO n L)(hn:n<=1048576){B base:Nat}(hB:1<=B)(hb:base<2147483648){k:Int}(h:DO L B k=true):
  ∃a z:Nat,ID L B base k=a/\I4 L B base k=z/\a<z/\z<=2148532224/\z<=a+B/\base<=a/\z<=base+sizes L:=by
 have hk0:0<=k:=by unfold DO at h;simp_all
 obtain⟨j,rfl⟩:∃j:Nat,k=j:=⟨k.toNat,by omega⟩;have hlt:=ZC hB h;have hs:=FW hg;obtain⟨e1,e2,-⟩:=NE (base:=base) h;refine⟨base+j*B,base+min (j*B+B) (sizes L),by rw[e1];rfl,by omega,by omega,by omega,by omega,by omega,by omega⟩
theorem ZbI{n:Nat}{L:List Ob}(hg:AO n L)(hn:n<=1048576){B base:Nat}(hB:1<=B)(hb:base<2147483648)(k:Int):(IG L B base k).length<=B:=by
 cases hin:DO L B k with
 | false=>grind [YG]
 | true=>
  obtain⟨a,z,ea,ez,_,_,hz,_,_⟩:=VYq hg hn hB hb hin;unfold IG
  grind [QTh]
section
variable {w:World} {F p n B base:Nat} {L:List Ob}
def Jzj(w:World)(P:List Pc)(c:Int)(e:Ending)(w':World):Prop:=
 ∃A cap,e=.returned (.tuple #[.slice A P.length cap,iI c])/\Gr w w'/\H4 w' A P/\∀a,A=some a->w.heap.size<=a.block
theorem Y4j(hP:Pln w F p n B base L)(hT:AP w)(k:Int):
  Calls prog 181 #[pP p,iI k] w (Jzj w (IG L B base k) (LX L B k)):=by
 have HP:=hP;obtain⟨h1,h2,h3,f,c0,c1,hF⟩:=hP;obtain⟨hg,hn⟩:=hF.good;have hbp:=DE h3;have Xh:=hF.2.2.1;cases hin:DO L B k with
 | false=>
  have E:=(NJ (base:=base) hin);have E2:=ι (YG (base:=base) hin);rw[E2.o,E.2.2];clear hF h3 hg hin;go_enter func181,ntmps181;go_wp2_with(go_at_call 180;refine(T7 HP k).mono ?_;rintro e w1 ⟨rfl,J⟩;rw[E.1,E.2.1,E.2.2]);go_ret2;exact⟨none,0,rfl,J,λi hi=>absurd hi (by simp),λa e=>by cases e⟩
 | true=>
  obtain⟨a0,z,ea,ez,hlt,hz,hzB,-,-⟩:=VYq hg hn Ω Xh hin;have E:=(ϑ ea (ϑ ez (NE (base:=base) hin).2.2));have E2:Hid (IG L B base k=pcs (CP L base) a0 (z-a0)):=⟨by unfold IG;rw[ea,ez];congr 1;omega⟩;rw[E2.o,E.2.2];obtain⟨i0,hi,Xn,Xk,Xo⟩:=info_parts Vdu;obtain⟨g,Xa⟩:∃g,g=CP L base:=⟨_,rfl⟩;rw[<-Xa];have Xp:=Xa;clear hF h3 hg hin ea ez Xa;go_enter func181,ntmps181;go_wp2_with(go_at_call 180;refine(T7 HP k).mono ?_;rintro e w1 ⟨rfl,J⟩;rw[E.1,E.2.1,E.2.2];have I:=J;clear J)
  go_loopw [6,9] (λs6 s9 wr=>∃(X m:Nat) (P:List Pc),Hid (X=a0+m)/\X<=z/\a0<=X/\Hid (pcs g a0 m=P)/\P.length<=X/\Hid (X < z->∀q,P.getLast?=some q->q.f+q.s≠g X)/\Hid (wr.ownsRow w1.heap.size 260 3 s9 P.length (FJ P))/\Hid (AB (λi=>w1.heap.size<=i) w1 wr)/\s6=iI X) (λs6 _ _=>z-(intOf s6).toNat)
  case atStart=>exact⟨a0,0,[],⟨rfl⟩,by omega,π _,⟨rfl⟩,by simp,⟨λ_ q h=>by simp at h⟩,⟨GD _ _ _ _⟩,⟨AB.refl _ _⟩,rfl⟩
  case round=>
   obtain⟨X,m,P,O,hle,hge,hp,hpl,Xb,U,ht,rfl⟩:=hrel;have HG:=((I.touch (λ_=>False)).trans' ht.o (λi hi h=>by have:=I.size;omega)).gr;have hwl:=ht.o.size;by_cases Xf:X < z
   ·go_wp2_with(first
     | (go_at_call 215;refine(Zkm (HP.gr HG) (HG.tab hT.lt hT) X z Xf Ω).mono ?_;rintro e w3 ⟨r,rfl,G,Xl,hr2,Xc,M⟩;rw[<-Xp]at Xc M⊢;have HR:=(ϑ Xc M);have Xd:=(CK U.o G);have hz3:=G.size;(obtain⟨fv,V⟩:∃fv,fv=g X:=⟨_,rfl⟩);have Xe:=V.symm;rw[<-V];clear Xc M V)
     | (at_builtin;refine wpList_append_own _ rfl _ _ 256 rfl w1.heap.size 260 i0 _ 3 24 underlying256 hi Xn Xk Xo rfl (by decide) u9 P.length (FJ P) rfl (CK Xd ((Gr.refl _).alloc _)) ⟨w3.heap.size,0,none⟩ 1 1 [iI fv,iI X,iI r] rfl rfl (ξi (cs:=#[iI fv,iI X,iI r]) (t:=260) (fr:=(0,0)) (heap_alloc_new w3 _)) (by simp[Value.oneCell']) (by unfold maxLen;omega) Ω (by simp only[γ];omega) ?_;intro v4 w4 Z Y _;have Xg:=ι (ZkK (q:=⟨fv,X,r⟩) Z);have Xi:=((((Gr.refl w3).alloc (.cells #[.int .i64 fv,.int .i64 X,.int .i64 r] 260)).touch (λk=>w1.heap.size<=k)).trans (EB Y _ (λ_ e _=>(A9 Xd e).1)));clear Z Y))
    go_roundw
    case rel=>
     refine⟨X + r,m+r,P++[⟨fv,X,r⟩],⟨by rw[O.o];omega⟩,by omega,by omega,⟨?_⟩,by simp;omega,⟨λhzz q hq=>?_⟩,Xg,⟨(ht.o.trans (G.touch _)).trans Xi⟩,by go_num⟩
     ·have e1:=O.o;have ee:(a0:Int)+(m:Int)=(X:Int):=Ω
      have hh:=Qox (g:=g) (a:=a0) (k:=m) hp.o (by rw[ee];exact Xb.o Xf) Xl (by rw[ee];exact HR.1);rw[hh,ee,Xe]
     ·simp at hq;subst hq;have:=HR.2 hzz;rw[Xe]at this;push_cast;exact this
    case measure=>simp[intOf];omega
   ·obtain rfl:X=z:=Ω
    go_wp2;go_ret2;obtain⟨A,c,hA,Xm,Xj⟩:=XfI U.o;have e1:=hp.o;have e2:m=X - a0:=by have:=O.o;omega
    subst e2;rw[e1];exact⟨A,c,by rw[<-hA];rfl,HG,Xm,λa h=>ζa I.size (Xj a h)⟩
end
structure ZxU where
 pg:Nat
 H:List Hdr
 P:List Nat
 R:List Nat
 bk:Nat
 st:Nat
 ah:Nat
section
variable (x:ZxU)
end
structure DW(v v':Vm):Prop where
 ok:AF v'
 sm:BQ v v'
theorem DW.refl{v:Vm}(h:AF v):DW v v:=⟨h,BQ.refl v⟩
theorem DW.st{v v':Vm}(h:DW v v')(a:Int){x:Nat}(hx:x<18446744073709551616):DW v (v'.st a x):=⟨h.ok.st a hx,h.sm.trans (BQ.st _ _ _)⟩
theorem DW.mkV{v v':Vm}(h:DW v v')(a:Int){x:Nat}(hx:x<18446744073709551616)(m:Nat):DW v (mkV v' a x m):=by
 induction m with
 | zero=>exact h.st a hx
 | succ m ih=>exact ih.st _ (by decide)
theorem DW.mkVm{v v':Vm}(h:DW v v')(a:Int)(hd:Hdr):DW v (mkVm v' a hd):=by
 unfold Go.Proofs.YteihjlcmjecmfaaGreatDoor.mkVm
 split
 ·rename_i h0;unfold E5 at h0
  split at h0
  ·cases h0
  ·split at h0
   ·cases h0
   ·rename_i h1;obtain⟨p,f,c,rfl,hs⟩:=OA (ξR.1 h1);exact h.mkV a (XD (by simp_all)) _
 ·exact h
theorem XS7{p f c:Nat}(hs:p+f+c<=255):tkE (C8 p f c)=0/\tkH (C8 p f c)=⟨p,f,c⟩:=by
 have e:C8 p f c=(4294967295-(p+256*f+65536*c+2768240640))*4294967296+(p+256*f+65536*c+2768240640):=rfl;have a1:C8 p f c%4294967296=p+256*f+65536*c+2768240640:=Ω
 have a2:C8 p f c/4294967296=4294967295-(p+256*f+65536*c+2768240640):=Ω
 have a3:C8 p f c%256=p:=Ω
 have a4:C8 p f c/256%256=f:=Ω
 have a5:C8 p f c/65536%256=c:=Ω
 have hok:F9 (C8 p f c)=true:=by
  unfold F9;rw[a1,a2,a3,a4,a5];simp only[ζd,ζf]
  grind
 unfold tkE tkH
 simp_all
theorem XUd{v:Vm}(h:AF v)(a:Int){x:Nat}(hx:x<18446744073709551616)(m:Nat)(hm:∀j:Nat,j<=m->v.ldE (a+j)=0)(b:Int):(mkV v a x m).ldV b=if b=a then x else if a<b/\b<=a+m then 0 else v.ldV b:=by
 induction m with
 | zero=>
  have h0:=hm 0 (π _);rw[show a+((0:Nat):Int)=a by omega]at h0
  show (v.st a x).ldV b=_
  rw[h.st_ldV x h0]
  grind
 | succ m ih=>
  have ih:=ih (λj hj=>hm j Ω);have X:=((DW.refl h).mkV a hx m).ok
  have hl:(mkV v a x m).ldE (a+1+m)=0:=by
   rw[ZB,show a+1+(m:Int)=a+((m+1:Nat):Int)by omega];exact hm (m+1) (π _)
  show ((mkV v a x m).st (a+1+m) 0).ldV b=_
  rw[X.st_ldV 0 hl,ih]
  grind
theorem VzI{v:Vm}{a:Int}{n:Nat}(h:∀j:Nat,j<=n->v.ldE (a+j)=0):mkE v a n=0:=by
 induction n with
 | zero=>
  have:=h 0 (π _)
  rwa [show a+((0:Nat):Int)=a by omega]at this
 | succ n ih=>
  show (if mkE v a n≠0 then mkE v a n else v.ldE (a+1+n))=0
  rw[κ (λhn=>hn (ih (λj hj=>h j Ω))),show a+1+(n:Int)=a+((n+1:Nat):Int)by omega];exact h (n+1) (π _)
theorem XU{v:Vm}(h:AF v){t p f c:Nat}(ht:0<t)(hs:p+f+c<=255)(hl:∀j:Nat,j<=p+f+c->v.ldE ((t:Int)+j)=0):
  E5 v t ⟨p,f,c⟩=0/\∀b:Int,(mkVm v t ⟨p,f,c⟩).ldV b=if b=t then C8 p f c else if (t:Int)<b/\b<=t+((p+f+c:Nat):Int)then 0 else v.ldV b:=by
 have h0:E5 v t ⟨p,f,c⟩=0:=by
  unfold E5;rw[κ Ω,κ (by grind [ES])];exact VzI hl
 refine⟨h0,λb=>?_⟩;unfold mkVm;rw[μ h0];exact XUd h t (XD hs) _ hl b
section
variable {x:ZxU} {v0:Vm}
end
theorem JW8{v v1 v2:Vm}{rs:List Int}{c:Cf}{L:List Ob}{n k kq:Nat}(hv:AF v)(hM:BH v rs n L)(hf:FV v L)(hD:TO v rs c L v1 v2 k kq)
  (hu:∀a:Nat,c.to<=a->a<c.to+sizes L->¬(c.fr/v.pl.pg<=a/v.pl.pg/\a/v.pl.pg<c.fr/v.pl.pg+kq)):
  ML v (umN v2 (c.fr/v.pl.pg) kq) (Rch v rs) (BU v1 (AQ v1 rs k) c.to) c.to (c.to+sizes L):=by
 have hw:=hD.gr.wider hv;have hS:=hM.sound;have X:=hD.st;obtain⟨J,Xc⟩:=hD.cx.done hD.ke;have Xh:=hD.ke;have M:=hD.cx.map;have htop:=hD.cx.top;obtain⟨O,hO⟩:∃O,O=AQ v1 rs k:=⟨_,rfl⟩;rw[<-hO]at X J Xc Xh⊢;have Z:∀a,Rch v rs a->∃(j:Nat) (hj:j<O.length),O[j]=a:=λa ha=>ζr (J a ((hw.rch hS a).2 ha));have U:∀a,Rch v rs a->v1.rdH a=v.rdH a:=λa ha=>(hw.rd (hS.rd a ha)).2;have Y:∀a,Rch v rs a->v1.osz a=v.osz a:=λa ha=>by unfold Vm.osz;rw[U a ha]
 have h0:(0:Int)∉O:=λh=>by
  have:=(DD (hD.cx.mks.sound.rd _ (X.rch 0 h))).1;omega
 have Xe:v2.pl.pg=v.pl.pg:=X.cp.sm.pg.trans hD.gr.pg;have Xd:v2.n=v1.n:=X.cp.sm.n;refine⟨OK v1 _ h0,λa ha m hm=>?_,λa ha=>?_,λa b ha hb=>?_⟩
 ·obtain⟨j,hj,rfl⟩:=Z a ha;have V:(m:Int)<v1.osz O[j]:=by rw[Y _ ha];exact hm
  have hpl:=place_lt v1 hj V;have hs0:=GI v1 (O.take j);obtain⟨i,hi⟩:∃i:Nat,(i:Int)=AI v1 (O.take j)+m:=⟨(AI v1 (O.take j)+m).toNat,by omega⟩;have hil:i<sizes L:=Ω
  rw[VV v1 X.nd _ hj];have e:(c.to:Int)+AI v1 (O.take j)+m=((c.to+i:Nat):Int):=Ω
  have A:¬(c.fr/v.pl.pg<=(c.to+i)/v2.pl.pg/\(c.to+i)/v2.pl.pg<c.fr/v.pl.pg+kq):=by
   rw[Xe];exact hu (c.to+i) Ω Ω
  have Xb:c.to+i<v2.n:=by rw[Xd];omega
  rw[e,VH X.cp.ok _ _ Xb,VIn X.cp.ok _ _ Xb A,κ A,X.cp.sm.ldE];refine⟨M _ Ω Ω,?_⟩;obtain⟨o,ho,I⟩:=hM.all _ ha;have Xf:=(hM.mkd.ats o ho).2.2
  have Xg:v.ldE (O[j]+m)=0:=by
   rw[<-I];refine hf o ho m ?_;rw[I]at Xf;omega
  have Xa:=(hw.le _ Xg).2;have G:O.getD j 0=O[j]:=by rw[δ,ζb hj];rfl
  rw[<-e];by_cases hT:1<=m/\(m:Int)<=(v.rdH O[j]).p
  ·rw[μ hT];have:=X.cp.trn j hj m V ⟨hT.1,.inl ⟨by omega,by rw[G,U _ ha];exact hT.2⟩⟩;rw[this,Xa]
  ·rw[κ hT,X.cp.raw j hj m V (λht=>hT (by
    obtain⟨t1,t2|t2⟩:=ht
    ·refine⟨t1,?_⟩;have:=t2.2;rw[G,U _ ha]at this;exact this
    ·omega)),Xa]
 ·obtain⟨j,hj,rfl⟩:=Z a ha;have:=UH v1 (c.to:Int) (χ hj);rw[Y _ ha]at this;omega
 ·obtain⟨j,hj,rfl⟩:=Z a ha;obtain⟨i,hi,rfl⟩:=Z b hb;rw[VV v1 X.nd _ hj,VV v1 X.nd _ hi];have s1:=KY v1 hj;have s2:=KY v1 hi;rw[Y _ ha]at s1;rw[Y _ hb]at s2;rcases ζU j i with h|h|h
  ·have:=QS v1 O (show j+1<=i from h);exact .inr (.inl Ω)
  ·subst h;exact .inl rfl
  ·have:=QS v1 O (show i+1<=j from h);exact .inr (.inr Ω)
theorem BF.put{P:Program}{k e t:TypeId}{w:World}{b n:Nat}{f:Int->Option Value}(h:BF P k w b n f)(K:Maps.Keyed P k)(ht:P.underlying t=some (.map k e))(hk:P.underlying k=some (.int .i64))(hn:n<maxLen)(key:Int)(val:Value)(hw:(Lit.int .i64 key).wf=true):
  ∃w',(Instr.mapUpdate t (.map (some b)) (.int .i64 key) val).run P w=.ok () w'/\BF P k w' b (n+1) (λy=>if y=key then some val else f y)/\AB (λi=>i=b) w w':=by
 obtain⟨D,hD,hf⟩:=h;have X:=Maps.keyOf_int_mk (P:=P) hk hw;obtain⟨w',Y,h1,h2⟩:=hD.update K ht hn X (val:=val) (d:=.held val) (ps:=[]) rfl;refine⟨w',Y,⟨_,h1,λy hy=>?_⟩,EB h2 _ (λi hi _=>by cases hi;rfl)⟩;by_cases e:y=key
 ·subst e;dsimp only;rw[μ rfl];refine⟨Maps.has_put_same hD.isMap (K.key X) _,λv hv z=>?_⟩;cases hv;exact Maps.atKey_put_same hD.isMap (K.key X) _ _
 ·dsimp only;rw[κ e];have Z:(Lit.int .i64 y)≠.int .i64 key:=λh=>e (by injection h);exact⟨(Maps.has_put_other Z _).trans (hf y hy).1,λv hv z=>(Maps.atKey_put_other Z _ _).trans ((hf y hy).2 v hv z)⟩
section
variable {w:World} {r g:Nat} {rs:List Int}
theorem VMw(h:AU w r g rs){i:Int}(hi:slE rs i≠0):Calls prog 55 #[pP r,iI i] w λe w'=>e=.returned (.tuple #[iI 0,iI 17])/\Gr w w':=by
 have HC:=(QN (h.gr ((Gr.refl w).alloc (.cells #[.int .i64 i] 3))) (b:=w.heap.size) (i:=i) ((Rec.new w 3 [iI i]).cell (j:=0) rfl));rw[show slE rs i=17 by unfold slE at hi⊢;omega]at HC;go_enter func55,ntmps55;go_wp2_with(go_at_call 101;refine HC.mono ?_;rintro e w1 ⟨rfl,rfl⟩);go_ret2;exact⟨rfl,(Gr.refl w).alloc _⟩
theorem QST(h:AU w r g rs){i:Int}(hi:slE rs i≠0)(a:Int):Calls prog 60 #[pP r,iI i,iI a] w λe w'=>e=.returned (iI 17)/\Gr w w':=by
 have HC:=(QN (h.gr ((Gr.refl w).alloc (.cells #[.int .i64 i] 3))) (b:=w.heap.size) (i:=i) ((Rec.new w 3 [iI i]).cell (j:=0) rfl));rw[show slE rs i=17 by unfold slE at hi⊢;omega]at HC;go_enter func60,ntmps60;go_wp2_with(go_at_call 101;refine HC.mono ?_;rintro e w1 ⟨rfl,rfl⟩);go_ret;exact⟨rfl,(Gr.refl w).alloc _⟩
theorem ZP2(h:AU w r g rs){b:Nat}{i k:Int}(c0:w.cell? ⟨b,0,none⟩=some (iI i))(c1:w.cell? ⟨b,1,none⟩=some (iI k)):cQ 101 #[pP r,.slice (some ⟨b,0,none⟩) 2 2] w (iI (if slE rs i=0 then slE rs k else 17)):=by
 have cr:=h.rcd.cc 0;have Y:=h.le;have hbl:=AV c0;obtain⟨n,hn⟩:∃n,n=rs.length:=⟨_,rfl⟩
 have X:∀j:Int,(slE rs j=0/\decide (j<0)=false/\decide ((n:Int)<=j)=false)\/(slE rs j=17/\(decide (j<0)=true\/(decide (j<0)=false/\decide ((n:Int)<=j)=true))):=λj=>by
  unfold slE
  grind
 rw[<-hn]at cr Y;have HI:=ι (X i);have HK:=ι (X k);generalize slE rs i=x at HI⊢;generalize slE rs k=y at HK⊢;clear X hn;rcases HI.o with⟨rfl,d0,d1⟩|⟨rfl,d⟩
 ·rw[μ rfl];go_enter func101,ntmps101;go_wp2
  go_loopw [11] (λs11 wr=>∃j:Nat,j<=2/\wr=w/\s11=iI j/\Hid (j=2->y=0)) (λs11 _=>2-(intOf s11).toNat)
  case atStart=>grind
  case round=>
   obtain⟨j,hj,rfl,rfl,HY⟩:=hrel;rcases(by omega:j=0\/j=1\/j=2)with rfl|rfl|rfl
   ·go_wp2;go_round
    case rel=>exact⟨1,by omega,trivial,by go_num,⟨λh=>by omega⟩⟩
    case measure=>simp[intOf]
   ·rcases HK.o with⟨rfl,q0,q1⟩|⟨rfl,q|⟨q,q2⟩⟩
    ·go_wp2;go_round
     case rel=>exact⟨2,by omega,trivial,by go_num,⟨λ_=>trivial⟩⟩
     case measure=>simp[intOf]
    ·go_wp2;go_ret
     simp_all
    ·go_wp2;go_ret
     simp_all
   ·have hy:=HY.o rfl;subst hy;go_wp2;go_ret
    simp_all
 ·rw[κ (by decide)];rcases d with d0|⟨d0,d1⟩
  all_goals
   go_enter func101,ntmps101;go_wp2
   go_loopw [11] (λs11 wr=>wr=w/\s11=iI 0) (λ_ _=>0)
   case atStart=>simp_all
   case round=>
    obtain⟨rfl,rfl⟩:=hrel;go_wp2;go_ret
    simp_all
def OS(rs:List Int)(i k:Int):List Int:=if slE rs i=0/\slE rs k=0 then rs.set i.toNat (rs.getD k.toNat 0)else rs
theorem Jv2(h:AU w r g rs)(i k:Int):Calls prog 75 #[pP r,iI i,iI k] w λe w'=>e=.returned (iI (if slE rs i=0 then slE rs k else 17))/\AB (λb=>b=g) w w'/\AU w' r g (OS rs i k):=by
 have hg:=(Gr.refl w).alloc (.cells #[.int .i64 i,.int .i64 k] 3);have HC:=(ZP2 (h.gr hg) (b:=w.heap.size) (i:=i) (k:=k) ((Rec.new w 3 [iI i,iI k]).cell (j:=0) rfl) ((Rec.new w 3 [iI i,iI k]).cell (j:=1) rfl));have h':=h.gr hg;have A:=h'.le;have I:∀j,slE rs j=0\/slE rs j=17:=λj=>by unfold slE;omega
 by_cases X:slE rs i=0/\slE rs k=0
 ·have J:∀j,slE rs j=0->0<=j/\j<rs.length:=λj hj=>by
   unfold slE at hj;omega
  obtain⟨i',rfl⟩:∃i':Nat,i=i':=⟨i.toNat,by grind⟩;obtain⟨k',rfl⟩:∃k':Nat,k=k':=⟨k.toNat,by grind⟩;have hi:=(J _ X.1).2;have hk:=(J _ X.2).2;have Z:i' < rs.length:=Ω
  have M:k' < rs.length:=Ω
  have HX:Hid (OS rs i' k'=rs.set i' rs[k']):=⟨by unfold OS;simp_all⟩;have O:=(λ(W:World) (gg:Gr w W)=>(h.gr gg).cell M);have Xa:=((h.gr hg).cell Z);have U:=(λ(W:World) (gg:Gr w W)=>ET (h.gr gg).row i');rw[μ X.1,X.2]at HC⊢;obtain⟨x,hx⟩:∃x,x=rs[k']:=⟨_,rfl⟩;rw[<-hx]at O HX;obtain⟨n,hn⟩:∃n,n=rs.length:=⟨_,rfl⟩;have G:=(λ(W:World) (gg:Gr w W)=>(h.gr gg).rcd.cell (j:=0) rfl);rw[<-hn]at G A hi hk Z M;have HI0:=Z;clear h' hx hn X I J;go_enter func75,ntmps75;go_upto_region 3 with(go_at_call 101;refine HC.mono ?_;rintro e w1 ⟨rfl,rfl⟩);have z0:=U _ hg;generalize rs[i']=xo at Xa;obtain⟨Sx,Y,HS⟩:=AA.start λW'=>Gr w W';have y0:=AA.fact Y λ_ h=>G _ h;have y1:=AA.fact Y λ_ h=>O _ h;have y2:∀p:AA Sx,p.w.frozen? ⟨g,i',none⟩=false:=λp=>by have h:=AA.get Y p;exact U _ h
  have V:=HS.o _ (hg.drew);have inst:Inhabited (AA Sx):=⟨⟨_,V⟩⟩;clear Y;refine AR Sx 13 [([0,1,2,3,4,5,6,7,8,9,10,11,12],13)] [] (by kernel_rfl) (by kernel_rfl) V ?_;refine AG ?_
  try simp only[AC,ζ,ξ]
  repeat(go_big_quiet_step (fail))
  refine ψ ?_;go_wp2;refine⟨.inl trivial,?_⟩;refine AS ?_;refine ψ ?_;refine τ ?_;go_wp2;go_ret;exact⟨rfl,AB.setCell (S:=λb=>b=g) (hg.drew.touch _) (a:=⟨g,i',none⟩) (λ_=>rfl) _,by rw[HX.o];exact(h.gr hg.drew).set i' x⟩
 ·have HX:Hid (OS rs i k=rs):=⟨κ X⟩
  have he:(if slE rs i=0 then slE rs k else 17)=17:=by
   grind
  rw[he]at HC⊢;go_enter func75,ntmps75;go_wp2_with(go_at_call 101;refine HC.mono ?_;rintro e w1 ⟨rfl,rfl⟩);go_ret;exact⟨rfl,hg.touch _,by rw[HX.o];exact h'⟩
end
theorem VBi(b:Nat)(w:World):(callFunc 63 #[uU b]).run prog w=.ok (.value (.float .f64 b)) w:=by kernel_rfl
theorem ZI9(b:Nat)(w:World):(callFunc 49 #[.float .f64 b]).run prog w=.ok (.value (uU b)) w:=by kernel_rfl
theorem SH(b:Nat)(w:World):cQ 22 #[uU b] w (.float .f64 b):=by
 have h1:=VBi b;go_enter func22,ntmps22;go_wp2;go_ret;exact⟨rfl,rfl⟩
theorem XE(b:Nat)(w:World):cQ 19 #[.float .f64 b] w (uU b):=by
 have h1:=ZI9 b;go_enter func19,ntmps19;go_wp2;go_ret;exact⟨rfl,rfl⟩
structure Sp.Wr(z:Sp)(FS:FuncId):Prop where
 ns:∀n w,(nilAhead (n+1) z.T z.rv "Store").run prog w=.ok (some false) w
 ms:∀n w,(method (n+1) z.T z.rv "Store").run prog w=.ok (FS,z.rv) w
 cs:∀args w,(callFunc FS args).run prog w=.ok (.enter FS args) w
 st:∀{u S w},z.I u S w->∀(a:Int) (x:Nat),z.P a->x<18446744073709551616->Calls prog FS #[z.rv,iI a,uU x] w (λe w'=>e=.returned (iI (u.ldE a))/\AB S w w'/\z.I (u.st a x) (plus S w) w')
def Sp.W(z:Sp)(u:Vm)(S:Nat->Prop)(w w':World):Prop:=AB S w w'/\z.I u (plus S w) w'
def Vm.seV(v:Vm)(a i kd:Int)(x:Nat):Vm:=if v.plE a i kd=0 then v.st (a+1+i) x else v
section
variable {z:Sp} {FS:FuncId} {v:Vm} {S:Nat->Prop} {w w1 w':World}
theorem Sp.E.toW(h:z.E v S w w'):z.W v S w w':=⟨h.1.mono (λ_ _ h=>h.2),h.2⟩
theorem Sp.E.transW{v':Vm}(h:z.E v S w w1)(k:z.W v' (plus S w) w1 w')(hS:z.Ok):z.W v' S w w':=by
 have hz:=h.1.size;refine⟨(h.1.mono (λ_ _ h=>h.2)).trans' k.1 (λi hi hh=>hh.elim id (λh=>by omega)),hS.mono k.2 (λi hi=>?_)⟩;rcases hi with h1|h1
 ·exact h1
 ·exact .inr Ω
theorem Sp.W.gr(h:z.W v S w w1)(g:Gr w1 w')(hS:z.Ok):z.W v S w w':=⟨h.1.trans (g.touch _),hS.gr h.2 g⟩
theorem QV8(hS:z.Ok)(hI:z.I v S w)(a i:Int)(hP:0<a->z.P a)(hQ:v.plE a i 3=0->z.P (a+1+i)):Calls prog 113 #[z.v,iI a,iI i] w λe w'=>e=.returned (.tuple #[uU (v.gtV a i 3:Nat),iI (v.gtE a i 3)])/\z.E v S w w':=by
 have HG:=(TN hS hI a i 3 (by decide) hP hQ);go_enter func113,ntmps113;go_wp2_with(go_at_call 115;refine(HG).mono ?_;rintro e w1 ⟨rfl,X⟩;have HG1:=X);go_ret2
 simp_all
theorem QUr(hS:z.Ok)(hI:z.I v S w)(a i:Int)(hP:0<a->z.P a)(hQ:v.plE a i 2=0->z.P (a+1+i)):Calls prog 114 #[z.v,iI a,iI i] w λe w'=>e=.returned (.tuple #[.float .f64 (v.gtV a i 2),iI (v.gtE a i 2)])/\z.E v S w w':=by
 have HG:=(TN hS hI a i 2 (by decide) hP hQ);generalize v.gtV a i 2=x at HG⊢;go_enter func114,ntmps114
 go_wp2_with(first
  | (go_at_call 115;refine(HG).mono ?_;rintro e w1 ⟨rfl,X⟩;have HG1:=X)
  | (go_at_call 22;refine AT (SH x _) ?_))
 go_ret2
 simp_all
theorem ZZ(hS:z.Ok)(hW:z.Wr FS)(hI:z.I v S w)(a i kd:Int)(hk:kd≠0)(hP:0<a->z.P a)(hQ:v.plE a i kd=0->z.P (a+1+i)){x:Nat}(hx:x<18446744073709551616):Calls prog 161 #[z.v,iI a,iI i,iI kd,uU x] w λe w'=>e=.returned (iI (v.gtE a i kd))/\z.W (v.seV a i kd x) S w w':=by
 have X:=(O9 hS hI a i kd hk hP);have n1:=hW.ns;have n2:=hW.ms;have n3:=hW.cs;have HW:=hW;have HX:=hx;unfold Sp.v at X⊢;by_cases hE:v.plE a i kd=0
 ·have HE:Hid (v.gtE a i kd=v.ldE (a+1+i)/\v.seV a i kd x=v.st (a+1+i) x):=⟨⟨κ (λh=>h hE),μ hE⟩⟩;have HA:Hid (v.plA a i kd=a+1+i):=⟨μ hE⟩;rw[hE,HA.o]at X;have U:=(hQ hE);generalize a+1+i=J at HE X U;go_enter func161,ntmps161
  go_wp2_with(first
   | (go_at_call 116;refine(X).mono ?_;rintro e w1 ⟨rfl,Z⟩;have Y:=Z)
   | (refine(HW.st Y.2 J x U HX).mono ?_;rintro e w2 ⟨rfl,V⟩;have M:Hid (z.W (v.st J x) (plus S w) w1 w2):=⟨V⟩))
  go_ret;exact⟨AL HE.o.1.symm,by rw[HE.o.2];exact Y.transW M.o hS⟩
 ·have HE:Hid (v.gtE a i kd=v.plE a i kd/\v.seV a i kd x=v):=⟨⟨μ hE,κ hE⟩⟩;obtain⟨y,hy⟩:∃y,y=v.plE a i kd:=⟨_,rfl⟩;have d2:(y==0)=false:=by rw[hy];simpa using hE
  rw[<-hy]at HE X;clear hE hy hI hP hQ hW hx;go_enter func161,ntmps161;go_wp2_with(go_at_call 116;refine(X).mono ?_;rintro e w1 ⟨rfl,Z⟩;have Y:=Z);go_ret;exact⟨AL HE.o.1.symm,by rw[HE.o.2];exact Y.toW⟩
theorem XXd(hS:z.Ok)(hW:z.Wr FS)(hI:z.I v S w)(a i:Int)(hP:0<a->z.P a)(hQ:v.plE a i 3=0->z.P (a+1+i)){x:Nat}(hx:x<18446744073709551616):Calls prog 117 #[z.v,iI a,iI i,uU x] w λe w'=>e=.returned (iI (v.gtE a i 3))/\z.W (v.seV a i 3 x) S w w':=by
 have HG:=(ZZ hS hW hI a i 3 (by decide) hP hQ hx);go_enter func117,ntmps117;go_wp2_with(go_at_call 161;refine(HG).mono ?_;rintro e w1 ⟨rfl,X⟩;have HG1:=X);go_ret
 simp_all
theorem Ycv(hS:z.Ok)(hW:z.Wr FS)(hI:z.I v S w)(a i:Int)(hP:0<a->z.P a)(hQ:v.plE a i 2=0->z.P (a+1+i)){x:Nat}(hx:x<18446744073709551616):Calls prog 118 #[z.v,iI a,iI i,.float .f64 x] w λe w'=>e=.returned (iI (v.gtE a i 2))/\z.W (v.seV a i 2 x) S w w':=by
 have HG:=(ZZ hS hW hI a i 2 (by decide) hP hQ hx);go_enter func118,ntmps118
 go_wp2_with(first
  | (go_at_call 19;refine AT (XE x _) ?_)
  | (go_at_call 161;refine(HG).mono ?_;rintro e w1 ⟨rfl,X⟩;have HG1:=X))
 go_ret
 simp_all
theorem Xz9(hS:z.Ok)(hW:z.Wr FS)(hI:z.I v S w)(a i:Int)(hP:0<a->z.P a)(hQ:v.plE a i 1=0->z.P (a+1+i)){x:Nat}(hx:x<=2147483647):Calls prog 76 #[z.v,iI a,iI i,iI x] w λe w'=>e=.returned (iI (v.gtE a i 1))/\z.W (v.seV a i 1 x) S w w':=by
 have X:=(O9 hS hI a i 1 (by decide) hP);have n1:=hW.ns;have n2:=hW.ms;have n3:=hW.cs;have HW:=hW;have HX:Hid (x<18446744073709551616):=⟨by omega⟩;have e1:decide ((x:Int)<0)=false:=φ Ω;have e2:decide (2147483647<(x:Int))=false:=φ Ω;have e3:IntKind.u64.wrap (x:Int)=(x:Int):=by rw[ξr];omega
 unfold Sp.v at X⊢;by_cases hE:v.plE a i 1=0
 ·have HE:Hid (v.gtE a i 1=v.ldE (a+1+i)/\v.seV a i 1 x=v.st (a+1+i) x):=⟨⟨κ (λh=>h hE),μ hE⟩⟩;have HA:Hid (v.plA a i 1=a+1+i):=⟨μ hE⟩;rw[hE,HA.o]at X;have U:=(hQ hE);generalize a+1+i=J at HE X U;go_enter func76,ntmps76
  go_wp2_with(first
   | (go_at_call 116;refine(X).mono ?_;rintro e w1 ⟨rfl,Y⟩;have Z:=Y)
   | (refine(HW.st Z.2 J x U HX.o).mono ?_;rintro e w2 ⟨rfl,V⟩;have M:Hid (z.W (v.st J x) (plus S w) w1 w2):=⟨V⟩))
  go_ret;exact⟨AL HE.o.1.symm,by rw[HE.o.2];exact Z.transW M.o hS⟩
 ·have HE:Hid (v.gtE a i 1=v.plE a i 1/\v.seV a i 1 x=v):=⟨⟨μ hE,κ hE⟩⟩;obtain⟨y,hy⟩:∃y,y=v.plE a i 1:=⟨_,rfl⟩;have d2:(y==0)=false:=by rw[hy];simpa using hE
  rw[<-hy]at HE X;clear hE hy hI hP hQ hW hx;go_enter func76,ntmps76;go_wp2_with(go_at_call 116;refine(X).mono ?_;rintro e w1 ⟨rfl,Y⟩;have Z:=Y;clear Y);go_ret;exact⟨AL HE.o.1.symm,by rw[HE.o.2];exact Z.toW⟩
end
def Gph.Ro(g:Gph)(x:Nat):Prop:=x=0\/g.Rd x
theorem Gph.at_ro{g:Gph}{i:Int}(h:g.sl i=true):g.Ro (g.at i):=by
 unfold Gph.sl at h;rw[ζd,ζf,ζf]at h;by_cases h0:g.at i=0
 ·exact .inl h0
 ·refine .inr (Gph.Rd.root ?_ h0);unfold Gph.at
  simp_all
def Gph.erE(g:Gph)(x:Nat)(i kd:Int):Int:=if x=0 then 18 else if BN (g.ob x).hdr i=0 then 19 else if BN (g.ob x).hdr i=kd then 0 else 20
theorem Gph.fdE_er{g:Gph}{a:Int}(h:g.sl a=true)(i kd:Int):g.fdE a i kd=g.erE (g.at a) i kd:=by unfold Gph.fdE Gph.erE;rw[μ h]
section
variable {v:Vm} {g:Gph} {F:Nat->Nat} {lo hi:Nat}
theorem Z3T{g:Gph}(ho:g.Ok){x:Nat}(hx:g.Rd x){i kd:Int}(hk:kd≠0)(h:BN (g.ob x).hdr i=kd):∃n:Nat,i=n/\n<(g.ob x).p+(g.ob x).f+(g.ob x).k/\(kd=1↔n<(g.ob x).p):=by
 obtain⟨h1,h2⟩:=ho.rd hx;have hl:=(ho.len _ (Gph.ob_mem h1 h2)).2;have hN:CG (g.ob x).hdr=1+((g.ob x).p:Int)+(g.ob x).f+(g.ob x).k:=μ (ES hl);unfold BN at h
 split at h
 ·rename_i hin;refine⟨i.toNat,by omega,by omega,?_⟩;have hp:(g.ob x).hdr.p=((g.ob x).p:Int):=rfl;omega
 omega
theorem Img.plE(h:Img v g F lo hi){x:Nat}(hx:g.Ro x)(i:Int){kd:Int}(hk:kd≠0):v.plE (F x) i kd=g.erE x i kd:=by
 unfold Vm.plE Gph.erE;rcases hx with rfl|hx
 ·rw[h.z,μ rfl];have:v.rdE ((0:Nat):Int)=18:=by unfold Vm.rdE;omega
  assumption
 ·have hp:=h.pos hx;have h0:x≠0:=λe=>by rw[e,h.z]at hp;omega
  rw[h.rd x hx,κ (λhh=>hh rfl),h.hd x hx,κ h0];omega
theorem Img.inP(h:Img v g F lo hi)(ho:g.Ok){x:Nat}(hx:g.Ro x){i kd:Int}(hk:kd≠0)(he:g.erE x i kd=0):g.Rd x/\∃n:Nat,i=n/\n<(g.ob x).p+(g.ob x).f+(g.ob x).k/\(kd=1↔n<(g.ob x).p)/\(F x:Int)+1+i=((F x+1+n:Nat):Int)/\lo<=F x+1+n/\F x+1+n<hi:=by
 unfold Gph.erE at he;have h0:x≠0:=λe=>by omega
 rw[κ h0]at he;have hr:=hx.resolve_left h0
 have e:BN (g.ob x).hdr i=kd:=by
  omega
 obtain⟨n,rfl,h1,h2⟩:=Z3T ho hr hk e;have:=h.lo x hr;have hz:(g.ob x).size=1+(g.ob x).p+(g.ob x).f+(g.ob x).k:=rfl
 grind
theorem Img.gtE(h:Img v g F lo hi)(ho:g.Ok){x:Nat}(hx:g.Ro x)(i:Int){kd:Int}(hk:kd≠0):v.gtE (F x) i kd=g.erE x i kd:=by
 unfold Vm.gtE;rw[h.plE hx i hk];by_cases he:g.erE x i kd=0
 ·rw[κ (λhh=>hh he),he];obtain⟨hr,n,rfl,h1,h2,h3,-,-⟩:=h.inP ho hx hk he;rcases ω n (g.ob x).p with h4|h4
  ·have:=(NL (h.pt x hr n h4).1).2.2.1;exact this
  ·exact(h.wd x hr n h4 h1).1
 omega
theorem Img.gtV(h:Img v g F lo hi)(ho:g.Ok){x:Nat}(hx:g.Ro x)(i:Int){kd:Int}(hk:kd≠0)(hk1:kd≠1):v.gtV (F x) i kd=if g.erE x i kd=0 then (g.ob x).w.getD i.toNat 0 else 0:=by
 unfold Vm.gtV;rw[h.plE hx i hk];by_cases he:g.erE x i kd=0
 ·rw[κ (λhh=>hh he),μ he];obtain⟨hr,n,rfl,h1,h2,h3,-,-⟩:=h.inP ho hx hk he;exact(h.wd x hr n (ξU λh4=>hk1 (h2.2 h4)) h1).2
 simp_all
theorem Img.ptE(h:Img v g F lo hi)(ho:g.Ok){x:Nat}(hx:g.Ro x)(i:Int):v.ptE (F x) i=g.erE x i 1/\(g.erE x i 1=0->v.ptV (F x) i=F ((g.ob x).w.getD i.toNat 0)/\g.Ro ((g.ob x).w.getD i.toNat 0)):=by
 by_cases he:g.erE x i 1=0
 ·obtain⟨hr,n,rfl,h1,h2,h3,-,-⟩:=h.inP ho hx (by decide) he;have h4:=h2.1 rfl;obtain⟨p1,p2⟩:=h.pt x hr n h4;refine⟨p1.trans he.symm,λ_=>⟨p2,?_⟩⟩;by_cases h0:(g.ob x).w.getD n 0=0
  ·exact .inl h0
  ·exact .inr (hr.step (PG ho hr h4) h0)
 ·refine⟨?_,λhh=>absurd hh he⟩;unfold Vm.ptE;rw[h.gtE ho hx i (by decide),μ he]
theorem Img.seV(h:Img v g F lo hi)(hv:AF v)(ho:g.Ok){x:Nat}(hx:g.Ro x)(i:Int){kd:Int}(hk:kd≠0)(y:Nat)(hy:kd=1->g.Ro y)(hhi:hi<=2147483647):g.erE x i kd=0->Img (v.seV (F x) i kd (if kd=1 then F y else y)) (g.put x i.toNat y) F lo hi:=λhe=>by
 obtain⟨hr,n,rfl,h1,h2,h3,h4,h5⟩:=h.inP ho hx hk he;have X:v.plE (F x) n kd=0:=(h.plE hx n hk).trans he;unfold Vm.seV;rw[μ X,h3,η]
 have hl:v.ldE ((F x+1+n:Nat):Int)=0:=by
  have:=h.gtE ho hx n hk;unfold Vm.gtE at this
  simp_all
 refine h.put ho hr h1 (λhn=>hy (h2.2 hn)) hhi λa a1 a2 a3=>?_;rw[FN,hv.st_ldV _ hl]
 grind
end
theorem Y7w{F:Fence}{nF:Nat}{P:Program}(w:World){ops:Array Oper}{rest:List Oper}{o:Oper}{a:Act}{Q:Exit->Act->World->Prop}
  (hg:o.guard=none) (m x v:Operand) (t:TypeId) (hop:o.op=Op.mapUpdate t m x v)
  (k e:TypeId) (K:Maps.Keyed P k) (ht:P.underlying t=some (.map k e)) (hk:P.underlying k=some (.int .i64)) (b n:Nat) (f:Int->Option Value)
  (hm:a.eval m=.map (some b)) (hown:BF P k w b n f) (hn:n<maxLen) (key:Int) (val:Value) (hx:a.eval x=.int .i64 key) (hv:a.eval v=val) (hw:(Lit.int .i64 key).wf=true)
  (hK:∀w',BF P k w' b (n+1) (λy=>if y=key then some val else f y)->AB (λi=>i=b) w w'->wpListIn F nF P ops Q rest (a.put o.dst undef) w'):
  wpListIn F nF P ops Q (o :: rest) a w:=by
 obtain⟨w',X,h1,h2⟩:=hown.put K ht hk hn key val hw;refine wpListIn_plain hg λK' hK'=>?_;unfold Oper.wpIn;refine⟨by simp[Oper.about,hop],?_⟩;rw[Oper.semAt_plain F _ _ (by rw[hop];intro c Y;cases Y)];simp[execOp,hop,hm,hx,hv,X,Result.andThen];exact hK' _ _ (hK w' h1 h2)
theorem V63{F:Fence}{nF:Nat}{P:Program}(w:World){ops:Array Oper}{rest:List Oper}{o:Oper}{a:Act}{Q:Exit->Act->World->Prop}
  (hg:o.guard=none) (l c:Operand) (t:TypeId) (hop:o.op=Op.makeSlice t l c)
  (base:Nat) (e:TypeId) (i:TypeInfo) (z:Value) (size:Nat) (h1:P.underlying t=some (.slice e)) (h2:P.info? e=some i) (h3:i.zero=some z) (h4:i.size=size)
  (kl kc:IntKind) (n:Nat) (hl:a.eval l=.int kl n) (hc:a.eval c=.int kc n) (b1:n*size<=16777216) (b2:i.bytes*n<=281474976710656) (b3:n<=maxLen) (b4:base<=w.heap.size)
  (hK:∀w',w'.ownsRow base e size (.slice (some ⟨w.heap.size,0,none⟩) n n) n (madeCells z.cells (n*size)).toList->w.grownBy w' none->wpListIn F nF P ops Q rest (a.put o.dst (.slice (some ⟨w.heap.size,0,none⟩) n n)) w'):
  wpListIn F nF P ops Q (o :: rest) a w:=by
 obtain⟨w',X,r1,r2⟩:=run_makeSlice_full (P:=P) w base t e i z size h1 h2 h3 h4 kl kc n b1 b2 b3 b4;refine wpListIn_plain hg λK' hK'=>?_;unfold Oper.wpIn;refine⟨by simp[Oper.about,hop],?_⟩;rw[Oper.semAt_plain F _ _ (by rw[hop];intro c Y;cases Y)];simp[execOp,hop,hl,hc,X,Result.andThen];exact hK' _ _ (hK w' r1 r2)
theorem Ya9{F:Fence}{nF:Nat}{P:Program}(w:World){ops:Array Oper}{rest:List Oper}{o:Oper}{a:Act}{Q:Exit->Act->World->Prop}
  (hg:o.guard=none) (t:TypeId) (hop:o.op=Op.makeMap t none) (hK:wpListIn F nF P ops Q rest (a.put o.dst (.map (some w.heap.size))) (w.alloc (.map #[] 0))):wpListIn F nF P ops Q (o :: rest) a w:=by
 have X:(Instr.makeMap t none).run P w=.ok (.map (some w.heap.size)) (w.alloc (.map #[] 0)):=rfl;refine wpListIn_plain hg λK' hK'=>?_;unfold Oper.wpIn;refine⟨by simp[Oper.about,hop],?_⟩;rw[Oper.semAt_plain F _ _ (by rw[hop];intro c Y;cases Y)];simp[execOp,hop,X,Result.andThen];exact hK' _ _ hK
theorem J0U(z:Value)(n:Nat):(madeCells #[z] n).toList=List.replicate n z:=by
 unfold madeCells;apply ζ4
 ·simp
 ·intro i h1 h2;simp[Nat.mod_one]
def S4(md:Region.Mode)(ops:Array Oper)(ds:List (Nat×List Nat)):Bool:=ds.all λd=>match ops[d.1]? with
 | some o=>d.2.all λi=>o.after.any λe=>Region.binds md e&&e.on==i
 | none=>false
def RE(md:Region.Mode)(ops:Array Oper):Bool:=(List.range ops.size).all λj=>match ops[j]? with
 | some o=>o.after.all λe=>!Region.binds md e||decide (e.on<j)
 | none=>true
def XEe(l0:Array Bool)(ds:List (Nat×List Nat))(n:Nat):Bool:=(List.range n).all λk=>l0.getD k false||ds.any λd=>d.1==k
def upD(D:Nat->Bool)(k:Nat):Nat->Bool:=λj=>if j=k then true else D j
theorem XRT{f g:Nat->Bool}{n i:Nat}(h:∀j,g j=true->f j=true)(hi:i<n)(h1:f i=true)(h2:g i=false):cnt g n+1<=cnt f n:=by
 have key:∀m,cnt g m+(if i<m then 1 else 0)<=cnt f m:=λm=>by
  induction m with
  | zero=>simp[LC]
  | succ m ih=>
   rw[CR,CR];by_cases e:i=m
   ·simp_all
   ·have h4:(g m).toNat<=(f m).toNat:=by cases hg:g m <;> cases hf:f m <;> simp_all
    grind
 grind
section
variable {F:Fence} {n:Nat} {P:Program} {l:List Oper} {Q:Exit->Act->World->Prop} {md:Region.Mode} {S:World->Prop} {z:Nat}
def M8(F:Fence)(n:Nat)(P:Program)(l:List Oper)(S:World->Prop)(Q:Exit->Act->World->Prop)(I:(Nat->Bool)->Act->World->Prop):List (Nat×List Nat)->Prop
 | []=>True
 | d :: r=>(∀(D:Nat->Bool) (a:Act) (w:World),I D a w->S w->D d.1=false->(∀i∈d.2,D i=true)->wpListIn F n P l.toArray (Exit.then (λa2 w2=>S w2/\I (upD D d.1) a2 w2) Q) (AC l [d.1]) a w)/\M8 F n P l S Q I r
theorem J0P{I:(Nat->Bool)->Act->World->Prop}{ds:List (Nat×List Nat)}(h:M8 F n P l S Q I ds){d:Nat×List Nat}(hd:d∈ds):
  ∀(D:Nat->Bool) (a:Act) (w:World),I D a w->S w->D d.1=false->(∀i∈d.2,D i=true)->wpListIn F n P l.toArray (Exit.then (λa2 w2=>S w2/\I (upD D d.1) a2 w2) Q) (AC l [d.1]) a w:=by
 induction ds with
 | nil=>cases hd
 | cons e r ih=>
  rcases ξg.1 hd with rfl|hd
  ·exact h.1
  ·exact ih h.2 hd
theorem YEX{listed:Array Bool}(hlow:RE md l.toArray=true)(hr:Region.ready md l.toArray listed=[])(hs:listed.size=l.toArray.size):∀j,j<l.toArray.size->listed.getD j false=true:=by
 intro j
 induction j using Nat.strongRecOn with
 | ind j ih=>
  intro hj;cases hb:listed.getD j false with
  | true=>rfl
  | false=>
   exfalso;have X:l.toArray[j]?=some l.toArray[j]:=Array.getElem?_eq_getElem hj;have hl:=ζ8.1 hlow j (ξf.2 hj);rw[X]at hl;have hl:(l.toArray[j].after.all λe=>!Region.binds md e||decide (e.on<j))=true:=hl
   have hm:j∈Region.ready md l.toArray listed:=by
    refine mem_ready.2 ⟨?_,_,X,λe he hbe=>?_⟩
    ·grind
    ·have h1:=Array.all_eq_true_iff_forall_mem.1 hl e he
     grind
   simp_all
theorem PT{listed:Array Bool}{i:Nat}(hi:i<listed.size):(λj=>(listed.setIfInBounds i true).getD j false)=upD (λj=>listed.getD j false) i:=by
 funext j
 unfold upD;simp only[ψb,Array.getElem?_setIfInBounds]
 grind
theorem QPK{I:(Nat->Bool)->Act->World->Prop}{ds:List (Nat×List Nat)}(hlow:RE md l.toArray=true)(hwt:S4 md l.toArray ds=true)(hst:M8 F n P l S Q I ds)
  (hfin:∀(D:Nat->Bool) (a:Act) (w:World),I D a w->S w->(∀j,j<l.toArray.size->D j=true)->Q .normal a w):
  ∀(f:Nat) (listed:Array Bool) (a:Act) (w:World),BP md l.toArray listed->listed.size=l.toArray.size->cnt (λj=>!listed.getD j false) l.toArray.size<=f →
   (∀k,k<l.toArray.size->listed.getD k false=false->∃d∈ds,d.1=k)->S w->I (λj=>listed.getD j false) a w->GS F n P md l.toArray Q S z f listed a w:=by
 intro f
 induction f with
 | zero=>
  intro listed a w hc hs hf X hS hI
  have Y:∀j,j<l.toArray.size->listed.getD j false=true:=λj hj=>by
   grind [UN]
  refine⟨?_,hfin _ a w hI hS Y⟩;cases hr:Region.ready md l.toArray listed with
  | nil=>rfl
  | cons i r=>
   exfalso;have hi:i∈Region.ready md l.toArray listed:=by rw[hr];exact ζq ..
   obtain⟨h1,o,ho,-⟩:=mem_ready.1 hi
   grind
 | succ f ih=>
  intro listed a w hc hs hf X hS hI;refine⟨λhr=>hfin _ a w hI hS (YEX hlow hr hs),λi hi=>?_⟩;obtain⟨h1,o,ho,Y⟩:=mem_ready.1 hi;have U:i<l.toArray.size:=(ζn.1 ho).1
  have J:listed.getD i false=false:=by
   rw[ψb,Array.getElem?_eq_getElem Ω]at h1⊢;exact h1
  obtain⟨d,hd,rfl⟩:=X i U J;have hw:=ζ8.1 hwt d hd;rw[ho]at hw;have hw:(d.2.all λi=>o.after.any λe=>Region.binds md e&&e.on==i)=true:=hw
  have V:∀i∈d.2,listed.getD i false=true:=λi hi=>by
   have h2:=ζ8.1 hw i hi;obtain⟨e,he,h3⟩:=Array.any_eq_true'.1 h2;obtain⟨h4,h5⟩:=ζ5.1 h3;have h5:e.on=i:=by simpa using h5
   rw[<-h5];exact Y e he h4
  have Z:=J0P hst hd _ a w hI hS J V;rw[EI ho]at Z;refine OX ho (λa2 w2 h2=>⟨.inr h2.1,ih _ a2 w2 (hc.set hi) (by rw[Array.size_setIfInBounds];exact hs) ?_ ?_ h2.1 ?_⟩) Z
  ·have hd':=XRT (f:=λj=>!listed.getD j false) (g:=λj=>!(listed.setIfInBounds d.1 true).getD j false) (n:=l.toArray.size) (i:=d.1) (λj hj=>by
    have e:=congrFun (PT (listed:=listed) (i:=d.1) Ω) j;rw[e]at hj;unfold upD at hj
    split at hj
    ·simp at hj
    ·exact hj) U (by rw[J];rfl) (by
    have e:=congrFun (PT (listed:=listed) (i:=d.1) Ω) d.1;rw[e];unfold upD
    rw[μ rfl];rfl)
   omega
  ·intro k hk hl;have e:=congrFun (PT (listed:=listed) (i:=d.1) Ω) k;rw[e]at hl;unfold upD at hl
   split at hl
   ·cases hl
   ·exact X k hk hl
  grind [PT]
theorem JSy{id:Nat}{a:Act}{w:World}(S:World->Prop)(qs:List Nat)(l0:Array Bool)(ds:List (Nat×List Nat))(I:(Nat->Bool)->Act->World->Prop)(hF:∀f,F.fn f)(hm:P.follows .mixedOrders=true)
  (hB:(H6 l.toArray&&Region.noSelect l.toArray&&RE .any l.toArray&&S4 .any l.toArray ds&&XEe l0 ds l.toArray.size&&decide (GK .any l.toArray qs (Array.replicate l.toArray.size false)=some l0)&&decide (l0.size=l.toArray.size)&&decide (qs.length+cnt (λj=>!l0.getD j false) l.toArray.size=l.toArray.size))=true) (hS:S w.drew)
  (h:wpQuiet P l.toArray (λw'=>∃p:AA S,w'=p.w) (λa'=>I (λj=>l0.getD j false) a' w.drew) (AC l qs) a)
  (hst:M8 F n P l (λw'=>∃p:AA S,w'=p.w) (NoPanic Q) I ds)
  (hfin:∀(D:Nat->Bool) (a:Act) (w:World),I D a w->(∃p:AA S,w=p.w)->(∀j,j<l.toArray.size->D j=true)->NoPanic Q .normal a w):(Code.region id l.toArray true).wpIn F n P Q a w:=by
 simp only[ζd,ζf]at hB;obtain⟨⟨⟨⟨⟨⟨⟨M,Y⟩,J⟩,V⟩,X⟩,U⟩,O⟩,Z⟩:=hB;refine wpIn_mono (wpIn_region_any hm ?_) NoPanic.imp;have hz:DI .any l.toArray l.toArray.size=true:=by unfold DI;simp
 have:=OT (F:=F) (n:=n) (P:=P) (Q:=NoPanic Q) (S:=λw'=>∃p:AA S,w'=p.w) (md:=.any) (f:=cnt (λj=>!l0.getD j false) l.toArray.size) (K:=λa'=>I (λj=>l0.getD j false) a' w.drew) hF M Y (λc a b w h=>h) hz (AA.of hS)
  (λa hc hI=>QPK J V hst hfin _ l0 a w.drew hc O (π _) (λk hk hl=>by
   have:=ζ8.1 X k (ξf.2 hk)
   simp_all) (AA.of hS) hI) qs _ a U (BP.none .any l.toArray) h
 rw[Z]at this;exact O7 _ _ _ _ this
theorem VMF{id:Nat}{a:Act}{w:World}(S:World->Prop)(qs:List Nat)(l0:Array Bool)(ds:List (Nat×List Nat))(I:Act->(Nat->Bool)->Act->World->Prop)(hF:∀f,F.fn f)(hm:P.follows .mixedOrders=true)
  (hB:(H6 l.toArray&&Region.noSelect l.toArray&&RE .any l.toArray&&S4 .any l.toArray ds&&XEe l0 ds l.toArray.size&&decide (GK .any l.toArray qs (Array.replicate l.toArray.size false)=some l0)&&decide (l0.size=l.toArray.size)&&decide (qs.length+cnt (λj=>!l0.getD j false) l.toArray.size=l.toArray.size))=true) (hS:S w.drew)
  (h:wpQuiet P l.toArray (λw'=>∃p:AA S,w'=p.w) (λa'=>I a (λj=>l0.getD j false) a' w.drew) (AC l qs) a)
  (hst:M8 F n P l (λw'=>∃p:AA S,w'=p.w) (NoPanic Q) (I a) ds)
  (hfin:∀(D:Nat->Bool) (a':Act) (w:World),I a D a' w->(∃p:AA S,w=p.w)->(∀j,j<l.toArray.size->D j=true)->NoPanic Q .normal a' w):(Code.region id l.toArray true).wpIn F n P Q a w:=
 JSy S qs l0 ds (I a) hF hm hB hS h hst hfin
end
section
variable {P:Program} {ops:Array Oper} {Q:Exit->Act->World->Prop} {md:Region.Mode} {S:World->Prop}
def KB(P:Program)(md:Region.Mode)(ops:Array Oper)(Q:Exit->Act->World->Prop)(S:World->Prop)(z:Nat):Nat->Array Bool->Act->World->Prop
 | 0,listed,a,w=>Region.ready md ops listed=[]/\Q .normal a w
 | f+1,listed,a,w=>
  (Region.ready md ops listed=[]->Q .normal a w) ∧
  ∀i∈Region.ready md ops listed,wpOp P ops Q i (λa' w'=>(z<=i\/S w')/\KB P md ops Q S z f (listed.setIfInBounds i true) a' w') a w
theorem ZmF{z:Nat}:∀(f:Nat) (listed:Array Bool) (a:Act) (w:World),KB P md ops Q S z f listed a w->wpAny P md ops Q f listed a w
 | 0,_,_,_,h=>h
 | f+1,_,_,_,h=>⟨h.1,λi hi=>wpOp_mono (λa' w' h'=>ZmF f _ a' w' h'.2) (h.2 i hi)⟩
def L2(md:Region.Mode)(ops:Array Oper)(z:Nat):Bool:=(List.range ops.size).all λk=>decide (k<z)||(List.range z).all λi=>anc md ops ops.size k i
theorem JAl{listed:Array Bool}{z k i:Nat}(hz:L2 md ops z=true)(h:BP md ops listed)(hr:k∈Region.ready md ops listed)(hk:z<=k)(hi:i<z):listed.getD i false=true:=by
 obtain⟨_,oz,hoz,hall⟩:=mem_ready.1 hr;simp only[L2,ζW,ζf,ζ8,ξf]at hz
 grind [PF]
theorem YjG{z i:Nat}{oi:Oper}{v:Value}(hi:ops[i]?=some oi)(hiz:i<z)(hsel:∀(j:Nat) (o:Oper) cs b,ops[j]?=some o->o.op≠.select cs b)
  (hQ:∀c a w,Q (.panic c) (a.put oi.dst v) w->Q (.panic c) a w) (hz:L2 md ops z=true):
  ∀(f:Nat) (listed:Array Bool) (a:Act) (w:World),BP md ops listed →
   (∀j oj,ops[j]?=some oj->j≠i->listed.getD j true=false->(∀e∈oj.after,Region.binds md e=true->e.on≠i)->oi.apart ops oj=true) →
   i∈Region.ready md ops listed->YieldsIf P ops S oi v a->S w →
   KB P md ops Q S z f (listed.setIfInBounds i true) (a.put oi.dst v) w->KB P md ops Q S z (f+1) listed a w:=by
 intro f
 induction f with
 | zero=>
  intro listed a w _ _ hr hy hS H;refine⟨λh=>(by simp_all),λj hj=>?_⟩;by_cases X:j=i
  ·subst X;exact hy.wpOp hi hS ⟨.inr hS,H⟩
  ·have:=ready_mono hj X;rw[H.1]at this;cases this
 | succ f ih=>
  intro listed a w O Y hr hy hS H;refine⟨λh=>(by simp_all),λj hj=>?_⟩;by_cases X:j=i
  ·subst X;exact hy.wpOp hi hS ⟨.inr hS,H⟩
  ·have h1:=H.2 j (ready_mono hj X);obtain⟨U,oj,V,M⟩:=mem_ready.1 hj;have Z:=(mem_ready.1 hr).1;have A:¬z<=j:=λe=>JP Z (JAl hz O hj e hiz);have I:∀e∈oj.after,Region.binds md e=true->e.on≠i:=λe he hb heq=>JP Z (heq▸M e he hb);have h2:=wpOp_putIf V (Y j oj V X U I) (λcs b=>hsel i oi cs b hi) (λcs b=>hsel j oj cs b V) hQ hy h1
   have J:∀k ok,ops[k]?=some ok->k≠i->(listed.setIfInBounds j true).getD k true=false →
     (∀e∈ok.after,Region.binds md e=true->e.on≠i)->oi.apart ops ok=true:=λk ok hk hki Z hno=>by
    refine Y k ok hk hki ?_ hno;by_cases G:j=k
    ·subst G;exact U
    ·rw[getD_set_ne true G]at Z;exact Z
   refine wpOp_mono (λa' w' h3=>?_) h2;obtain⟨h3,h4,h5⟩:=h3;have Xa:S w':=h4.resolve_left A;refine⟨h4,ih (listed.setIfInBounds j true) a' w' (O.set hj) J (ready_mono hr (Ne.symm X)) h3 Xa ?_⟩
   grind [ξY]
def I9(md:Region.Mode)(ops:Array Oper)(z:Nat):List (Bool×Nat)->Array Bool->Bool
 | [],listed=>(Region.ready md ops listed).isEmpty
 | (true,k) :: r,listed=>decide (Region.ready md ops listed=[k])&&(decide (k<z)||r.all λx=>x.1)&&I9 md ops z r (listed.setIfInBounds k true)
 | (false,k) :: r,listed=>(Region.ready md ops listed).contains k&&Region.free md ops listed k&&((ops[k]?).any G5)&&decide (k<z)&&I9 md ops z r (listed.setIfInBounds k true)
def MW(P:Program)(l:List Oper)(S:World->Prop)(z:Nat)(Q:Exit->Act->World->Prop):List (List Nat×Nat)->List Nat->Act->World->Prop
 | [],fin,a,w=>wpQuiet P l.toArray S (λa'=>Q .normal a' w) (AC l fin) a
 | (qs,k) :: r,fin,a,w=>wpQuiet P l.toArray S (λa'=>wpList P l.toArray (Exit.then (λa2 w2=>(z<=k\/S w2)/\MW P l S z Q r fin a2 w2) Q) (AC l [k]) a' w) (AC l qs) a
end
section
variable {P:Program} {l:List Oper} {Q:Exit->Act->World->Prop} {md:Region.Mode} {S:World->Prop} {z:Nat}
theorem WN(hsel:Region.noSelect l.toArray=true)(hQ:∀c a b w,Q (.panic c) b w->Q (.panic c) a w)(hz:L2 md l.toArray z=true){w:World}{K:Act->Prop}{R:List (Bool×Nat)}{f:Nat}
  (hK:∀listed a,I9 md l.toArray z R listed=true->BP md l.toArray listed->K a->KB P md l.toArray Q S z f listed a w):
  ∀(qs:List Nat) (listed:Array Bool) (a:Act),(S w\/qs=[])->I9 md l.toArray z (qs.map (λk=>(false,k))++R) listed=true->BP md l.toArray listed->wpQuiet P l.toArray S K (AC l qs) a →
   KB P md l.toArray Q S z (qs.length+f) listed a w
 | [],listed,a,_,hB,hc,h=>by simpa using hK listed a hB hc h
 | k :: qs,listed,a,hS,hB,hc,h=>by
  have hS:S w:=hS.resolve_right (by simp);simp only[ξG,ζu,I9,ζd]at hB;obtain⟨⟨⟨⟨hr,hf⟩,hq⟩,hkz⟩,Z⟩:=hB;cases ho:l.toArray[k]? with
  | none=>simp_all
  | some o=>
   rw[ho]at hq;have Y:k∈Region.ready md l.toArray listed:=by simp_all
   rw[EI ho]at h;simp only[wpQuiet]at h
   have hy:∃v,YieldsIf P l.toArray S o v a/\wpQuiet P l.toArray S K (AC l qs) (a.put o.dst v):=by
    split at h
    ·rename_i hw;obtain⟨v,h1,h2⟩:=h
     grind [ME]
    ·rename_i hw;exact⟨undef,.inr ⟨by simp_all,rfl⟩,h⟩
   obtain⟨v,hy,J⟩:=hy;have X:(k :: qs).length+f=(qs.length+f)+1:=by simp;omega
   rw[X];exact YjG ho (by simp_all) (Region.noSelect_spec hsel) (λc a w h=>hQ c a _ w h) hz _ listed a w hc (Region.free_spec ho hf) Y hy hS (WN hsel hQ hz hK qs _ _ (.inl hS) Z (hc.set Y) J)
theorem ZHG(hsel:Region.noSelect l.toArray=true)(hQ:∀c a b w,Q (.panic c) b w->Q (.panic c) a w)(hz:L2 md l.toArray z=true):
  ∀(segs:List (List Nat×Nat)) (fin:List Nat) (listed:Array Bool) (a:Act) (w:World),I9 md l.toArray z (A1 segs fin) listed=true->BP md l.toArray listed->(S w\/((A1 segs fin).all λx=>x.1)=true)->MW P l S z Q segs fin a w →
   KB P md l.toArray Q S z (A1 segs fin).length listed a w
 | [],fin,listed,a,w,hB,hc,hS,h=>by
  have hS':S w\/fin=[]:=hS.imp id λh=>by
   cases fin with
   | nil=>rfl
   | cons x y=>simp[A1]at h
  have:=WN (R:=[]) (f:=0) (K:=λa'=>Q .normal a' w) hsel hQ hz (λlisted a hB _ h=>⟨by simpa[I9]using hB,h⟩) fin listed a hS' (by simpa[A1]using hB) hc h;simpa[A1]using this
 | (qs,k) :: r,fin,listed,a,w,hB,hc,hS,h=>by
  have hS':S w\/qs=[]:=hS.imp id λh=>by
   cases qs with
   | nil=>rfl
   | cons x y=>simp[A1]at h
  have X:(A1 ((qs,k) :: r) fin).length=qs.length+((A1 r fin).length+1):=by simp[A1]
  rw[X];refine WN hsel hQ hz (λlisted a hB hc h=>?_) qs listed a hS' (by assumption) hc h;simp only[I9,ζd,ζf,ζW]at hB;obtain⟨⟨hr,hkz⟩,Z⟩:=hB;have Y:k∈Region.ready md l.toArray listed:=by rw[hr];simp
  refine⟨λh0=>(by simp_all),λi hi=>?_⟩;rw[hr]at hi;obtain rfl:i=k:=by simp_all
  obtain⟨_,o,ho,_⟩:=mem_ready.1 Y;rw[EI ho]at h;refine MB ho (λa2 w2 h2=>⟨h2.1,ZHG hsel hQ hz r fin _ a2 w2 Z (hc.set Y) ?_ h2.2⟩) h
  grind
theorem H8{qs:List Nat}{k:Nat}{r:List (List Nat×Nat)}{fin:List Nat}{a:Act}{w:World}
  (h:wpQuiet P l.toArray S (λa'=>wpList P l.toArray (Exit.then (λa2 w2=>(z<=k\/S w2)/\MW P l S z Q r fin a2 w2) Q) (AC l [k]) a' w) (AC l qs) a):MW P l S z Q ((qs,k) :: r) fin a w:=h
theorem YqX{fin:List Nat}{a:Act}{w:World}(h:wpQuiet P l.toArray S (λa'=>Q .normal a' w) (AC l fin) a):MW P l S z Q [] fin a w:=h
theorem YvE{id:Nat}{a:Act}{w:World}(S:World->Prop)(z:Nat)(segs:List (List Nat×Nat))(fin:List Nat)(hm:P.follows .mixedOrders=true)
  (hB:(Region.noSelect l.toArray&&L2 .any l.toArray z&&I9 .any l.toArray z (A1 segs fin) (Array.replicate l.toArray.size false)&&(A1 segs fin).length==l.toArray.size)=true) (hS:S w.drew)
  (h:MW P l (λw'=>∃p:AA S,w'=p.w) z (NoPanic Q) segs fin a w.drew):(Code.region id l.toArray true).wp P Q a w:=by
 simp only[ζd,ζ0]at hB;obtain⟨⟨⟨Y,hz⟩,hB⟩,X⟩:=hB;refine wp_region_noPanic (wp_region_any hm ?_);have:=ZHG (P:=P) (Q:=NoPanic Q) (md:=.any) Y (λc a b w h=>h) hz segs fin _ a w.drew hB (BP.none .any l.toArray) (.inl (AA.of hS)) h;rw[X]at this;exact ZmF _ _ _ _ this
end
theorem Vie{n:Nat}(h1:1<=n):n &&& (n-1)=0↔∃k,n=2 ^ k:=by
 constructor
 ·induction n using Nat.strongRecOn with
  | _ n ih=>
   intro h0;by_cases hn:n=1
   ·exact⟨0,hn⟩
   ·have e1:(n &&& (n-1)) >>> 1=n >>> 1 &&& (n-1) >>> 1:=Nat.shiftRight_and_distrib ..;rw[h0]at e1;simp only[Nat.shiftRight_succ,Nat.shiftRight_zero]at e1;rcases Nat.mod_two_eq_zero_or_one n with h|h
    ·rw[show (n-1)/2=n/2-1 by omega]at e1;obtain⟨k,hk⟩:=ih (n/2) Ω Ω Ω;exact⟨k+1,by rw[Nat.pow_succ];omega⟩
    ·rw[show (n-1)/2=n/2 by omega,Nat.and_self]at e1;omega
 ·rintro⟨k,rfl⟩;rw[Nat.and_two_pow_sub_one_eq_mod,Nat.mod_self]
theorem QdJ{a b:Nat}(ha:a<9223372036854775808)(hb:b<9223372036854775808):bits .and .i64 (a:Int) (b:Int)=((a &&& b:Nat):Int):=by
 have h1:(BitVec.ofInt 64 (a:Int)).toNat=a:=by
  rw[BitVec.ofInt_natCast,BitVec.toNat_ofNat];exact ξK Ω
 have h2:(BitVec.ofInt 64 (b:Int)).toNat=b:=by
  rw[BitVec.ofInt_natCast,BitVec.toNat_ofNat];exact ξK Ω
 show IntKind.i64.wrap ((BitVec.ofInt 64 (a:Int) &&& BitVec.ofInt 64 (b:Int)).toNat:Int)=_
 rw[BitVec.toNat_and,h1,h2];have:a &&& b<=a:=ψn;exact ζx _ Ω
theorem XyG{n:Nat}(h:n<9223372036854775808):CQ (n:Int)=true↔∃k,n=2 ^ k:=by
 unfold CQ;by_cases h0:n=0
 ·subst h0;refine⟨λh=>by simp at h,λ⟨k,hk⟩=>?_⟩;have:=Nat.two_pow_pos k;omega
 ·rw[θ Ω,ξP,show ((n:Int)-1)=((n-1:Nat):Int)by omega,QdJ h Ω,<-Vie Ω];simp
def EC(n lo hi:Int):Bool:=CQ n&&decide (lo<=n)&&decide (n<=hi)
theorem IM{n lo hi:Int}(h:EC n lo hi=true):lo<=n/\n<=hi/\CQ n=true:=by
 unfold EC at h;simp at h;exact⟨h.1.2,h.2,h.1.1⟩
theorem VI(n:Int):EC n 1 1024=BJ n:=by
 rw[MH];unfold EC;cases h:CQ n with
 | false=>rfl
 | true=>
  have:0<n:=by
   unfold CQ at h;simp at h;exact h.1
  rw[θ (show (1:Int)<=n by omega),ξP]
theorem V2o{a b:Nat}(ha:CQ (a:Int)=true)(hb:CQ (b:Int)=true)(ha2:a<9223372036854775808)(hb2:b<9223372036854775808)(h:a<=b):b%a=0:=by
 obtain⟨i,rfl⟩:=(XyG ha2).1 ha;obtain⟨j,rfl⟩:=(XyG hb2).1 hb;have X:i<=j:=(Nat.pow_le_pow_iff_right (by decide)).1 h;exact Nat.mod_eq_zero_of_dvd (Nat.pow_dvd_pow 2 X)
theorem QV(l:List Nat)(i j y:Nat):(l.set i y).getD j 0=if j=i/\i<l.length then y else l.getD j 0:=by
 rw[δ,δ,ξQ];by_cases e:i=j
 ·subst e;by_cases h:i<l.length
  ·rw[μ rfl,μ h,μ ⟨rfl,h⟩];rfl
  ·rw[μ rfl,κ h,κ (λhh=>h hh.2),ζv Ω]
 ·rw[κ e,κ (λhh=>e hh.1.symm)]
def NH(o:Oper):Bool:=match o.op with| .extract .. | .move _| .assign _=>true|_=>false
section
variable {P:Program} {ops:Array Oper} {Q:Exit->Act->World->Prop} {md:Region.Mode} {S:World->Prop}
def H5(ops:Array Oper)(k:Nat):Bool:=(ops[k]?).any NH
theorem J27{o:Oper}{v:Value}{a:Act}{w0:World}(hp:NH o=true)(hy:YieldsIf P ops S o v a)(hS:S w0):YieldsIf P ops (λ_=>True) o v a:=by
 rcases hy with⟨hw,hv⟩|⟨hw,rfl⟩
 ·refine .inl ⟨hw,λw _=>?_⟩;have h:=hv w0 hS;unfold NH at hp
  split at hp
  ·rename_i t ix he;unfold execOp at h⊢;rw[he]at h⊢;simp only[Instr.extract]at h⊢
   split at h
   ·split at h
    ·simp[go_sem]at h⊢;exact h
    ·simp[go_sem]at h
   ·simp[go_sem]at h
  ·rename_i x he;unfold execOp at h⊢;rw[he]at h⊢;simp[go_sem]at h⊢;exact h
  ·rename_i x he;unfold execOp at h⊢;rw[he]at h⊢;simp[go_sem]at h⊢;exact h
  ·cases hp
 ·exact .inr ⟨hw,rfl⟩
def KR(P:Program)(md:Region.Mode)(ops:Array Oper)(Q:Exit->Act->World->Prop)(S:World->Prop)(z:Nat):Nat->Array Bool->Act->World->Prop
 | 0,listed,a,w=>Region.ready md ops listed=[]/\Q .normal a w
 | f+1,listed,a,w=>
  (Region.ready md ops listed=[]->Q .normal a w) ∧
  ∀i∈Region.ready md ops listed,wpOp P ops Q i (λa' w'=>(i=z\/(S w->S w'))/\KR P md ops Q S z f (listed.setIfInBounds i true) a' w') a w
theorem Vfs{z:Nat}:∀(f:Nat) (listed:Array Bool) (a:Act) (w:World),KR P md ops Q S z f listed a w->wpAny P md ops Q f listed a w
 | 0,_,_,_,h=>h
 | f+1,_,_,_,h=>⟨h.1,λi hi=>wpOp_mono (λa' w' h'=>Vfs f _ a' w' h'.2) (h.2 i hi)⟩
def M4(md:Region.Mode)(ops:Array Oper)(z:Nat):Bool:=(List.range ops.size).all λi=>decide (i=z)||H5 ops i||anc md ops ops.size z i
theorem XTA{listed:Array Bool}{z i:Nat}(hz:M4 md ops z=true)(h:BP md ops listed)(hr:z∈Region.ready md ops listed)(hi:i<ops.size)(hne:i≠z)(hp:H5 ops i=false):listed.getD i false=true:=by
 obtain⟨_,oz,Y,X⟩:=mem_ready.1 hr;simp only[M4,ζW,ζf,ζ8,ξf]at hz
 have h3:anc md ops ops.size z i=true:=by
  rcases hz i hi with(h1|h1)|h1
  ·exact absurd h1 hne
  ·rw[hp]at h1;cases h1
  ·exact h1
 exact PF h _ z i oz Y X h3
theorem VAh{z i:Nat}{oi:Oper}{v:Value}(hi:ops[i]?=some oi)(hne:i≠z)(hsel:∀(j:Nat) (o:Oper) cs b,ops[j]?=some o->o.op≠.select cs b)
  (hQ:∀c a w,Q (.panic c) (a.put oi.dst v) w->Q (.panic c) a w) (hz:M4 md ops z=true) {S':World->Prop} (hS':(S'=S/\H5 ops i=false)\/S'=λ_=>True):
  ∀(f:Nat) (listed:Array Bool) (a:Act) (w:World),BP md ops listed →
   (∀j oj,ops[j]?=some oj->j≠i->listed.getD j true=false->(∀e∈oj.after,Region.binds md e=true->e.on≠i)->oi.apart ops oj=true) →
   i∈Region.ready md ops listed->YieldsIf P ops S' oi v a->S' w →
   KR P md ops Q S z f (listed.setIfInBounds i true) (a.put oi.dst v) w->KR P md ops Q S z (f+1) listed a w:=by
 intro f
 induction f with
 | zero=>
  intro listed a w _ _ hr hy hS H;refine⟨λh=>(by rw[h]at hr;cases hr),λj hj=>?_⟩;by_cases X:j=i
  ·subst X;exact hy.wpOp hi hS ⟨.inr id,H⟩
  ·have:=ready_mono hj X;rw[H.1]at this;cases this
 | succ f ih=>
  intro listed a w I Y hr hy hS H;refine⟨λh=>(by rw[h]at hr;cases hr),λj hj=>?_⟩;by_cases X:j=i
  ·subst X;exact hy.wpOp hi hS ⟨.inr id,H⟩
  ·have h1:=H.2 j (ready_mono hj X);obtain⟨U,oj,V,O⟩:=mem_ready.1 hj;have Z:=(mem_ready.1 hr).1;have M:∀e∈oj.after,Region.binds md e=true->e.on≠i:=λe he hb heq=>JP Z (heq▸O e he hb);have h2:=wpOp_putIf V (Y j oj V X U M) (λcs b=>hsel i oi cs b hi) (λcs b=>hsel j oj cs b V) hQ hy h1
   have J:∀k ok,ops[k]?=some ok->k≠i->(listed.setIfInBounds j true).getD k true=false →
     (∀e∈ok.after,Region.binds md e=true->e.on≠i)->oi.apart ops ok=true:=λk ok hk hki Z hno=>by
    refine Y k ok hk hki ?_ hno;by_cases G:j=k
    ·subst G;exact U
    ·rw[getD_set_ne true G]at Z;exact Z
   refine wpOp_mono (λa' w' h3=>?_) h2;obtain⟨h3,h4,h5⟩:=h3
   have Xa:S' w':=by
    rcases hS' with⟨rfl,A⟩|rfl
    ·rcases h4 with h4|h4
     ·subst h4;exact(JP Z (XTA hz I hj (ζn.1 hi).1 hne A)).elim
     ·exact h4 hS
    ·trivial
   refine⟨h4,ih (listed.setIfInBounds j true) a' w' (I.set hj) J (ready_mono hr (Ne.symm X)) h3 Xa ?_⟩;rw[ξY _ _ X];exact h5
def I5(md:Region.Mode)(ops:Array Oper)(z:Nat):List (Bool×Nat)->Array Bool->Bool
 | [],listed=>(Region.ready md ops listed).isEmpty
 | (true,k) :: r,listed=>decide (Region.ready md ops listed=[k])&&(decide (k≠z)||r.all λx=>x.1||H5 ops x.2)&&I5 md ops z r (listed.setIfInBounds k true)
 | (false,k) :: r,listed=>(Region.ready md ops listed).contains k&&Region.free md ops listed k&&((ops[k]?).any G5)&&decide (k≠z)&&I5 md ops z r (listed.setIfInBounds k true)
def M5(P:Program)(l:List Oper)(S:World->Prop)(z:Nat)(Q:Exit->Act->World->Prop):List (List Nat×Nat)->List Nat->Act->World->Prop
 | [],fin,a,w=>wpQuiet P l.toArray S (λa'=>Q .normal a' w) (AC l fin) a
 | (qs,k) :: r,fin,a,w=>wpQuiet P l.toArray S (λa'=>wpList P l.toArray (Exit.then (λa2 w2=>(k=z\/S w2)/\M5 P l S z Q r fin a2 w2) Q) (AC l [k]) a' w) (AC l qs) a
end
section
variable {P:Program} {l:List Oper} {Q:Exit->Act->World->Prop} {md:Region.Mode} {S:World->Prop} {z:Nat}
theorem V0(hsel:Region.noSelect l.toArray=true)(hQ:∀c a b w,Q (.panic c) b w->Q (.panic c) a w)(hz:M4 md l.toArray z=true){w w0:World}(hw0:S w0){K:Act->Prop}{R:List (Bool×Nat)}{f:Nat}
  (hK:∀listed a,I5 md l.toArray z R listed=true->BP md l.toArray listed->K a->KR P md l.toArray Q S z f listed a w):
  ∀(qs:List Nat) (listed:Array Bool) (a:Act),(S w\/(qs.all λk=>H5 l.toArray k)=true)->I5 md l.toArray z (qs.map (λk=>(false,k))++R) listed=true->BP md l.toArray listed->wpQuiet P l.toArray S K (AC l qs) a →
   KR P md l.toArray Q S z (qs.length+f) listed a w
 | [],listed,a,_,hB,hc,h=>by simpa using hK listed a hB hc h
 | k :: qs,listed,a,hS,hB,hc,h=>by
  simp only[ξG,ζu,I5,ζd]at hB;obtain⟨⟨⟨⟨hr,hf⟩,hq⟩,hkz⟩,hB'⟩:=hB;cases ho:l.toArray[k]? with
  | none=>rw[ho]at hq;cases hq
  | some o=>
   rw[ho]at hq;have hq:G5 o=true:=hq;have Y:k∈Region.ready md l.toArray listed:=by simpa using hr
   rw[EI ho]at h;simp only[wpQuiet]at h
   have hy:∃v,YieldsIf P l.toArray S o v a/\wpQuiet P l.toArray S K (AC l qs) (a.put o.dst v):=by
    split at h
    ·rename_i hw;obtain⟨v,h1,h2⟩:=h;exact⟨v,ME hq hw h1,h2⟩
    ·rename_i hw;exact⟨undef,.inr ⟨by simpa using hw,rfl⟩,h⟩
   obtain⟨v,hy,V⟩:=hy;have Z:(k :: qs).length+f=(qs.length+f)+1:=by simp;omega
   have J:H5 l.toArray k=NH o:=by unfold H5;rw[ho];rfl
   have X:=V0 hsel hQ hz hw0 hK qs (listed.setIfInBounds k true) (a.put o.dst v) (hS.imp id λhS=>by simp only[List.all_cons,ζd]at hS;exact hS.2) hB' (hc.set Y) V;rw[Z];cases hp:NH o with
   | true=>
    exact VAh ho (by simpa using hkz) (Region.noSelect_spec hsel) (λc a w h=>hQ c a _ w h) hz (S':=λ_=>True) (.inr rfl) _ listed a w hc (Region.free_spec ho hf) Y (J27 hp hy hw0) trivial X
   | false=>
    have U:S w:=hS.resolve_right (λhS=>by simp only[List.all_cons,ζd]at hS;rw[J,hp]at hS;exact Bool.false_ne_true hS.1);exact VAh ho (by simpa using hkz) (Region.noSelect_spec hsel) (λc a w h=>hQ c a _ w h) hz (S':=S) (.inl ⟨rfl,J.trans hp⟩) _ listed a w hc (Region.free_spec ho hf) Y hy U X
theorem X2(hsel:Region.noSelect l.toArray=true)(hQ:∀c a b w,Q (.panic c) b w->Q (.panic c) a w)(hz:M4 md l.toArray z=true){w0:World}(hw0:S w0):
  ∀(segs:List (List Nat×Nat)) (fin:List Nat) (listed:Array Bool) (a:Act) (w:World),I5 md l.toArray z (A1 segs fin) listed=true->BP md l.toArray listed->(S w\/((A1 segs fin).all λx=>x.1||H5 l.toArray x.2)=true)->M5 P l S z Q segs fin a w →
   KR P md l.toArray Q S z (A1 segs fin).length listed a w
 | [],fin,listed,a,w,hB,hc,hS,h=>by
  have hS':S w\/(fin.all λk=>H5 l.toArray k)=true:=hS.imp id λh=>by
   simp only[A1,List.all_map]at h;rw[ζ8]at h⊢;intro k hk;simpa using h k hk
  have:=V0 (R:=[]) (f:=0) (K:=λa'=>Q .normal a' w) hsel hQ hz hw0 (λlisted a hB _ h=>⟨by simpa[I5]using hB,h⟩) fin listed a hS' (by simpa[A1]using hB) hc h;simpa[A1]using this
 | (qs,k) :: r,fin,listed,a,w,hB,hc,hS,h=>by
  have hS':S w\/(qs.all λk=>H5 l.toArray k)=true:=hS.imp id λh=>by
   simp only[A1,List.all_append,List.all_map,ζd]at h;have h:=h.1;rw[ζ8]at h⊢;intro k hk;simpa using h k hk
  have X:(A1 ((qs,k) :: r) fin).length=qs.length+((A1 r fin).length+1):=by simp[A1]
  rw[X];refine V0 hsel hQ hz hw0 (λlisted a hB hc h=>?_) qs listed a hS' (by simpa[A1]using hB) hc h;simp only[I5,ζd,ζf,ζW]at hB;obtain⟨⟨hr,J⟩,Z⟩:=hB;have Y:k∈Region.ready md l.toArray listed:=by rw[hr];simp
  refine⟨λh0=>(by rw[hr]at h0;cases h0),λi hi=>?_⟩;rw[hr]at hi;obtain rfl:i=k:=by simpa using hi
  obtain⟨_,o,ho,_⟩:=mem_ready.1 Y;rw[EI ho]at h;refine MB ho (λa2 w2 h2=>⟨h2.1.imp id (λh _=>h),X2 hsel hQ hz hw0 r fin _ a2 w2 Z (hc.set Y) ?_ h2.2⟩) h;rcases h2.1 with h3|h3
  ·exact .inr (J.resolve_left (λh=>h h3))
  ·exact .inl h3
theorem VvO{qs:List Nat}{k:Nat}{r:List (List Nat×Nat)}{fin:List Nat}{a:Act}{w:World}
  (h:wpQuiet P l.toArray S (λa'=>wpList P l.toArray (Exit.then (λa2 w2=>(k=z\/S w2)/\M5 P l S z Q r fin a2 w2) Q) (AC l [k]) a' w) (AC l qs) a):M5 P l S z Q ((qs,k) :: r) fin a w:=h
theorem JV4{fin:List Nat}{a:Act}{w:World}(h:wpQuiet P l.toArray S (λa'=>Q .normal a' w) (AC l fin) a):M5 P l S z Q [] fin a w:=h
theorem Ztp{id:Nat}{a:Act}{w:World}(S:World->Prop)(z:Nat)(segs:List (List Nat×Nat))(fin:List Nat)(hm:P.follows .mixedOrders=true)
  (hB:(Region.noSelect l.toArray&&M4 .any l.toArray z&&I5 .any l.toArray z (A1 segs fin) (Array.replicate l.toArray.size false)&&(A1 segs fin).length==l.toArray.size)=true) (hS:S w.drew)
  (h:M5 P l (λw'=>∃p:AA S,w'=p.w) z (NoPanic Q) segs fin a w.drew):(Code.region id l.toArray true).wp P Q a w:=by
 simp only[ζd,ζ0]at hB;obtain⟨⟨⟨Y,hz⟩,hB⟩,X⟩:=hB;refine wp_region_noPanic (wp_region_any hm ?_);have:=X2 (P:=P) (Q:=NoPanic Q) (md:=.any) (S:=λw'=>∃p:AA S,w'=p.w) Y (λc a b w h=>h) hz (AA.of hS) segs fin _ a w.drew hB (BP.none .any l.toArray) (.inl (AA.of hS)) h;rw[X]at this;exact Vfs _ _ _ _ this
end
theorem ZaP{W:World}{b:Nat}{T:TypeId}{xs:List Value}(h:Rec W b T xs):∀(n i:Nat) (acc:Array Value),i+n=xs.length->(loadCellsFrom ⟨b,0,none⟩ i n acc).run prog W=.ok (acc++(xs.drop i).toArray) W:=by
 intro n
 induction n with
 | zero=>
  intro i acc hi;rw[List.drop_eq_nil_of_le Ω];simp[loadCellsFrom,go_sem]
 | succ n ih=>
  intro i acc hi;have hc:=h.cell (j:=i) (u:=xs[i]' Ω) (ζb _);have e:Addr.add ⟨b,0,none⟩ i=⟨b,i,none⟩:=by unfold Addr.add;split <;> simp_all
  unfold loadCellsFrom;simp only[Sem.run_bind];rw[show (load (Addr.add ⟨b,0,none⟩ i)).run prog W=.ok (xs[i]' Ω) W by rw[e];simp[go_sem,hc]];simp only[Result.andThen];rw[ih (i+1) _ Ω,ξD (show i<xs.length by omega)];simp
theorem MN{W:World}{b:Nat}{T:TypeId}{xs:List Value}(h:Rec W b T xs)(hA:(isAgg T).run prog W=.ok true W)(hS:(sizeOf T).run prog W=.ok xs.length W):(loadVar T ⟨b,0,none⟩).run prog W=.ok (.agg xs.toArray) W:=by
 have:=ZaP h xs.length 0 #[] Ω;simp only[List.drop_zero,Array.empty_append]at this;simp[loadVar,Sem.run_bind,hA,hS,Result.andThen,loadCells,this,go_sem]
theorem Qwi(a:Addr)(k:FloatKind)(b:Nat)(w:World):(store a (.float k b)).run prog w=stored prog w a (.float k b) .plain:=run_store _ _ _ _ _ rfl
section
variable {g:Gph} {s a b y j:Nat} {i:Int} {o:GOb}
theorem Gph.sl_lt(h:s<g.S.length):g.sl (s:Int)=true:=by
 unfold Gph.sl;rw[θ Ω,θ Ω];rfl
theorem Gph.fd_ob(hs:s<g.S.length)(hy:g.S.getD s 0=y)(h0:y≠0)(ho:g.ob y=o){kd:Int}(hij:i=(j:Int))(hk:BN o.hdr i=kd)(hk0:kd≠0):g.fdE s i kd=0/\g.fdV s i kd=o.w.getD j 0:=by
 have X:g.at (s:Int)=y:=hy
 have e:g.fdE s i kd=0:=by
  unfold Gph.fdE;rw[g.sl_lt hs,μ rfl,X,κ h0,ho,hk,κ hk0,μ rfl]
 refine⟨e,?_⟩;unfold Gph.fdV;rw[μ e,X,ho,hij];rfl
theorem Gph.two_ok(ha:a<g.S.length)(hb:b<g.S.length)(e:Int):g.two a b e=e:=by
 unfold Gph.two;rw[g.sl_lt ha,g.sl_lt hb];rfl
theorem Gph.loG_ob(ha:a<g.S.length)(hb:b<g.S.length)(hy:g.S.getD b 0=y)(h0:y≠0)(ho:g.ob y=o)(hij:i=(j:Int))(hk:BN o.hdr i=1):g.loE a b i=0/\g.loG a b i=⟨g.L,g.S.set a (o.w.getD j 0)⟩:=by
 obtain⟨h1,h2⟩:=g.fd_ob hb hy h0 ho hij hk (by decide);have e:g.loE a b i=0:=by unfold Gph.loE;rw[g.two_ok ha hb,h1]
 refine⟨e,?_⟩;unfold Gph.loG;rw[μ e,h2];rfl
theorem Gph.stG_ob(ha:a<g.S.length)(hb:b<g.S.length)(hy:g.S.getD a 0=y)(h0:y≠0)(ho:g.ob y=o)(hij:i=(j:Int))(hk:BN o.hdr i=1):g.stE a i b=0/\g.stG a i b=g.put y j (g.S.getD b 0):=by
 obtain⟨h1,-⟩:=g.fd_ob ha hy h0 ho hij hk (by decide);have e:g.stE a i b=0:=by unfold Gph.stE;rw[g.two_ok ha hb,h1]
 refine⟨e,?_⟩;unfold Gph.stG Gph.setFd;rw[μ e,show g.at (a:Int)=y from hy,hij];rfl
theorem Gph.wrG_ob(hs:s<g.S.length)(hy:g.S.getD s 0=y)(h0:y≠0)(ho:g.ob y=o){kd:Int}(hij:i=(j:Int))(hk:BN o.hdr i=kd)(hk0:kd≠0)(v:Nat):g.wrG s i kd v=g.put y j v:=by
 unfold Gph.wrG Gph.setFd;rw[μ (g.fd_ob hs hy h0 ho hij hk hk0).1,show g.at (s:Int)=y from hy,hij];rfl
theorem Gph.cpG_ok(ha:a<g.S.length)(hb:b<g.S.length):g.cpG a b=⟨g.L,g.S.set a (g.S.getD b 0)⟩:=by
 unfold Gph.cpG;rw[g.sl_lt ha,g.sl_lt hb];rfl
theorem Gph.clG_ok(ha:a<g.S.length):g.clG a=⟨g.L,g.S.set a 0⟩:=by
 unfold Gph.clG;rw[g.sl_lt ha];rfl
theorem Gph.shE_ok(hs:s<g.S.length):g.shE s=if g.S.getD s 0=0 then 18 else 0:=by
 unfold Gph.shE;rw[g.sl_lt hs];rfl
theorem DA{l:List Nat}{i j v:Nat}(h:i≠j):(l.set i v).getD j 0=l.getD j 0:=by
 rw[δ,List.getElem?_set_ne h,<-δ]
theorem EM{l:List Nat}{i v:Nat}(h:i<l.length):(l.set i v).getD i 0=v:=by
 rw[δ,List.getElem?_set_self h];rfl
theorem TF{l:List Nat}{i:Nat}(h:i<l.length):l.set i (l.getD i 0)=l:=by
 refine ζ4 (by simp) (λj h1 h2=>?_);rw[ψj]
 split
 ·rename_i e;subst e;rw[δ,ζb h];rfl
 ·rfl
theorem Gph.all_of(hk:g.Ok){T:List Nat}(hn:T.Nodup)(h1:∀r∈g.S,r≠0->r∈T)(h2:∀x∈T,∀z∈g.pts x,z≠0->z∈T)(h3:∀x∈T,g.Rd x):g.all.length=T.length/\g.words=(T.map λx=>(g.ob x).size).sum:=by
 have hm:∀x,x∈g.all↔x∈T:=λx=>by
  rw[hk.mem_all];exact⟨λhx=>hx (λx=>x∈T) h1 h2,h3 x⟩
 have X:g.all.Nodup:=(XF g.pts g.L.length g.S).1;have hp:g.all.Perm T:=(List.perm_ext_iff_of_nodup X hn).2 hm;exact⟨hp.length_eq,(hp.map _).sum_nat⟩
end
def ndO(nx f w:Nat):GOb:=⟨1,1,1,[nx,f,w]⟩
theorem IQ(nx f w:Nat):BN (ndO nx f w).hdr 0=1/\BN (ndO nx f w).hdr 1=2/\BN (ndO nx f w).hdr 2=3:=by
 rw[show (ndO nx f w).hdr=(⟨1,1,1⟩:Hdr)from rfl];exact⟨by decide,by decide,by decide⟩
structure Nd(g:Gph)(y nx f w:Nat):Prop where
 h1:1<=y
 h2:y<=g.L.length
 ob:g.ob y=ndO nx f w
def Chn(g:Gph):Nat->List Nat->List (Nat×Nat)->Prop
 | y,[],D=>y=0/\D=[]
 | y,x :: T,D=>y=x/\∃f w nx D',D=(w,f) :: D'/\Nd g x nx f w/\Chn g nx T D'
section
variable {g:Gph} {hd at_ off:Nat}
theorem Nd.slots{y nx f w:Nat}(h:Nd g y nx f w)(S:List Nat):Nd ⟨g.L,S⟩ y nx f w:=⟨h.h1,h.h2,h.ob⟩
theorem Chn.slots(S:List Nat):∀{T:List Nat} {y:Nat} {D:List (Nat×Nat)},Chn g y T D->Chn ⟨g.L,S⟩ y T D
 | [],_,_,h=>h
 | _ :: _,_,_,⟨e,f,w,nx,D',h1,h2,h3⟩=>⟨e,f,w,nx,D',h1,h2.slots S,h3.slots S⟩
theorem Nd.put{y nx f w x i v:Nat}(h:Nd g y nx f w)(h1:1<=x)(h2:x<=g.L.length)(hne:y≠x):Nd (g.put x i v) y nx f w:=
 ⟨h.h1,by show y<=(g.L.set _ _).length;rw[ν];exact h.h2,by rw[Gph.put_ob h1 h2,κ hne];exact h.ob⟩
theorem Chn.put{x i v:Nat}(h1:1<=x)(h2:x<=g.L.length):∀{T:List Nat} {y:Nat} {D:List (Nat×Nat)},Chn g y T D->¬x∈T->Chn (g.put x i v) y T D
 | [],_,_,h,_=>h
 | z :: T,_,_,⟨e,f,w,nx,D',a1,a2,a3⟩,hx=>⟨e,f,w,nx,D',a1,a2.put h1 h2 (λe=>hx (by simp_all)),a3.put h1 h2 (λhm=>hx (ζA _ hm))⟩
theorem Nd.add{y nx f w s p q k:Nat}(h:Nd g y nx f w):Nd (g.add s p q k) y nx f w:=
 ⟨h.h1,by show y<=(g.L++[_]).length;rw[ζh];have:=h.h2;omega,by rw[Gph.add_ob _ h.h2];exact h.ob⟩
theorem Chn.add{s p q k:Nat}:∀{T:List Nat} {y:Nat} {D:List (Nat×Nat)},Chn g y T D->Chn (g.add s p q k) y T D
 | [],_,_,h=>h
 | _ :: _,_,_,⟨e,f,w,nx,D',a1,a2,a3⟩=>⟨e,f,w,nx,D',a1,a2.add,a3.add⟩
theorem Chn.mem:∀{T:List Nat} {y:Nat} {D:List (Nat×Nat)},Chn g y T D->∀x∈T,1<=x/\x<=g.L.length
 | [],_,_,_,_,hx=>by cases hx
 | z :: T,_,_,⟨_,f,w,nx,D',_,a2,a3⟩,x,hx=>by
  rcases ξg.1 hx with rfl|hx
  ·exact⟨a2.h1,a2.h2⟩
  ·exact a3.mem x hx
theorem Chn.len:∀{T:List Nat} {y:Nat} {D:List (Nat×Nat)},Chn g y T D->T.length=D.length
 | [],_,_,⟨_,e⟩=>by rw[e];rfl
 | _ :: _,_,_,⟨_,_,_,_,_,e,_,a3⟩=>by rw[e];simp[a3.len]
theorem Chn.nil{y:Nat}{T:List Nat}{D:List (Nat×Nat)}(h:Chn g y T D)(h0:y=0):T=[]/\D=[]:=by
 cases T with
 | nil=>exact⟨rfl,h.2⟩
 | cons x T=>
  obtain⟨e,f,w,nx,D',a1,a2,a3⟩:=h;have:=a2.h1;omega
theorem Chn.head{y:Nat}{T:List Nat}{D:List (Nat×Nat)}(h:Chn g y T D)(h0:y≠0):∃T' f w nx D',T=y :: T'/\D=(w,f) :: D'/\Nd g y nx f w/\Chn g nx T' D':=by
 cases T with
 | nil=>exact absurd h.1 h0
 | cons x T=>
  obtain⟨rfl,f,w,nx,D',a1,a2,a3⟩:=h
  grind
theorem Chn.rd:∀{T:List Nat} {y:Nat} {D:List (Nat×Nat)},Chn g y T D->(y≠0->g.Rd y)->∀x∈T,g.Rd x
 | [],_,_,_,_,_,hx=>by cases hx
 | z :: T,y,_,⟨e,f,w,nx,D',_,a2,a3⟩,hy,x,hx=>by
  subst e;have hr:g.Rd y:=hy (by have:=a2.h1;omega);rcases ξg.1 hx with rfl|hx
  ·exact hr
  ·refine a3.rd (λh0=>hr.step ?_ h0) x hx;unfold Gph.pts;rw[a2.ob];exact ζq ..
theorem Chn.shut:∀{T:List Nat} {y:Nat} {D:List (Nat×Nat)},Chn g y T D->∀x∈T,∀z∈g.pts x,z≠0->z∈T
 | [],_,_,_,_,hx=>by cases hx
 | z :: T,y,_,⟨_,f,w,nx,D',_,a2,a3⟩,x,hx=>by
  intro v hv h0;rcases ξg.1 hx with rfl|hx
  ·unfold Gph.pts at hv;rw[a2.ob]at hv;obtain rfl:v=nx:=by simpa[ndO]using hv
   obtain⟨T',_,_,_,_,e,-⟩:=a3.head h0
   simp_all
  ·exact ζA _ (a3.shut x hx v hv h0)
theorem Chn.sizes:∀{T:List Nat} {y:Nat} {D:List (Nat×Nat)},Chn g y T D->(T.map λx=>(g.ob x).size).sum=4*T.length
 | [],_,_,_=>rfl
 | x :: T,_,_,⟨_,f,w,nx,D',_,a2,a3⟩=>by
  rw[ξG,List.sum_cons,a3.sizes,a2.ob]
  show 1+1+1+1+_=4*(T.length+1)
  omega
structure LsG(g:Gph)(hd at_ off:Nat)(T:List Nat)(D:List (Nat×Nat)):Prop where
 h1:hd<g.S.length
 h2:at_<g.S.length
 h3:off<g.S.length
 d1:hd≠at_
 d2:hd≠off
 d3:at_≠off
 z2:g.S.getD at_ 0=0
 z3:g.S.getD off 0=0
 ch:Chn g (g.S.getD hd 0) T D
 nd:T.Nodup
def LH(g:Gph)(hd:Nat):Prop:=∀j,j≠hd->g.S.getD j 0=0
theorem LsG.live{T:List Nat}{D:List (Nat×Nat)}(h:LsG g hd at_ off T D)(hk:g.Ok)(ha:LH g hd):g.all.length=D.length/\g.words=4*D.length:=by
 have h1:∀r∈g.S,r≠0->r∈T:=λr hr h0=>by
  obtain⟨j,hj,e⟩:=ψu.1 hr;have e2:g.S.getD j 0=r:=by simp_all
  by_cases ej:j=hd
  ·subst ej;rw[<-e2]at h0⊢;obtain⟨T',_,_,_,_,e3,-⟩:=h.ch.head h0
   simp_all
  ·rw[ha j ej]at e2;omega
 have hr:g.S.getD hd 0≠0->g.Rd (g.S.getD hd 0):=λh0=>Gph.Rd.root (by grind) h0;obtain⟨a,b⟩:=Gph.all_of hk h.nd h1 h.ch.shut (h.ch.rd hr);rw[a,b,h.ch.sizes,h.ch.len];omega
def DJ(at_ off:Nat)(g:Gph):Gph:=(g.clG at_).clG off
def IA(hd at_ off w f C:Nat)(g:Gph):Gph:=
 if g.alE C at_ ⟨1,1,1⟩=0 then
  DJ at_ off (((((g.alG C at_ ⟨1,1,1⟩).wrG at_ 2 3 w).wrG at_ 1 2 f).stG at_ 0 hd).cpG hd at_)
 else g
def DX(at_:Nat):Nat->Gph->Gph
 | 0,g=>g
 | i+1,g=>if g.shE at_=0 then DX at_ i (g.loG at_ at_ 0)else g
end
section
variable {g:Gph} {hd at_ off C:Nat} {T:List Nat} {D:List (Nat × Nat)}
theorem WF(h2:at_<g.S.length)(h3:off<g.S.length):DJ at_ off g=⟨g.L,(g.S.set at_ 0).set off 0⟩:=by
 unfold DJ
 grind [Gph.clG_ok,ν]
theorem LsG.al(h:LsG g hd at_ off T D):g.alE C at_ ⟨1,1,1⟩=if (C:Int)<g.words+4 then 21 else 0:=by
 unfold Gph.alE;rw[g.sl_lt h.h2,μ rfl,show CM ⟨1,1,1⟩=0 by decide,show CG ⟨1,1,1⟩=4 by decide];rfl
theorem ZpA(h:LsG g hd at_ off T D)(he:g.alE C at_ ⟨1,1,1⟩=0)(w f:Nat):
  IA hd at_ off w f C g=⟨((((g.add at_ 1 1 1).put (g.L.length+1) 2 w).put (g.L.length+1) 1 f).put (g.L.length+1) 0 (g.S.getD hd 0)).L,g.S.set hd (g.L.length+1)⟩:=by
 unfold IA;rw[μ he];have e1:g.alG C at_ ⟨1,1,1⟩=g.add at_ 1 1 1:=by unfold Gph.alG;rw[μ he];rfl
 rw[e1];have l1:(g.add at_ 1 1 1).L.length=g.L.length+1:=by show (g.L++[_]).length=_;rw[ζh];rfl
 have s1:(g.add at_ 1 1 1).S=g.S.set at_ (g.L.length+1):=rfl;have a1:at_<(g.add at_ 1 1 1).S.length:=by rw[s1,ν];exact h.h2
 have v1:(g.add at_ 1 1 1).S.getD at_ 0=g.L.length+1:=by rw[s1,EM h.h2]
 have o1:(g.add at_ 1 1 1).ob (g.L.length+1)=ndO 0 0 0:=Gph.add_new;rw[Gph.wrG_ob (i:=2) (j:=2) a1 v1 Ω o1 rfl (IQ 0 0 0).2.2 (by decide)];have o2:((g.add at_ 1 1 1).put (g.L.length+1) 2 w).ob (g.L.length+1)=ndO 0 0 w:=by rw[Gph.put_ob Ω Ω,μ rfl,o1];rfl
 rw[Gph.wrG_ob (i:=1) (j:=1) (g:=(g.add at_ 1 1 1).put (g.L.length+1) 2 w) a1 v1 Ω o2 rfl (IQ 0 0 w).2.1 (by decide)];have l2:((g.add at_ 1 1 1).put (g.L.length+1) 2 w).L.length=g.L.length+1:=by show (List.set _ _ _).length=_;rw[ν,l1]
 have o3:(((g.add at_ 1 1 1).put (g.L.length+1) 2 w).put (g.L.length+1) 1 f).ob (g.L.length+1)=ndO 0 f w:=by rw[Gph.put_ob Ω Ω,μ rfl,o2];rfl
 have b1:hd<(g.add at_ 1 1 1).S.length:=by rw[s1,ν];exact h.h1
 rw[(Gph.stG_ob (i:=0) (j:=0) (g:=((g.add at_ 1 1 1).put (g.L.length+1) 2 w).put (g.L.length+1) 1 f) a1 b1 v1 Ω o3 rfl (IQ 0 f w).1).2]
 have v2:(((g.add at_ 1 1 1).put (g.L.length+1) 2 w).put (g.L.length+1) 1 f).S.getD hd 0=g.S.getD hd 0:=by
  show (g.S.set at_ _).getD hd 0=_
  rw[DA h.d1.symm]
 rw[v2];rw[Gph.cpG_ok (g:=(((g.add at_ 1 1 1).put (g.L.length+1) 2 w).put (g.L.length+1) 1 f).put (g.L.length+1) 0 (g.S.getD hd 0)) b1 a1];rw[WF (by rw[ν];exact a1) (by rw[ν,show ((((g.add at_ 1 1 1).put (g.L.length+1) 2 w).put (g.L.length+1) 1 f).put (g.L.length+1) 0 (g.S.getD hd 0)).S=g.S.set at_ (g.L.length+1)from rfl,ν];exact h.h3)]
 show (⟨_,((((g.S.set at_ (g.L.length+1)).set hd ((g.S.set at_ (g.L.length+1)).getD at_ 0)).set at_ 0).set off 0)⟩:Gph)=_
 rw[EM h.h2];congr 1;refine ζ4 (by simp) (λj j1 j2=>?_);have z2:∀hj:at_<g.S.length,g.S[at_]=0:=λhj=>by have:=h.z2;rw[δ,ζb hj]at this;exact this
 have z3:∀hj:off<g.S.length,g.S[off]=0:=λhj=>by have:=h.z3;rw[δ,ζb hj]at this;exact this
 have d1:=h.d1;have d2:=h.d2;simp only[ψj];by_cases e3:off=j
 ·subst e3;rw[μ rfl,κ d2,z3 h.h3]
 ·rw[κ e3];by_cases e2:at_=j
  ·subst e2;rw[μ rfl,κ d1,z2 h.h2]
  ·rw[κ e2];by_cases e1:hd=j
   ·rw[μ e1,μ e1]
   ·rw[κ e1,κ e1,κ e2]
structure UV(g g':Gph)(hd at_ off:Nat)(T:List Nat)(D:List (Nat×Nat))(w f:Nat):Prop where
 ls:LsG g' hd at_ off ((g.L.length+1) :: T) ((w,f) :: D)
 S:g'.S=g.S.set hd (g.L.length+1)
 ob:∀x,x<=g.L.length->g'.ob x=g.ob x
 len:g'.L.length=g.L.length+1
 ok:g'.Ok
theorem LsG.push(h:LsG g hd at_ off T D)(hk:g.Ok)(he:g.alE C at_ ⟨1,1,1⟩=0)(w f:Nat):UV g (IA hd at_ off w f C g) hd at_ off T D w f:=by
 rw[ZpA h he w f];have l1:(g.add at_ 1 1 1).L.length=g.L.length+1:=by show (g.L++[_]).length=_;rw[ζh];rfl
 have l2:((g.add at_ 1 1 1).put (g.L.length+1) 2 w).L.length=g.L.length+1:=by show (List.set _ _ _).length=_;rw[ν,l1]
 have l3:(((g.add at_ 1 1 1).put (g.L.length+1) 2 w).put (g.L.length+1) 1 f).L.length=g.L.length+1:=by show (List.set _ _ _).length=_;rw[ν,l2]
 have l4:((((g.add at_ 1 1 1).put (g.L.length+1) 2 w).put (g.L.length+1) 1 f).put (g.L.length+1) 0 (g.S.getD hd 0)).L.length=g.L.length+1:=by show (List.set _ _ _).length=_;rw[ν,l3]
 have hy:g.S.getD hd 0<=g.L.length:=hk.st _ (by rw[δ,ζb h.h1];exact χ _);have hT:¬(g.L.length+1)∈T:=λhm=>by have:=h.ch.mem _ hm;omega
 have k1:=hk.add (s:=at_) (p:=1) (f:=1) (k:=1) Ω;have o1:(g.add at_ 1 1 1).ob (g.L.length+1)=ndO 0 0 0:=Gph.add_new;have k2:=k1.put (x:=g.L.length+1) (i:=2) (y:=w) Ω Ω (λhi=>by rw[o1]at hi;exact absurd hi (by decide));have o2:((g.add at_ 1 1 1).put (g.L.length+1) 2 w).ob (g.L.length+1)=ndO 0 0 w:=by rw[Gph.put_ob Ω Ω,μ rfl,o1];rfl
 have k3:=k2.put (x:=g.L.length+1) (i:=1) (y:=f) Ω Ω (λhi=>by rw[o2]at hi;exact absurd hi (by show ¬1<1;omega));have o3:(((g.add at_ 1 1 1).put (g.L.length+1) 2 w).put (g.L.length+1) 1 f).ob (g.L.length+1)=ndO 0 f w:=by rw[Gph.put_ob Ω Ω,μ rfl,o2];rfl
 have k4:=k3.put (x:=g.L.length+1) (i:=0) (y:=g.S.getD hd 0) Ω Ω (λ_=>by omega);have o4:((((g.add at_ 1 1 1).put (g.L.length+1) 2 w).put (g.L.length+1) 1 f).put (g.L.length+1) 0 (g.S.getD hd 0)).ob (g.L.length+1)=ndO (g.S.getD hd 0) f w:=by rw[Gph.put_ob Ω Ω,μ rfl,o3];rfl
 have c4:Chn ((((g.add at_ 1 1 1).put (g.L.length+1) 2 w).put (g.L.length+1) 1 f).put (g.L.length+1) 0 (g.S.getD hd 0)) (g.S.getD hd 0) T D:=
  (((h.ch.add).put Ω Ω hT).put Ω Ω hT).put Ω Ω hT
 have X:∀x,x<=g.L.length->((((g.add at_ 1 1 1).put (g.L.length+1) 2 w).put (g.L.length+1) 1 f).put (g.L.length+1) 0 (g.S.getD hd 0)).ob x=g.ob x:=λx hx=>by
  rw[Gph.put_ob Ω Ω,κ Ω,Gph.put_ob Ω Ω,κ Ω,Gph.put_ob Ω Ω,κ Ω,Gph.add_ob _ hx]
 generalize (((g.add at_ 1 1 1).put (g.L.length+1) 2 w).put (g.L.length+1) 1 f).put (g.L.length+1) 0 (g.S.getD hd 0)=g4 at l4 k4 o4 c4 X;have hS:(g.S.set hd (g.L.length+1)).getD hd 0=g.L.length+1:=EM h.h1;refine⟨⟨by rw[ν];exact h.h1,by rw[ν];exact h.h2,by rw[ν];exact h.h3,h.d1,h.d2,h.d3,?_,?_,?_,ξ0.2 ⟨hT,h.nd⟩⟩,rfl,X,l4,⟨k4.len,k4.pt,λz hz=>?_⟩⟩
 ·rw[DA h.d1,h.z2]
 ·rw[DA h.d2,h.z3]
 ·rw[hS];exact⟨rfl,f,w,_,D,rfl,⟨by omega,by show _<=g4.L.length;omega,o4⟩,c4.slots _⟩
 ·show z<=g4.L.length
  rcases ζk hz with h1|h1
  ·have:=hk.st z h1;omega
  ·omega
end
section
variable {g:Gph} {hd at_ off C:Nat} {T:List Nat} {D:List (Nat × Nat)}
theorem Nd.reads{s y nx f w:Nat}(hs:s<g.S.length)(hy:g.S.getD s 0=y)(h:Nd g y nx f w):g.fdE s 2 3=0/\g.fdV s 2 3=w/\g.fdE s 1 2=0/\g.fdV s 1 2=f/\g.shE s=0:=by
 have h0:y≠0:=by have:=h.h1;omega
 obtain⟨a1,a2⟩:=g.fd_ob (i:=2) (j:=2) hs hy h0 h.ob rfl (IQ nx f w).2.2 (by decide);obtain⟨b1,b2⟩:=g.fd_ob (i:=1) (j:=1) hs hy h0 h.ob rfl (IQ nx f w).2.1 (by decide);refine⟨a1,a2,b1,b2,?_⟩;rw[g.shE_ok hs,hy,κ h0]
theorem Nd.load{a s y nx f w:Nat}(ha:a<g.S.length)(hs:s<g.S.length)(hy:g.S.getD s 0=y)(h:Nd g y nx f w):g.loG a s 0=⟨g.L,g.S.set a nx⟩:=by
 have h0:y≠0:=by have:=h.h1;omega
 exact(Gph.loG_ob (i:=0) (j:=0) ha hs hy h0 h.ob rfl (IQ nx f w).1).2
theorem Gph.Ok.slots{S:List Nat}(hk:g.Ok)(h:∀y∈S,y<=g.L.length):Gph.Ok ⟨g.L,S⟩:=⟨hk.len,hk.pt,h⟩
theorem Gph.Ok.getS(hk:g.Ok)(s:Nat):g.S.getD s 0<=g.L.length:=by
 rcases ω s g.S.length with h|h
 ·exact hk.st _ (by simp_all)
 simp_all
theorem Gph.Ok.setS{s v:Nat}(hk:g.Ok)(hv:v<=g.L.length):Gph.Ok ⟨g.L,g.S.set s v⟩:=hk.slots (λy hy=>by
 rcases ζk hy with h|h
 ·exact hk.st y h
 ·rw[h];exact hv)
theorem Chn.le{y:Nat}(h:Chn g y T D):y<=g.L.length:=by
 rcases ζB y with h0|h0
 ·omega
 ·obtain⟨_,_,_,_,_,_,_,hn,_⟩:=h.head Ω;exact hn.h2
theorem LsG.pop{w f x:Nat}{T':List Nat}{D':List (Nat×Nat)}(h:LsG g hd at_ off (x :: T') ((w,f) :: D'))(hk:g.Ok):∃nx,g.loG hd hd 0=⟨g.L,g.S.set hd nx⟩/\LsG ⟨g.L,g.S.set hd nx⟩ hd at_ off T' D'/\Gph.Ok ⟨g.L,g.S.set hd nx⟩/\Nd g (g.S.getD hd 0) nx f w:=by
 obtain⟨e,f',w',nx,D'',e2,hn,hc⟩:=h.ch;cases e2;refine⟨nx,?_,⟨?_,?_,?_,h.d1,h.d2,h.d3,?_,?_,?_,(ξ0.1 h.nd).2⟩,hk.setS hc.le,by rw[e];exact hn⟩
 ·exact(e▸hn).load h.h1 h.h1 rfl
 ·show hd<(g.S.set hd nx).length;rw[ν];exact h.h1
 ·show at_<(g.S.set hd nx).length;rw[ν];exact h.h2
 ·show off<(g.S.set hd nx).length;rw[ν];exact h.h3
 ·show (g.S.set hd nx).getD at_ 0=0;rw[DA h.d1,h.z2]
 ·show (g.S.set hd nx).getD off 0=0;rw[DA h.d2,h.z3]
 ·show Chn _ ((g.S.set hd nx).getD hd 0) _ _
  rw[EM h.h1];exact hc.slots _
theorem XHD:∀(i:Nat) {T:List Nat} {D:List (Nat×Nat)} {g:Gph},at_<g.S.length->Chn g (g.S.getD at_ 0) T D->DX at_ i g=⟨g.L,g.S.set at_ (T.getD i 0)⟩
 | 0,T,D,g,ha,hc=>by
  show g=_
  have:T.getD 0 0=g.S.getD at_ 0:=by
   cases T with
   | nil=>exact hc.1.symm
   | cons x T=>exact hc.1.symm
  simp_all
 | i+1,T,D,g,ha,hc=>by
  show (if g.shE at_=0 then DX at_ i (g.loG at_ at_ 0)else g)=_
  by_cases h0:g.S.getD at_ 0=0
  ·obtain⟨rfl,-⟩:=hc.nil h0;rw[κ (by rw[g.shE_ok ha,μ h0];decide)]
   show g=⟨g.L,g.S.set at_ 0⟩
   conv=>rhs;rw[<-h0,TF ha]
  ·obtain⟨T',f,w,nx,D',rfl,rfl,hn,X⟩:=hc.head h0;rw[μ (by rw[g.shE_ok ha,κ h0]),hn.load ha ha rfl];have Y:at_<(⟨g.L,g.S.set at_ nx⟩:Gph).S.length:=by simp_all
   rw[XHD i (g:=⟨g.L,g.S.set at_ nx⟩) (T:=T') (D:=D') Y (by rw[EM ha];exact X.slots _)]
   simp_all
def CF(hd at_ i:Nat)(g:Gph):Gph:=DX at_ i (g.cpG at_ hd)
theorem LsG.find(h:LsG g hd at_ off T D)(i:Nat):CF hd at_ i g=⟨g.L,g.S.set at_ (T.getD i 0)⟩:=by
 unfold CF;rw[Gph.cpG_ok h.h2 h.h1];have X:at_<(⟨g.L,g.S.set at_ (g.S.getD hd 0)⟩:Gph).S.length:=by rw[ν];exact h.h2
 rw[XHD i (g:=⟨g.L,g.S.set at_ (g.S.getD hd 0)⟩) (T:=T) (D:=D) X (by rw[EM h.h2];exact h.ch.slots _)]
 simp_all
theorem LsG.rest{g':Gph}(h:LsG g hd at_ off T D){v:Nat}(hL:g'.S=g.S.set at_ v):DJ at_ off g'=⟨g'.L,g.S⟩:=by
 have hl:g'.S.length=g.S.length:=by simp_all
 rw[WF (by rw[hl];exact h.h2) (by rw[hl];exact h.h3),hL,List.set_set]
 have e1:g.S.set at_ 0=g.S:=by
  conv=>rhs;rw[<-TF (l:=g.S) h.h2,h.z2]
 have e2:g.S.set off 0=g.S:=by
  conv=>rhs;rw[<-TF (l:=g.S) h.h3,h.z3]
 rw[e1,e2]
theorem Chn.get:∀{T:List Nat} {y:Nat} {D:List (Nat×Nat)},Chn g y T D->∀i,i<T.length->∃nx,Nd g (T.getD i 0) nx (D.getD i (0,0)).2 (D.getD i (0,0)).1
 | [],_,_,_,_,hi=>absurd hi (ζI _)
 | x :: T,_,_,⟨e,f,w,nx,D',e2,hn,hc⟩,0,_=>⟨nx,by simp_all⟩
 | x :: T,_,_,⟨e,f,w,nx,D',e2,hn,hc⟩,i+1,hi=>by
  obtain⟨n',h'⟩:=hc.get i (by simp_all)
  grind
theorem Nd.set2{y nx f w v u:Nat}(h:Nd g y nx f w):Nd ((g.put y 2 v).put y 1 u) y nx u v:=by
 have h2:y<=(g.put y 2 v).L.length:=by show y<=(List.set _ _ _).length;rw[ν];exact h.h2
 refine⟨h.h1,by show y<=(List.set _ _ _).length;rw[ν];exact h2,?_⟩;rw[Gph.put_ob h.h1 h2,μ rfl,Gph.put_ob h.h1 h.h2,μ rfl,h.ob];rfl
theorem Chn.set2{v u:Nat}:∀{T:List Nat} {y:Nat} {D:List (Nat×Nat)},Chn g y T D->T.Nodup->∀i,i<T.length->Chn ((g.put (T.getD i 0) 2 v).put (T.getD i 0) 1 u) y T (D.set i (v,u))
 | [],_,_,_,_,_,hi=>absurd hi (ζI _)
 | x :: T,_,_,⟨e,f,w,nx,D',e2,hn,hc⟩,hd,0,_=>by
  subst e2;have hx:=(ξ0.1 hd).1;have h2:x<=(g.put x 2 v).L.length:=by show x<=(List.set _ _ _).length;rw[ν];exact hn.h2
  exact⟨e,u,v,nx,D',rfl,hn.set2,(hc.put hn.h1 hn.h2 hx).put hn.h1 h2 hx⟩
 | x :: T,_,_,⟨e,f,w,nx,D',e2,hn,hc⟩,hd,i+1,hi=>by
  subst e2;have hx:=(ξ0.1 hd).1;have Y:i<T.length:=by simpa using hi
  obtain⟨n',X⟩:=hc.get i Y;have hm:T.getD i 0∈T:=TP Y;have Z:x≠T.getD i 0:=λe=>hx (e▸hm);have h2:T.getD i 0<=(g.put (T.getD i 0) 2 v).L.length:=by show _<=(List.set _ _ _).length;rw[ν];exact X.h2
  exact⟨e,f,w,nx,_,rfl,(hn.put X.h1 X.h2 Z).put X.h1 h2 Z,hc.set2 (ξ0.1 hd).2 i Y⟩
theorem LsG.set2(h:LsG g hd at_ off T D)(hk:g.Ok){i:Nat}(hi:i<T.length)(v u:Nat):
  LsG ((g.put (T.getD i 0) 2 v).put (T.getD i 0) 1 u) hd at_ off T (D.set i (v,u))/\Gph.Ok ((g.put (T.getD i 0) 2 v).put (T.getD i 0) 1 u)/\DJ at_ off (((CF hd at_ i g).wrG at_ 2 3 v).wrG at_ 1 2 u)=(g.put (T.getD i 0) 2 v).put (T.getD i 0) 1 u:=by
 obtain⟨nx,hn⟩:=h.ch.get i hi;have h2:T.getD i 0<=(g.put (T.getD i 0) 2 v).L.length:=by show _<=(List.set _ _ _).length;rw[ν];exact hn.h2
 have k1:=hk.put (x:=T.getD i 0) (i:=2) (y:=v) hn.h1 hn.h2 (λhi=>by rw[hn.ob]at hi;exact absurd hi (by show ¬2<1;omega));have o2:(g.put (T.getD i 0) 2 v).ob (T.getD i 0)=ndO nx (D.getD i (0,0)).2 v:=by rw[Gph.put_ob hn.h1 hn.h2,μ rfl,hn.ob];rfl
 have k2:=k1.put (x:=T.getD i 0) (i:=1) (y:=u) hn.h1 h2 (λhi=>by rw[o2]at hi;exact absurd hi (by show ¬1<1;omega));refine⟨⟨h.h1,h.h2,h.h3,h.d1,h.d2,h.d3,h.z2,h.z3,h.ch.set2 h.nd i hi,h.nd⟩,k2,?_⟩;rw[h.find i];have ha:at_<(⟨g.L,g.S.set at_ (T.getD i 0)⟩:Gph).S.length:=by show at_<(List.set _ _ _).length;rw[ν];exact h.h2
 have hv:(⟨g.L,g.S.set at_ (T.getD i 0)⟩:Gph).S.getD at_ 0=T.getD i 0:=EM h.h2;have h0:T.getD i 0≠0:=by have:=hn.h1;omega
 rw[Gph.wrG_ob (i:=2) (j:=2) ha hv h0 (hn.slots _).ob rfl (IQ _ _ _).2.2 (by decide)];have o3:((⟨g.L,g.S.set at_ (T.getD i 0)⟩:Gph).put (T.getD i 0) 2 v).ob (T.getD i 0)=ndO nx (D.getD i (0,0)).2 v:=o2;rw[Gph.wrG_ob (i:=1) (j:=1) (g:=(⟨g.L,g.S.set at_ (T.getD i 0)⟩:Gph).put (T.getD i 0) 2 v) ha hv h0 o3 rfl (IQ _ _ _).2.1 (by decide)];exact h.rest (v:=T.getD i 0) rfl
end
section
variable {g g0:Gph} {hd at_ off C:Nat} {T R T0:List Nat} {D E D0:List (Nat × Nat)}
structure TnG(g0 g:Gph)(hd at_ off:Nat)(T R T0:List Nat)(D E D0:List (Nat×Nat)):Prop where
 len:g.L.length=g0.L.length
 sl:g.S.length=g0.S.length
 so:∀j,j≠hd->j≠at_->j≠off->g.S.getD j 0=g0.S.getD j 0
 ct:Chn g (g.S.getD hd 0) T D
 cr:Chn g (g.S.getD off 0) R E
 ts:R.reverse++T=T0
 ds:E.reverse++D=D0
 ob:∀z,¬z∈T0->g.ob z=g0.ob z
 ok:g.Ok
theorem TnG.start(h:LsG g hd at_ off T D)(hk:g.Ok):TnG g g hd at_ off T [] T D [] D:=
 ⟨rfl,rfl,λ_ _ _ _=>rfl,h.ch,⟨h.z3,rfl⟩,rfl,rfl,λ_ _=>rfl,hk⟩
def QB(hd at_ off:Nat)(g:Gph):Gph:=(((g.cpG at_ hd).loG hd hd 0).stG at_ 0 off).cpG off at_
theorem Nd.next{y nx f w v:Nat}(h:Nd g y nx f w):Nd (g.put y 0 v) y v f w:=by
 refine⟨h.h1,by show y<=(List.set _ _ _).length;rw[ν];exact h.h2,?_⟩;rw[Gph.put_ob h.h1 h.h2,μ rfl,h.ob];rfl
theorem TnG.step(h:TnG g0 g hd at_ off T R T0 D E D0)(h1:hd<g.S.length)(h2:at_<g.S.length)(h3:off<g.S.length)(d1:hd≠at_)(d2:hd≠off)(d3:at_≠off)(hn:T0.Nodup)(h0:g.S.getD hd 0≠0):
  ∃x T' w f D',T=x :: T'/\D=(w,f) :: D'/\TnG g0 (QB hd at_ off g) hd at_ off T' (x :: R) T0 D' ((w,f) :: E) D0:=by
 obtain⟨T',f,w,nx,D',rfl,rfl,X,hc⟩:=h.ct.head h0;obtain⟨x,hx⟩:∃x,x=g.S.getD hd 0:=⟨_,rfl⟩;rw[<-hx]at h0 X;have Y:=h.ts;have J:=h.ds;rw[<-hx]at Y
 have e:QB hd at_ off g=(⟨(g.put x 0 (g.S.getD off 0)).L,((g.S.set at_ x).set hd nx).set off x⟩:Gph):=by
  unfold QB;rw[g.cpG_ok h2 h1,<-hx];have a1:hd<(⟨g.L,g.S.set at_ x⟩:Gph).S.length:=by rw[ν];exact h1
  have v1:(⟨g.L,g.S.set at_ x⟩:Gph).S.getD hd 0=x:=by rw[DA d1.symm,hx]
  rw[(X.slots _).load a1 a1 v1];have l2:(⟨g.L,(g.S.set at_ x).set hd nx⟩:Gph).S.length=g.S.length:=by rw[ν,ν]
  have v2:(⟨g.L,(g.S.set at_ x).set hd nx⟩:Gph).S.getD at_ 0=x:=by rw[DA d1,EM h2]
  have v3:(⟨g.L,(g.S.set at_ x).set hd nx⟩:Gph).S.getD off 0=g.S.getD off 0:=by rw[DA d2,DA d3]
  rw[(Gph.stG_ob (i:=0) (j:=0) (g:=⟨g.L,(g.S.set at_ x).set hd nx⟩) (by rw[l2];exact h2) (by rw[l2];exact h3) v2 h0 (X.slots _).ob rfl (IQ _ _ _).1).2,v3];rw[Gph.cpG_ok (g:=(⟨g.L,(g.S.set at_ x).set hd nx⟩:Gph).put x 0 (g.S.getD off 0)) (by rw[show ((⟨g.L,(g.S.set at_ x).set hd nx⟩:Gph).put x 0 (g.S.getD off 0)).S=(g.S.set at_ x).set hd nx from rfl,ν,ν];exact h3) (by rw[show ((⟨g.L,(g.S.set at_ x).set hd nx⟩:Gph).put x 0 (g.S.getD off 0)).S=(g.S.set at_ x).set hd nx from rfl,ν,ν];exact h2)]
  show (⟨_,((g.S.set at_ x).set hd nx).set off (((g.S.set at_ x).set hd nx).getD at_ 0)⟩:Gph)=_
  rw[DA d1,EM h2];rfl
 have Z:x∈T0:=by rw[<-Y];exact List.mem_append_right _ (ζq ..)
 have V:¬x∈R:=λhm=>by
  rw[<-Y]at hn;exact(ξx.1 hn).2.2 x (List.mem_reverse.2 hm) x (ζq ..) rfl
 have U:¬x∈T':=by
  rw[<-Y]at hn;exact(ξ0.1 (ξx.1 hn).2.1).1
 have M:Gph.Ok (g.put x 0 (g.S.getD off 0)):=h.ok.put X.h1 X.h2 (λ_=>h.ok.getS off);have lp:(g.put x 0 (g.S.getD off 0)).L.length=g.L.length:=by show (List.set _ _ _).length=_;rw[ν]
 refine⟨x,T',w,f,D',by rw[hx],rfl,?_⟩;rw[e];refine⟨lp.trans h.len,?_,λj j1 j2 j3=>?_,?_,?_,by rw[<-Y,List.reverse_cons,ξc];rfl,by rw[<-J,List.reverse_cons,ξc];rfl,λz hz=>?_,?_⟩
 ·rw[ν,ν,ν];exact h.sl
 ·rw[DA (Ne.symm j3),DA (Ne.symm j1),DA (Ne.symm j2)];exact h.so j j1 j2 j3
 ·rw[DA d2.symm,EM (by rw[ν];exact h1)];exact(hc.put X.h1 X.h2 U).slots _
 ·rw[EM (by rw[ν,ν];exact h3)];exact⟨rfl,f,w,_,E,rfl,X.next.slots _,(h.cr.put X.h1 X.h2 V).slots _⟩
 ·show (g.put x 0 _).ob z=_
  rw[Gph.put_ob X.h1 X.h2,κ (λ(e2:z=x)=>hz (by rw[e2];exact Z))];exact h.ob z hz
 ·refine M.slots (λy hy=>?_);have hxl:=X.h2;have hnl:=hc.le;rw[lp];rcases ζk hy with h5|h5
  ·rcases ζk h5 with h6|h6
   ·rcases ζk h6 with h7|h7
    ·exact h.ok.st y h7
    ·omega
   ·omega
  ·omega
structure QL(g0 g:Gph)(hd at_ off:Nat)(T0:List Nat)(D0:List (Nat×Nat)):Prop where
 ls:LsG g hd at_ off T0.reverse D0.reverse
 len:g.L.length=g0.L.length
 sl:g.S.length=g0.S.length
 so:∀j,j≠hd->g.S.getD j 0=g0.S.getD j 0
 ob:∀z,¬z∈T0->g.ob z=g0.ob z
 ok:g.Ok
theorem TnG.fin(h:TnG g0 g hd at_ off T R T0 D E D0)(h1:hd<g.S.length)(h2:at_<g.S.length)(h3:off<g.S.length)(d1:hd≠at_)(d2:hd≠off)(d3:at_≠off)(hn:T0.Nodup)(z2:g0.S.getD at_ 0=0)(z3:g0.S.getD off 0=0)(h0:g.S.getD hd 0=0):
  QL g0 (DJ at_ off (g.cpG hd off)) hd at_ off T0 D0:=by
 obtain⟨rfl,rfl⟩:=h.ct.nil h0
 have e:DJ at_ off (g.cpG hd off)=⟨g.L,((g.S.set hd (g.S.getD off 0)).set at_ 0).set off 0⟩:=by
  rw[g.cpG_ok h1 h3,WF (by rw[ν];exact h2) (by rw[ν];exact h3)]
 rw[e];have X:=h.ts;have Y:=h.ds;rw[ψp]at X Y;have eR:R=T0.reverse:=by rw[<-X,List.reverse_reverse]
 have eE:E=D0.reverse:=by rw[<-Y,List.reverse_reverse]
 have g1:(((g.S.set hd (g.S.getD off 0)).set at_ 0).set off 0).getD hd 0=g.S.getD off 0:=by rw[DA d2.symm,DA d1.symm,EM h1]
 have g2:(((g.S.set hd (g.S.getD off 0)).set at_ 0).set off 0).getD at_ 0=0:=by rw[DA d3.symm,EM (by rw[ν];exact h2)]
 have g3:(((g.S.set hd (g.S.getD off 0)).set at_ 0).set off 0).getD off 0=0:=by rw[EM (by rw[ν,ν];exact h3)]
 have l1:(((g.S.set hd (g.S.getD off 0)).set at_ 0).set off 0).length=g.S.length:=by rw[ν,ν,ν]
 refine⟨⟨by rw[l1];exact h1,by rw[l1];exact h2,by rw[l1];exact h3,d1,d2,d3,g2,g3,?_,?_⟩,h.len,l1.trans h.sl,λj hj=>?_,h.ob,h.ok.slots (λy hy=>?_)⟩
 ·rw[g1,<-eR,<-eE];exact h.cr.slots _
 ·exact(List.reverse_perm T0).nodup_iff.2 hn
 ·by_cases e2:j=at_
  ·subst e2;exact g2.trans z2.symm
  ·by_cases e3:j=off
   ·subst e3;exact g3.trans z3.symm
   ·rw[DA (Ne.symm e3),DA (Ne.symm e2),DA (Ne.symm hj)];exact h.so j hj e2 e3
 ·have:=h.ok.getS off;rcases ζk hy with h5|h5
  ·rcases ζk h5 with h6|h6
   ·rcases ζk h6 with h7|h7
    ·exact h.ok.st y h7
    ·omega
   ·omega
  ·omega
end
section
variable {g:Gph} {hd at_ off C:Nat} {T:List Nat} {D:List (Nat × Nat)}
theorem LsG.atSlot(h:LsG g hd at_ off T D)(k:Nat):at_<(CF hd at_ k g).S.length/\(CF hd at_ k g).S.getD at_ 0=T.getD k 0/\DJ at_ off (CF hd at_ k g)=g:=by
 rw[h.find k];exact⟨by show at_<(List.set _ _ _).length;rw[ν];exact h.h2,EM h.h2,h.rest (v:=T.getD k 0) rfl⟩
theorem LsG.at_ok(h:LsG g hd at_ off T D){k:Nat}(hk:k<D.length):(CF hd at_ k g).shE at_=0/\(CF hd at_ k g).fdV at_ 2 3=(D.getD k (0,0)).1/\(CF hd at_ k g).fdV at_ 1 2=(D.getD k (0,0)).2:=by
 obtain⟨a1,a2,-⟩:=h.atSlot k;obtain⟨nx,hn⟩:=h.ch.get k (by rw[h.ch.len];exact hk);have X:Nd (CF hd at_ k g) (T.getD k 0) nx (D.getD k (0,0)).2 (D.getD k (0,0)).1:=by rw[h.find k];exact hn.slots _
 obtain⟨-,r2,-,r4,r5⟩:=X.reads a1 a2;exact⟨r5,r2,r4⟩
theorem LsG.at_no(h:LsG g hd at_ off T D){k:Nat}(hk:D.length<=k):¬(CF hd at_ k g).shE at_=0:=by
 obtain⟨a1,a2,-⟩:=h.atSlot k;rw[Gph.shE_ok a1,a2,δ,ζv (by rw[h.ch.len];exact hk)];decide
theorem LsG.hd_ok{w f x:Nat}{T':List Nat}{D':List (Nat×Nat)}(h:LsG g hd at_ off (x :: T') ((w,f) :: D'))(hk:g.Ok):g.shE hd=0/\g.fdV hd 2 3=w/\g.fdV hd 1 2=f:=by
 obtain⟨nx,-,-,-,hn⟩:=h.pop hk;obtain⟨-,r2,-,r4,r5⟩:=hn.reads h.h1 rfl;exact⟨r5,r2,r4⟩
theorem LsG.hd_no(h:LsG g hd at_ off [] []):¬g.shE hd=0:=by
 rw[g.shE_ok h.h1,h.ch.1,μ rfl];decide
theorem UV.alone{g':Gph}{w f:Nat}(h:UV g g' hd at_ off T D w f)(ha:LH g hd):LH g' hd:=λj hj=>by
 rw[h.S,DA (Ne.symm hj)];exact ha j hj
theorem QL.alone{g':Gph}(h:QL g g' hd at_ off T D)(ha:LH g hd):LH g' hd:=λj hj=>(h.so j hj).trans (ha j hj)
end
theorem QyT{n hd at_ off:Nat}(h1:hd<n)(h2:at_<n)(h3:off<n)(d1:hd≠at_)(d2:hd≠off)(d3:at_≠off):LsG ⟨[],List.replicate n 0⟩ hd at_ off [] []/\Gph.Ok ⟨[],List.replicate n 0⟩/\LH ⟨[],List.replicate n 0⟩ hd:=by
 have hz:∀j,(List.replicate n 0).getD j 0=0:=λj=>by
  rw[δ,ξd]
  split <;> rfl
 refine⟨⟨by simpa using h1,by simpa using h2,by simpa using h3,d1,d2,d3,hz _,hz _,⟨hz _,rfl⟩,ξT⟩,⟨λo ho=>(by cases ho),λo ho=>(by cases ho),λy hy=>?_⟩,λj _=>hz j⟩;rw[(List.mem_replicate.1 hy).2];exact ζe _
theorem VN{n a:Nat}(h:a<n)(L:List GOb):Gph.clG ⟨L,List.replicate n 0⟩ a=⟨L,List.replicate n 0⟩:=by
 rw[Gph.clG_ok (by simpa using h)]
 show (⟨L,(List.replicate n 0).set a 0⟩:Gph)=_
 rw[List.set_replicate_self]
theorem V6I{n hd at_ off:Nat}(h1:hd<n)(h2:at_<n)(h3:off<n):DJ at_ off (Gph.clG ⟨[],List.replicate n 0⟩ hd)=⟨[],List.replicate n 0⟩:=by
 unfold DJ;rw[VN h1,VN h2,VN h3]
def ndC(N:List (Nat×Nat)):List Value:=N.flatMap λo=>[uU (o.1:Nat),uU (o.2:Nat)]
theorem VM(L M:List (Nat×Nat)):ndC (L++M)=ndC L++ndC M:=by simp[ndC]
theorem V2C(L:List (Nat×Nat)):(ndC L).length=L.length*2:=by
 induction L with
 | nil=>rfl
 | cons o r ih=>simp[ndC]at ih⊢;omega
theorem P5{L:List (Nat×Nat)}{i:Nat}(h:i<L.length):(ndC L)[i*2]?=some (uU ((L.getD i (0,0)).1:Nat))/\(ndC L)[i*2+1]?=some (uU ((L.getD i (0,0)).2:Nat)):=by
 induction L generalizing i with
 | nil=>exact absurd h (ζI _)
 | cons o r ih=>
  have e:ndC (o :: r)=uU (o.1:Nat) :: uU (o.2:Nat) :: ndC r:=rfl;rw[e];cases i with
  | zero=>exact⟨rfl,rfl⟩
  | succ i=>
   have:=ih (i:=i) (by simpa using h);rw[show (i+1)*2=i*2+1+1 by omega];simpa using this
theorem TU:(prog.info? 54).map (λi=>(i.zero,i.size,i.bytes))=some (some (.agg #[uU 0,uU 0]),2,16):=by kernel_rfl
structure B9(w:World)(S:Nat->Prop)(rb:Nat)(room:Int)(N:List (Nat×Nat))(v:Value):Prop where
 row:Rec w rb 51 [v,iI room]
 own:w.ownsRow 0 54 2 v N.length (ndC N)
 sr:S rb
 sn:∀g,v.ownBlock=some g->S g/\g≠rb
def Voj(w:World)(S:Nat->Prop)(rb:Nat)(room:Int)(N:List (Nat×Nat)):Prop:=∃v,B9 w S rb room N v
section
variable {w w':World} {S:Nat->Prop} {rb:Nat} {room:Int} {N:List (Nat × Nat)} {v:Value}
theorem B9.touch{T:Nat->Prop}(h:B9 w S rb room N v)(t:AB T w w')(hT:∀k,S k->¬T k):B9 w' S rb room N v:=
 ⟨h.row.touch t (hT _ h.sr),BS h.own t (λg hg=>hT g (h.sn g hg).1),h.sr,h.sn⟩
theorem B9.gr(h:B9 w S rb room N v)(g:Gr w w'):B9 w' S rb room N v:=h.touch (g.touch (λ_=>False)) (λ_ _=>id)
theorem B9.sub{S':Nat->Prop}(h:B9 w S rb room N v)(hs:∀k,S k->S' k):B9 w S' rb room N v:=⟨h.row,h.own,hs _ h.sr,λg hg=>⟨hs _ (h.sn g hg).1,(h.sn g hg).2⟩⟩
theorem B9.cut(h:B9 w S rb room N v):B9 w (λk=>S k/\k<w.heap.size) rb room N v:=⟨h.row,h.own,⟨h.sr,h.row.lt⟩,λg hg=>⟨⟨(h.sn g hg).1,(A9 h.own hg).2⟩,(h.sn g hg).2⟩⟩
def RlO(w:World)(S:Nat->Prop)(rb:Nat)(room:Int)(N':List (Nat×Nat))(w':World):Prop:=AB S w w'/\Voj w' (plus S w) rb room N'
theorem Xnk(h:B9 w S rb room N v)(hN:N.length<=1000000)(x y:Nat):Calls prog 48 #[pP rb,uU x,uU y] w
  λe w'=>e=.returned (iI (if room<=N.length then 21 else 0))/\RlO w S rb room (if room<=N.length then N else N++[(x,y)]) w':=by
 obtain⟨A,c,rfl,-,-⟩:=CV h.own;obtain⟨i0,hi,Xc,I,O⟩:=info_parts TU;have H:=ι h;obtain⟨c0,c1,cl⟩:=h.row.k2;clear h;by_cases hr:room<=N.length
 ·rw[μ hr,μ hr];have d0:decide (room<=(N.length:Int))=true:=θ hr;clear hr;go_enter func48,ntmps48;go_wp2;go_quiet (fail);go_wp2;go_ret;exact⟨rfl,(((Gr.refl w).drewN nq).touch _),_,(H.o.gr ((Gr.refl w).drewN nq)).sub (λk hk=>Or.inl hk)⟩
 ·rw[κ hr,κ hr];have d0:decide (room<=(N.length:Int))=false:=φ hr;clear hr;go_enter func48,ntmps48;go_wp2;go_quiet (fail);obtain⟨w1,U⟩:∃w1,w1=w.drewN nq:=⟨_,rfl⟩;have V:Hid (Gr w w1):=⟨by rw[U];exact(Gr.refl w).drewN _⟩;rw[<-U];clear U;have H1:=ι (H.o.gr V.o)
  clear c0 c1 cl;obtain⟨c0,c1,cl⟩:=H1.o.row.k2
  go_wp2_with(at_builtin;refine wpList_append_own_at _ rfl _ _ 49 rfl 0 54 i0 _ 2 16 underlying49 hi Xc I O rfl (by decide) (.slice A N.length c) N.length (ndC N) rfl (CK H1.o.own ((Gr.refl _).alloc _)) ⟨w1.heap.size,0,none⟩ 1 1 [uU (x:Nat),uU (y:Nat)] rfl rfl (ξi (cs:=#[.int .u64 (x:Nat),.int .u64 (y:Nat)]) (t:=54) (fr:=(0,0)) (heap_alloc_new w1 _)) (by simp[Value.oneCell']) (by unfold maxLen;omega) Ω (ζe _) ?_;intro v' w2 Y X _ J;obtain⟨A',c',rfl,-,-⟩:=CV Y;have Z:=ι ((H1.o.row.gr ((Gr.refl w1).alloc (.cells #[.int .u64 (x:Nat),.int .u64 (y:Nat)] 54))).touch (EB X (λk=>(Value.slice A N.length c).ownBlock=some k) (λk e _=>e)) (λe=>(H1.o.sn rb e).2 rfl));have Xa:=ι Y;have G:=ι X;have Xb:=ι J;clear Y X J;replace c0:=Z.o.cc 0;replace c1:=Z.o.free 0;replace cl:=Z.o.lt);go_ret;have hs1:=γ w1 (.cells #[.int .u64 (x:Nat),.int .u64 (y:Nat)] 54);have hsz:=V.o.size;have hrl:=H1.o.row.lt
  have M:∀g,(Value.slice A' (N.length+1) c').ownBlock=some g->(S g\/w.heap.size<=g)/\g≠rb:=λg hg=>by
   rcases Xb.o with e|e
   ·have:=H1.o.sn g (e▸hg);exact⟨.inl this.1,this.2⟩
   ·rw[e]at hg;have hg:=Option.some.inj hg;rw[γ]at hg;exact⟨.inr Ω,by omega⟩
  have ht:AB S w w2:=((V.o.alloc _).touch S).trans (EB G.o S (λk e _=>(H1.o.sn k e).1));refine⟨rfl,ht.setCell (λ_=>H1.o.sr) _,_,Z.o.set 0 _,?_,.inl H1.o.sr,M⟩;have hO:=BS Xa.o ((AB.refl (λk=>k=rb) w2).setCell (a:=⟨rb,0,none⟩) (λ_=>rfl) (.slice A' (N.length+1) c')) (λg hg=>(M g hg).2);rw[VM,ζh];exact hO
end
section
variable {w w':World} {S:Nat->Prop} {rb:Nat} {room:Int} {N:List (Nat × Nat)} {v:Value}
theorem B9.node{A:Option Addr}{c:Nat}(h:B9 w S rb room N (.slice A N.length c)){j:Nat}(hj:j<N.length):∃g,A=some ⟨g,0,none⟩/\N.length<=c/\g<w.heap.size/\w.cell? ⟨g,j*2,none⟩=some (uU ((N.getD j (0,0)).1:Nat))/\w.cell? ⟨g,j*2+1,none⟩=some (uU ((N.getD j (0,0)).2:Nat)):=by
 obtain⟨g,c',e,-,h2,-,h4⟩:=E7 h.own Ω;cases e;exact⟨g,rfl,h2,h4,BM h.own (P5 hj).1,BM h.own (P5 hj).2⟩
theorem B9.node2{g c:Nat}(h:B9 w S rb room N (.slice (some ⟨g,0,none⟩) N.length c)){j:Nat}(hj:j<N.length):w.cell? ⟨g,j*2,none⟩=some (uU ((N.getD j (0,0)).1:Nat))/\w.cell? ⟨g,j*2+1,none⟩=some (uU ((N.getD j (0,0)).2:Nat)):=⟨BM h.own (P5 hj).1,BM h.own (P5 hj).2⟩
theorem ZIo(h:B9 w S rb room N v){i:Int}(hi:¬(0<=i/\i<N.length)):Calls prog 18 #[pP rb,iI i] w
  λe w'=>e=.returned (.tuple #[.agg #[uU 0,uU 0],iI 6])/\Gr w w':=by
 obtain⟨A,c,rfl,-,-⟩:=CV h.own;have HR:=ι (Rec.new w 54 [uU 0,uU 0]);have HG:=ι ((Gr.refl w).alloc (.cells #[.int .u64 0,.int .u64 0] 54));have H:=ι h;have c0:=(h.row.gr HG.o).cell (j:=0) rfl;have cl:=(h.row.gr HG.o).lt;clear h;rcases(by omega:i<0\/(¬i<0/\(N.length:Int)<=i))with hs|⟨hs,hl⟩
 ·have d0:decide (i<0)=true:=θ hs;clear hs hi;go_enter func18,ntmps18;go_wp2;have hl:=MN HR.o (by kernel_rfl) (by kernel_rfl);refine ζD (v:=.tuple #[.agg #[uU 0,uU 0],iI 6]) ?_ rfl ⟨rfl,HG.o⟩;simp[results,results18,asAddr,Result.andThen,hl]
 ·have d0:decide (i<0)=false:=φ hs;have d1:decide ((N.length:Int)<=i)=true:=θ hl;clear hs hl hi;go_enter func18,ntmps18;go_wp2;have hl:=MN HR.o (by kernel_rfl) (by kernel_rfl);refine ζD (v:=.tuple #[.agg #[uU 0,uU 0],iI 6]) ?_ rfl ⟨rfl,HG.o⟩;simp[results,results18,asAddr,Result.andThen,hl]
theorem YK(h:B9 w S rb room N v)(hN:N.length<=1000000){k:Nat}(hk:k<N.length):Calls prog 18 #[pP rb,iI k] w
  λe w'=>e=.returned (.tuple #[.agg #[uU ((N.getD (N.length-1-k) (0,0)).1:Nat),uU ((N.getD (N.length-1-k) (0,0)).2:Nat)],iI 0])/\Gr w w':=by
 obtain⟨A,c,rfl,-,hc⟩:=CV h.own;obtain⟨g,rfl,hgc,hgl,-,-⟩:=h.node (j:=N.length-1-k) Ω;obtain⟨j,hj⟩:∃j,j=N.length-1-k:=⟨_,rfl⟩;have X:=ι (λ(W:World) (gW:Gr w W)=>(h.gr gW).node2 (j:=j) Ω);rw[<-hj];have HR:=ι (Rec.new w 54 [uU 0,uU 0]);have HG:=ι ((Gr.refl w).alloc (.cells #[.int .u64 0,.int .u64 0] 54));have H:=ι h;have c0:=(h.row.gr HG.o).cell (j:=0) rfl;have cl:=(h.row.gr HG.o).lt;have d0:decide ((k:Int)<0)=false:=φ Ω;have d1:decide ((N.length:Int)<=(k:Int))=false:=φ Ω;have e1:(N.length:Int)-1-(k:Int)=(j:Int):=Ω
 have b1:(j:Int)<N.length:=Ω
 have HJ:=ι hj;clear h hk hj;generalize (N.getD j (0,0)).1=x at X⊢;generalize (N.getD j (0,0)).2=y at X⊢;go_enter func18,ntmps18;go_upto_region 3 with(fail);clear c0 cl;have r0:=HR.o.free 0;have r1:=HR.o.free 1;have rl:=HR.o.lt;have k0:=HR.o.cc 0;have k1:=HR.o.cc 1;obtain⟨Sx,Y,HS⟩:=AA.start λW'=>Gr w W';have c0:=AA.fact Y λ_ h=>(H.o.row.gr h).cell (j:=0) rfl;have n0:∀p:AA Sx,p.w.cell? ⟨g,j*2,none⟩=some (uU (x:Nat)):=λp=>by have h:=AA.get Y p;exact(X.o _ h).1
 have n1:∀p:AA Sx,p.w.cell? ⟨g,j*2+1,none⟩=some (uU (y:Nat)):=λp=>by have h:=AA.get Y p;exact(X.o _ h).2
 have Z:=HS.o _ (HG.o.drew);have J:Inhabited (AA Sx):=⟨⟨_,Z⟩⟩;clear Y;refine Ztp Sx 14 [([0,1,2,3,4,5,6,7,8,9,10,11,12,13],14)] [15] (by kernel_rfl) (by kernel_rfl) Z ?_;refine VvO ?_
 try simp only[AC,ζ,ξ]
 repeat(go_big_quiet_step (fail))
 refine ψ ?_;go_wp2_with(fail);refine⟨.inl trivial,?_⟩;refine JV4 ?_
 try simp only[AC,ζ,ξ]
 repeat(go_big_quiet_step (fail))
 refine ψ ?_;refine τ ?_;clear c0 n0 n1 Z J;clear HS Sx;have hr:=(Rec.new w 54 [uU (x:Nat),uU (y:Nat)]).gr (Gr.refl _).drew;have hg:=((Gr.refl w).alloc (.cells #[.int .u64 (x:Nat),.int .u64 (y:Nat)] 54)).drew;have hl:=MN hr (by kernel_rfl) (by kernel_rfl);clear X hr;go_wp2;refine ζD (v:=.tuple #[.agg #[uU (x:Nat),uU (y:Nat)],iI 0]) ?_ rfl ⟨rfl,hg⟩;simp[results,results18,asAddr,Result.andThen,hl]
end
section
variable {w w':World} {S:Nat->Prop} {rb:Nat} {room:Int} {N:List (Nat × Nat)} {v:Value}
theorem XSE(w:World)(T z:Nat):(w.alloc (.cells #[] T)).ownsRow 0 T z (.slice (some ⟨w.heap.size,0,none⟩) 0 0) 0 []:=
 ⟨by simp,.inr ⟨w.heap.size,0,#[],rfl,ζe _,heap_alloc_new w _,π _,ζe _,by simp,by simp⟩⟩
theorem Ydg(h:B9 w S rb room [] v):Calls prog 43 #[pP rb] w
  λe w'=>e=.returned (.tuple #[.agg #[uU 0,uU 0],iI 6])/\Gr w w':=by
 obtain⟨A,c,rfl,-,-⟩:=CV h.own;have HR:=ι (Rec.new w 54 [uU 0,uU 0]);have HG:=ι ((Gr.refl w).alloc (.cells #[.int .u64 0,.int .u64 0] 54));have c0:=(h.row.gr HG.o).cell (j:=0) rfl;have cl:=(h.row.gr HG.o).lt;clear h;go_enter func43,ntmps43;go_wp2;have hl:=MN HR.o (by kernel_rfl) (by kernel_rfl);refine ζD (v:=.tuple #[.agg #[uU 0,uU 0],iI 6]) ?_ rfl ⟨rfl,HG.o⟩;simp[results,results43,asAddr,Result.andThen,hl]
theorem VgM(N:List (Nat×Nat)):∀u∈ndC N,u.oneCell'=true:=by
 intro u hu;unfold ndC at hu;obtain⟨a,-,ha⟩:=List.mem_flatMap.1 hu;simp only[ξg,List.not_mem_nil,or_false]at ha;rcases ha with rfl|rfl <;> rfl
theorem B9.news{M:List (Nat×Nat)}{z:Nat×Nat}{g n c:Nat}(h:B9 w S rb room (M++[z]) (.slice (some ⟨g,0,none⟩) n c))(hn:n=(M++[z]).length):∀j u,(ndC M)[j]?=some u->w.cell? (Addr.add ⟨g,0,none⟩ j)=some u:=λj u hj=>by
 subst hn;rw[show Addr.add ⟨g,0,none⟩ j=⟨g,j,none⟩by simp[Addr.add];exact λe=>e.symm];refine BM h.own ?_;rw[VM,ζP]
 ·exact hj
 ·exact(List.getElem?_eq_some_iff.1 hj).1
theorem ZjM{M:List (Nat×Nat)}{x y:Nat}(h:B9 w S rb room (M++[(x,y)]) v)(hN:M.length<=1000000):Calls prog 43 #[pP rb] w
  λe w'=>e=.returned (.tuple #[.agg #[uU x,uU y],iI 0])/\RlO w S rb room M w':=by
 obtain⟨A,c,rfl,-,hc⟩:=CV h.own;obtain⟨g,rfl,Xx,hgl,-,-⟩:=h.node (j:=M.length) (by rw[ζh];exact ξo _);have hx:=h.node2 (j:=M.length) (by rw[ζh];exact ξo _);have e0:(M++[(x,y)]).length=M.length+1:=by rw[ζh];rfl
 have ex:(M++[(x,y)]).getD M.length (0,0)=(x,y):=by rw[δ,ζX (π _),Nat.sub_self];rfl
 rw[ex]at hx;obtain⟨i0,hi,Ya,Yc,Yf⟩:=info_parts TU;have H:=ι h;have HR:=ι (Rec.new w 54 [uU 0,uU 0]);have HG:=ι ((Gr.refl w).alloc (.cells #[.int .u64 0,.int .u64 0] 54));have Z:=ι (λ(W:World) (gW:Gr w W)=>h.row.gr gW);have HX:=ι (λ(W:World) (gW:Gr w W)=>(h.gr gW).node2 (j:=M.length) (by rw[e0];omega));rw[e0]at Xx Z;rw[ex]at HX;have c0:=(Z.o _ HG.o).cell (j:=0) rfl;have cl:=(Z.o _ HG.o).lt;have q0:=(HX.o _ HG.o).1;have q1:=(HX.o _ HG.o).2;dsimp only at q0 q1;have e1:((M.length+1:Nat):Int)-1=(M.length:Int):=Ω
 clear h hx ex;go_enter func43,ntmps43;go_upto_region 5 with(fail);have Xr:=HR.o.gr ((Gr.refl _).alloc (.cells #[.int .u64 (x:Nat),.int .u64 (y:Nat)] 54));have Xf:=Rec.new (w.alloc (.cells #[.int .u64 0,.int .u64 0] 54)) 54 [uU (x:Nat),uU (y:Nat)];rw[γ]at Xf;have Xa:=γ (w.alloc (.cells #[.int .u64 0,.int .u64 0] 54)) (.cells #[.int .u64 (x:Nat),.int .u64 (y:Nat)] 54)
 replace Xa:=Xa.trans (congrArg (· + 1) (γ w _))
 have Xm:=HG.o.alloc (.cells #[.int .u64 (x:Nat),.int .u64 (y:Nat)] 54);obtain⟨w5,V⟩:∃w5,w5=(w.alloc (.cells #[.int .u64 0,.int .u64 0] 54)).alloc (.cells #[.int .u64 (x:Nat),.int .u64 (y:Nat)] 54):=⟨_,rfl⟩;have Xg:Hid (Rec w5 w.heap.size 54 [uU 0,uU 0]):=⟨by rw[V];exact Xr⟩;have Xi:Hid (Rec w5 (w.heap.size+1) 54 [uU (x:Nat),uU (y:Nat)]):=⟨by rw[V];exact Xf⟩;have Xh:Hid (w5.heap.size=w.heap.size+1+1):=⟨by rw[V];exact Xa⟩;have U:Hid (Gr w w5):=⟨by rw[V];exact Xm⟩;rw[<-V];clear Xr Xf Xa Xm V c0 cl q0 q1;have HE:=ι (λ(W:World) (gW:Gr w W)=>(H.o.gr gW).news rfl);have Xp:=H.o.row.lt;have Xu:=ι Xp;clear Xp;obtain⟨ob,G⟩:∃ob,ob=w.heap.size:=⟨_,rfl⟩;have Xo:=ι G;rw[<-G]at Xg Xi⊢;clear G;have c0:=(Z.o _ U.o).cell (j:=0) rfl;have cl:=(Z.o _ U.o).lt;go_upto_region 6 with(at_builtin;refine wpList_append_own_at _ rfl _ _ 49 rfl 0 54 i0 _ 2 16 underlying49 hi Ya Yc Yf rfl (by decide) (.slice (some ⟨w5.heap.size,0,none⟩) 0 0) 0 [] rfl (XSE w5 _ _) ⟨g,0,none⟩ M.length c (ndC M) rfl (V2C M) (HE.o _ (U.o.alloc _)) (VgM M) (by unfold maxLen;omega) Ω (ζe _) ?_;intro v' w6 J Y _ Xe;rw[ξs,ζN]at J;obtain⟨A',c',rfl,-,-⟩:=CV J;have Xc:=EB Y (λk=>(Value.slice (some ⟨w5.heap.size,0,none⟩) 0 0).ownBlock=some k) (λk e _=>e);have hn:∀k,k<w5.heap.size->¬(Value.slice (some ⟨w5.heap.size,0,none⟩) 0 0).ownBlock=some k:=λk hk e=>absurd (Option.some.inj e) (Nat.ne_of_gt hk);have Xd:=ι (((Z.o _ (U.o.alloc (.cells #[] 54))).touch Xc (hn _ (Z.o _ U.o).lt)));have Yb:=ι ((Xg.o.gr ((Gr.refl w5).alloc (.cells #[] 54))).touch Xc (hn _ Xg.o.lt));have Ye:=ι ((Xi.o.gr ((Gr.refl w5).alloc (.cells #[] 54))).touch Xc (hn _ Xi.o.lt));clear Xc hn;replace c0:=Xd.o.cc 0;have f0:=Xd.o.free 0;replace cl:=Xd.o.lt;have Yg:=ι J;have Xy:=ι Y;have Xn:=ι Xe;clear J Y Xe);clear c0 f0 cl;have Xb:ob≠rb/\ob+1≠rb:=by have:=Xu.o;have:=Xo.o;omega
 have hg:∀b,(Value.slice A' M.length c').ownBlock=some b->w.heap.size<=b/\b≠rb:=λb hb=>by
  have h1:=γ w5 (.cells #[] 54);have h2:=Xh.o;have h3:=Xu.o;rcases Xn.o with e|e
  ·rw[e]at hb;have hb:w5.heap.size=b:=Option.some.inj hb;omega
  ·rw[e]at hb;have hb:=Option.some.inj hb;omega
 have Xs:=ι hg;have I:AB (λk=>k=rb) w6 (w6.setCell ⟨rb,0,none⟩ (.slice A' M.length c')):=(AB.refl (λk=>k=rb) w6).setCell (a:=⟨rb,0,none⟩) (λ_=>rfl) _
 have Xt:AB (λk=>S k\/w.heap.size<=k) w w6:=((U.o.alloc _).touch _).trans (EB Xy.o _ (λk e _=>by
  have e:w5.heap.size=k:=Option.some.inj e
  exact .inr (by have:=Xh.o;omega)))
 have Xl:=Xd.o.set 0 (.slice A' M.length c');have X:=Yb.o.touch I Xb.1;have O:=Ye.o.touch I Xb.2;have Xj:=BS Yg.o I (λb hb=>(hg b hb).2);have Xk:=Xt.setCell (a:=⟨rb,0,none⟩) (λ_=>.inl H.o.sr) (.slice A' M.length c');obtain⟨w7,Xq⟩:∃w7,w7=w6.setCell ⟨rb,0,none⟩ (.slice A' M.length c'):=⟨_,rfl⟩;rw[<-Xq]at Xl X O Xj Xk⊢;have Yh:=ι Xl;have Xw:=ι X;have Yi:=ι Xj;have Yd:=ι Xk;have k0:=X.cc 0;have k1:=X.cc 1;have kf0:=X.free 0;have kf1:=X.free 1;have kl:=X.lt;obtain⟨m0,m1,ml⟩:=O.k2;have Xz:=ι Xb;clear Xl X O Xj Xk I Xt hg Xb Xq;go_wp2;have hr:=(Xw.o.set 0 (uU (x:Nat))).set 1 (uU (y:Nat));have hl:=MN hr (by kernel_rfl) (by kernel_rfl);have Xv:AB (λk=>k=ob) w7 ((w7.setCell ⟨ob,0,none⟩ (.int .u64 (x:Nat))).setCell ⟨ob,1,none⟩ (.int .u64 (y:Nat))):=((AB.refl (λk=>k=ob) w7).setCell (a:=⟨ob,0,none⟩) (λ_=>rfl) _).setCell (a:=⟨ob,1,none⟩) (λ_=>rfl) _;have G:=Xo.o;refine ζD (v:=.tuple #[.agg #[uU (x:Nat),uU (y:Nat)],iI 0]) ?_ rfl ⟨rfl,?_,_,Yh.o.touch Xv (λe=>Xz.o.1 e.symm),?_,.inl H.o.sr,λb hb=>⟨.inr (Xs.o b hb).1,(Xs.o b hb).2⟩⟩
 ·simp[results,results43,asAddr,Result.andThen,hl]
 ·exact((Yd.o.setCell (a:=⟨ob,0,none⟩) (λ_=>.inr (by show w.heap.size<=ob;omega)) _).setCell (a:=⟨ob,1,none⟩) (λ_=>.inr (by show w.heap.size<=ob;omega)) _).mono (λk hk h=>h.elim id (λh=>absurd hk Ω))
 ·exact BS Yi.o Xv (λb hb e=>by
   have h1:=Xn.o;have h2:=Xh.o;have h3:=γ w5 (.cells #[] 54);rcases h1 with e1|e1
   ·rw[e1]at hb;have hb:w5.heap.size=b:=Option.some.inj hb;omega
   ·rw[e1]at hb;have hb:=Option.some.inj hb
    omega)
end
section
variable {w w':World} {S:Nat->Prop} {rb:Nat} {room:Int} {N:List (Nat × Nat)} {v:Value}
theorem YFX(x y:Nat):∀(N:List (Nat×Nat)) (j:Nat),((ndC N).set (j*2) (uU (x:Nat))).set (j*2+1) (uU (y:Nat))=ndC (N.set j (x,y))
 | [],j=>rfl
 | o :: r,0=>rfl
 | o :: r,j+1=>by
  have ih:=YFX x y r j;have e:ndC (o :: r)=uU (o.1:Nat) :: uU (o.2:Nat) :: ndC r:=rfl;rw[e,show (j+1)*2=j*2+1+1 by omega,ζm,ζm,ζm,ζm,ih];rfl
theorem Jit(h:B9 w S rb room N v){i:Int}(hi:¬(0<=i/\i<N.length))(x y:Nat):Calls prog 44 #[pP rb,iI i,uU x,uU y] w
  λe w'=>e=.returned (iI 6)/\Gr w w':=by
 have HC:=ι (ZIo h hi);clear h hi;go_enter func44,ntmps44;go_wp2_with(go_at_call 18;refine(HC.o).mono ?_;rintro e w1 ⟨rfl,hg⟩;have HG:=ι hg;clear hg);go_ret;exact⟨rfl,HG.o.alloc _⟩
theorem Xub(h:B9 w S rb room N v)(hN:N.length<=1000000){k:Nat}(hk:k<N.length)(x y:Nat):Calls prog 44 #[pP rb,iI k,uU x,uU y] w
  λe w'=>e=.returned (iI 0)/\RlO w S rb room (N.set (N.length-1-k) (x,y)) w':=by
 have HC:=ι (YK h hN hk);obtain⟨A,c,rfl,-,hc⟩:=CV h.own;obtain⟨g,rfl,hgc,hgl,-,-⟩:=h.node (j:=N.length-1-k) Ω;obtain⟨j,hj⟩:∃j,j=N.length-1-k:=⟨_,rfl⟩;have Z:=ι (λ(W:World) (gW:Gr w W)=>(h.gr gW).node2 (j:=j) Ω);have HH:=ι (λ(W:World) (gW:Gr w W)=>h.gr gW);rw[<-hj]at HC⊢;have d0:decide ((k:Int)<0)=false:=φ Ω;have e1:(N.length:Int)-1-(k:Int)=(j:Int):=Ω
 have b1:(j:Int)<N.length:=Ω
 have HJ:=ι hj;have H:=ι h;clear h hk hj;generalize (N.getD j (0,0)).1=a at Z HC;generalize (N.getD j (0,0)).2=b at Z HC;go_enter func44,ntmps44;go_upto_region 3 with(go_at_call 18;refine(HC.o).mono ?_;rintro e w1 ⟨rfl,hg⟩;have HG:=ι hg;clear hg);have X:=HG.o.alloc (.cells #[.int .u64 (a:Nat),.int .u64 (b:Nat)] 54);generalize hw2:w1.alloc _=w2 at X⊢;have V:=ι X;have r1:=HH.o _ X;have k0:=(Z.o _ X).1;have k1:=(Z.o _ X).2;have O:=ET r1.own (j*2);have G:=ET r1.own (j*2+1);have kl:=(A9 r1.own rfl).2;clear hw2 X r1;obtain⟨Sx,U⟩:∃Sx:World->Prop,Sx=λW'=>Gr w W':=⟨_,rfl⟩;have c0:∀p:AA Sx,p.w.cell? ⟨rb,0,none⟩=some (.slice (some ⟨g,0,none⟩) N.length c):=λp=>by have h:=AA.get U p;exact(HH.o _ h).row.cell (j:=0) rfl
 have HS:Hid (∀W',Gr w W'->Sx W'):=⟨λW' h=>by rw[U];exact h⟩;have J:=HS.o _ (V.o.drew);have M:Inhabited (AA Sx):=⟨⟨_,J⟩⟩;clear U;refine AR Sx 16 [([0,1,2,3,4,5,6,7,8,9,10,11,12,13,14,15],16)] [] (by kernel_rfl) (by kernel_rfl) J ?_;refine AG ?_
 try simp only[AC,ζ,ξ]
 repeat(go_big_quiet_step (fail))
 refine ψ ?_;go_wp2;refine AS ?_
 try simp only[AC]
 refine ψ ?_;refine τ ?_;clear c0 J M;clear HS Sx;have r2:=HH.o _ V.o;have hs:=H.o.sn g rfl;have o1:=(World.ownsRow.stored r2.own (j*2) (uU (x:Nat))).1;have o2:=(World.ownsRow.stored o1 (j*2+1) (uU (y:Nat))).1;rw[YFX]at o2;have ht:AB (λk=>k=g) w2 ((w2.setCell ⟨g,j*2,none⟩ (.int .u64 (x:Nat))).setCell ⟨g,j*2+1,none⟩ (.int .u64 (y:Nat))):=((AB.refl (λk=>k=g) w2).setCell (a:=⟨g,j*2,none⟩) (λ_=>rfl) _).setCell (a:=⟨g,j*2+1,none⟩) (λ_=>rfl) _;have Y:=r2.row.touch ht (λe=>hs.2 e.symm);have hT:AB S w ((w2.setCell ⟨g,j*2,none⟩ (.int .u64 (x:Nat))).setCell ⟨g,j*2+1,none⟩ (.int .u64 (y:Nat))):=((V.o.touch S).setCell (a:=⟨g,j*2,none⟩) (λ_=>hs.1) _).setCell (a:=⟨g,j*2+1,none⟩) (λ_=>hs.1) _;generalize ((w2.setCell ⟨g,j*2,none⟩ (.int .u64 (x:Nat))).setCell ⟨g,j*2+1,none⟩ (.int .u64 (y:Nat)))=w3 at o2 Y hT ht⊢;have HO:=ι o2;have I:=ι Y;have HT:=ι hT;clear o1 o2 Y hT ht r2 hs k0 k1 O G kl;go_wp2;go_ret;refine⟨rfl,HT.o.trans ((Gr.refl w3).drew.touch S),_,I.o.gr (Gr.refl w3).drew,?_,.inl H.o.sr,λq hq=>⟨.inl (H.o.sn q hq).1,(H.o.sn q hq).2⟩⟩;rw[ν];exact CK HO.o (Gr.refl w3).drew
end
end Go.Proofs.YteihjlcmjecmfaaGreatDoor
