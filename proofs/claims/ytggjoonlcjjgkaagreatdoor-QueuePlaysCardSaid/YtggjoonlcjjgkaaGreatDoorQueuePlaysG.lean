/- Part 7 of what QueuePlays leans on: my own lemmas, merged by shake.py. -/
import Derived.Test.YtggjoonlcjjgkaaGreatDoorQueuePlaysF
import Derived.Maps.OwnIn
import Derived.Deep.MidRow
namespace Go.Proofs.YtggjoonlcjjgkaaGreatDoor
open _root_.Go.Proofs.Tryz
set_option maxHeartbeats 1600000
set_option maxRecDepth 100000
open Go.RowKit Word
variable{I:(Nat->Bool)->Act->World->Prop}{a:Act}{listed:Array Bool}{ops:Array Oper}{Q:Exit->Act->World->Prop}{F:Fence}{g g':Gph}{kd:Int}{ds:List (Nat×List Nat)}{rs:List Int}{J fin:List Nat}{l xs:List Value}{B b base d f i id j k n nF p r s x y z:Nat}{q:Nat×Nat}{o:Oper}{md:Region.Mode}{α:Type}{v v':Vm}{w w':World}{S:World->Prop}
def Pln(w:World)(F p n B:Nat)(base:Nat)(L:List Ob):Prop:=
 p<w.heap.size/\F<=p/\BM B=true/\∃f,w.cell? ⟨p,0,none⟩=some (pP f)/\w.cell? ⟨p,1,none⟩=some (iI B)/\Fwd w F f n B base L
theorem Pln.gr{F:Nat}{L:List Ob}(h:Pln w F p n B base L)(g:Gr w w'):Pln w' F p n B base L:=by
 obtain⟨h1,h2,h3,f,c0,c1,hF⟩:=h;exact⟨κ h1 g.size,h2,h3,f,(g.cell h1 0).trans c0,(g.cell h1 1).trans c1,hF.gr g⟩
def Vkw(w:World)(n:Nat)(L:List Ob)(k b:Int)(e:Ending)(w':World):Prop:=
 Gr w w'/\(((BM k&&F3 b)=false/\e=.returned (.tuple #[.pointer none,iI 5]))\/((BM k&&F3 b)=true/\∃p B base:Nat,k=B/\b=base/\e=.returned (.tuple #[pP p,iI 0])/\Pln w' w.heap.size p n B base L))
theorem YGs{m p1 b1 p2 b2:Nat}{L:List Ob}(hE:Ext w m p1 b1 p2 b2 n L)(hT:AQ w)(k b:Int)(hk:k<=9223372036854775807):
  Calls prog 158 #[pP m,iI k,iI b] w (Vkw w n L k b):=by
 have HT:=hT;cases hgo:(BM k&&F3 b)with
 | false=>
  go_enter func158,ntmps158;go_wp2_with(go_at_call 142;refine(V1 hE HT k b hk).mono ?_;rintro e w2 ⟨X,⟨-,rfl⟩|⟨hb,-⟩⟩;rotate_left;(rw[hgo]at hb;cases hb);have Y:=X);go_ret2;exact⟨Y,.inl ⟨hgo,rfl⟩⟩
 | true=>
  have HK:=(ζ7.1 hgo).1;go_enter func158,ntmps158;go_wp2_with(go_at_call 142;refine(V1 hE HT k b hk).mono ?_;rintro e w2 ⟨X,⟨hb,-⟩|⟨-,f,B,base,hB,Z,rfl,hO⟩⟩;(rw[hgo]at hb;cases hb);have HO:=hO;have HB:=hB;have J:=Z);go_ret2;have hs:=X.size;refine⟨X.alloc _,.inr ⟨hgo,_,B,base,HB,J,rfl,by simp,by omega,by rw[<-HB];exact HK,f,ζH ..,?_,HO.gr ((Gr.refl _).alloc _)⟩⟩
  simp_all
section
variable{F:Nat}{L:List Ob}
theorem RV(c0:w.cell? ⟨p,0,none⟩=some (pP f)):cQ 159 #[pP p] w (pP f):=by
 go_enter func159,ntmps159;go_wp2;go_ret
 simp_all
theorem W8(hP:Pln w F p n B base L):AY prog 161 #[pP p] w (iI (nbl (sizes L) B:Nat)):=by
 obtain⟨h1,h2,h3,f,c0,c1,hF⟩:=hP;obtain⟨hg,hn⟩:=hF.good;have hs:=FW hg;have Y:=DI h3;have HB:=h3;obtain⟨s,X⟩:∃s,s=sizes L:=⟨_,rfl⟩;have HS:=X.symm;rw[<-X]at hs⊢;obtain⟨u,hu⟩:∃u,u=(s+B-1)/B*B:=⟨_,rfl⟩;obtain⟨N,hN⟩:∃N,N=nbl s B:=⟨_,rfl⟩
 have hq:(u:Int)/(B:Int)=(N:Int):=by
  rw[hu,hN];unfold nbl
  grind [Int.natCast_mul,Int.mul_ediv_cancel]
 have hul:(u:Int)<=1049600:=by
  have:=ζj (s+B-1) B;omega
 have HU:=hu.symm;have hNl:N<=s:=by grind [LQ]
 rw[<-hN];have z0:∀xs m,(grow w xs m).cell? ⟨p,0,none⟩=some (pP f):=λxs m=>((grown w xs m).cell h1 0).trans c0;have z1:∀xs m,(grow w xs m).cell? ⟨p,1,none⟩=some (iI B):=λxs m=>((grown w xs m).cell h1 1).trans c1;have hb1:(1:Int)<=(B:Int):=Y.1;have hB0:((B:Int)==0)=false:=ζy.2 Ω;clear h3 hg X hu hN Y;unfold AY;go_enter func161,ntmps161;go_wp2;refine I3 (by kernel_rfl) (by kernel_rfl) ?_
 repeat(go_big_quiet_step (first
  | (go_at_call 160;have hc:=λxs m=>ZJ (hF.gr (grown w xs m));simp only[HS]at hc;exact AY.grown_same (hc _ _))
  | (go_at_call 197;have hc:=λxs m=>Xnz s B (γ hs (γ hn (by decide))) HB (grow w xs m);simp only[HU]at hc;exact AY.grown_same (hc _ _))))
 refine ζb ?_;intro _ J;obtain⟨⟨xs,nq⟩,Z⟩:=J;subst Z;go_wp2;go_ret;exact⟨rfl,grown w _ _⟩
def DQ(L:List Ob)(B:Nat)(k:Int):Bool:=decide (0<=k)&&decide (k<(nbl (sizes L) B:Nat))
def IE(L:List Ob)(B:Nat)(base k:Int):Int:=if DQ L B k then base+k*B else 0
def I5(L:List Ob)(B:Nat)(base k:Int):Int:=if DQ L B k then base+min (k*B+B) (sizes L:Nat)else 0
def L1(L:List Ob)(B:Nat)(k:Int):Int:=if DQ L B k then 0 else 11
theorem NI{L:List Ob}{base k:Int}(h:DQ L B k=false):IE L B base k=0/\I5 L B base k=0/\L1 L B k=11:=by unfold IE I5 L1;simp_all
theorem NE{L:List Ob}{base k:Int}(h:DQ L B k=true):IE L B base k=base+k*B/\I5 L B base k=base+min (k*B+B) (sizes L:Nat)/\L1 L B k=0:=by unfold IE I5 L1;simp_all
theorem XyY{L:List Ob}{k:Int}(h:k<0\/((nbl (sizes L) B:Nat):Int)<=k):DQ L B k=false:=by
 unfold DQ
 grind
theorem ZV{L:List Ob}(hB:1<=B)(h:DQ L B j=true):j*B<sizes L:=by
 unfold DQ at h;simp at h
 grind [I0]
theorem UJ(hP:Pln w F p n B base L)(k:Int):AY prog 116 #[pP p,iI k] w (.tuple #[iI (IE L B base k),iI (I5 L B base k),iI (L1 L B k)]):=by
 have HP:=hP;obtain⟨h1,h2,h3,f,c0,c1,hF⟩:=hP;obtain⟨hg,hn⟩:=hF.good;have hs:=FW hg;have A:=DI h3;have hbs:=hF.2.2.1;obtain⟨N,hN⟩:∃N,N=nbl (sizes L) B:=⟨_,rfl⟩;have HN:=hN.symm;unfold AY;by_cases G:k<0
 ·have E:=(NI (base:=base) (XyY (L:=L) (B:=B) (.inl G)));rw[E.1,E.2.1,E.2.2];go_enter func116,ntmps116;go_wp2
  go_ret3
  exact⟨rfl,Gr.refl _⟩
 ·obtain⟨j,rfl⟩:∃j:Nat,k=j:=⟨k.toNat,by omega⟩;by_cases hk1:N<=j
  ·have E:=(NI (base:=base) (XyY (L:=L) (B:=B) (k:=j) (.inr Ω)));rw[E.1,E.2.1,E.2.2];clear hN;go_enter func116,ntmps116;go_wp2_with(go_at_call 161;refine(W8 HP).mono ?_;rintro e w1 ⟨rfl,X⟩;rw[HN])
   go_ret3
   exact⟨rfl,X⟩
  ·have M:DQ L B j=true:=by unfold DQ;rw[<-hN];simp;omega
   have I:=ZV Ω M;have E:=(NE (base:=base) M);rw[E.1,E.2.1,E.2.2];obtain⟨t,ht⟩:∃t,t=j*B:=⟨_,rfl⟩;have Y:(j:Int)*(B:Int)=(t:Int):=by rw[ht];push_cast;rfl
   rw[<-ht]at I;rw[Y];obtain⟨s,O⟩:∃s,s=sizes L:=⟨_,rfl⟩;have HS:=O.symm;rw[<-O]at hs I⊢;have w1:IntKind.i64.wrap ((j:Int)*(B:Int))=(t:Int):=by rw[Y];exact ζu _ Ω
   have w2:IntKind.i64.wrap ((base:Int)+(t:Int))=(base:Int)+(t:Int):=ζu _ Ω;have w3:IntKind.i64.wrap ((base:Int)+(t:Int)+(B:Int))=(base:Int)+(t:Int)+(B:Int):=ζu _ Ω
   have hmin:∀w',(Builtin.min_ #[3,3] 3 #[iI ((base:Int)+(t:Int)+(B:Int)),iI ((base:Int)+(s:Int))]).run prog w'=.ok (iI ((base:Int)+min ((t:Int)+(B:Int)) (s:Int))) w':=λw'=>by
    rw[V7];rw[show min ((base:Int)+(t:Int)+(B:Int)) ((base:Int)+(s:Int))=(base:Int)+min ((t:Int)+(B:Int)) (s:Int)by omega]
   clear hN O ht M A Y;go_enter func116,ntmps116;go_wp2_with(go_at_call 161;refine(W8 HP).mono ?_;rintro e w1 ⟨rfl,X⟩;rw[HN])
   rename World=>wz
   have z0:∀xs m,(grow wz xs m).cell? ⟨p,0,none⟩=some (pP f):=λxs m=>((X.trans (grown wz xs m)).cell h1 0).trans c0;have z1:∀xs m,(grow wz xs m).cell? ⟨p,1,none⟩=some (iI B):=λxs m=>((X.trans (grown wz xs m)).cell h1 1).trans c1;refine I3 (by kernel_rfl) (by kernel_rfl) ?_
   repeat(go_big_quiet_step ((go_at_call 163;have hc:=λxs m=>ZC (hF.gr (X.trans (grown wz xs m)));exact AY.grown_same (hc _ _))))
   refine ζb ?_;intro _ V;obtain⟨⟨xs,nq⟩,Z⟩:=V;subst Z;obtain⟨wy,U⟩:∃wy,wy=grow wz xs nq:=⟨_,rfl⟩;have J:=(show Gr w wy from by rw[U];exact X.trans (grown _ _ _));have y0:∀xs m,(grow wy xs m).cell? ⟨p,0,none⟩=some (pP f):=λxs m=>((J.trans (grown wy xs m)).cell h1 0).trans c0;have y1:∀xs m,(grow wy xs m).cell? ⟨p,1,none⟩=some (iI B):=λxs m=>((J.trans (grown wy xs m)).cell h1 1).trans c1;rw[<-U];clear U z0 z1;go_wp2;refine I3 (by kernel_rfl) (by kernel_rfl) ?_
   repeat(go_big_quiet_step ((go_at_call 143;have hc:=λxs m=>MW (hF.gr (J.trans (grown wy xs m)));simp only[HS]at hc;exact AY.grown (hc _ _))))
   refine ζb ?_;intro _ V;obtain⟨⟨ys,mq⟩,Z⟩:=V;subst Z;go_wp2
   go_ret3
   exact⟨rfl,J.trans (grown wy _ _)⟩
end
structure Pc where
 f:Int
 t:Int
 s:Nat
 deriving DecidableEq,Inhabited
variable{P:List Pc}
def D0:List Pc->Int->Int->List Pc
 | [],x,y=>[⟨x,y,1⟩]
 | [p],x,y=>if p.f+p.s=x then [⟨p.f,p.t,p.s+1⟩]else [p,⟨x,y,1⟩]
 | p :: q :: r,x,y=>p :: D0 (q :: r) x y
theorem WN{x y:Int}(h:∀p,P.getLast?=some p->p.f+p.s≠x):D0 P x y=P++[⟨x,y,1⟩]:=by
 induction P with
 | nil=>rfl
 | cons p r ih=>
  cases r with
  | nil=>unfold D0;simp_all
  | cons q r=>unfold D0;simp_all
theorem UM{p:Pc}{x y:Int}(h:p.f+p.s=x):D0 (P++[p]) x y=P++[⟨p.f,p.t,p.s+1⟩]:=by
 induction P with
 | nil=>simp[D0,h]
 | cons q r ih=>
  cases r with
  | nil=>simp only[ζr,ζU,D0]at ih⊢;rw[θ h]
  | cons s r=>simp only[ζr,D0]at ih⊢;rw[ih]
def pcs(g:Int->Int)(at_:Int):Nat->List Pc
 | 0=>[]
 | k+1=>D0 (pcs g at_ k) (g (at_+k)) (at_+k)
structure MA(g:Int->Int)(a:Int)(k:Nat)(P:List Pc):Prop where
 pos:∀p∈P,1<=p.s
 word:∀p∈P,∀i:Nat,i<p.s->g (p.t+i)=p.f+i
 first:∀h:0<P.length,P[0].t=a
 next:∀i (h:i+1<P.length),P[i+1].t=P[i].t+P[i].s/\P[i].f+P[i].s≠P[i+1].f
 last:∀p,P.getLast?=some p->p.t+p.s=a+k
 none:P=[]->k=0
theorem Z8N{P:List α}(h:P≠[]):∃Q p,P=Q++[p]:=⟨P.dropLast,P.getLast h,(ξR h).symm⟩
theorem QBb(g:Int->Int)(a:Int)(k:Nat):MA g a k (pcs g a k):=by
 induction k with
 | zero=>exact⟨λp h=>(by cases h),λp h=>(by cases h),λh=>absurd h (by simp[pcs]),λi h=>absurd h (by simp[pcs]),λp h=>(by simp[pcs]at h),λ_=>rfl⟩
 | succ k ih=>
  unfold pcs;generalize pcs g a k=P at ih;by_cases hP:P=[]
  ·subst hP;obtain rfl:=ih.none rfl;refine⟨λp h=>?_,λp h i hi=>?_,λh=>by simp[D0],λi h=>absurd h (by simp[D0]),λp h=>?_,λh=>by simp[D0]at h⟩
   ·simp[D0]at h;subst h;exact ϑ 1
   ·simp[D0]at h;subst h;have hi:i<1:=hi;obtain rfl:i=0:=Ω
    simp
   ·simp[D0]at h;subst h;simp
  ·obtain⟨Q,p,rfl⟩:=Z8N hP;have hl:=ih.last p (by simp);have hps:=ih.pos p (by simp);by_cases hx:p.f+p.s=g (a+k)
   ·rw[UM hx];refine⟨λq h=>?_,λq h i hi=>?_,λh=>?_,λi h=>?_,λq h=>?_,λh=>by simp at h⟩
    ·rcases ζg.1 h with h|h
     ·exact ih.pos q (ζx _ h)
     ·rw[ζO.1 h];exact Nat.le_add_left ..
    ·rcases ζg.1 h with h|h
     ·exact ih.word q (ζx _ h) i hi
     ·rw[ζO.1 h]at hi⊢;have hi:i<p.s+1:=hi
      show g (p.t+i)=p.f+i
      rcases δ i p.s with h1|h1
      ·exact ih.word p (by simp) i h1
      ·obtain rfl:i=p.s:=Ω
       rw[hl,hx]
    ·have:=ih.first (by simp)
     cases Q with
     | nil=>simpa using this
     | cons q r=>simpa using this
    ·have X:i+1<(Q++[p]).length:=by simpa using h
     have:=ih.next i X
     have h':i+1<Q.length+1:=by simpa using h
     rcases δ (i+1) Q.length with h1|h1
     ·rw[ζE h1,ζE Ω]at this⊢;exact this
     ·obtain h2:i+1=Q.length:=Ω
      rw[ξY Ω,ζE Ω]at this⊢;simpa[h2]using this
    ·simp at h;subst h;show p.t+((p.s+1:Nat):Int)=_;omega
   ·rw[WN (λq h=>by simp at h;subst h;exact hx)];refine⟨λq h=>?_,λq h i hi=>?_,λh=>?_,λi h=>?_,λq h=>?_,λh=>by simp at h⟩
    ·rcases ζg.1 h with h|h
     ·exact ih.pos q h
     ·rw[ζO.1 h];exact ϑ 1
    ·rcases ζg.1 h with h|h
     ·exact ih.word q h i hi
     ·rw[ζO.1 h]at hi⊢;have hi:i<1:=hi;obtain rfl:i=0:=Ω
      simp
    ·have:=ih.first (by simp)
     rw[ζE (by simp)];exact this
    ·have h':i+1<(Q++[p]).length+1:=by simpa using h
     rcases δ (i+1) (Q++[p]).length with h1|h1
     ·have:=ih.next i h1
      have h4:i<(Q++[p]).length:=Nat.lt_of_succ_lt h1;rw[ζE h1,ζE h4];exact this
     ·have h2:i+1=(Q++[p]).length:=Ω
      have h3:i=Q.length:=by simp at h2;omega
      rw[ξY Ω,ζE Ω];subst h3;simp only[h2,Nat.sub_self,List.getElem_singleton,ξY (ϑ _)];exact⟨hl.symm,hx⟩
    ·simp at h;subst h;push_cast;omega
theorem QTh(g:Int->Int)(a:Int)(k:Nat):(pcs g a k).length<=k:=by
 induction k with
 | zero=>exact ϑ _
 | succ k ih=>
  unfold pcs;generalize pcs g a k=P at ih;by_cases hP:P=[]
  ·subst hP;simp[D0]
  ·obtain⟨Q,p,rfl⟩:=Z8N hP
   grind [UM,WN]
theorem Qox{g:Int->Int}{a:Int}(hP:pcs g a k=P)(hn:∀p,P.getLast?=some p->p.f+p.s≠g (a+k))(h1:1<=n)(hw:∀i,i<n->g (a+k+i)=g (a+k)+i):
  pcs g a (k+n)=P++[⟨g (a+k),a+k,n⟩]:=by
 induction n with
 | zero=>omega
 | succ n ih=>
  by_cases h0:n=0
  ·subst h0
   show D0 (pcs g a k) (g (a+k)) (a+k)=_
   rw[hP,WN hn]
  ·have:=ih Ω (λi hi=>hw i Ω)
   show D0 (pcs g a (k+n)) (g (a+(k+n:Nat))) (a+(k+n:Nat))=_
   grind [UM]
theorem MA.ends{g:Int->Int}{a:Int}(h:MA g a k P):∀(d i:Nat) (hi:i<P.length),P.length-i=d->P[i].t+P[i].s<=a+k/\a<=P[i].t:=by
 have lo:∀i (hi:i<P.length),a<=P[i].t:=by
  intro i
  induction i with
  | zero=>intro hi;rw[h.first hi];omega
  | succ i ih=>
   intro hi;have:=(h.next i hi).1
   grind
 intro d
 induction d with
 | zero=>omega
 | succ d ih=>
  intro i hi hd;refine⟨?_,lo i hi⟩;by_cases hl:i+1<P.length
  ·have h1:=(h.next i hl).1
   grind
  ·have:=h.last (P[i]) (by grind);omega
def JV(P:List Pc)(z:Int)(i:Nat):Int:=if h:i<P.length then P[i].t else z
theorem XS{z:Int}(h:i<P.length):JV P z i=P[i].t:=by unfold JV;simp_all
theorem VID(P:List Pc)(z:Int):JV P z P.length=z:=by unfold JV;simp_all
theorem XLy{g:Int->Int}{a:Int}(h:MA g a k P)(hk:1<=k):JV P (a+k) 0=a:=by
 by_cases hP:P=[]
 ·have:=h.none hP;omega
 ·have hl:0<P.length:=List.length_pos_iff.2 hP;rw[XS hl,h.first hl]
theorem Xv7{g:Int->Int}{a:Int}(h:MA g a k P)(hi:i<P.length):JV P (a+k) (i+1)=P[i].t+P[i].s:=by
 by_cases hl:i+1<P.length
 ·rw[XS hl,(h.next i hl).1]
 ·have hx:=h.last (P[i]) (by grind);unfold JV
  grind
theorem ZSj{L:List Ob}(h:AP n L)(hn:n<=1048576)(base:Nat)(b:Int):0<=CQ L base b/\CQ L base b<=1048576:=by
 cases hin:inF L base b with
 | false=>grind [MB]
 | true=>
  obtain⟨j,hj,_,e2,e3,_,_⟩:=Zeb h hin;have:=h.sz _ (μ hj);omega
section
variable{F:Nat}{L:List Ob}
def G2(L:List Ob)(base B:Nat)(b:Int):Int:=if inF L base b then (b-base)/B else 0
theorem ZAe(hP:Pln w F p n B base L)(hT:AQ w)(b:Int)(hb:b<=9223372036854775807):AY prog 262 #[pP p,iI b] w (.tuple #[iI (G2 L base B b),iI (F4 L base b)]):=by
 obtain⟨h1,h2,h3,f,c0,c1,hF⟩:=hP;have U:=DI h3;have hbs:=hF.2.2.1;have HT:=hT;obtain⟨hg,hn⟩:=hF.good;have hs:=FW hg;unfold AY;cases hin:inF L base b with
 | false=>
  have E:=ι (MB hin);have E2:Hid (G2 L base B b=0):=⟨by unfold G2;rw[hin];rfl⟩;rw[E.o.2.2,E2.o];go_enter func262,ntmps262;go_wp2_with(go_at_call 201;refine(MX hF HT b hb).mono ?_;rintro e w1 ⟨rfl,X⟩;rw[E.o.1,E.o.2.2]);go_ret2
  simp_all
 | true=>
  obtain⟨i1,i2⟩:=FH.1 hin;have E2:Hid (G2 L base B b=(b-base)/B):=⟨by unfold G2;rw[hin];rfl⟩;have E:Hid (F4 L base b=0):=⟨by unfold F4;rw[hin];rfl⟩;rw[E.o,E2.o];have w1:IntKind.i64.wrap (b-(base:Int))=b-(base:Int):=ζu _ Ω;have hb1:(1:Int)<=(B:Int):=U.1;have Y:(0:Int)<=b-(base:Int):=Ω
  have hB0:((B:Int)==0)=false:=ζy.2 Ω;have hdiv:(b-(base:Int)).tdiv (B:Int)=(b-(base:Int))/(B:Int):=Int.tdiv_eq_ediv_of_nonneg Y;have hdl:(b-(base:Int))/(B:Int)<=b-(base:Int):=Int.ediv_le_self _ Y;have hd0:0<=(b-(base:Int))/(B:Int):=Int.ediv_nonneg Y Ω;have w2:IntKind.i64.wrap ((b-(base:Int))/(B:Int))=(b-(base:Int))/(B:Int):=ζu _ Ω;go_enter func262,ntmps262;go_wp2_with(go_at_call 201;refine(MX hF HT b hb).mono ?_;rintro e w1 ⟨rfl,X⟩;rw[E.o])
  rename World=>wz
  have z0:∀xs m,(grow wz xs m).cell? ⟨p,0,none⟩=some (pP f):=λxs m=>((X.trans (grown wz xs m)).cell h1 0).trans c0;have z1:∀xs m,(grow wz xs m).cell? ⟨p,1,none⟩=some (iI B):=λxs m=>((X.trans (grown wz xs m)).cell h1 1).trans c1;refine I3 (by kernel_rfl) (by kernel_rfl) ?_
  repeat(go_big_quiet_step ((go_at_call 163;have hc:=λxs m=>ZC (hF.gr (X.trans (grown wz xs m)));exact AY.grown_same (hc _ _))))
  refine ζb ?_;intro _ J;obtain⟨⟨xs,nq⟩,Z⟩:=J;subst Z;go_wp2;go_ret2;exact⟨rfl,X.trans (grown wz _ _)⟩
def VWm(w:World)(L:List Ob)(base at_ to:Nat)(e:Ending)(w':World):Prop:=
 ∃r:Nat,e=.returned (.tuple #[iI (CQ L base at_),iI r])/\Gr w w'/\1<=r/\at_+r<=to/\(∀i,i<r->CQ L base ((at_:Int)+i)=CQ L base at_+i)/\(at_+r<to->CQ L base at_+r≠CQ L base ((at_:Int)+r))
theorem Zkm(hP:Pln w F p n B base L)(hT:AQ w)(at_ to:Nat)(ha:at_<to)(hto:(to:Int)<=4294967296):
  Calls prog 167 #[pP p,iI at_,iI to] w (VWm w L base at_ to):=by
 obtain⟨h1,h2,h3,f,c0,c1,hF⟩:=hP;have HT:=hT;obtain⟨hg,hn⟩:=hF.good;have M:=(λb=>ZSj hg hn base b);obtain⟨v,hv⟩:∃v,v=CQ L base at_:=⟨_,rfl⟩;have HV:=hv.symm;have G:=M at_;rw[<-hv]at G;clear h3 hT hg hv;go_enter func167,ntmps167;go_wp2_with(go_at_call 201;refine(MX hF HT at_ Ω).mono ?_;rintro e w1 ⟨rfl,O⟩;rw[HV];have E:=ι O)
 go_loopw [10] (λs wr=>∃r:Nat,Hid (1<=r/\at_+r<=to/\∀i,i<r->CQ L base ((at_:Int)+i)=v+i)/\Hid (Gr w wr)/\s=iI r) (λs _=>to-(intOf s).toNat)
 case atStart=>exact⟨1,⟨ϑ _,by omega,λi hi=>by obtain rfl:i=0:=Ω;simpa using HV⟩,E,rfl⟩
 case round=>
  rename World=>wr
  obtain⟨r,hr,X,rfl⟩:=hrel;obtain⟨U,V,-⟩:=hr.o;have k0:=(X.o.cell h1 0).trans c0;by_cases hlt:at_+r<to
  ·obtain⟨x,hx⟩:∃x,x=CQ L base ((at_:Int)+(r:Int)):=⟨_,rfl⟩;have HX:=hx.symm;clear hx;by_cases Z:x=v+r
   ·have I:(x !=v+(r:Int))=false:=by simp[Z]
    go_wp2_with(go_at_call 201;refine(MX (hF.gr X.o) (X.o.tab HT.lt HT) _ Ω).mono ?_;rintro e w1 ⟨rfl,Y⟩;rw[HX];have J:=ι (X.o.trans Y);clear Y);go_roundw
    case rel=>exact⟨r+1,⟨by omega,by omega,λi hi=>by rcases δ i r with h|h;exact hr.o.2.2 i h;(obtain rfl:i=r:=Ω);rw[HX,Z]⟩,J,by go_num⟩
    case measure=>simp[intOf];omega
   ·have I:(x !=v+(r:Int))=true:=by simp[Z]
    go_wp2_with(go_at_call 201;refine(MX (hF.gr X.o) (X.o.tab HT.lt HT) _ Ω).mono ?_;rintro e w1 ⟨rfl,Y⟩;rw[HX];have J:=ι (X.o.trans Y);clear Y);go_ret2;exact⟨r,by rw[HV];rfl,J.o,U,V,λi hi=>by rw[HV];exact hr.o.2.2 i hi,λ_ h=>Z (by rw[<-HX,<-h,HV])⟩
  ·go_wp2;go_ret2;exact⟨r,by rw[HV];rfl,X.o,U,V,λi hi=>by rw[HV];exact hr.o.2.2 i hi,λh=>by omega⟩
end
def FI(P:List Pc):List Value:=P.flatMap λq=>[iI q.f,iI q.t,iI (q.s:Nat)]
theorem YGE(P Q:List Pc):FI (P++Q)=FI P++FI Q:=by simp[FI]
theorem Zcu(h:i<P.length):(FI P)[i*3]?=some (iI P[i].f)/\(FI P)[i*3+1]?=some (iI P[i].t)/\(FI P)[i*3+2]?=some (iI (P[i].s:Nat)):=by
 induction P generalizing i with
 | nil=>grind
 | cons o r ih=>
  have e:FI (o :: r)=iI o.f :: iI o.t :: iI (o.s:Nat) :: FI r:=rfl;rw[e];cases i with
  | zero=>simp_all
  | succ i=>
   grind
def H9(w:World)(A:Option Addr)(P:List Pc):Prop:=∀i (h:i<P.length),∃g,A=some ⟨g,0,none⟩/\g<w.heap.size ∧
 w.cell? ⟨g,i*3,none⟩=some (iI P[i].f)/\w.cell? ⟨g,i*3+1,none⟩=some (iI P[i].t)/\w.cell? ⟨g,i*3+2,none⟩=some (iI (P[i].s:Nat))
theorem H9.gr{A:Option Addr}(h:H9 w A P)(t:Gr w w'):H9 w' A P:=λi hi=>by
 obtain⟨g,rfl,h1,h2,h3,h4⟩:=h i hi;exact⟨g,rfl,κ h1 t.size,(t.cell h1 _).trans h2,(t.cell h1 _).trans h3,(t.cell h1 _).trans h4⟩
theorem XfI{T:Nat}{v:Value}(h:w.ownsRow base T 3 v P.length (FI P)):∃A c,v=.slice A P.length c/\H9 w A P/\∀a,A=some a->base<=a.block:=by
 by_cases hn:P.length=0
 ·obtain⟨_,⟨rfl,_⟩|⟨g,c,cur,rfl,e2,_⟩⟩:=h
  ·exact⟨none,0,by rw[hn],λi hi=>by omega,λa e=>by cases e⟩
  ·exact⟨some ⟨g,0,none⟩,c,rfl,λi hi=>by omega,λa e=>by grind⟩
 ·obtain⟨g,c,rfl,hb,_,_,hg⟩:=ET h hn;refine⟨some ⟨g,0,none⟩,c,rfl,λi hi=>?_,λa e=>by grind⟩
  grind [Zcu,BP]
theorem ZkK{T:Nat}{v:Value}{q:Pc}(h:w.ownsRow base T 3 v (P.length+1) (FI P++[iI q.f,iI q.t,iI (q.s:Nat)])):w.ownsRow base T 3 v (P++[q]).length (FI (P++[q])):=by
 rw[YGE,ζo];exact h
theorem Vdu:(prog.info? 195).map (λi=>(i.zero,i.size,i.bytes))=some (some (.agg #[iI 0,iI 0,iI 0]),3,24):=by kernel_rfl
def IH(L:List Ob)(B base:Nat)(k:Int):List Pc:=pcs (CQ L base) (IE L B base k) (I5 L B base k-IE L B base k).toNat
theorem Y1{L:List Ob}{k:Int}(h:DQ L B k=false):IH L B base k=[]:=by
 unfold IH;rw[(NI h).1,(NI h).2.1];rfl
theorem VYq{L:List Ob}(hg:AP n L)(hn:n<=1048576)(hB:1<=B)(hb:base<2147483648){k:Int}(h:DQ L B k=true):
  ∃a z:Nat,IE L B base k=a/\I5 L B base k=z/\a<z/\z<=2148532224/\z<=a+B/\base<=a/\z<=base+sizes L:=by
 have hk0:0<=k:=by unfold DQ at h;simp_all
 obtain⟨j,rfl⟩:∃j:Nat,k=j:=⟨k.toNat,by omega⟩;have hlt:=ZV hB h;have hs:=FW hg;obtain⟨e1,e2,-⟩:=NE (base:=base) h;refine⟨base+j*B,base+min (j*B+B) (sizes L),by rw[e1];rfl,by omega,by omega,by omega,by omega,by omega,by omega⟩
theorem ZbI{L:List Ob}(hg:AP n L)(hn:n<=1048576)(hB:1<=B)(hb:base<2147483648)(k:Int):(IH L B base k).length<=B:=by
 cases hin:DQ L B k with
 | false=>grind [Y1]
 | true=>
  obtain⟨a,z,ea,ez,_,_,hz,_,_⟩:=VYq hg hn hB hb hin;unfold IH
  grind [QTh]
section
variable{F:Nat}{L:List Ob}
def Jzj(w:World)(P:List Pc)(c:Int)(e:Ending)(w':World):Prop:=
 ∃A cap,e=.returned (.tuple #[.slice A P.length cap,iI c])/\Gr w w'/\H9 w' A P/\∀a,A=some a->w.heap.size<=a.block
theorem Y4j(hP:Pln w F p n B base L)(hT:AQ w)(k:Int):
  Calls prog 118 #[pP p,iI k] w (Jzj w (IH L B base k) (L1 L B k)):=by
 have HP:=hP;obtain⟨h1,h2,h3,f,c0,c1,hF⟩:=hP;obtain⟨hg,hn⟩:=hF.good;have hbp:=DI h3;have Xj:=hF.2.2.1;cases hin:DQ L B k with
 | false=>
  have E:=(NI (base:=base) hin);have E2:=ι (Y1 (base:=base) hin);rw[E2.o,E.2.2];clear hF h3 hg hin;go_enter func118,ntmps118;go_wp2_with(go_at_call 116;refine(UJ HP k).mono ?_;rintro e w1 ⟨rfl,J⟩;rw[E.1,E.2.1,E.2.2]);go_ret2;exact⟨none,0,rfl,J,λi hi=>absurd hi (by simp),λa e=>by cases e⟩
 | true=>
  obtain⟨a0,z,ea,ez,hlt,hz,hzB,-,-⟩:=VYq hg hn Ω Xj hin;have E:=(ψ ea (ψ ez (NE (base:=base) hin).2.2));have E2:Hid (IH L B base k=pcs (CQ L base) a0 (z-a0)):=⟨by unfold IH;rw[ea,ez];congr 1;omega⟩;rw[E2.o,E.2.2];obtain⟨i0,hi,Xl,Xn,Xo⟩:=info_parts Vdu;obtain⟨g,I⟩:∃g,g=CQ L base:=⟨_,rfl⟩;rw[<-I];have Xk:=I;clear hF h3 hg hin ea ez I;go_enter func118,ntmps118;go_wp2_with(go_at_call 116;refine(UJ HP k).mono ?_;rintro e w1 ⟨rfl,J⟩;rw[E.1,E.2.1,E.2.2];have Xa:=J;clear J)
  go_loopw [6,9] (λs6 s9 wr=>∃(X m:Nat) (P:List Pc),Hid (X=a0+m)/\X<=z/\a0<=X/\Hid (pcs g a0 m=P)/\P.length<=X/\Hid (X < z->∀q,P.getLast?=some q->q.f+q.s≠g X)/\Hid (wr.ownsRow w1.heap.size 195 3 s9 P.length (FI P))/\Hid (AB (λi=>w1.heap.size<=i) w1 wr)/\s6=iI X) (λs6 _ _=>z-(intOf s6).toNat)
  case atStart=>exact⟨a0,0,[],⟨rfl⟩,by omega,ϑ _,⟨rfl⟩,by simp,⟨λ_ q h=>by simp at h⟩,⟨GR _ _ _ _⟩,⟨AB.refl _ _⟩,rfl⟩
  case round=>
   obtain⟨X,m,P,Xc,hle,hge,hp,hpl,M,U,ht,rfl⟩:=hrel;have HG:=((Xa.touch (λ_=>False)).trans' ht.o (λi hi h=>by have:=Xa.size;omega)).gr;have hwl:=ht.o.size;by_cases Xf:X < z
   ·go_wp2_with(first
     | (go_at_call 167;refine(Zkm (HP.gr HG) (HG.tab hT.lt hT) X z Xf Ω).mono ?_;rintro e w3 ⟨r,rfl,G,Xp,hr2,Xb,V⟩;rw[<-Xk]at Xb V⊢;have HR:=(ψ Xb V);have Xe:=(CM U.o G);have hz3:=G.size;(obtain⟨fv,O⟩:∃fv,fv=g X:=⟨_,rfl⟩);have Xd:=O.symm;rw[<-O];clear Xb V O)
     | (at_builtin;refine wpList_append_own _ rfl _ _ 191 rfl w1.heap.size 195 i0 _ 3 24 underlying191 hi Xl Xn Xo rfl (by decide) u9 P.length (FI P) rfl (CM Xe ((Gr.refl _).alloc _)) ⟨w3.heap.size,0,none⟩ 1 1 [iI fv,iI X,iI r] rfl rfl (ξs (cs:=#[iI fv,iI X,iI r]) (t:=195) (fr:=(0,0)) (heap_alloc_new w3 _)) (by simp[Value.oneCell']) (by unfold maxLen;omega) Ω (by simp only[χ];omega) ?_;intro v4 w4 Z Y _;have Xg:=ι (ZkK (q:=⟨fv,X,r⟩) Z);have Xm:=((((Gr.refl w3).alloc (.cells #[.int .i64 fv,.int .i64 X,.int .i64 r] 195)).touch (λk=>w1.heap.size<=k)).trans (EC Y _ (λ_ e _=>(BE Xe e).1)));clear Z Y))
    go_roundw
    case rel=>
     refine⟨X + r,m+r,P++[⟨fv,X,r⟩],⟨by rw[Xc.o];omega⟩,by omega,by omega,⟨?_⟩,by simp;omega,⟨λhzz q hq=>?_⟩,Xg,⟨(ht.o.trans (G.touch _)).trans Xm⟩,by go_num⟩
     ·have e1:=Xc.o;have ee:(a0:Int)+(m:Int)=(X:Int):=Ω
      have hh:=Qox (g:=g) (a:=a0) (k:=m) hp.o (by rw[ee];exact M.o Xf) Xp (by rw[ee];exact HR.1);rw[hh,ee,Xd]
     ·simp at hq;subst hq;have:=HR.2 hzz;rw[Xd]at this;push_cast;exact this
    case measure=>simp[intOf];omega
   ·obtain rfl:X=z:=Ω
    go_wp2;go_ret2;obtain⟨A,c,hA,Xh,Xi⟩:=XfI U.o;have e1:=hp.o;have e2:m=X - a0:=by have:=Xc.o;omega
    subst e2;rw[e1];exact⟨A,c,by rw[<-hA];rfl,HG,Xh,λa h=>γ Xa.size (Xi a h)⟩
end
structure ZxU where
 pg:Nat
 H:List Hdr
 P:List Nat
 R:List Nat
 bk:Nat
 st:Nat
 ah:Nat
section
variable(x:ZxU)
end
structure DZ(v v':Vm):Prop where
 ok:AE v'
 sm:BS v v'
theorem DZ.refl(h:AE v):DZ v v:=⟨h,BS.refl v⟩
theorem DZ.st(h:DZ v v')(a:Int)(hx:x<18446744073709551616):DZ v (v'.st a x):=⟨h.ok.st a hx,h.sm.trans (BS.st _ _ _)⟩
theorem DZ.mkV{v v':Vm}(h:DZ v v')(a:Int){x:Nat}(hx:x<18446744073709551616)(m:Nat):DZ v (mkV v' a x m):=by
 induction m with
 | zero=>exact h.st a hx
 | succ m ih=>exact ih.st _ (by decide)
theorem DZ.mkVm{v v':Vm}(h:DZ v v')(a:Int)(hd:Hdr):DZ v (mkVm v' a hd):=by
 unfold Go.Proofs.YtggjoonlcjjgkaaGreatDoor.mkVm
 split
 ·rename_i h0;unfold E7 at h0
  split at h0
  ·cases h0
  ·split at h0
   ·cases h0
   ·rename_i h1;obtain⟨p,f,c,rfl,hs⟩:=OI (ξT.1 h1);exact h.mkV a (XT (by simp_all)) _
 ·exact h
theorem XS7{c:Nat}(hs:p+f+c<=255):tkE (C9 p f c)=0/\tkH (C9 p f c)=⟨p,f,c⟩:=by
 have e:C9 p f c=(4294967295-(p+256*f+65536*c+2768240640))*4294967296+(p+256*f+65536*c+2768240640):=rfl;have a1:C9 p f c%4294967296=p+256*f+65536*c+2768240640:=Ω
 have a2:C9 p f c/4294967296=4294967295-(p+256*f+65536*c+2768240640):=Ω
 have a3:C9 p f c%256=p:=Ω
 have a4:C9 p f c/256%256=f:=Ω
 have a5:C9 p f c/65536%256=c:=Ω
 have hok:F9 (C9 p f c)=true:=by
  unfold F9;rw[a1,a2,a3,a4,a5];simp only[ζe,ζd]
  grind
 unfold tkE tkH
 simp_all
theorem XUd(h:AE v)(a:Int)(hx:x<18446744073709551616)(m:Nat)(hm:∀j:Nat,j<=m->v.ldE (a+j)=0)(b:Int):(mkV v a x m).ldV b=if b=a then x else if a<b/\b<=a+m then 0 else v.ldV b:=by
 induction m with
 | zero=>
  have h0:=hm 0 (ϑ _);rw[show a+((0:Nat):Int)=a by omega]at h0
  show (v.st a x).ldV b=_
  rw[h.st_ldV x h0]
  grind
 | succ m ih=>
  have ih:=ih (λj hj=>hm j Ω);have X:=((DZ.refl h).mkV a hx m).ok
  have hl:(mkV v a x m).ldE (a+1+m)=0:=by
   rw[ZU,show a+1+(m:Int)=a+((m+1:Nat):Int)by omega];exact hm (m+1) (ϑ _)
  show ((mkV v a x m).st (a+1+m) 0).ldV b=_
  rw[X.st_ldV 0 hl,ih]
  grind
theorem VzI{a:Int}(h:∀j:Nat,j<=n->v.ldE (a+j)=0):mkE v a n=0:=by
 induction n with
 | zero=>
  have:=h 0 (ϑ _)
  rwa [show a+((0:Nat):Int)=a by omega]at this
 | succ n ih=>
  show (if mkE v a n≠0 then mkE v a n else v.ldE (a+1+n))=0
  rw[φ (λhn=>hn (ih (λj hj=>h j Ω))),show a+1+(n:Int)=a+((n+1:Nat):Int)by omega];exact h (n+1) (ϑ _)
theorem YB(h:AE v){t c:Nat}(ht:0<t)(hs:p+f+c<=255)(hl:∀j:Nat,j<=p+f+c->v.ldE ((t:Int)+j)=0):
  E7 v t ⟨p,f,c⟩=0/\∀b:Int,(mkVm v t ⟨p,f,c⟩).ldV b=if b=t then C9 p f c else if (t:Int)<b/\b<=t+((p+f+c:Nat):Int)then 0 else v.ldV b:=by
 have h0:E7 v t ⟨p,f,c⟩=0:=by
  unfold E7;rw[φ Ω,φ (by grind [EQ])];exact VzI hl
 refine⟨h0,λb=>?_⟩;unfold mkVm;rw[θ h0];exact XUd h t (XT hs) _ hl b
section
variable{x:ZxU}{v0:Vm}
end
theorem JW8{v1 v2:Vm}{c:Cf}{L:List Ob}{kq:Nat}(hv:AE v)(hM:BK v rs n L)(hf:FV v L)(hD:UA v rs c L v1 v2 k kq)
  (hu:∀a:Nat,c.to<=a->a<c.to+sizes L->¬(c.fr/v.pl.pg<=a/v.pl.pg/\a/v.pl.pg<c.fr/v.pl.pg+kq)):
  MM v (umN v2 (c.fr/v.pl.pg) kq) (Rch v rs) (BX v1 (AR v1 rs k) c.to) c.to (c.to+sizes L):=by
 have hw:=hD.gr.wider hv;have hS:=hM.sound;have X:=hD.st;obtain⟨J,A⟩:=hD.cx.done hD.ke;have Xd:=hD.ke;have E:=hD.cx.map;have htop:=hD.cx.top;obtain⟨O,hO⟩:∃O,O=AR v1 rs k:=⟨_,rfl⟩;rw[<-hO]at X J A Xd⊢;have Z:∀a,Rch v rs a->∃(j:Nat) (hj:j<O.length),O[j]=a:=λa ha=>ζm (J a ((hw.rch hS a).2 ha));have V:∀a,Rch v rs a->v1.rdH a=v.rdH a:=λa ha=>(hw.rd (hS.rd a ha)).2;have Y:∀a,Rch v rs a->v1.osz a=v.osz a:=λa ha=>by unfold Vm.osz;rw[V a ha]
 have h0:(0:Int)∉O:=λh=>by
  have:=(DH (hD.cx.mks.sound.rd _ (X.rch 0 h))).1;omega
 have Xc:v2.pl.pg=v.pl.pg:=X.cp.sm.pg.trans hD.gr.pg;have hn2:v2.n=v1.n:=X.cp.sm.n;refine⟨OT v1 _ h0,λa ha m hm=>?_,λa ha=>?_,λa b ha hb=>?_⟩
 ·obtain⟨j,hj,rfl⟩:=Z a ha;have U:(m:Int)<v1.osz O[j]:=by rw[Y _ ha];exact hm
  have hpl:=place_lt v1 hj U;have hs0:=GH v1 (O.take j);obtain⟨i,hi⟩:∃i:Nat,(i:Int)=AI v1 (O.take j)+m:=⟨(AI v1 (O.take j)+m).toNat,by omega⟩;have hil:i<sizes L:=Ω
  rw[V6 v1 X.nd _ hj];have e:(c.to:Int)+AI v1 (O.take j)+m=((c.to+i:Nat):Int):=Ω
  have Xb:¬(c.fr/v.pl.pg<=(c.to+i)/v2.pl.pg/\(c.to+i)/v2.pl.pg<c.fr/v.pl.pg+kq):=by
   rw[Xc];exact hu (c.to+i) Ω Ω
  have G:c.to+i<v2.n:=Ω
  rw[e,VU X.cp.ok _ _ G,VIn X.cp.ok _ _ G Xb,φ Xb,X.cp.sm.ldE];refine⟨E _ Ω Ω,?_⟩;obtain⟨o,ho,M⟩:=hM.all _ ha;have Xf:=(hM.mkd.ats o ho).2.2
  have Xe:v.ldE (O[j]+m)=0:=by
   rw[<-M];refine hf o ho m ?_;rw[M]at Xf;omega
  have I:=(hw.le _ Xe).2;have Xa:O.getD j 0=O[j]:=by rw[β,ω hj];rfl
  rw[<-e];by_cases hT:1<=m/\(m:Int)<=(v.rdH O[j]).p
  ·rw[θ hT];have:=X.cp.trn j hj m U ⟨hT.1,.inl ⟨by omega,by rw[Xa,V _ ha];exact hT.2⟩⟩;rw[this,I]
  ·rw[φ hT,X.cp.raw j hj m U (λht=>hT (by
    obtain⟨t1,t2|t2⟩:=ht
    ·refine⟨t1,?_⟩;have:=t2.2;rw[Xa,V _ ha]at this;exact this
    ·omega)),I]
 ·obtain⟨j,hj,rfl⟩:=Z a ha;have:=UU v1 (c.to:Int) (μ hj);rw[Y _ ha]at this;omega
 ·obtain⟨j,hj,rfl⟩:=Z a ha;obtain⟨i,hi,rfl⟩:=Z b hb;rw[V6 v1 X.nd _ hj,V6 v1 X.nd _ hi];have s1:=K8 v1 hj;have s2:=K8 v1 hi;rw[Y _ ha]at s1;rw[Y _ hb]at s2;rcases ζS j i with h|h|h
  ·have:=Q1 v1 O (show j+1<=i from h);exact .inr (.inl Ω)
  ·subst h;exact .inl rfl
  ·have:=Q1 v1 O (show i+1<=j from h);exact .inr (.inr Ω)
theorem BI.put{P:Program}{k e t:TypeId}{f:Int->Option Value}(h:BI P k w b n f)(K:Maps.Keyed P k)(ht:P.underlying t=some (.map k e))(hk:P.underlying k=some (.int .i64))(hn:n<maxLen)(key:Int)(val:Value)(hw:(Lit.int .i64 key).wf=true):
  ∃w',(Instr.mapUpdate t (.map (some b)) (.int .i64 key) val).run P w=.ok () w'/\BI P k w' b (n+1) (λy=>if y=key then some val else f y)/\AB (λi=>i=b) w w':=by
 obtain⟨D,hD,hf⟩:=h;have X:=Maps.keyOf_int_mk (P:=P) hk hw;obtain⟨w',Z,h1,h2⟩:=hD.update K ht hn X (val:=val) (d:=.held val) (ps:=[]) rfl;refine⟨w',Z,⟨_,h1,λy hy=>?_⟩,EC h2 _ (λi hi _=>by cases hi;rfl)⟩;by_cases e:y=key
 ·subst e;dsimp only;rw[θ rfl];refine⟨Maps.has_put_same hD.isMap (K.key X) _,λv hv z=>?_⟩;cases hv;exact Maps.atKey_put_same hD.isMap (K.key X) _ _
 ·dsimp only;rw[φ e];have Y:(Lit.int .i64 y)≠.int .i64 key:=λh=>e (by injection h);exact⟨(Maps.has_put_other Y _).trans (hf y hy).1,λv hv z=>(Maps.atKey_put_other Y _ _).trans ((hf y hy).2 v hv z)⟩
section
variable{g:Nat}
theorem VMw(h:AS w r g rs){i:Int}(hi:slE rs i≠0):Calls prog 66 #[pP r,iI i] w λe w'=>e=.returned (.tuple #[iI 0,iI 17])/\Gr w w':=by
 have HC:=(QW (h.gr ((Gr.refl w).alloc (.cells #[.int .i64 i] 3))) (b:=w.heap.size) (i:=i) ((Rec.new w 3 [iI i]).cell (j:=0) rfl));rw[show slE rs i=17 by unfold slE at hi⊢;omega]at HC;go_enter func66,ntmps66;go_wp2_with(go_at_call 100;refine HC.mono ?_;rintro e w1 ⟨rfl,rfl⟩);go_ret2;exact⟨rfl,(Gr.refl w).alloc _⟩
theorem QST(h:AS w r g rs){i:Int}(hi:slE rs i≠0)(a:Int):Calls prog 55 #[pP r,iI i,iI a] w λe w'=>e=.returned (iI 17)/\Gr w w':=by
 have HC:=(QW (h.gr ((Gr.refl w).alloc (.cells #[.int .i64 i] 3))) (b:=w.heap.size) (i:=i) ((Rec.new w 3 [iI i]).cell (j:=0) rfl));rw[show slE rs i=17 by unfold slE at hi⊢;omega]at HC;go_enter func55,ntmps55;go_wp2_with(go_at_call 100;refine HC.mono ?_;rintro e w1 ⟨rfl,rfl⟩);go_ret;exact⟨rfl,(Gr.refl w).alloc _⟩
theorem ZP2(h:AS w r g rs){i k:Int}(c0:w.cell? ⟨b,0,none⟩=some (iI i))(c1:w.cell? ⟨b,1,none⟩=some (iI k)):cQ 100 #[pP r,.slice (some ⟨b,0,none⟩) 2 2] w (iI (if slE rs i=0 then slE rs k else 17)):=by
 have cr:=h.rcd.cc 0;have Y:=h.le;have hbl:=AT c0;obtain⟨n,hn⟩:∃n,n=rs.length:=⟨_,rfl⟩
 have X:∀j:Int,(slE rs j=0/\decide (j<0)=false/\decide ((n:Int)<=j)=false)\/(slE rs j=17/\(decide (j<0)=true\/(decide (j<0)=false/\decide ((n:Int)<=j)=true))):=λj=>by
  unfold slE
  grind
 rw[<-hn]at cr Y;have HI:=ι (X i);have HK:=ι (X k);generalize slE rs i=x at HI⊢;generalize slE rs k=y at HK⊢;clear X hn;rcases HI.o with⟨rfl,d0,d1⟩|⟨rfl,d⟩
 ·rw[θ rfl];go_enter func100,ntmps100;go_wp2
  go_loopw [11] (λs11 wr=>∃j:Nat,j<=2/\wr=w/\s11=iI j/\Hid (j=2->y=0)) (λs11 _=>2-(intOf s11).toNat)
  case atStart=>grind
  case round=>
   obtain⟨j,hj,rfl,rfl,HY⟩:=hrel;rcases(by omega:j=0\/j=1\/j=2)with rfl|rfl|rfl
   ·go_wp2;go_round
    case rel=>exact⟨1,by omega,trivial,by go_num,⟨λh=>by omega⟩⟩
    case measure=>simp[intOf]
   ·rcases HK.o with⟨rfl,q0,q1⟩|⟨rfl,q|⟨q,q2⟩⟩
    ·go_wp2;go_round
     case rel=>exact⟨2,by omega,trivial,by go_num,⟨λ_=>trivial⟩⟩
     case measure=>simp[intOf]
    ·go_wp2;go_ret
     simp_all
    ·go_wp2;go_ret
     simp_all
   ·have hy:=HY.o rfl;subst hy;go_wp2;go_ret
    simp_all
 ·rw[φ (by decide)];rcases d with d0|⟨d0,d1⟩
  all_goals
   go_enter func100,ntmps100;go_wp2
   go_loopw [11] (λs11 wr=>wr=w/\s11=iI 0) (λ_ _=>0)
   case atStart=>simp_all
   case round=>
    obtain⟨rfl,rfl⟩:=hrel;go_wp2;go_ret
    simp_all
def O2(rs:List Int)(i k:Int):List Int:=if slE rs i=0/\slE rs k=0 then rs.set i.toNat (rs.getD k.toNat 0)else rs
theorem Jv2(h:AS w r g rs)(i k:Int):Calls prog 103 #[pP r,iI i,iI k] w λe w'=>e=.returned (iI (if slE rs i=0 then slE rs k else 17))/\AB (λb=>b=g) w w'/\AS w' r g (O2 rs i k):=by
 have hg:=(Gr.refl w).alloc (.cells #[.int .i64 i,.int .i64 k] 3);have HC:=(ZP2 (h.gr hg) (b:=w.heap.size) (i:=i) (k:=k) ((Rec.new w 3 [iI i,iI k]).cell (j:=0) rfl) ((Rec.new w 3 [iI i,iI k]).cell (j:=1) rfl));have h':=h.gr hg;have G:=h'.le;have I:∀j,slE rs j=0\/slE rs j=17:=λj=>by unfold slE;omega
 by_cases X:slE rs i=0/\slE rs k=0
 ·have J:∀j,slE rs j=0->0<=j/\j<rs.length:=λj hj=>by
   unfold slE at hj;omega
  obtain⟨i',rfl⟩:∃i':Nat,i=i':=⟨i.toNat,by grind⟩;obtain⟨k',rfl⟩:∃k':Nat,k=k':=⟨k.toNat,by grind⟩;have hi:=(J _ X.1).2;have hk:=(J _ X.2).2;have Z:i' < rs.length:=Ω
  have V:k' < rs.length:=Ω
  have HX:Hid (O2 rs i' k'=rs.set i' rs[k']):=⟨by unfold O2;simp_all⟩;have O:=(λ(W:World) (gg:Gr w W)=>(h.gr gg).cell V);have A:=((h.gr hg).cell Z);have U:=(λ(W:World) (gg:Gr w W)=>FT (h.gr gg).row i');rw[θ X.1,X.2]at HC⊢;obtain⟨x,hx⟩:∃x,x=rs[k']:=⟨_,rfl⟩;rw[<-hx]at O HX;obtain⟨n,hn⟩:∃n,n=rs.length:=⟨_,rfl⟩;have E:=(λ(W:World) (gg:Gr w W)=>(h.gr gg).rcd.cell (j:=0) rfl);rw[<-hn]at E G hi hk Z V;have HI0:=Z;clear h' hx hn X I J;go_enter func103,ntmps103;go_upto_region 3 with(go_at_call 100;refine HC.mono ?_;rintro e w1 ⟨rfl,rfl⟩);have z0:=U _ hg;generalize rs[i']=xo at A;obtain⟨Sx,Y,HS⟩:=AA.start λW'=>Gr w W';have y0:=AA.fact Y λ_ h=>E _ h;have y1:=AA.fact Y λ_ h=>O _ h;have y2:∀p:AA Sx,p.w.frozen? ⟨g,i',none⟩=false:=λp=>by have h:=AA.get Y p;exact U _ h
  have M:=HS.o _ (hg.drew);have inst:Inhabited (AA Sx):=⟨⟨_,M⟩⟩;clear Y;refine AV Sx 13 [([0,1,2,3,4,5,6,7,8,9,10,11,12],13)] [] M ?_;refine AH ?_;go_wp2;refine⟨.inl trivial,?_⟩;refine EN ?_;refine ζb ?_;refine ζA ?_;go_wp2;go_ret;exact⟨rfl,AB.setCell (S:=λb=>b=g) (hg.drew.touch _) (a:=⟨g,i',none⟩) (λ_=>rfl) _,by rw[HX.o];exact(h.gr hg.drew).set i' x⟩
 ·have HX:Hid (O2 rs i k=rs):=⟨φ X⟩
  have he:(if slE rs i=0 then slE rs k else 17)=17:=by
   grind
  rw[he]at HC⊢;go_enter func103,ntmps103;go_wp2_with(go_at_call 100;refine HC.mono ?_;rintro e w1 ⟨rfl,rfl⟩);go_ret;exact⟨rfl,hg.touch _,by rw[HX.o];exact h'⟩
end
theorem VBi(b:Nat)(w:World):(callFunc 35 #[uU b]).run prog w=.ok (.value (.float .f64 b)) w:=by kernel_rfl
theorem ZI9(b:Nat)(w:World):(callFunc 45 #[.float .f64 b]).run prog w=.ok (.value (uU b)) w:=by kernel_rfl
theorem M6(b:Nat)(w:World):cQ 10 #[uU b] w (.float .f64 b):=by
 have h1:=VBi b;go_enter func10,ntmps10;go_wp2;go_ret
 simp_all
theorem MY(b:Nat)(w:World):cQ 18 #[.float .f64 b] w (uU b):=by
 have h1:=ZI9 b;go_enter func18,ntmps18;go_wp2;go_ret
 simp_all
structure Sp.Wr(z:Sp)(FS:FuncId):Prop where
 ns:∀n w,(nilAhead (n+1) z.T z.rv "Store").run prog w=.ok (some false) w
 ms:∀n w,(method (n+1) z.T z.rv "Store").run prog w=.ok (FS,z.rv) w
 cs:∀args w,(callFunc FS args).run prog w=.ok (.enter FS args) w
 st:∀{u S w},z.I u S w->∀(a:Int) (x:Nat),z.P a->x<18446744073709551616->Calls prog FS #[z.rv,iI a,uU x] w (λe w'=>e=.returned (iI (u.ldE a))/\AB S w w'/\z.I (u.st a x) (plus S w) w')
def Sp.W(z:Sp)(u:Vm)(S:Nat->Prop)(w w':World):Prop:=AB S w w'/\z.I u (plus S w) w'
def Vm.seV(v:Vm)(a i kd:Int)(x:Nat):Vm:=if v.plE a i kd=0 then v.st (a+1+i) x else v
section
variable{z:Sp}{FS:FuncId}{S:Nat->Prop}{w1:World}
theorem Sp.E.toW(h:z.E v S w w'):z.W v S w w':=⟨h.1.mono (λ_ _ h=>h.2),h.2⟩
theorem Sp.E.transW(h:z.E v S w w1)(k:z.W v' (plus S w) w1 w')(hS:z.Ok):z.W v' S w w':=by
 have hz:=h.1.size;refine⟨(h.1.mono (λ_ _ h=>h.2)).trans' k.1 (λi hi hh=>hh.elim id (λh=>by omega)),hS.mono k.2 (λi hi=>?_)⟩;rcases hi with h1|h1
 ·exact h1
 ·exact .inr Ω
theorem Sp.W.gr(h:z.W v S w w1)(g:Gr w1 w')(hS:z.Ok):z.W v S w w':=⟨h.1.trans (g.touch _),hS.gr h.2 g⟩
theorem QV8(hS:z.Ok)(hI:z.I v S w)(a i:Int)(hP:0<a->z.P a)(hQ:v.plE a i 3=0->z.P (a+1+i)):Calls prog 106 #[z.v,iI a,iI i] w λe w'=>e=.returned (.tuple #[uU (v.gtV a i 3:Nat),iI (v.gtE a i 3)])/\z.E v S w w':=by
 have HG:=(WR hS hI a i 3 (by decide) hP hQ);go_enter func106,ntmps106;go_wp2_with(go_at_call 101;refine(HG).mono ?_;rintro e w1 ⟨rfl,X⟩;have HG1:=X);go_ret2
 simp_all
theorem QUr(hS:z.Ok)(hI:z.I v S w)(a i:Int)(hP:0<a->z.P a)(hQ:v.plE a i 2=0->z.P (a+1+i)):Calls prog 105 #[z.v,iI a,iI i] w λe w'=>e=.returned (.tuple #[.float .f64 (v.gtV a i 2),iI (v.gtE a i 2)])/\z.E v S w w':=by
 have HG:=(WR hS hI a i 2 (by decide) hP hQ);generalize v.gtV a i 2=x at HG⊢;go_enter func105,ntmps105
 go_wp2_with(first
  | (go_at_call 101;refine(HG).mono ?_;rintro e w1 ⟨rfl,X⟩;have HG1:=X)
  | (go_at_call 10;refine AK (M6 x _) ?_))
 go_ret2
 simp_all
theorem QnX(hS:z.Ok)(hW:z.Wr FS)(hI:z.I v S w)(a i kd:Int)(hk:kd≠0)(hP:0<a->z.P a)(hQ:v.plE a i kd=0->z.P (a+1+i))(hx:x<18446744073709551616):Calls prog 114 #[z.v,iI a,iI i,iI kd,uU x] w λe w'=>e=.returned (iI (v.gtE a i kd))/\z.W (v.seV a i kd x) S w w':=by
 have X:=(PL hS hI a i kd hk hP);have n1:=hW.ns;have n2:=hW.ms;have n3:=hW.cs;have HW:=hW;have HX:=hx;unfold Sp.v at X⊢;by_cases hE:v.plE a i kd=0
 ·have HE:Hid (v.gtE a i kd=v.ldE (a+1+i)/\v.seV a i kd x=v.st (a+1+i) x):=⟨⟨φ (λh=>h hE),θ hE⟩⟩;have HA:Hid (v.plA a i kd=a+1+i):=⟨θ hE⟩;rw[hE,HA.o]at X;have J:=(hQ hE);generalize a+1+i=U at HE X J;go_enter func114,ntmps114
  go_wp2_with(first
   | (go_at_call 149;refine(X).mono ?_;rintro e w1 ⟨rfl,Z⟩;have Y:=Z)
   | (refine(HW.st Y.2 U x J HX).mono ?_;rintro e w2 ⟨rfl,M⟩;have V:Hid (z.W (v.st U x) (plus S w) w1 w2):=⟨M⟩))
  go_ret;exact⟨AM HE.o.1.symm,by rw[HE.o.2];exact Y.transW V.o hS⟩
 ·have HE:Hid (v.gtE a i kd=v.plE a i kd/\v.seV a i kd x=v):=⟨⟨θ hE,φ hE⟩⟩;obtain⟨y,hy⟩:∃y,y=v.plE a i kd:=⟨_,rfl⟩;have d2:(y==0)=false:=by rw[hy];simpa using hE
  rw[<-hy]at HE X;clear hE hy hI hP hQ hW hx;go_enter func114,ntmps114;go_wp2_with(go_at_call 149;refine(X).mono ?_;rintro e w1 ⟨rfl,Z⟩;have Y:=Z);go_ret;exact⟨AM HE.o.1.symm,by rw[HE.o.2];exact Y.toW⟩
theorem XXd(hS:z.Ok)(hW:z.Wr FS)(hI:z.I v S w)(a i:Int)(hP:0<a->z.P a)(hQ:v.plE a i 3=0->z.P (a+1+i))(hx:x<18446744073709551616):Calls prog 74 #[z.v,iI a,iI i,uU x] w λe w'=>e=.returned (iI (v.gtE a i 3))/\z.W (v.seV a i 3 x) S w w':=by
 have HG:=(QnX hS hW hI a i 3 (by decide) hP hQ hx);go_enter func74,ntmps74;go_wp2_with(go_at_call 114;refine(HG).mono ?_;rintro e w1 ⟨rfl,X⟩;have HG1:=X);go_ret
 simp_all
theorem Ycv(hS:z.Ok)(hW:z.Wr FS)(hI:z.I v S w)(a i:Int)(hP:0<a->z.P a)(hQ:v.plE a i 2=0->z.P (a+1+i))(hx:x<18446744073709551616):Calls prog 73 #[z.v,iI a,iI i,.float .f64 x] w λe w'=>e=.returned (iI (v.gtE a i 2))/\z.W (v.seV a i 2 x) S w w':=by
 have HG:=(QnX hS hW hI a i 2 (by decide) hP hQ hx);go_enter func73,ntmps73
 go_wp2_with(first
  | (go_at_call 18;refine AK (MY x _) ?_)
  | (go_at_call 114;refine(HG).mono ?_;rintro e w1 ⟨rfl,X⟩;have HG1:=X))
 go_ret
 simp_all
theorem Xz9(hS:z.Ok)(hW:z.Wr FS)(hI:z.I v S w)(a i:Int)(hP:0<a->z.P a)(hQ:v.plE a i 1=0->z.P (a+1+i))(hx:x<=2147483647):Calls prog 102 #[z.v,iI a,iI i,iI x] w λe w'=>e=.returned (iI (v.gtE a i 1))/\z.W (v.seV a i 1 x) S w w':=by
 have X:=(PL hS hI a i 1 (by decide) hP);have n1:=hW.ns;have n2:=hW.ms;have n3:=hW.cs;have HW:=hW;have HX:Hid (x<18446744073709551616):=⟨by omega⟩;have e1:decide ((x:Int)<0)=false:=ζ Ω;have e2:decide (2147483647<(x:Int))=false:=ζ Ω;have e3:IntKind.u64.wrap (x:Int)=(x:Int):=by rw[ξp];omega
 unfold Sp.v at X⊢;by_cases hE:v.plE a i 1=0
 ·have HE:Hid (v.gtE a i 1=v.ldE (a+1+i)/\v.seV a i 1 x=v.st (a+1+i) x):=⟨⟨φ (λh=>h hE),θ hE⟩⟩;have HA:Hid (v.plA a i 1=a+1+i):=⟨θ hE⟩;rw[hE,HA.o]at X;have J:=(hQ hE);generalize a+1+i=U at HE X J;go_enter func102,ntmps102
  go_wp2_with(first
   | (go_at_call 149;refine(X).mono ?_;rintro e w1 ⟨rfl,Y⟩;have Z:=Y)
   | (refine(HW.st Z.2 U x J HX.o).mono ?_;rintro e w2 ⟨rfl,M⟩;have V:Hid (z.W (v.st U x) (plus S w) w1 w2):=⟨M⟩))
  go_ret;exact⟨AM HE.o.1.symm,by rw[HE.o.2];exact Z.transW V.o hS⟩
 ·have HE:Hid (v.gtE a i 1=v.plE a i 1/\v.seV a i 1 x=v):=⟨⟨θ hE,φ hE⟩⟩;obtain⟨y,hy⟩:∃y,y=v.plE a i 1:=⟨_,rfl⟩;have d2:(y==0)=false:=by rw[hy];simpa using hE
  rw[<-hy]at HE X;clear hE hy hI hP hQ hW hx;go_enter func102,ntmps102;go_wp2_with(go_at_call 149;refine(X).mono ?_;rintro e w1 ⟨rfl,Y⟩;have Z:=Y;clear Y);go_ret;exact⟨AM HE.o.1.symm,by rw[HE.o.2];exact Z.toW⟩
end
def Gph.Ro(g:Gph)(x:Nat):Prop:=x=0\/g.Rd x
theorem Gph.at_ro{i:Int}(h:g.sl i=true):g.Ro (g.at i):=by
 unfold Gph.sl at h;rw[ζe,ζd,ζd]at h;by_cases h0:g.at i=0
 ·exact .inl h0
 ·refine .inr (Gph.Rd.root ?_ h0);unfold Gph.at
  simp_all
def Gph.erE(g:Gph)(x:Nat)(i kd:Int):Int:=if x=0 then 18 else if BO (g.ob x).hdr i=0 then 19 else if BO (g.ob x).hdr i=kd then 0 else 20
theorem Gph.fdE_er{a:Int}(h:g.sl a=true)(i kd:Int):g.fdE a i kd=g.erE (g.at a) i kd:=by unfold Gph.fdE Gph.erE;rw[θ h]
section
variable{F:Nat->Nat}{lo hi:Nat}
theorem Z3T(ho:g.Ok)(hx:g.Rd x){i:Int}(hk:kd≠0)(h:BO (g.ob x).hdr i=kd):∃n:Nat,i=n/\n<(g.ob x).p+(g.ob x).f+(g.ob x).k/\(kd=1↔n<(g.ob x).p):=by
 obtain⟨h1,h2⟩:=ho.rd hx;have hl:=(ho.len _ (Gph.ob_mem h1 h2)).2;have hN:CE (g.ob x).hdr=1+((g.ob x).p:Int)+(g.ob x).f+(g.ob x).k:=θ (EQ hl);unfold BO at h
 split at h
 ·rename_i hin;refine⟨i.toNat,by omega,by omega,?_⟩;have hp:(g.ob x).hdr.p=((g.ob x).p:Int):=rfl;omega
 omega
theorem Img.plE(h:Img v g F lo hi)(hx:g.Ro x)(i:Int)(hk:kd≠0):v.plE (F x) i kd=g.erE x i kd:=by
 unfold Vm.plE Gph.erE;rcases hx with rfl|hx
 ·rw[h.z,θ rfl];have:v.rdE ((0:Nat):Int)=18:=by unfold Vm.rdE;omega
  assumption
 ·have hp:=h.pos hx;have h0:x≠0:=λe=>by rw[e,h.z]at hp;omega
  rw[h.rd x hx,φ (λhh=>hh rfl),h.hd x hx,φ h0];omega
theorem Img.inP(h:Img v g F lo hi)(ho:g.Ok)(hx:g.Ro x){i:Int}(hk:kd≠0)(he:g.erE x i kd=0):g.Rd x/\∃n:Nat,i=n/\n<(g.ob x).p+(g.ob x).f+(g.ob x).k/\(kd=1↔n<(g.ob x).p)/\(F x:Int)+1+i=((F x+1+n:Nat):Int)/\lo<=F x+1+n/\F x+1+n<hi:=by
 unfold Gph.erE at he;have h0:x≠0:=λe=>by omega
 rw[φ h0]at he;have hr:=hx.resolve_left h0
 have e:BO (g.ob x).hdr i=kd:=by
  omega
 obtain⟨n,rfl,h1,h2⟩:=Z3T ho hr hk e;have:=h.lo x hr;have hz:(g.ob x).size=1+(g.ob x).p+(g.ob x).f+(g.ob x).k:=rfl
 grind
theorem Img.gtE(h:Img v g F lo hi)(ho:g.Ok)(hx:g.Ro x)(i:Int)(hk:kd≠0):v.gtE (F x) i kd=g.erE x i kd:=by
 unfold Vm.gtE;rw[h.plE hx i hk];by_cases he:g.erE x i kd=0
 ·rw[φ (λhh=>hh he),he];obtain⟨hr,n,rfl,h1,h2,h3,-,-⟩:=h.inP ho hx hk he;rcases δ n (g.ob x).p with h4|h4
  ·have:=(NL (h.pt x hr n h4).1).2.2.1;exact this
  ·exact(h.wd x hr n h4 h1).1
 omega
theorem Img.gtV(h:Img v g F lo hi)(ho:g.Ok)(hx:g.Ro x)(i:Int)(hk:kd≠0)(hk1:kd≠1):v.gtV (F x) i kd=if g.erE x i kd=0 then (g.ob x).w.getD i.toNat 0 else 0:=by
 unfold Vm.gtV;rw[h.plE hx i hk];by_cases he:g.erE x i kd=0
 ·rw[φ (λhh=>hh he),θ he];obtain⟨hr,n,rfl,h1,h2,h3,-,-⟩:=h.inP ho hx hk he;exact(h.wd x hr n (ξV λh4=>hk1 (h2.2 h4)) h1).2
 simp_all
theorem Img.ptE(h:Img v g F lo hi)(ho:g.Ok)(hx:g.Ro x)(i:Int):v.ptE (F x) i=g.erE x i 1/\(g.erE x i 1=0->v.ptV (F x) i=F ((g.ob x).w.getD i.toNat 0)/\g.Ro ((g.ob x).w.getD i.toNat 0)):=by
 by_cases he:g.erE x i 1=0
 ·obtain⟨hr,n,rfl,h1,h2,h3,-,-⟩:=h.inP ho hx (by decide) he;have h4:=h2.1 rfl;obtain⟨p1,p2⟩:=h.pt x hr n h4;refine⟨p1.trans he.symm,λ_=>⟨p2,?_⟩⟩;by_cases h0:(g.ob x).w.getD n 0=0
  ·exact .inl h0
  ·exact .inr (hr.step (PS ho hr h4) h0)
 ·refine⟨?_,λhh=>absurd hh he⟩;unfold Vm.ptE;rw[h.gtE ho hx i (by decide),θ he]
theorem Img.seV(h:Img v g F lo hi)(hv:AE v)(ho:g.Ok)(hx:g.Ro x)(i:Int)(hk:kd≠0)(y:Nat)(hy:kd=1->g.Ro y)(hhi:hi<=2147483647):g.erE x i kd=0->Img (v.seV (F x) i kd (if kd=1 then F y else y)) (g.put x i.toNat y) F lo hi:=λhe=>by
 obtain⟨hr,n,rfl,h1,h2,h3,h4,h5⟩:=h.inP ho hx hk he;have X:v.plE (F x) n kd=0:=(h.plE hx n hk).trans he;unfold Vm.seV;rw[θ X,h3,υ]
 have hl:v.ldE ((F x+1+n:Nat):Int)=0:=by
  have:=h.gtE ho hx n hk;unfold Vm.gtE at this
  simp_all
 refine h.put ho hr h1 (λhn=>hy (h2.2 hn)) hhi λa a1 a2 a3=>?_;rw[FN,hv.st_ldV _ hl]
 grind
end
theorem Y7w{P:Program}(w:World){rest:List Oper}
  (hg:o.guard=none) (m x v:Operand) (t:TypeId) (hop:o.op=Op.mapUpdate t m x v)
  (k e:TypeId) (K:Maps.Keyed P k) (ht:P.underlying t=some (.map k e)) (hk:P.underlying k=some (.int .i64)) (b n:Nat) (f:Int->Option Value)
  (hm:a.eval m=.map (some b)) (hown:BI P k w b n f) (hn:n<maxLen) (key:Int) (val:Value) (hx:a.eval x=.int .i64 key) (hv:a.eval v=val) (hw:(Lit.int .i64 key).wf=true)
  (hK:∀w',BI P k w' b (n+1) (λy=>if y=key then some val else f y)->AB (λi=>i=b) w w'->wpListIn F nF P ops Q rest (a.put o.dst undef) w'):
  wpListIn F nF P ops Q (o :: rest) a w:=by
 obtain⟨w',X,h1,h2⟩:=hown.put K ht hk hn key val hw;refine wpListIn_plain hg λK' hK'=>?_;refine⟨by simp[Oper.about,hop],?_⟩;rw[Oper.semAt_plain F _ _ (by simp_all)];simp[execOp,hop,hm,hx,hv,X,Result.andThen];exact hK' _ _ (hK w' h1 h2)
theorem V63{P:Program}(w:World){rest:List Oper}
  (hg:o.guard=none) (l c:Operand) (t:TypeId) (hop:o.op=Op.makeSlice t l c)
  (base:Nat) (e:TypeId) (i:TypeInfo) (z:Value) (size:Nat) (h1:P.underlying t=some (.slice e)) (h2:P.info? e=some i) (h3:i.zero=some z) (h4:i.size=size)
  (kl kc:IntKind) (n:Nat) (hl:a.eval l=.int kl n) (hc:a.eval c=.int kc n) (b1:n*size<=16777216) (b2:i.bytes*n<=281474976710656) (b3:n<=maxLen) (b4:base<=w.heap.size)
  (hK:∀w',w'.ownsRow base e size (.slice (some ⟨w.heap.size,0,none⟩) n n) n (madeCells z.cells (n*size)).toList->w.grownBy w' none->wpListIn F nF P ops Q rest (a.put o.dst (.slice (some ⟨w.heap.size,0,none⟩) n n)) w'):
  wpListIn F nF P ops Q (o :: rest) a w:=by
 obtain⟨w',X,r1,r2⟩:=run_makeSlice_full (P:=P) w base t e i z size h1 h2 h3 h4 kl kc n b1 b2 b3 b4;refine wpListIn_plain hg λK' hK'=>?_;refine⟨by simp[Oper.about,hop],?_⟩;rw[Oper.semAt_plain F _ _ (by simp_all)];simp[execOp,hop,hl,hc,X,Result.andThen];exact hK' _ _ (hK w' r1 r2)
theorem Ya9{P:Program}(w:World){rest:List Oper}
  (hg:o.guard=none) (t:TypeId) (hop:o.op=Op.makeMap t none) (hK:wpListIn F nF P ops Q rest (a.put o.dst (.map (some w.heap.size))) (w.alloc (.map #[] 0))):wpListIn F nF P ops Q (o :: rest) a w:=by
 have X:(Instr.makeMap t none).run P w=.ok (.map (some w.heap.size)) (w.alloc (.map #[] 0)):=rfl;refine wpListIn_plain hg λK' hK'=>?_;refine⟨by simp[Oper.about,hop],?_⟩;rw[Oper.semAt_plain F _ _ (by simp_all)];simp[execOp,hop,X,Result.andThen];exact hK' _ _ hK
theorem J0U(z:Value)(n:Nat):(madeCells #[z] n).toList=List.replicate n z:=by
 unfold madeCells;apply ξo
 ·simp
 grind
def TE(md:Region.Mode)(ops:Array Oper)(ds:List (Nat×List Nat)):Bool:=ds.all λd=>match ops[d.1]? with
 | some o=>d.2.all λi=>o.after.any λe=>Region.binds md e&&e.on==i
 | none=>false
def RW(md:Region.Mode)(ops:Array Oper):Bool:=(List.range ops.size).all λj=>match ops[j]? with
 | some o=>o.after.all λe=>!Region.binds md e||decide (e.on<j)
 | none=>true
def XEe(l0:Array Bool)(ds:List (Nat×List Nat))(n:Nat):Bool:=(List.range n).all λk=>l0.getD k false||ds.any λd=>d.1==k
def upD(D:Nat->Bool)(k:Nat):Nat->Bool:=λj=>if j=k then true else D j
theorem XRT{f g:Nat->Bool}(h:∀j,g j=true->f j=true)(hi:i<n)(h1:f i=true)(h2:g i=false):cnt g n+1<=cnt f n:=by
 have key:∀m,cnt g m+(if i<m then 1 else 0)<=cnt f m:=λm=>by
  induction m with
  | zero=>simp[LG]
  | succ m ih=>
   rw[CS,CS];by_cases e:i=m
   ·simp_all
   ·have h4:(g m).toNat<=(f m).toNat:=by cases hg:g m <;> cases hf:f m <;> simp_all
    grind
 grind
section
variable{P:Program}{l:List Oper}
def M8(F:Fence)(n:Nat)(P:Program)(l:List Oper)(S:World->Prop)(Q:Exit->Act->World->Prop)(I:(Nat->Bool)->Act->World->Prop):List (Nat×List Nat)->Prop
 | []=>True
 | d :: r=>(∀(D:Nat->Bool) (a:Act) (w:World),I D a w->S w->D d.1=false->(∀i∈d.2,D i=true)->wpListIn F n P l.toArray (Exit.then (λa2 w2=>S w2/\I (upD D d.1) a2 w2) Q) (AF l [d.1]) a w)/\M8 F n P l S Q I r
theorem J0P(h:M8 F n P l S Q I ds){d:Nat×List Nat}(hd:d∈ds):
  ∀(D:Nat->Bool) (a:Act) (w:World),I D a w->S w->D d.1=false->(∀i∈d.2,D i=true)->wpListIn F n P l.toArray (Exit.then (λa2 w2=>S w2/\I (upD D d.1) a2 w2) Q) (AF l [d.1]) a w:=by
 induction ds with
 | nil=>cases hd
 | cons e r ih=>
  rcases ζD.1 hd with rfl|hd
  ·exact h.1
  ·exact ih h.2 hd
theorem YEX(hlow:RW md l.toArray=true)(hr:Region.ready md l.toArray listed=[])(hs:listed.size=l.toArray.size):∀j,j<l.toArray.size->listed.getD j false=true:=by
 intro j
 induction j using Nat.strongRecOn with
 | ind j ih=>
  intro hj;cases hb:listed.getD j false with
  | true=>rfl
  | false=>
   exfalso;have X:l.toArray[j]?=some l.toArray[j]:=Array.getElem?_eq_getElem hj;have hl:=ξv.1 hlow j (ξj.2 hj);rw[X]at hl;have hl:(l.toArray[j].after.all λe=>!Region.binds md e||decide (e.on<j))=true:=hl
   have hm:j∈Region.ready md l.toArray listed:=by
    refine mem_ready.2 ⟨?_,_,X,λe he hbe=>?_⟩
    ·grind
    ·have h1:=Array.all_eq_true_iff_forall_mem.1 hl e he
     grind
   simp_all
theorem P8(hi:i<listed.size):(λj=>(listed.setIfInBounds i true).getD j false)=upD (λj=>listed.getD j false) i:=by
 funext j
 unfold upD;simp only[ψd,Array.getElem?_setIfInBounds]
 grind
theorem QPK(hlow:RW md l.toArray=true)(hwt:TE md l.toArray ds=true)(hst:M8 F n P l S Q I ds)
  (hfin:∀(D:Nat->Bool) (a:Act) (w:World),I D a w->S w->(∀j,j<l.toArray.size->D j=true)->Q .normal a w):
  ∀(f:Nat) (listed:Array Bool) (a:Act) (w:World),B9 md l.toArray listed->listed.size=l.toArray.size->cnt (λj=>!listed.getD j false) l.toArray.size<=f →
   (∀k,k<l.toArray.size->listed.getD k false=false->∃d∈ds,d.1=k)->S w->I (λj=>listed.getD j false) a w->GT F n P md l.toArray Q S z f listed a w:=by
 intro f
 induction f with
 | zero=>
  intro listed a w hc hs hf X hS hI
  have Y:∀j,j<l.toArray.size->listed.getD j false=true:=λj hj=>by
   grind [U7]
  refine⟨?_,hfin _ a w hI hS Y⟩;cases hr:Region.ready md l.toArray listed with
  | nil=>rfl
  | cons i r=>
   exfalso;have hi:i∈Region.ready md l.toArray listed:=by rw[hr];exact ζh ..
   obtain⟨h1,o,ho,-⟩:=mem_ready.1 hi
   grind
 | succ f ih=>
  intro listed a w hc hs hf X hS hI;refine⟨λhr=>hfin _ a w hI hS (YEX hlow hr hs),λi hi=>?_⟩;obtain⟨h1,o,ho,Y⟩:=mem_ready.1 hi;have U:i<l.toArray.size:=(ζp.1 ho).1
  have J:listed.getD i false=false:=by
   rw[ψd,Array.getElem?_eq_getElem Ω]at h1⊢;exact h1
  obtain⟨d,hd,rfl⟩:=X i U J;have hw:=ξv.1 hwt d hd;rw[ho]at hw;have hw:(d.2.all λi=>o.after.any λe=>Region.binds md e&&e.on==i)=true:=hw
  have V:∀i∈d.2,listed.getD i false=true:=λi hi=>by
   have h2:=ξv.1 hw i hi;obtain⟨e,he,h3⟩:=Array.any_eq_true'.1 h2;obtain⟨h4,h5⟩:=ζ7.1 h3;have h5:e.on=i:=by simpa using h5
   rw[<-h5];exact Y e he h4
  have Z:=J0P hst hd _ a w hI hS J V;rw[E4 ho]at Z;refine O8 ho (λa2 w2 h2=>⟨.inr h2.1,ih _ a2 w2 (hc.set hi) (by rw[Array.size_setIfInBounds];exact hs) ?_ ?_ h2.1 ?_⟩) Z
  ·have hd':=XRT (f:=λj=>!listed.getD j false) (g:=λj=>!(listed.setIfInBounds d.1 true).getD j false) (n:=l.toArray.size) (i:=d.1) (λj hj=>by
    have e:=congrFun (P8 (listed:=listed) (i:=d.1) Ω) j;rw[e]at hj;unfold upD at hj
    split at hj
    ·simp at hj
    ·exact hj) U (by rw[J];rfl) (by
    have e:=congrFun (P8 (listed:=listed) (i:=d.1) Ω) d.1;rw[e];unfold upD
    rw[θ rfl];rfl)
   omega
  ·intro k hk hl;have e:=congrFun (P8 (listed:=listed) (i:=d.1) Ω) k;rw[e]at hl;unfold upD at hl
   split at hl
   ·cases hl
   ·exact X k hk hl
  grind [P8]
theorem JSy(S:World->Prop)(qs:List Nat)(l0:Array Bool)(ds:List (Nat×List Nat))(I:(Nat->Bool)->Act->World->Prop)(hF:∀f,F.fn f)(hm:P.follows .mixedOrders=true)
  (hB:(GE l.toArray&&Region.noSelect l.toArray&&RW .any l.toArray&&TE .any l.toArray ds&&XEe l0 ds l.toArray.size&&decide (GK .any l.toArray qs (Array.replicate l.toArray.size false)=some l0)&&decide (l0.size=l.toArray.size)&&decide (qs.length+cnt (λj=>!l0.getD j false) l.toArray.size=l.toArray.size))=true) (hS:S w.drew)
  (h:wpQuiet P l.toArray (λw'=>∃p:AA S,w'=p.w) (λa'=>I (λj=>l0.getD j false) a' w.drew) (AF l qs) a)
  (hst:M8 F n P l (λw'=>∃p:AA S,w'=p.w) (NoPanic Q) I ds)
  (hfin:∀(D:Nat->Bool) (a:Act) (w:World),I D a w->(∃p:AA S,w=p.w)->(∀j,j<l.toArray.size->D j=true)->NoPanic Q .normal a w):(Code.region id l.toArray true).wpIn F n P Q a w:=by
 simp only[ζe,ζd]at hB;obtain⟨⟨⟨⟨⟨⟨⟨O,J⟩,X⟩,U⟩,Z⟩,M⟩,V⟩,Y⟩:=hB;refine wpIn_mono (wpIn_region_any hm ?_) NoPanic.imp;have hz:C7 .any l.toArray l.toArray.size=true:=by unfold C7;simp
 have:=O4 (F:=F) (n:=n) (P:=P) (Q:=NoPanic Q) (S:=λw'=>∃p:AA S,w'=p.w) (md:=.any) (f:=cnt (λj=>!l0.getD j false) l.toArray.size) (K:=λa'=>I (λj=>l0.getD j false) a' w.drew) hF O J (λc a b w h=>h) hz (AA.of hS)
  (λa hc hI=>QPK X U hst hfin _ l0 a w.drew hc V (ϑ _) (λk hk hl=>by
   have:=ξv.1 Z k (ξj.2 hk)
   simp_all) (AA.of hS) hI) qs _ a M (B9.none .any l.toArray) h
 rw[Y]at this;exact PI _ _ _ _ this
theorem VMF(S:World->Prop)(qs:List Nat)(l0:Array Bool)(ds:List (Nat×List Nat))(I:Act->(Nat->Bool)->Act->World->Prop)(hF:∀f,F.fn f)(hm:P.follows .mixedOrders=true)
  (hB:(GE l.toArray&&Region.noSelect l.toArray&&RW .any l.toArray&&TE .any l.toArray ds&&XEe l0 ds l.toArray.size&&decide (GK .any l.toArray qs (Array.replicate l.toArray.size false)=some l0)&&decide (l0.size=l.toArray.size)&&decide (qs.length+cnt (λj=>!l0.getD j false) l.toArray.size=l.toArray.size))=true) (hS:S w.drew)
  (h:wpQuiet P l.toArray (λw'=>∃p:AA S,w'=p.w) (λa'=>I a (λj=>l0.getD j false) a' w.drew) (AF l qs) a)
  (hst:M8 F n P l (λw'=>∃p:AA S,w'=p.w) (NoPanic Q) (I a) ds)
  (hfin:∀(D:Nat->Bool) (a':Act) (w:World),I a D a' w->(∃p:AA S,w=p.w)->(∀j,j<l.toArray.size->D j=true)->NoPanic Q .normal a' w):(Code.region id l.toArray true).wpIn F n P Q a w:=
 JSy S qs l0 ds (I a) hF hm hB hS h hst hfin
end
section
variable{P:Program}
def KJ(P:Program)(md:Region.Mode)(ops:Array Oper)(Q:Exit->Act->World->Prop)(S:World->Prop)(z:Nat):Nat->Array Bool->Act->World->Prop
 | 0,listed,a,w=>Region.ready md ops listed=[]/\Q .normal a w
 | f+1,listed,a,w=>
  (Region.ready md ops listed=[]->Q .normal a w) ∧
  ∀i∈Region.ready md ops listed,wpOp P ops Q i (λa' w'=>(z<=i\/S w')/\KJ P md ops Q S z f (listed.setIfInBounds i true) a' w') a w
theorem ZmF{z:Nat}:∀(f:Nat) (listed:Array Bool) (a:Act) (w:World),KJ P md ops Q S z f listed a w->wpAny P md ops Q f listed a w
 | 0,_,_,_,h=>h
 | f+1,_,_,_,h=>⟨h.1,λi hi=>wpOp_mono (λa' w' h'=>ZmF f _ a' w' h'.2) (h.2 i hi)⟩
def KQ(md:Region.Mode)(ops:Array Oper)(z:Nat):Bool:=(List.range ops.size).all λk=>decide (k<z)||(List.range z).all λi=>anc md ops ops.size k i
theorem JAl(hz:KQ md ops z=true)(h:B9 md ops listed)(hr:k∈Region.ready md ops listed)(hk:z<=k)(hi:i<z):listed.getD i false=true:=by
 obtain⟨_,oz,hoz,hall⟩:=mem_ready.1 hr;simp only[KQ,ζ6,ζd,ξv,ξj]at hz
 grind [TD]
theorem YjG{oi:Oper}{v:Value}(hi:ops[i]?=some oi)(hiz:i<z)(hsel:∀(j:Nat) (o:Oper) cs b,ops[j]?=some o->o.op≠.select cs b)
  (hQ:∀c a w,Q (.panic c) (a.put oi.dst v) w->Q (.panic c) a w) (hz:KQ md ops z=true):
  ∀(f:Nat) (listed:Array Bool) (a:Act) (w:World),B9 md ops listed →
   (∀j oj,ops[j]?=some oj->j≠i->listed.getD j true=false->(∀e∈oj.after,Region.binds md e=true->e.on≠i)->oi.apart ops oj=true) →
   i∈Region.ready md ops listed->YieldsIf P ops S oi v a->S w →
   KJ P md ops Q S z f (listed.setIfInBounds i true) (a.put oi.dst v) w->KJ P md ops Q S z (f+1) listed a w:=by
 intro f
 induction f with
 | zero=>
  intro listed a w _ _ hr hy hS H;refine⟨λh=>(by simp_all),λj hj=>?_⟩;by_cases X:j=i
  ·subst X;exact hy.wpOp hi hS ⟨.inr hS,H⟩
  ·have:=ready_mono hj X;rw[H.1]at this;cases this
 | succ f ih=>
  intro listed a w E Y hr hy hS H;refine⟨λh=>(by simp_all),λj hj=>?_⟩;by_cases X:j=i
  ·subst X;exact hy.wpOp hi hS ⟨.inr hS,H⟩
  ·have h1:=H.2 j (ready_mono hj X);obtain⟨U,oj,V,I⟩:=mem_ready.1 hj;have Z:=(mem_ready.1 hr).1;have G:¬z<=j:=λe=>MD Z (JAl hz E hj e hiz);have O:∀e∈oj.after,Region.binds md e=true->e.on≠i:=λe he hb heq=>MD Z (heq▸I e he hb);have h2:=wpOp_putIf V (Y j oj V X U O) (λcs b=>hsel i oi cs b hi) (λcs b=>hsel j oj cs b V) hQ hy h1
   have J:∀k ok,ops[k]?=some ok->k≠i->(listed.setIfInBounds j true).getD k true=false →
     (∀e∈ok.after,Region.binds md e=true->e.on≠i)->oi.apart ops ok=true:=λk ok hk hki Z hno=>by
    refine Y k ok hk hki ?_ hno;by_cases M:j=k
    ·subst M;exact U
    ·rw[getD_set_ne true M]at Z;exact Z
   refine wpOp_mono (λa' w' h3=>?_) h2;obtain⟨h3,h4,h5⟩:=h3;have A:S w':=h4.resolve_left G;refine⟨h4,ih (listed.setIfInBounds j true) a' w' (E.set hj) J (ready_mono hr (Ne.symm X)) h3 A ?_⟩
   grind [ψj]
def II(md:Region.Mode)(ops:Array Oper)(z:Nat):List (Bool×Nat)->Array Bool->Bool
 | [],listed=>(Region.ready md ops listed).isEmpty
 | (true,k) :: r,listed=>decide (Region.ready md ops listed=[k])&&(decide (k<z)||r.all λx=>x.1)&&II md ops z r (listed.setIfInBounds k true)
 | (false,k) :: r,listed=>(Region.ready md ops listed).contains k&&Region.free md ops listed k&&((ops[k]?).any JJ)&&decide (k<z)&&II md ops z r (listed.setIfInBounds k true)
def LK(P:Program)(l:List Oper)(S:World->Prop)(z:Nat)(Q:Exit->Act->World->Prop):List (List Nat×Nat)->List Nat->Act->World->Prop
 | [],fin,a,w=>wpQuiet P l.toArray S (λa'=>Q .normal a' w) (AF l fin) a
 | (qs,k) :: r,fin,a,w=>wpQuiet P l.toArray S (λa'=>wpList P l.toArray (Exit.then (λa2 w2=>(z<=k\/S w2)/\LK P l S z Q r fin a2 w2) Q) (AF l [k]) a' w) (AF l qs) a
end
section
variable{P:Program}{l:List Oper}
theorem W9(hsel:Region.noSelect l.toArray=true)(hQ:∀c a b w,Q (.panic c) b w->Q (.panic c) a w)(hz:KQ md l.toArray z=true){w:World}{K:Act->Prop}{R:List (Bool×Nat)}{f:Nat}
  (hK:∀listed a,II md l.toArray z R listed=true->B9 md l.toArray listed->K a->KJ P md l.toArray Q S z f listed a w):
  ∀(qs:List Nat) (listed:Array Bool) (a:Act),(S w\/qs=[])->II md l.toArray z (qs.map (λk=>(false,k))++R) listed=true->B9 md l.toArray listed->wpQuiet P l.toArray S K (AF l qs) a →
   KJ P md l.toArray Q S z (qs.length+f) listed a w
 | [],listed,a,_,hB,hc,h=>by simpa using hK listed a hB hc h
 | k :: qs,listed,a,hS,hB,hc,h=>by
  have hS:S w:=hS.resolve_right (by simp);simp only[ξS,ζr,II,ζe]at hB;obtain⟨⟨⟨⟨hr,hf⟩,hq⟩,hkz⟩,Z⟩:=hB;cases ho:l.toArray[k]? with
  | none=>simp_all
  | some o=>
   rw[ho]at hq;have Y:k∈Region.ready md l.toArray listed:=by simp_all
   rw[E4 ho]at h;simp only[wpQuiet]at h
   have hy:∃v,YieldsIf P l.toArray S o v a/\wpQuiet P l.toArray S K (AF l qs) (a.put o.dst v):=by
    split at h
    ·rename_i hw;obtain⟨v,h1,h2⟩:=h
     grind [OD]
    ·rename_i hw;exact⟨undef,.inr ⟨by simp_all,rfl⟩,h⟩
   obtain⟨v,hy,J⟩:=hy;have X:(k :: qs).length+f=(qs.length+f)+1:=by simp;omega
   rw[X];exact YjG ho (by simp_all) (Region.noSelect_spec hsel) (λc a w h=>hQ c a _ w h) hz _ listed a w hc (Region.free_spec ho hf) Y hy hS (W9 hsel hQ hz hK qs _ _ (.inl hS) Z (hc.set Y) J)
theorem ZHG(hsel:Region.noSelect l.toArray=true)(hQ:∀c a b w,Q (.panic c) b w->Q (.panic c) a w)(hz:KQ md l.toArray z=true):
  ∀(segs:List (List Nat×Nat)) (fin:List Nat) (listed:Array Bool) (a:Act) (w:World),II md l.toArray z (BB segs fin) listed=true->B9 md l.toArray listed->(S w\/((BB segs fin).all λx=>x.1)=true)->LK P l S z Q segs fin a w →
   KJ P md l.toArray Q S z (BB segs fin).length listed a w
 | [],fin,listed,a,w,hB,hc,hS,h=>by
  have hS':S w\/fin=[]:=hS.imp id λh=>by
   cases fin with
   | nil=>rfl
   | cons x y=>simp[BB]at h
  have:=W9 (R:=[]) (f:=0) (K:=λa'=>Q .normal a' w) hsel hQ hz (λlisted a hB _ h=>⟨by simpa[II]using hB,h⟩) fin listed a hS' (by simpa[BB]using hB) hc h;simpa[BB]using this
 | (qs,k) :: r,fin,listed,a,w,hB,hc,hS,h=>by
  have hS':S w\/qs=[]:=hS.imp id λh=>by
   cases qs with
   | nil=>rfl
   | cons x y=>simp[BB]at h
  have X:(BB ((qs,k) :: r) fin).length=qs.length+((BB r fin).length+1):=by simp[BB]
  rw[X];refine W9 hsel hQ hz (λlisted a hB hc h=>?_) qs listed a hS' (by assumption) hc h;simp only[II,ζe,ζd,ζ6]at hB;obtain⟨⟨hr,hkz⟩,Z⟩:=hB;have Y:k∈Region.ready md l.toArray listed:=by rw[hr];simp
  refine⟨λh0=>(by simp_all),λi hi=>?_⟩;rw[hr]at hi;obtain rfl:i=k:=by simp_all
  obtain⟨_,o,ho,_⟩:=mem_ready.1 Y;rw[E4 ho]at h;refine N6 ho (λa2 w2 h2=>⟨h2.1,ZHG hsel hQ hz r fin _ a2 w2 Z (hc.set Y) ?_ h2.2⟩) h
  grind
theorem Xw6{qs:List Nat}{r:List (List Nat×Nat)}
  (h:wpQuiet P l.toArray S (λa'=>wpList P l.toArray (Exit.then (λa2 w2=>(z<=k\/S w2)/\LK P l S z Q r fin a2 w2) Q) (AF l [k]) a' w) (AF l qs) a):LK P l S z Q ((qs,k) :: r) fin a w:=h
theorem YqX(h:wpQuiet P l.toArray S (λa'=>Q .normal a' w) (AF l fin) a):LK P l S z Q [] fin a w:=h
theorem YvE(S:World->Prop)(z:Nat)(segs:List (List Nat×Nat))(fin:List Nat)(hm:P.follows .mixedOrders=true)
  (hB:(Region.noSelect l.toArray&&KQ .any l.toArray z&&II .any l.toArray z (BB segs fin) (Array.replicate l.toArray.size false)&&(BB segs fin).length==l.toArray.size)=true) (hS:S w.drew)
  (h:LK P l (λw'=>∃p:AA S,w'=p.w) z (NoPanic Q) segs fin a w.drew):(Code.region id l.toArray true).wp P Q a w:=by
 simp only[ζe,ζ1]at hB;obtain⟨⟨⟨Y,hz⟩,hB⟩,X⟩:=hB;refine wp_region_noPanic (wp_region_any hm ?_);have:=ZHG (P:=P) (Q:=NoPanic Q) (md:=.any) Y (λc a b w h=>h) hz segs fin _ a w.drew hB (B9.none .any l.toArray) (.inl (AA.of hS)) h;rw[X]at this;exact ZmF _ _ _ _ this
theorem X6(S:World->Prop)(z:Nat)(segs:List (List Nat×Nat))(fin:List Nat)(hS:S w.drew)(h:LK P l (λw'=>∃p:AA S,w'=p.w) z (NoPanic Q) segs fin a w.drew)(hm:P.follows .mixedOrders=true:=by kernel_rfl)(hB:(Region.noSelect l.toArray&&KQ .any l.toArray z&&II .any l.toArray z (BB segs fin) (Array.replicate l.toArray.size false)&&(BB segs fin).length==l.toArray.size)=true:=by kernel_rfl) :(Code.region id l.toArray true).wp P Q a w := YvE S z segs fin hm hB hS h
end
theorem Vie(h1:1<=n):n &&& (n-1)=0↔∃k,n=2 ^ k:=by
 constructor
 ·induction n using Nat.strongRecOn with
  | _ n ih=>
   intro h0;by_cases hn:n=1
   ·exact⟨0,hn⟩
   ·have e1:(n &&& (n-1)) >>> 1=n >>> 1 &&& (n-1) >>> 1:=Nat.shiftRight_and_distrib ..;simp only[Nat.shiftRight_succ,Nat.shiftRight_zero]at e1;rcases Nat.mod_two_eq_zero_or_one n with h|h
    ·rw[show (n-1)/2=n/2-1 by omega]at e1;obtain⟨k,hk⟩:=ih (n/2) Ω Ω Ω;exact⟨k+1,by omega⟩
    grind
 simp_all
theorem QdJ{a:Nat}(ha:a<9223372036854775808)(hb:b<9223372036854775808):bits .and .i64 (a:Int) (b:Int)=((a &&& b:Nat):Int):=by
 have h1:(BitVec.ofInt 64 (a:Int)).toNat=a:=by
  grind
 have h2:(BitVec.ofInt 64 (b:Int)).toNat=b:=by
  grind
 show IntKind.i64.wrap ((BitVec.ofInt 64 (a:Int) &&& BitVec.ofInt 64 (b:Int)).toNat:Int)=_
 rw[BitVec.toNat_and,h1,h2];have:a &&& b<=a:=ψr;exact ζu _ Ω
theorem XyG(h:n<9223372036854775808):CR (n:Int)=true↔∃k,n=2 ^ k:=by
 unfold CR;by_cases h0:n=0
 ·grind
 ·rw[ξ Ω,ξ0,show ((n:Int)-1)=((n-1:Nat):Int)by omega,QdJ h Ω,<-Vie Ω];simp
def ED(n lo hi:Int):Bool:=CR n&&decide (lo<=n)&&decide (n<=hi)
theorem I1{n lo hi:Int}(h:ED n lo hi=true):lo<=n/\n<=hi/\CR n=true:=by
 unfold ED at h
 simp_all
theorem VV(n:Int):ED n 1 1024=BM n:=by
 rw[MJ];unfold ED;cases h:CR n with
 | false=>rfl
 | true=>
  have:0<n:=by
   unfold CR at h
   simp_all
  grind
theorem V2o{a:Nat}(ha:CR (a:Int)=true)(hb:CR (b:Int)=true)(ha2:a<9223372036854775808)(hb2:b<9223372036854775808)(h:a<=b):b%a=0:=by
 grind [XyG,Nat.pow_le_pow_iff_right,Nat.mod_eq_zero_of_dvd,Nat.pow_dvd_pow]
open Go.ChangeShapes Go.WideShapes Go.ChangeAt
structure DD where
 kd:Nat
 f:Nat
 w:Nat
def DD.L(x:DD):List Value:=[.int .u8 x.kd,uU x.f,uU x.w]
structure DD.Bd(x:DD):Prop where
 kd:x.kd<=255
 f:x.f<18446744073709551616
 w:x.w<18446744073709551616
theorem VlZ:prog.cellsOf 24=3:=by kernel_rfl
theorem WJ{v:Value}(h:(l.drop j).take 1=[v]):l[j]?=some v:=by
 have:((l.drop j).take 1)[0]?=some v:=by rw[h];rfl
 grind
theorem Vx7{v0 v1 v2:Value}(hl:l.length=3)(h0:l[0]?=some v0)(h1:l[1]?=some v1)(h2:l[2]?=some v2):l=[v0,v1,v2]:=by
 match l,hl with
 | [a0,a1,a2],_=>simp_all
section
variable{H:Type}{enc:TypeId × Value->H}{spare:Nat->Bool}{held:Bool}{fuel:Nat}{cs:List Value}{x:DataW H × List MemPlace}
theorem VG8(h:DataW.trod enc prog w base spare held fuel 24 cs=some x):∃g:DD,cs=g.L/\g.Bd:=by
 obtain⟨xs,n,-,-,hl,X,hf⟩:=DataW.trod_struct underlying24 h;have ex:∀i,i<xs.length->∃y,xs[i]?=some y:=λi hi=>⟨_,ω hi⟩
 have X:xs.length=3:=X;have g0:DataW.trod enc prog w base spare held n 5 ((cs.drop 0).take (prog.cellsOf 5))=xs[0]?:=hf 0 _ rfl;have g1:DataW.trod enc prog w base spare held n 22 ((cs.drop 1).take (prog.cellsOf 22))=xs[1]?:=hf 1 _ rfl;have g2:DataW.trod enc prog w base spare held n 22 ((cs.drop 2).take (prog.cellsOf 22))=xs[2]?:=hf 2 _ rfl;obtain⟨y0,e0⟩:=ex 0 Ω;obtain⟨y1,e1⟩:=ex 1 Ω;obtain⟨y2,e2⟩:=ex 2 Ω;rw[e0]at g0;rw[e1]at g1;rw[e2]at g2;obtain⟨a0,c0,-,b0⟩:=DataW.trod_int underlying5 g0;obtain⟨a1,c1,-,b1⟩:=DataW.trod_int underlying22 g1;obtain⟨a2,c2,-,b2⟩:=DataW.trod_int underlying22 g2;have Y:=Vx7 (hl.trans VlZ) (WJ c0) (WJ c1) (WJ c2);have u0:=bounds_u8 b0;have u1:=bounds_u64 b1;have u2:=bounds_u64 b2;refine⟨⟨a0.toNat,a1.toNat,a2.toNat⟩,?_,⟨by show a0.toNat<=_;omega,by show a1.toNat<_;omega,by show a2.toNat<_;omega⟩⟩;rw[Y];unfold DD.L
 grind
end
theorem XTi(n:Nat)(hn:n<18446744073709551616):bits .xor .u64 IntKind.u64.max (n:Int)=((18446744073709551615-n:Nat):Int):=by
 have h1:(BitVec.ofInt 64 (n:Int)).toNat=n:=by
  rw[BitVec.ofInt_natCast,BitVec.toNat_ofNat];exact ψk Ω
 have h2:BitVec.ofInt 64 IntKind.u64.max=BitVec.allOnes 64:=by decide
 show IntKind.u64.wrap ((BitVec.ofInt 64 IntKind.u64.max ^^^ BitVec.ofInt 64 (n:Int)).toNat:Int)=_
 rw[h2,BitVec.allOnes_xor,BitVec.toNat_not,h1,ξp];omega
theorem ZmL(hb:b<18446744073709551616):bits .and .u64 (b:Int) 9223372036854775808=((if sgN<=b then 9223372036854775808 else 0:Nat):Int):=by
 have e:(9223372036854775808:Int)=((9223372036854775808:Nat):Int):=rfl;rw[e,FP b _ hb Ω];refine congrArg Nat.cast (ξn λi=>?_);rw[Nat.testBit_and,show (9223372036854775808:Nat)=2 ^ 63 from rfl,Nat.testBit_two_pow];by_cases hi:63=i
 ·subst hi;rw[ξ rfl,ξ7,Nat.testBit_eq_decide_div_mod_eq];unfold sgN
  split
  ·rw[Nat.testBit_two_pow,ξ Ω];rfl
  ·rw[Nat.zero_testBit,ζ Ω]
 ·rw[ζ hi,ψx]
  split
  ·rw[Nat.testBit_two_pow,ζ hi]
  ·rw[Nat.zero_testBit]
theorem Jrr(hb:b<9223372036854775808):bits .or .u64 (b:Int) 9223372036854775808=((b+9223372036854775808:Nat):Int):=by
 have e:(9223372036854775808:Int)=((1*9223372036854775808:Nat):Int):=rfl;rw[e,bits_or_u64_nat b _ Ω Ω,OA b 1 63 9223372036854775808 (by decide) hb,ξC,Nat.add_comm]
def NT(b:Nat):Nat:=if sgN<=b then 18446744073709551615-b else b+9223372036854775808
theorem J82(b:Nat)(hb:b<18446744073709551616)(w:World):cQ 44 #[.float .f64 b] w (uU (NT b:Nat)):=by
 have h1:=ZmL hb;unfold NT;by_cases h:sgN<=b
 ·rw[θ h]at h1;rw[θ h];have h2:=XTi b hb;clear h;go_enter func44,ntmps44;go_wp2_with(go_at_call 18;refine AK (MY b _) ?_);go_ret;exact⟨rfl,rfl⟩
 ·rw[φ h]at h1;rw[φ h];have h2:=Jrr (b:=b) (by unfold sgN at h;omega);clear h;go_enter func44,ntmps44;go_wp2_with(go_at_call 18;refine AK (MY b _) ?_);go_ret;exact⟨rfl,rfl⟩
theorem ZXy{a:Nat}(ha:a<18446744073709551616)(hb:b<18446744073709551616):decide (NT a<NT b)=EL a b:=by
 unfold NT EL sgN;by_cases h1:9223372036854775808<=a
 ·by_cases h2:9223372036854775808<=b
  ·simp only[h1,h2,if_true,decide_true,bne_self_eq_false,Bool.false_eq_true,if_false];exact ξe.2 Ω
  ·simp only[h1,h2,if_true,if_false,decide_true,decide_false];rw[ξ Ω];rfl
 ·by_cases h2:9223372036854775808<=b
  ·simp only[h1,h2,if_true,if_false,decide_true,decide_false];rw[ζ Ω];rfl
  ·simp only[h1,h2,if_false,decide_false,bne_self_eq_false,Bool.false_eq_true];exact ξe.2 Ω
theorem ZZy(a b:Nat)(ha:a<18446744073709551616)(hb:b<18446744073709551616)(w:World):cQ 16 #[.float .f64 a,.float .f64 b] w (.bool (EL a b)):=by
 have HK:=ι (ZXy ha hb);have HX:=ι (ψ ha hb);generalize EL a b=bb at HK⊢;clear ha hb;go_enter func16,ntmps16;go_wp2_with(go_at_call 44;refine AK (J82 _ (by first|exact HX.o.1 |exact HX.o.2) _) ?_);go_ret;exact⟨by rw[<-HK.o];congr 2,rfl⟩
theorem Q4(l:List Nat)(i j y:Nat):(l.set i y).getD j 0=if j=i/\i<l.length then y else l.getD j 0:=by
 rw[β,β,ψg];by_cases e:i=j
 ·subst e;by_cases h:i<l.length
  ·rw[θ rfl,θ h,θ ⟨rfl,h⟩];rfl
  ·rw[θ rfl,φ h,φ (λhh=>h hh.2),ζJ Ω]
 ·rw[φ e,φ (λhh=>e hh.1.symm)]
theorem ZaP{W:World}{T:TypeId}(h:Rec W b T xs):∀(n i:Nat) (acc:Array Value),i+n=xs.length->(loadCellsFrom ⟨b,0,none⟩ i n acc).run prog W=.ok (acc++(xs.drop i).toArray) W:=by
 intro n
 induction n with
 | zero=>
  intro i acc hi;rw[List.drop_eq_nil_of_le Ω];simp[loadCellsFrom,go_sem]
 | succ n ih=>
  intro i acc hi;have hc:=h.cell (j:=i) (u:=xs[i]' Ω) (ω _);unfold loadCellsFrom;simp only[Sem.run_bind];rw[show (load (Addr.add ⟨b,0,none⟩ i)).run prog W=.ok (xs[i]' Ω) W by simp[go_sem,hc]];simp only[Result.andThen];rw[ih (i+1) _ Ω,ξu (show i<xs.length by omega)];simp
theorem OK{W:World}{T:TypeId}(h:Rec W b T xs)(hA:(isAgg T).run prog W=.ok true W)(hS:(sizeOf T).run prog W=.ok xs.length W):(loadVar T ⟨b,0,none⟩).run prog W=.ok (.agg xs.toArray) W:=by
 have:=ZaP h xs.length 0 #[] Ω;simp[loadVar,Sem.run_bind,hA,hS,Result.andThen,loadCells,this,go_sem]
theorem Qwi(a:Addr)(k:FloatKind)(b:Nat)(w:World):(store a (.float k b)).run prog w=stored prog w a (.float k b) .plain:=run_store _ _ _ _ _ rfl
section
variable{a:Nat}{i:Int}{o:GOb}
theorem Gph.sl_lt(h:s<g.S.length):g.sl (s:Int)=true:=by
 unfold Gph.sl
 simp_all
theorem Gph.fd_ob(hs:s<g.S.length)(hy:g.S.getD s 0=y)(h0:y≠0)(ho:g.ob y=o)(hij:i=(j:Int))(hk:BO o.hdr i=kd)(hk0:kd≠0):g.fdE s i kd=0/\g.fdV s i kd=o.w.getD j 0:=by
 have X:g.at (s:Int)=y:=hy
 have e:g.fdE s i kd=0:=by
  unfold Gph.fdE;rw[g.sl_lt hs,θ rfl,X,φ h0,ho,hk,φ hk0,θ rfl]
 refine⟨e,?_⟩;unfold Gph.fdV
 simp_all
theorem Gph.two_ok(ha:a<g.S.length)(hb:b<g.S.length)(e:Int):g.two a b e=e:=by
 unfold Gph.two;rw[g.sl_lt ha,g.sl_lt hb];rfl
theorem Gph.loG_ob(ha:a<g.S.length)(hb:b<g.S.length)(hy:g.S.getD b 0=y)(h0:y≠0)(ho:g.ob y=o)(hij:i=(j:Int))(hk:BO o.hdr i=1):g.loE a b i=0/\g.loG a b i=⟨g.L,g.S.set a (o.w.getD j 0)⟩:=by
 obtain⟨h1,h2⟩:=g.fd_ob hb hy h0 ho hij hk (by decide);have e:g.loE a b i=0:=by unfold Gph.loE;rw[g.two_ok ha hb,h1]
 refine⟨e,?_⟩;unfold Gph.loG;rw[θ e,h2];rfl
theorem Gph.stG_ob(ha:a<g.S.length)(hb:b<g.S.length)(hy:g.S.getD a 0=y)(h0:y≠0)(ho:g.ob y=o)(hij:i=(j:Int))(hk:BO o.hdr i=1):g.stE a i b=0/\g.stG a i b=g.put y j (g.S.getD b 0):=by
 obtain⟨h1,-⟩:=g.fd_ob ha hy h0 ho hij hk (by decide);have e:g.stE a i b=0:=by unfold Gph.stE;rw[g.two_ok ha hb,h1]
 refine⟨e,?_⟩;unfold Gph.stG Gph.setFd;rw[θ e,show g.at (a:Int)=y from hy,hij];rfl
theorem Gph.wrG_ob(hs:s<g.S.length)(hy:g.S.getD s 0=y)(h0:y≠0)(ho:g.ob y=o)(hij:i=(j:Int))(hk:BO o.hdr i=kd)(hk0:kd≠0)(v:Nat):g.wrG s i kd v=g.put y j v:=by
 unfold Gph.wrG Gph.setFd;rw[θ (g.fd_ob hs hy h0 ho hij hk hk0).1,show g.at (s:Int)=y from hy,hij];rfl
theorem Gph.cpG_ok(ha:a<g.S.length)(hb:b<g.S.length):g.cpG a b=⟨g.L,g.S.set a (g.S.getD b 0)⟩:=by
 unfold Gph.cpG;rw[g.sl_lt ha,g.sl_lt hb];rfl
theorem Gph.clG_ok(ha:a<g.S.length):g.clG a=⟨g.L,g.S.set a 0⟩:=by
 unfold Gph.clG;rw[g.sl_lt ha];rfl
theorem Gph.shE_ok(hs:s<g.S.length):g.shE s=if g.S.getD s 0=0 then 18 else 0:=by
 unfold Gph.shE;rw[g.sl_lt hs];rfl
theorem Vn2{l:List Nat}{i v:Nat}(h:i≠j):(l.set i v).getD j 0=l.getD j 0:=by
 simp_all
theorem JhX{l:List Nat}{i v:Nat}(h:i<l.length):(l.set i v).getD i 0=v:=by
 simp_all
theorem Gph.all_of(hk:g.Ok){T:List Nat}(hn:T.Nodup)(h1:∀r∈g.S,r≠0->r∈T)(h2:∀x∈T,∀z∈g.pts x,z≠0->z∈T)(h3:∀x∈T,g.Rd x):g.all.length=T.length/\g.words=(T.map λx=>(g.ob x).size).sum:=by
 have hm:∀x,x∈g.all↔x∈T:=λx=>by
  rw[hk.mem_all];exact⟨λhx=>hx (λx=>x∈T) h1 h2,h3 x⟩
 have X:g.all.Nodup:=(XU g.pts g.L.length g.S).1;have hp:g.all.Perm T:=(List.perm_ext_iff_of_nodup X hn).2 hm;exact⟨hp.length_eq,(hp.map _).sum_nat⟩
end
inductive BT where
 | nil:BT
 | node:Nat->Nat->Nat->BT->BT->BT
variable{D T X Y c:BT}
namespace BT
def top:BT->Nat
 | nil=>0
 | node x _ _ _ _=>x
def ids:BT->List Nat
 | nil=>[]
 | node x _ _ a b=>x :: (a.ids++b.ids)
def its:BT->List (Nat×Nat)
 | nil=>[]
 | node _ f w a b=>(f,w) :: (a.its++b.its)
end BT
def btO(a b f w:Nat):GOb:=⟨2,1,1,[a,b,f,w]⟩
theorem SR(a b f w:Nat):BO (btO a b f w).hdr 0=1/\BO (btO a b f w).hdr 1=1/\BO (btO a b f w).hdr 2=2/\BO (btO a b f w).hdr 3=3:=by
 rw[show (btO a b f w).hdr=(⟨2,1,1⟩:Hdr)from rfl];exact⟨by decide,by decide,by decide,by decide⟩
def Gph.sv(g:Gph)(j:Nat):Nat:=g.S.getD j 0
structure Bd(g:Gph)(x a b f w:Nat):Prop where
 h1:1<=x
 h2:x<=g.L.length
 ob:g.ob x=btO a b f w
def Rep(g:Gph):BT->Prop
 | .nil=>True
 | .node x f w a b=>Bd g x a.top b.top f w/\Rep g a/\Rep g b
structure Has(g:Gph)(j:Nat)(T:BT):Prop where
 lt:j<g.S.length
 sv:g.sv j=T.top
 rep:Rep g T
section
variable{a w q v:Nat}
theorem Rep.mem:∀{T:BT},Rep g T->∀x∈T.ids,1<=x/\x<=g.L.length
 | .nil,_,_,hx=>by cases hx
 | .node z f w a b,⟨h1,h2,h3⟩,x,hx=>by
  rcases ζD.1 hx with rfl|hx
  ·exact⟨h1.h1,h1.h2⟩
  ·rcases ζg.1 hx with hx|hx
   ·exact h2.mem x hx
   ·exact h3.mem x hx
theorem Rep.of(hl:g.L.length<=g'.L.length):∀{T:BT},Rep g T->(∀x∈T.ids,g'.ob x=g.ob x)->Rep g' T
 | .nil,_,_=>trivial
 | .node z _ _ _ _,⟨h1,h2,h3⟩,h=>⟨⟨h1.h1,γ h1.h2 hl,(h z (ζh ..)).trans h1.ob⟩,h2.of hl (λx hx=>h x (ζl _ (ζx _ hx))),h3.of hl (λx hx=>h x (ζl _ (ζ3 _ hx)))⟩
theorem Rep.top0(h:Rep g T):T.top=0↔T=.nil:=by
 cases T with
 | nil=>exact⟨λ_=>rfl,λ_=>rfl⟩
 | node x f w a b=>exact⟨λe=>absurd e (by have:=h.1.h1;show ¬x=0;omega),λe=>by cases e⟩
theorem BT.len_its:∀T:BT,T.its.length=T.ids.length
 | .nil=>rfl
 | .node _ _ _ a b=>by simp[BT.its,BT.ids,a.len_its,b.len_its]
theorem Has.of(h:Has g j T)(hl:g.L.length<=g'.L.length)(hs:g'.S.length=g.S.length)(e:g'.sv j=g.sv j)(ho:∀x∈T.ids,g'.ob x=g.ob x):Has g' j T:=⟨by rw[hs];exact h.lt,e.trans h.sv,h.rep.of hl ho⟩
theorem OH{L:List GOb}(h:d<g.S.length):(⟨L,g.S.set d v⟩:Gph).sv j=if j=d then v else g.sv j:=by
 show (g.S.set d v).getD j 0=_
 by_cases e:j=d
 ·subst e;rw[θ rfl,JhX h]
 ·rw[φ e,Vn2 (λh=>e h.symm)];rfl
theorem F8(h:d<g.S.length):(g.clG d).L=g.L/\(g.clG d).S.length=g.S.length/\∀j,(g.clG d).sv j=if j=d then 0 else g.sv j:=by
 rw[g.clG_ok h];exact⟨rfl,η ..,λj=>OH h⟩
theorem O5(h:d<g.S.length)(h2:s<g.S.length):(g.cpG d s).L=g.L/\(g.cpG d s).S.length=g.S.length/\∀j,(g.cpG d s).sv j=if j=d then g.sv s else g.sv j:=by
 rw[g.cpG_ok h h2];exact⟨rfl,η ..,λj=>OH h⟩
theorem KZ(h:s<g.S.length):g.shE s=if g.sv s=0 then 18 else 0:=g.shE_ok h
theorem Bd.nz(h:Bd g x a b f w):x≠0:=by have:=h.h1;omega
theorem XA(hd:d<g.S.length)(hs:s<g.S.length)(hx:g.sv s=x)(h:Bd g x a b f w):((g.loG d s 0).L=g.L/\(g.loG d s 0).S.length=g.S.length/\∀j,(g.loG d s 0).sv j=if j=d then a else g.sv j)/\(g.loG d s 1).L=g.L/\(g.loG d s 1).S.length=g.S.length/\∀j,(g.loG d s 1).sv j=if j=d then b else g.sv j:=by
 have k:=SR a b f w;rw[(g.loG_ob hd hs hx h.nz h.ob (j:=0) (i:=0) rfl k.1).2,(g.loG_ob hd hs hx h.nz h.ob (j:=1) (i:=1) rfl k.2.1).2];exact⟨⟨rfl,η ..,λj=>OH hd⟩,rfl,η ..,λj=>OH hd⟩
theorem RF(hd:d<g.S.length)(hs:s<g.S.length)(hx:g.sv s=x)(h:Bd g x a b f w):((∀z,(g.stG s 0 d).ob z=if z=x then btO (g.sv d) b f w else g.ob z)/\(g.stG s 0 d).L.length=g.L.length/\(g.stG s 0 d).S=g.S)/\(∀z,(g.stG s 1 d).ob z=if z=x then btO a (g.sv d) f w else g.ob z)/\(g.stG s 1 d).L.length=g.L.length/\(g.stG s 1 d).S=g.S:=by
 have k:=SR a b f w;rw[(g.stG_ob hs hd hx h.nz h.ob (j:=0) (i:=0) rfl k.1).2,(g.stG_ob hs hd hx h.nz h.ob (j:=1) (i:=1) rfl k.2.1).2];refine⟨⟨λz=>?_,η ..,rfl⟩,λz=>?_,η ..,rfl⟩
 ·rw[Gph.put_ob h.h1 h.h2,h.ob];rfl
 ·rw[Gph.put_ob h.h1 h.h2,h.ob];rfl
theorem XO(hs:s<g.S.length)(hx:g.sv s=x)(h:Bd g x a b f w):g.fdE s 2 2=0/\g.fdV s 2 2=f/\g.fdE s 3 3=0/\g.fdV s 3 3=w:=by
 have k:=SR a b f w;have h2:=g.fd_ob hs hx h.nz h.ob (j:=2) (i:=2) rfl k.2.2.1 (by decide);have h3:=g.fd_ob hs hx h.nz h.ob (j:=3) (i:=3) rfl k.2.2.2 (by decide);exact⟨h2.1,h2.2,h3.1,h3.2⟩
theorem Z8(hs:s<g.S.length)(hx:g.sv s=x)(h:Bd g x a b f w)(v:Nat):((∀z,(g.wrG s 2 2 v).ob z=if z=x then btO a b v w else g.ob z)/\(g.wrG s 2 2 v).L.length=g.L.length/\(g.wrG s 2 2 v).S=g.S)/\(∀z,(g.wrG s 3 3 v).ob z=if z=x then btO a b f v else g.ob z)/\(g.wrG s 3 3 v).L.length=g.L.length/\(g.wrG s 3 3 v).S=g.S:=by
 have k:=SR a b f w;rw[g.wrG_ob hs hx h.nz h.ob (j:=2) (i:=2) rfl k.2.2.1 (by decide) v,g.wrG_ob hs hx h.nz h.ob (j:=3) (i:=3) rfl k.2.2.2 (by decide) v];refine⟨⟨λz=>?_,η ..,rfl⟩,λz=>?_,η ..,rfl⟩
 ·rw[Gph.put_ob h.h1 h.h2,h.ob];rfl
 ·rw[Gph.put_ob h.h1 h.h2,h.ob];rfl
theorem CX(h:g'.L=g.L)(z:Nat):g'.ob z=g.ob z:=by unfold Gph.ob;rw[h]
theorem Bd.of(h:Bd g x a b f w)(hl:g.L.length<=g'.L.length)(e:g'.ob x=g.ob x):Bd g' x a b f w:=⟨h.h1,γ h.h2 hl,e.trans h.ob⟩
end
def G0(s x top:Nat)(g:Gph):Gph:=(((g.loG s top 0).stG x 1 s).stG top 0 x).clG s
def leQ(p q:Nat×Nat):Bool:=EL p.1 q.1||(p.1==q.1&&decide (p.2<=q.2))
def MZ(g:Gph)(x y:Nat):Bool:=leQ (g.fdV x 2 2,g.fdV x 3 3) (g.fdV y 2 2,g.fdV y 3 3)
def FM(s x y:Nat)(g:Gph):Gph:=(if g.shE y=0 then (if g.shE x=0 then (if MZ g x y then G0 s y x g else (G0 s x y g).cpG x y)else g.cpG x y)else g).clG y
def DE(s x row:Nat)(g:Gph):Gph:=if (g.cpG x row).shE row=0 then (((g.cpG x row).loG row row 1).clG s).stG x 1 s else g.cpG x row
structure GFr(g g':Gph)(I J:List Nat):Prop where
 l:g'.L.length=g.L.length
 s:g'.S.length=g.S.length
 ob:∀z,¬z∈I->g'.ob z=g.ob z
 sv:∀j,¬j∈J->g'.sv j=g.sv j
theorem GFr.mono{I I' J':List Nat}(a:GFr g g' I J)(hI:∀z∈I,z∈I')(hJ:∀z∈J,z∈J'):GFr g g' I' J':=⟨a.l,a.s,λz h=>a.ob z (λh'=>h (hI z h')),λj h=>a.sv j (λh'=>h (hJ j h'))⟩
theorem GFr.has{I:List Nat}(a:GFr g g' I J)(h:Has g j T)(hj:¬j∈J)(hI:∀z∈T.ids,¬z∈I):Has g' j T:=h.of (ξl a.l.symm) a.s (a.sv j hj) (λz hz=>a.ob z (hI z hz))
section
variable{t:Nat}
theorem VCA{X P xa xb xf xw pa pb pf pw:Nat}(hx:x<g.S.length)(ht:t<g.S.length)(hs:s<g.S.length)(d2:x≠s)(d3:t≠s)(ex:g.sv x=X)(et:g.sv t=P)(bx:Bd g X xa xb xf xw)(bp:Bd g P pa pb pf pw)(hXP:X≠P):
  Bd (G0 s x t g) X xa pa xf xw/\Bd (G0 s x t g) P X pb pf pw/\GFr g (G0 s x t g) [X,P] [s]/\(G0 s x t g).sv s=0:=by
 unfold G0;obtain⟨⟨l1,s1,v1⟩,-⟩:=XA (d:=s) hs ht et bp;generalize g.loG s t 0=g1 at l1 s1 v1;have Y:Bd g1 X xa xb xf xw:=bx.of (by rw[l1];exact ϑ _) (CX l1 X);have O:Bd g1 P pa pb pf pw:=bp.of (by rw[l1];exact ϑ _) (CX l1 P);have J:g1.sv x=X:=by rw[v1,φ d2];exact ex
 obtain⟨-,o2,l2,s2⟩:=RF (d:=s) (s:=x) (by rw[s1];exact hs) (by rw[s1];exact hx) J Y;rw[show g1.sv s=pa by rw[v1,θ rfl]]at o2;generalize g1.stG x 1 s=g2 at o2 l2 s2;have V:Bd g2 X xa pa xf xw:=⟨Y.h1,by rw[l2];exact Y.h2,by rw[o2,θ rfl]⟩;have Z:Bd g2 P pa pb pf pw:=O.of (ξl l2.symm) (by rw[o2,φ (Ne.symm hXP)]);have v2:∀j,g2.sv j=g1.sv j:=λj=>by unfold Gph.sv;rw[s2]
 have U:g2.sv t=P:=by rw[v2,v1,φ d3];exact et
 obtain⟨⟨o3,l3,s3⟩,-⟩:=RF (d:=x) (s:=t) (by rw[s2,s1];exact hx) (by rw[s2,s1];exact ht) U Z;rw[show g2.sv x=X by rw[v2];exact J]at o3;generalize g2.stG t 0 x=g3 at o3 l3 s3;have M:Bd g3 P X pb pf pw:=⟨Z.h1,by rw[l3];exact Z.h2,by rw[o3,θ rfl]⟩;have I:Bd g3 X xa pa xf xw:=V.of (ξl l3.symm) (by rw[o3,φ hXP]);have v3:∀j,g3.sv j=g1.sv j:=λj=>by unfold Gph.sv;rw[s3,s2]
 obtain⟨l4,s4,v4⟩:=F8 (g:=g3) (d:=s) (by rw[s3,s2,s1];exact hs);generalize g3.clG s=g4 at l4 s4 v4;refine⟨I.of (by rw[l4];exact ϑ _) (CX l4 X),M.of (by rw[l4];exact ϑ _) (CX l4 P),⟨by rw[l4,l3,l2,l1],by rw[s4,s3,s2,s1],λz hz=>?_,λj hj=>?_⟩,by rw[v4,θ rfl]⟩
 ·have h1:z≠X:=λe=>hz (by simp[e]);have h2:z≠P:=λe=>hz (by simp[e]);rw[CX l4,o3,φ h2,o2,φ h1,CX l1]
 ·have h1:j≠s:=λe=>hj (by simp[e]);rw[v4,φ h1,v3,v1,φ h1]
def BT.Sg(T:BT):Prop:=T=.nil\/∃x f w c,T=.node x f w c .nil
def BT.meld:BT->BT->BT
 | .nil,Y=>Y
 | .node x f w c b,.nil=>.node x f w c b
 | .node x f w c _,.node y f' w' c' _=>if leQ (f,w) (f',w')then .node x f w (.node y f' w' c' c) .nil else .node y f' w' (.node x f w c c') .nil
theorem BT.meld_node(x f w:Nat)(c b:BT)(y f' w':Nat)(c' b':BT):(BT.node x f w c b).meld (.node y f' w' c' b')=if leQ (f,w) (f',w')then .node x f w (.node y f' w' c' c) .nil else .node y f' w' (.node x f w c c') .nil:=rfl
theorem BT.meld_sg(hX:X.Sg)(hY:Y.Sg):(X.meld Y).Sg:=by
 rcases hX with rfl|⟨x,f,w,c,rfl⟩
 ·exact hY
 ·rcases hY with rfl|⟨y,f',w',c',rfl⟩
  ·exact .inr ⟨_,_,_,_,rfl⟩
  ·rw[BT.meld_node]
   split
   ·exact .inr ⟨_,_,_,_,rfl⟩
   ·exact .inr ⟨_,_,_,_,rfl⟩
theorem BT.meld_ids(hX:X.Sg)(hY:Y.Sg):(X.meld Y).ids.Perm (X.ids++Y.ids)/\(X.meld Y).its.Perm (X.its++Y.its):=by
 rcases hX with rfl|⟨x,f,w,c,rfl⟩
 ·exact⟨List.Perm.refl _,List.Perm.refl _⟩
 ·rcases hY with rfl|⟨y,f',w',c',rfl⟩
  ·simp[BT.meld,BT.ids,BT.its]
  ·rw[BT.meld_node]
   split
   ·simp only[BT.ids,BT.its,ξI,ζr];exact⟨(ξ4 (l₁:=y :: c'.ids) (l₂:=c.ids)).cons _,(ξ4 (l₁:=(f',w') :: c'.its) (l₂:=c.its)).cons _⟩
   ·simp only[BT.ids,BT.its,ξI,ζr];exact⟨(List.perm_middle (l₁:=x :: c.ids)).symm,(List.perm_middle (l₁:=(f,w) :: c.its)).symm⟩
theorem TZ(hx:Has g x X)(hy:Has g y Y)(hs:s<g.S.length)(d1:x≠y)(d2:x≠s)(d3:y≠s)(sx:X.Sg)(sy:Y.Sg)(nx:X.ids.Nodup)(ny:Y.ids.Nodup)(hd:∀z∈X.ids,¬z∈Y.ids)(h0:g.sv s=0):
  Has (FM s x y g) x (X.meld Y)/\(FM s x y g).sv y=0/\(FM s x y g).sv s=0/\GFr g (FM s x y g) (X.ids++Y.ids) [x,y,s]:=by
 unfold FM;rw[KZ hy.lt,KZ hx.lt];rcases sy with rfl|⟨Y0,f',w',c',rfl⟩
 ·have e:g.sv y=0:=hy.sv;rw[e,θ rfl,φ (by decide)];obtain⟨l1,s1,v1⟩:=F8 hy.lt;have fr:GFr g (g.clG y) (X.ids++BT.nil.ids) [x,y,s]:=⟨by rw[l1],s1,λz _=>CX l1 z,λj hj=>by rw[v1,φ (λe=>hj (by simp[e]))]⟩;have e2:X.meld .nil=X:=by cases X <;> rfl
  rw[e2];exact⟨hx.of (ξl fr.l.symm) fr.s (by rw[v1,φ d1]) (λz _=>CX l1 z),by rw[v1,θ rfl],by rw[v1,φ (Ne.symm d3)];exact h0,fr⟩
 ·have ey:g.sv y=Y0:=hy.sv;obtain⟨Z,ry,-⟩:=hy.rep;rw[ey,φ Z.nz,θ rfl];rcases sx with rfl|⟨X0,f,w,c,rfl⟩
  ·have e:g.sv x=0:=hx.sv;rw[e,θ rfl,φ (by decide)];obtain⟨l1,s1,v1⟩:=O5 hx.lt hy.lt;generalize g.cpG x y=g1 at l1 s1 v1;obtain⟨l2,s2,v2⟩:=F8 (g:=g1) (d:=y) (by rw[s1];exact hy.lt);generalize g1.clG y=g2 at l2 s2 v2;have ho:∀z,g2.ob z=g.ob z:=λz=>(CX l2 z).trans (CX l1 z);have hl:g2.L.length=g.L.length:=by rw[l2,l1]
   refine⟨⟨by rw[s2,s1];exact hx.lt,by rw[v2,φ d1,v1,θ rfl,ey];rfl,hy.rep.of (ξl hl.symm) (λz _=>ho z)⟩,by rw[v2,θ rfl],by rw[v2,φ (Ne.symm d3),v1,φ (Ne.symm d2)];exact h0,hl,s2.trans s1,λz _=>ho z,λj hj=>?_⟩;rw[v2,φ (λe=>hj (by simp[e])),v1,φ (λe=>hj (by simp[e]))]
  ·have ex:g.sv x=X0:=hx.sv;obtain⟨J,rx,-⟩:=hx.rep;have M:X0≠Y0:=λe=>hd X0 (ζh ..) (by rw[e];exact ζh ..);rw[ex,φ J.nz,θ rfl]
   have hq:MZ g x y=leQ (f,w) (f',w'):=by
    unfold MZ;have q1:=XO hx.lt ex J;have q2:=XO hy.lt ey Z;rw[q1.2.1,q1.2.2.2,q2.2.1,q2.2.2.2]
   rw[hq];have m1:∀z∈c.ids,z≠X0/\z≠Y0:=λz hz=>⟨λe=>by rw[e]at hz;simp[BT.ids]at nx;exact nx.1 hz,λe=>hd z (by simp[BT.ids,hz]) (by simp[BT.ids,e])⟩
   have m2:∀z∈c'.ids,z≠X0/\z≠Y0:=λz hz=>⟨λe=>hd X0 (by simp[BT.ids]) (by rw[<-e];simp[BT.ids,hz]),λe=>by rw[e]at hz;simp[BT.ids]at ny;exact ny.1 hz⟩
   have V:∀(g1 g2:Gph) (u:Nat),GFr g g1 [X0,Y0] [s]->g2.L=g1.L->g2.S.length=g1.S.length->(∀j,g2.sv j=if j=y then 0 else if j=x then u else g1.sv j)->g1.sv s=0->g2.sv y=0/\g2.sv s=0/\GFr g g2 ((BT.node X0 f w c .nil).ids++(BT.node Y0 f' w' c' .nil).ids) [x,y,s]/\Rep g2 c/\Rep g2 c':=λg1 g2 u fr l2 s2 v2 e0=>by
    have hl:g2.L.length=g.L.length:=by rw[l2,fr.l]
    have ho:∀z,z≠X0/\z≠Y0->g2.ob z=g.ob z:=λz hz=>(CX l2 z).trans (fr.ob z (by simp[hz.1,hz.2]));refine⟨by rw[v2,θ rfl],by rw[v2,φ (Ne.symm d3),φ (Ne.symm d2)];exact e0,⟨hl,s2.trans fr.s,λz hz=>ho z ⟨λe=>hz (by simp[e,BT.ids]),λe=>hz (by simp[e,BT.ids])⟩,λj hj=>?_⟩,rx.of (ξl hl.symm) (λz hz=>ho z (m1 z hz)),ry.of (ξl hl.symm) (λz hz=>ho z (m2 z hz))⟩;simp at hj;rw[v2,φ hj.2.1,φ hj.1,fr.sv j (by simp[hj.2.2])]
   rw[BT.meld_node];by_cases U:leQ (f,w) (f',w')=true
   ·rw[θ U,θ U];obtain⟨b1,b2,fr,e0⟩:=VCA hy.lt hx.lt hs d3 d2 ey ex Z J (Ne.symm M);generalize G0 s y x g=g1 at b1 b2 fr e0;obtain⟨l2,s2,v2⟩:=F8 (g:=g1) (d:=y) (by rw[fr.s];exact hy.lt);generalize g1.clG y=g2 at l2 s2 v2;obtain⟨k1,k2,k3,k4,k5⟩:=V g1 g2 (g1.sv x) (fr.mono (by simp) (λ_ h=>h)) l2 s2 (λj=>by rw[v2];grind) e0;refine⟨⟨by rw[k3.s];exact hx.lt,?_,?_,?_,trivial⟩,k1,k2,k3⟩
    ·rw[v2,φ d1,fr.sv x (by simp[d2]),ex];rfl
    ·exact b2.of (by rw[l2];exact ϑ _) (CX l2 _)
    ·exact⟨b1.of (by rw[l2];exact ϑ _) (CX l2 _),k5,k4⟩
   ·rw[φ U,φ U];obtain⟨b1,b2,fr,e0⟩:=VCA hx.lt hy.lt hs d2 d3 ex ey J Z M;generalize G0 s x y g=g1 at b1 b2 fr e0;obtain⟨l1,s1,v1⟩:=O5 (g:=g1) (d:=x) (s:=y) (by rw[fr.s];exact hx.lt) (by rw[fr.s];exact hy.lt);generalize g1.cpG x y=g3 at l1 s1 v1;obtain⟨l2,s2,v2⟩:=F8 (g:=g3) (d:=y) (by rw[s1,fr.s];exact hy.lt);generalize g3.clG y=g2 at l2 s2 v2;obtain⟨k1,k2,k3,k4,k5⟩:=V g1 g2 (g1.sv y) fr (l2.trans l1) (s2.trans s1) (λj=>by rw[v2,v1]) e0;refine⟨⟨by rw[k3.s];exact hx.lt,?_,?_,?_,trivial⟩,k1,k2,k3⟩
    ·rw[v2,φ d1,v1,θ rfl,fr.sv y (by simp[d3]),ey];rfl
    ·exact b2.of (by rw[l2,l1];exact ϑ _) (CX (l2.trans l1) _)
    ·exact⟨b1.of (by rw[l2,l1];exact ϑ _) (CX (l2.trans l1) _),k4,k5⟩
theorem Qo9{w:Nat}{b:BT}(hr:Has g r (.node y f w c b))(hx:x<g.S.length)(hs:s<g.S.length)(d1:x≠r)(d2:x≠s)(d3:r≠s)(nd:(BT.node y f w c b).ids.Nodup):
  Has (DE s x r g) x (.node y f w c .nil)/\Has (DE s x r g) r b/\(DE s x r g).sv s=0/\GFr g (DE s x r g) [y] [x,r,s]:=by
 unfold DE;obtain⟨b0,rc,rb⟩:=hr.rep;have er:g.sv r=y:=hr.sv;obtain⟨l1,s1,v1⟩:=O5 hx hr.lt;generalize g.cpG x r=g1 at l1 s1 v1;have e1:g1.sv r=y:=by rw[v1,φ (Ne.symm d1)];exact er
 have b1:Bd g1 y c.top b.top f w:=b0.of (by rw[l1];exact ϑ _) (CX l1 y);rw[KZ (by rw[s1];exact hr.lt),e1,φ b0.nz,θ rfl];obtain⟨-,l2,s2,v2⟩:=XA (d:=r) (s:=r) (by rw[s1];exact hr.lt) (by rw[s1];exact hr.lt) e1 b1;generalize g1.loG r r 1=g2 at l2 s2 v2;obtain⟨l3,s3,v3⟩:=F8 (g:=g2) (d:=s) (by rw[s2,s1];exact hs);generalize g2.clG s=g3 at l3 s3 v3;have ls:g3.S.length=g.S.length:=by rw[s3,s2,s1]
 have ll:g3.L=g.L:=by rw[l3,l2,l1]
 have e3:g3.sv x=y:=by rw[v3,φ d2,v2,φ d1,v1,θ rfl];exact er
 have b3:Bd g3 y c.top b.top f w:=b0.of (by rw[ll];exact ϑ _) (CX ll y);obtain⟨-,o4,l4,s4⟩:=RF (d:=s) (s:=x) (by rw[ls];exact hs) (by rw[ls];exact hx) e3 b3;rw[show g3.sv s=0 by rw[v3,θ rfl]]at o4;generalize g3.stG x 1 s=g4 at o4 l4 s4
 have v4:∀j,g4.sv j=if j=s then 0 else if j=r then b.top else if j=x then y else g.sv j:=λj=>by
  rw[show g4.sv j=g3.sv j by unfold Gph.sv;rw[s4],v3,v2,v1,er]
 have hl:g4.L.length=g.L.length:=by rw[l4,ll]
 have ho:∀z,z≠y->g4.ob z=g.ob z:=λz hz=>by rw[o4,φ hz,CX ll]
 have hc:∀z∈c.ids,z≠y:=λz hz e=>by rw[e]at hz;simp[BT.ids]at nd;exact nd.1.1 hz
 have hb:∀z∈b.ids,z≠y:=λz hz e=>by rw[e]at hz;simp[BT.ids]at nd;exact nd.1.2 hz
 refine⟨⟨by rw[s4,ls];exact hx,by rw[v4,φ d2,φ d1,θ rfl];rfl,⟨b0.h1,by rw[hl];exact b0.h2,by rw[o4,θ rfl];rfl⟩,rc.of (ξl hl.symm) (λz hz=>ho z (hc z hz)),trivial⟩,⟨by rw[s4,ls];exact hr.lt,by rw[v4,φ d3,θ rfl],rb.of (ξl hl.symm) (λz hz=>ho z (hb z hz))⟩,by rw[v4,θ rfl],hl,by rw[s4,ls],λz hz=>ho z (by simpa using hz),λj hj=>?_⟩;simp at hj;rw[v4,φ hj.2.2,φ hj.2.1,φ hj.1]
theorem VvV(hr:Has g r .nil)(hx:x<g.S.length):(DE s x r g).sv x=0/\(DE s x r g).L=g.L/\(DE s x r g).S.length=g.S.length/\∀j,j≠x->(DE s x r g).sv j=g.sv j:=by
 unfold DE;have er:g.sv r=0:=hr.sv;obtain⟨l1,s1,v1⟩:=O5 hx hr.lt;generalize g.cpG x r=g1 at l1 s1 v1;have e1:g1.sv r=0:=by rw[v1];split <;> exact er
 rw[KZ (by rw[s1];exact hr.lt),e1,θ rfl,φ (by decide)];exact⟨by rw[v1,θ rfl];exact er,l1,s1,λj hj=>by rw[v1,φ hj]⟩
end
theorem WM(p:Nat×Nat):leQ p p=true:=by unfold leQ EL;simp
theorem XHU(p q:Nat×Nat):leQ p q=true\/leQ q p=true:=by
 unfold leQ EL
 grind
theorem TJ{p r:Nat×Nat}(h1:leQ p q=true)(h2:leQ q r=true):leQ p r=true:=by
 unfold leQ EL at *
 grind
theorem XSS{p:Nat×Nat}(h1:leQ p q=true)(h2:leQ q p=true):p=q:=by
 obtain⟨a,b⟩:=p;obtain⟨a',b'⟩:=q;unfold leQ EL at *
 grind
namespace BT
def Hp:BT->Prop
 | nil=>True
 | node _ f w c b=>(∀p∈c.its,leQ (f,w) p=true)/\c.Hp/\b.Hp
theorem meld_hp(hX:X.Sg)(hY:Y.Sg)(a:X.Hp)(b:Y.Hp):(X.meld Y).Hp:=by
 rcases hX with rfl|⟨x,f,w,c,rfl⟩
 ·exact b
 ·rcases hY with rfl|⟨y,f',w',c',rfl⟩
  ·exact a
  ·rw[meld_node];obtain⟨a1,a2,-⟩:=a;obtain⟨b1,b2,-⟩:=b
   split
   ·rename_i h;refine⟨λp hp=>?_,⟨b1,b2,a2⟩,trivial⟩;simp only[its,ζD,ζg]at hp;rcases hp with rfl|hp|hp
    ·exact h
    ·exact TJ h (b1 p hp)
    ·exact a1 p hp
   ·rename_i h;have h:=(XHU (f,w) (f',w')).resolve_left h;refine⟨λp hp=>?_,⟨a1,a2,b2⟩,trivial⟩;simp only[its,ζD,ζg]at hp;rcases hp with rfl|hp|hp
    ·exact h
    ·exact TJ h (a1 p hp)
    ·exact b1 p hp
theorem meld_ne{w:Nat}(hY:Y.Sg):∃m g v e,(node x f w c nil).meld Y=node m g v e nil:=by
 rcases hY with rfl|⟨y,f',w',c',rfl⟩
 ·exact⟨_,_,_,_,rfl⟩
 ·rw[meld_node]
  split
  ·exact⟨_,_,_,_,rfl⟩
  ·exact⟨_,_,_,_,rfl⟩
end BT
structure Q6(g:Gph)(r a b t d s:Nat):Prop where
 nd:[r,a,b,t,d,s].Nodup
 lt:∀j∈[r,a,b,t,d,s],j<g.S.length
 al:∀j,¬j∈[r,a,b,t,d,s]->g.sv j=0
 s0:g.sv s=0
section
variable{a t:Nat}
theorem Q6.next{I:List Nat}(h:Q6 g r a b t d s)(f:GFr g g' I J)(hJ:∀j∈J,j∈[r,a,b,t,d,s])(h0:g'.sv s=0):Q6 g' r a b t d s:=
 ⟨h.nd,λj hj=>by rw[f.s];exact h.lt j hj,λj hj=>(f.sv j (λe=>hj (hJ j e))).trans (h.al j hj),h0⟩
structure PrG(g:Gph)(r a b t d s:Nat)(T D:BT):Prop where
 q:Q6 g r a b t d s
 t:Has g t T
 d:Has g d D
 nd:(T.ids++D.ids).Nodup
 ht:T.Hp
 hd:D.Hp
theorem XIA[BEq α][LawfulBEq α]{X B T D M:List α}(h:M.Perm (X++B)):(T++(M++D)).Perm ((X++(B++T))++D):=
 List.perm_iff_count.2 λz=>by
  have:=h.count_eq z;simp only[List.count_append]at this⊢;omega
theorem TF{K:BT}(hr:Has g r K)(hx:x<g.S.length)(hs:s<g.S.length)(d1:x≠r)(d2:x≠s)(d3:r≠s)(nd:K.ids.Nodup)(hp:K.Hp)(h0:g.sv s=0):
  ∃X K',X.Sg/\Has (DE s x r g) x X/\Has (DE s x r g) r K'/\(DE s x r g).sv s=0/\GFr g (DE s x r g) K.ids [x,r,s]/\K.ids=X.ids++K'.ids/\K.its=X.its++K'.its/\X.Hp/\K'.Hp/\X.top=K.top:=by
 cases K with
 | nil=>
  obtain⟨e0,l1,s1,v1⟩:=VvV (s:=s) hr hx;refine⟨.nil,.nil,.inl rfl,⟨by rw[s1];exact hx,e0,trivial⟩,⟨by rw[s1];exact hr.lt,(v1 r (Ne.symm d1)).trans hr.sv,trivial⟩,(v1 s (Ne.symm d2)).trans h0,⟨by rw[l1],s1,λz _=>CX l1 z,λj hj=>v1 j (λe=>hj (by simp[e]))⟩,rfl,rfl,trivial,trivial,rfl⟩
 | node y f w c b=>
  obtain⟨h1,h2,h3,h4⟩:=Qo9 hr hx hs d1 d2 d3 nd;exact⟨_,b,.inr ⟨_,_,_,_,rfl⟩,h1,h2,h3,h4.mono (λz hz=>by simp at hz;simp[BT.ids,hz]) (λ_ h=>h),by simp[BT.ids],by simp[BT.its],⟨hp.1,hp.2.1,trivial⟩,hp.2.2,rfl⟩
def Q7(a b t d s:Nat)(g:Gph):Gph:=(((FM s a b (DE s b t (DE s a t g))).stG a 1 d).cpG d a)
theorem PrG.step(h:PrG g r a b t d s T D)(hT:g.sv t≠0):∃T' D',T'.ids.length<T.ids.length/\PrG (Q7 a b t d s g) r a b t d s T' D'/\(T'.ids++D'.ids).Perm (T.ids++D.ids)/\(T'.its++D'.its).Perm (T.its++D.its)/\GFr g (Q7 a b t d s g) (T.ids++D.ids) [a,b,t,d,s]:=by
 have hn:=h.q.nd;simp at hn;obtain⟨⟨ra,rb,rt,rd,rs⟩,⟨ab,at_,ad,J⟩,⟨bt,bd,bs⟩,⟨td,ts⟩,ds⟩:=hn;have la:=h.q.lt a (by simp);have lb:=h.q.lt b (by simp);have ls:=h.q.lt s (by simp);have n1:=ζ0.1 h.nd;obtain⟨X,K,sx,xa,kt,z1,f1,i1,j1,Xe,Xa,tx⟩:=TF h.t la ls at_ J ts n1.1 h.ht h.q.s0;have dj:∀z∈D.ids,¬z∈T.ids:=λz hz Y=>n1.2.2 z Y z hz rfl;have I:=f1.has h.d (by simp;exact⟨λe=>ad e.symm,λe=>td e.symm,ds⟩) dj;unfold Q7;generalize DE s a t g=g1 at xa kt z1 f1 I;rw[i1]at n1;have n2:=ζ0.1 n1.1;obtain⟨B,T',sb,bb,tt,z2,f2,i2,j2,Xd,Xc,-⟩:=TF kt (x:=b) (by rw[f1.s];exact lb) (by rw[f1.s];exact ls) bt bs ts n2.2.1 Xa z1;have E:=f2.has xa (by simp;exact⟨ab,at_,J⟩) (λz hz Y=>n2.2.2 z hz z Y rfl);have G:=f2.has I (by simp;exact⟨λe=>bd e.symm,λe=>td e.symm,ds⟩) (λz hz Y=>dj z hz (by rw[i1];exact ζ3 _ Y));generalize DE s b t g1=g2 at bb tt z2 f2 E G;rw[i2]at n2;have n3:=ζ0.1 n2.2.1;obtain⟨m1,m2,z3,f3⟩:=TZ E bb (by rw[f2.s,f1.s];exact ls) ab J bs sx sb n2.1 n3.1 (λz hz Y=>n2.2.2 z hz z (ζx _ Y) rfl) z2;have O:=f3.has tt (by simp;exact⟨λe=>at_ e.symm,λe=>bt e.symm,ts⟩) (λz hz Y=>(ζg.1 Y).elim (λh=>n2.2.2 z h z (ζ3 _ hz) rfl) (λh=>n3.2.2 z h z hz rfl));have Z:=f3.has G (by simp;exact⟨λe=>ad e.symm,λe=>bd e.symm,ds⟩) (λz hz Y=>dj z hz (by rw[i1,i2];exact(ζg.1 Y).elim (λh=>ζx _ h) (λh=>ζ3 _ (ζx _ h))));have sg3:=BT.meld_sg sx sb;obtain⟨p1,p2⟩:=BT.meld_ids sx sb;have V:=BT.meld_hp sx sb Xe Xd;generalize FM s a b g2=g3 at m1 m2 z3 f3 O Z
 obtain⟨x0,xf,xw,xc,rfl⟩:∃x0 xf xw xc,X=.node x0 xf xw xc .nil:=by
  rcases sx with rfl|hx
  ·exact absurd (h.t.sv.trans tx.symm) hT
  ·exact hx
 obtain⟨m,mf,mw,mc,em⟩:=BT.meld_ne (x:=x0) (f:=xf) (w:=xw) (c:=xc) sb;rw[em]at m1 p1 p2 V;generalize (BT.node x0 xf xw xc .nil)=X at *
 have q1:(T'.ids++(BT.node m mf mw mc D).ids).Perm (T.ids++D.ids):=by
  have:=XIA (T:=T'.ids) (D:=D.ids) p1;rw[i1,i2];simpa[BT.ids]using this
 have q2:(T'.its++(BT.node m mf mw mc D).its).Perm (T.its++D.its):=by
  have:=XIA (T:=T'.its) (D:=D.its) p2;rw[j1,j2];simpa[BT.its]using this
 have M:=q1.nodup_iff.2 h.nd;have n4:=ζ0.1 M;obtain⟨b3,Xb,-⟩:=m1.rep;obtain⟨-,o4,l4,s4⟩:=RF (d:=d) (s:=a) (by rw[f3.s,f2.s,f1.s];exact h.d.lt) m1.lt m1.sv b3;rw[Z.sv]at o4;generalize g3.stG a 1 d=g4 at o4 l4 s4;have o4:∀z,g4.ob z=if z=m then btO mc.top D.top mf mw else g3.ob z:=o4
 have v4:∀j,g4.sv j=g3.sv j:=λj=>by unfold Gph.sv;rw[s4]
 obtain⟨l5,s5,v5⟩:=O5 (g:=g4) (d:=d) (s:=a) (by rw[s4];exact Z.lt) (by rw[s4];exact m1.lt);generalize g4.cpG d a=g5 at l5 s5 v5;have ho:∀z,z≠m->g5.ob z=g3.ob z:=λz hz=>by rw[CX l5,o4,φ hz]
 have hl:g3.L.length<=g5.L.length:=by rw[l5,l4];exact ϑ _
 have A:∀z∈T'.ids,z≠m:=λz hz e=>n4.2.2 z hz m (by simp[BT.ids]) e;have U:=n4.2.1;simp only[BT.ids,List.nodup_cons,ζg,not_or]at U
 have fr:GFr g g5 (T.ids++D.ids) [a,b,t,d,s]:=by
  refine⟨by rw[l5,l4,f3.l,f2.l,f1.l],by rw[s5,s4,f3.s,f2.s,f1.s],λz hz=>?_,λj hj=>?_⟩
  ·have Y:¬z∈T.ids:=λh=>hz (ζx _ h);rw[ho z (λe=>hz (q1.mem_iff.1 (ζ3 _ (by rw[e];simp[BT.ids])))),f3.ob z (λh=>Y (by rw[i1,i2];exact(ζg.1 h).elim (λh=>ζx _ h) (λh=>ζ3 _ (ζx _ h)))),f2.ob z (λh=>Y (by rw[i1];exact ζ3 _ h)),f1.ob z Y]
  ·simp at hj;rw[v5,φ hj.2.2.2.1,v4,f3.sv j (by simp[hj]),f2.sv j (by simp[hj]),f1.sv j (by simp[hj])]
 refine⟨T',.node m mf mw mc D,?_,⟨h.q.next fr (λj hj=>by simp at hj⊢;omega) (by rw[v5,φ (λe=>ds e.symm),v4];exact z3),O.of hl (by rw[s5,s4]) (by rw[v5,φ td,v4]) (λz hz=>ho z (A z hz)),⟨by rw[s5,s4];exact Z.lt,by rw[v5,θ rfl,v4];exact m1.sv,⟨b3.h1,γ b3.h2 hl,by rw[CX l5,o4,θ rfl]⟩,Xb.of hl (λz hz=>ho z (λe=>U.1.1 (by rw[<-e];exact hz))),Z.rep.of hl (λz hz=>ho z (λe=>U.1.2 (by rw[<-e];exact hz)))⟩,M,Xc,⟨V.1,V.2.1,h.hd⟩⟩,q1,q2,fr⟩;have e1:=congrArg List.length i1;have e2:=congrArg List.length i2;have e3:=p1.length_eq;simp[BT.ids]at e1 e2 e3;omega
end
def GP(a b t d s:Nat)(g:Gph):Gph:=((((g.clG a).clG b).clG t).clG d).clG s
def T0(r a d s:Nat)(g:Gph):Gph:=FM s r a (DE s a d g)
def TU(a C f w:Nat)(g:Gph):Gph:=((g.alG C a ⟨2,1,1⟩).wrG a 2 2 f).wrG a 3 3 w
structure GC(g:Gph)(r a b t d s:Nat)(R:BT):Prop where
 q:Q6 g r a b t d s
 hs:Has g r R
 sr:R.Sg
 nd:R.ids.Nodup
 hp:R.Hp
 z:∀j,j≠r->g.sv j=0
structure DrG(g:Gph)(r a b t d s:Nat)(R D:BT):Prop where
 q:Q6 g r a b t d s
 hs:Has g r R
 d:Has g d D
 sr:R.Sg
 nd:(R.ids++D.ids).Nodup
 hr:R.Hp
 hd:D.Hp
section
variable{a t:Nat}{R:BT}
theorem YD[BEq α][LawfulBEq α]{R X D M:List α}(h:M.Perm (R++X)):(M++D).Perm (R++(X++D)):=
 List.perm_iff_count.2 λz=>by
  have:=h.count_eq z;simp only[List.count_append]at this⊢;omega
theorem DrG.step(h:DrG g r a b t d s R D)(hD:g.sv d≠0):∃R' D',D'.ids.length<D.ids.length/\DrG (T0 r a d s g) r a b t d s R' D'/\(R'.its++D'.its).Perm (R.its++D.its):=by
 have hn:=h.q.nd;simp at hn;obtain⟨⟨ra,rb,rt,rd,rs⟩,⟨ab,at_,ad,Y⟩,⟨bt,bd,bs⟩,⟨td,ts⟩,ds⟩:=hn;have la:=h.q.lt a (by simp);have ls:=h.q.lt s (by simp);have n1:=ζ0.1 h.nd;obtain⟨X,K,sx,xa,kd,z1,f1,i1,j1,V,J,tx⟩:=TF h.d la ls ad Y ds n1.2.1 h.hd h.q.s0;have dj:∀z∈R.ids,¬z∈D.ids:=λz hz hz'=>n1.2.2 z hz z hz' rfl;have Z:=f1.has h.hs (by simp;exact⟨ra,rd,rs⟩) dj;unfold T0;generalize DE s a d g=g1 at xa kd z1 f1 Z;rw[i1]at n1;have n2:=ζ0.1 n1.2.1;obtain⟨m1,m2,z2,f2⟩:=TZ Z xa (by rw[f1.s];exact ls) ra rs Y h.sr sx n1.1 n2.1 (λz hz hz'=>n1.2.2 z hz z (ζx _ hz') rfl) z1;have U:=f2.has kd (by simp;exact⟨λe=>rd e.symm,λe=>ad e.symm,ds⟩) (λz hz hz'=>(ζg.1 hz').elim (λh=>n1.2.2 z h z (ζ3 _ hz) rfl) (λh=>n2.2.2 z h z hz rfl));obtain⟨p1,p2⟩:=BT.meld_ids h.sr sx;have q1:((R.meld X).ids++K.ids).Perm (R.ids++D.ids):=by rw[i1];exact YD p1
 have q2:((R.meld X).its++K.its).Perm (R.its++D.its):=by rw[j1];exact YD p2
 refine⟨R.meld X,K,?_,⟨(h.q.next f1 (λj hj=>by simp at hj⊢;omega) z1).next f2 (λj hj=>by simp at hj⊢;omega) z2,m1,U,BT.meld_sg h.sr sx,q1.nodup_iff.2 h.nd,BT.meld_hp h.sr sx h.hr V,J⟩,q2⟩;have e1:=congrArg List.length i1
 have e2:X.ids.length≠0:=by
  rcases sx with rfl|⟨x,f,w,c,rfl⟩
  ·exact absurd (h.d.sv.trans tx.symm) hD
  ·simp[BT.ids]
 simp at e1;omega
theorem ZDM(h:j<g.S.length):GFr g (g.clG j) [] [j]/\(g.clG j).sv j=0:=by
 obtain⟨l1,s1,v1⟩:=F8 h;exact⟨⟨by rw[l1],s1,λz _=>CX l1 z,λk hk=>by rw[v1,φ (by simpa using hk)]⟩,by rw[v1,θ rfl]⟩
theorem XBu(h:Q6 g r a b t d s):GFr g (GP a b t d s g) [] [a,b,t,d,s]/\∀j∈[a,b,t,d,s],(GP a b t d s g).sv j=0:=by
 have la:=h.lt a (by simp);have lb:=h.lt b (by simp);have lt:=h.lt t (by simp);have ld:=h.lt d (by simp);have ls:=h.lt s (by simp);unfold GP;obtain⟨l1,s1,v1⟩:=F8 la;generalize g.clG a=g1 at l1 s1 v1;obtain⟨l2,s2,v2⟩:=F8 (g:=g1) (d:=b) (by rw[s1];exact lb);generalize g1.clG b=g2 at l2 s2 v2;obtain⟨l3,s3,v3⟩:=F8 (g:=g2) (d:=t) (by rw[s2,s1];exact lt);generalize g2.clG t=g3 at l3 s3 v3;obtain⟨l4,s4,v4⟩:=F8 (g:=g3) (d:=d) (by rw[s3,s2,s1];exact ld);generalize g3.clG d=g4 at l4 s4 v4;obtain⟨l5,s5,v5⟩:=F8 (g:=g4) (d:=s) (by rw[s4,s3,s2,s1];exact ls);generalize g4.clG s=g5 at l5 s5 v5;have e:∀j,g5.sv j=if j∈[a,b,t,d,s]then 0 else g.sv j:=λj=>by rw[v5,v4,v3,v2,v1];simp;grind
 exact⟨⟨by rw[l5,l4,l3,l2,l1],by rw[s5,s4,s3,s2,s1],λz _=>CX (by rw[l5,l4,l3,l2,l1]) z,λj hj=>by rw[e,φ hj]⟩,λj hj=>by rw[e,θ hj]⟩
theorem DrG.rest(h:DrG g r a b t d s R D)(hD:g.sv d=0):GC (GP a b t d s g) r a b t d s R/\D=.nil:=by
 obtain⟨f,z⟩:=XBu h.q;have hn:=h.q.nd;simp at hn;have e:D=.nil:=h.d.rep.top0.1 (h.d.sv.symm.trans hD);subst e;have nd:=h.nd;rw[show BT.nil.ids=[]from rfl,ξI]at nd;refine⟨⟨h.q.next f (λj hj=>ζl _ hj) (z s (by simp)),f.has h.hs (by simp;exact hn.1) (λ_ _ h=>by cases h),h.sr,nd,h.hr,λj hj=>?_⟩,rfl⟩;by_cases hm:j∈[a,b,t,d,s]
 ·exact z j hm
 ·rw[f.sv j hm];exact h.q.al j (λe=>(ζD.1 e).elim hj hm)
theorem GC.popped{w:Nat}(h:GC g r a b t d s (.node x f w c .nil)):g.shE r=0/\g.fdV r 2 2=f/\g.fdV r 3 3=w/\PrG (g.loG t r 0) r a b t d s c .nil:=by
 have hn:=h.q.nd;simp at hn;obtain⟨⟨ra,rb,rt,rd,rs⟩,⟨ab,at_,ad,asx⟩,⟨bt,bd,bs⟩,⟨td,ts⟩,ds⟩:=hn;obtain⟨b0,rc,-⟩:=h.hs.rep;have e:g.sv r=x:=h.hs.sv;have lt:=h.q.lt t (by simp);obtain⟨⟨l1,s1,v1⟩,-⟩:=XA (d:=t) lt h.hs.lt e b0;have q:=XO h.hs.lt e b0;have fr:GFr g (g.loG t r 0) [] [t]:=⟨by rw[l1],s1,λz _=>CX l1 z,λj hj=>by rw[v1,φ (by simpa using hj)]⟩;have nd:=h.nd;simp[BT.ids]at nd;refine⟨by rw[KZ h.hs.lt,e,φ b0.nz],q.2.1,q.2.2.2,h.q.next fr (by simp) (by rw[v1,φ (λe=>ts e.symm)];exact h.q.s0),⟨by rw[s1];exact lt,by rw[v1,θ rfl],rc.of (by rw[l1];exact ϑ _) (λz _=>CX l1 z)⟩,⟨by rw[s1];exact h.q.lt d (by simp),by rw[v1,φ (λe=>td e.symm)];exact h.z d (λe=>rd e.symm),trivial⟩,by simpa[BT.ids]using nd.2,h.hp.2.1,trivial⟩
theorem PrG.drained(h:PrG g r a b t d s T D)(hT:g.sv t=0):T=.nil/\DrG (g.clG r) r a b t d s .nil D:=by
 have hn:=h.q.nd;simp at hn;obtain⟨⟨ra,rb,rt,rd,rs⟩,-⟩:=hn;have e:T=.nil:=h.t.rep.top0.1 (h.t.sv.symm.trans hT);subst e;obtain⟨f,z⟩:=ZDM (h.q.lt r (by simp));exact⟨rfl,h.q.next f (by simp) (by rw[f.sv s (by simp;exact λe=>rs e.symm)];exact h.q.s0),⟨by rw[f.s];exact h.q.lt r (by simp),z,trivial⟩,f.has h.d (by simp;exact λe=>rd e.symm) (λ_ _ h=>by cases h),.inl rfl,by simpa[BT.ids]using h.nd,trivial,h.hd⟩
theorem Rep.sizes:∀{T:BT},Rep g T->(T.ids.map λx=>(g.ob x).size).sum=5*T.ids.length
 | .nil,_=>rfl
 | .node x f w a b,⟨h1,h2,h3⟩=>by
  simp only[BT.ids,ξS,ζ5,List.sum_cons,List.sum_append,h2.sizes,h3.sizes,h1.ob,ζB,ζo]
  show 1+2+1+1+_=_
  omega
theorem Rep.rd:∀{T:BT},Rep g T->(T.top≠0->g.Rd T.top)->∀x∈T.ids,g.Rd x
 | .nil,_,_,_,hx=>by cases hx
 | .node y f w a b,⟨h1,h2,h3⟩,hy,x,hx=>by
  have hr:g.Rd y:=hy h1.nz;have hp:g.pts y=[a.top,b.top]:=by unfold Gph.pts;rw[h1.ob];rfl
  rcases ζD.1 hx with rfl|hx
  ·exact hr
  ·rcases ζg.1 hx with hx|hx
   ·exact h2.rd (λh0=>hr.step (by rw[hp];simp) h0) x hx
   ·exact h3.rd (λh0=>hr.step (by rw[hp];simp) h0) x hx
theorem BT.top_mem:∀{T:BT},T.top≠0->T.top∈T.ids
 | .nil,h=>absurd rfl h
 | .node _ _ _ _ _,_=>ζh ..
theorem Rep.shut:∀{T:BT},Rep g T->∀x∈T.ids,∀z∈g.pts x,z≠0->z∈T.ids
 | .nil,_,_,hx=>by cases hx
 | .node y f w a b,⟨h1,h2,h3⟩,x,hx=>by
  intro z hz h0;have hp:g.pts y=[a.top,b.top]:=by unfold Gph.pts;rw[h1.ob];rfl
  rcases ζD.1 hx with rfl|hx
  ·rw[hp]at hz;simp only[ζD,ξW,or_false]at hz;rcases hz with rfl|rfl
   ·exact ζl _ (ζx _ (BT.top_mem h0))
   ·exact ζl _ (ζ3 _ (BT.top_mem h0))
  ·rcases ζg.1 hx with hx|hx
   ·exact ζl _ (ζx _ (h2.shut x hx z hz h0))
   ·exact ζl _ (ζ3 _ (h3.shut x hx z hz h0))
theorem Has.live(h:Has g r R)(hk:g.Ok)(nd:R.ids.Nodup)(z:∀j,j≠r->g.sv j=0):g.all.length=R.ids.length/\g.words=5*R.ids.length:=by
 have h1:∀x∈g.S,x≠0->x∈R.ids:=λx hx h0=>by
  obtain⟨j,hj,e⟩:=ψw.1 hx;have e2:g.sv j=x:=by unfold Gph.sv;rw[β,ω hj];exact e
  by_cases ej:j=r
  ·subst ej;rw[h.sv]at e2;rw[<-e2]at h0⊢;exact BT.top_mem h0
  ·exact absurd (e2.symm.trans (z j ej)) h0
 have hr:R.top≠0->g.Rd R.top:=λh0=>by
  rw[<-h.sv]at h0⊢;exact Gph.Rd.root (by unfold Gph.sv;rw[β,ω h.lt];exact μ _) h0
 obtain⟨p,q⟩:=Gph.all_of hk nd h1 h.rep.shut (h.rep.rd hr);rw[p,q,h.rep.sizes];exact⟨rfl,rfl⟩
theorem GC.push(h:GC g r a b t d s R){C w:Nat}(he:g.alE C a ⟨2,1,1⟩=0):∃R',GC (GP a b t d s (FM s r a (TU a C f w g))) r a b t d s R'/\R'.its.Perm ((f,w) :: R.its):=by
 have hn:=h.q.nd;simp at hn;obtain⟨⟨ra,rb,rt,rd,rs⟩,⟨ab,at_,ad,Y⟩,⟨bt,bd,bs⟩,⟨td,ts⟩,ds⟩:=hn;have la:=h.q.lt a (by simp);have ls:=h.q.lt s (by simp);unfold TU;rw[show g.alG C a ⟨2,1,1⟩=g.add a 2 1 1 by unfold Gph.alG;rw[θ he];rfl];obtain⟨n,hn⟩:∃n,n=g.L.length+1:=⟨_,rfl⟩;have l1:(g.add a 2 1 1).L.length=n:=by show (g.L++[_]).length=n;rw[ζo,hn];rfl
 have s1:(g.add a 2 1 1).S.length=g.S.length:=η ..;have v1:∀j,(g.add a 2 1 1).sv j=if j=a then n else g.sv j:=λj=>by rw[hn];exact OH la
 have o1:∀z,z<=g.L.length->(g.add a 2 1 1).ob z=g.ob z:=λz hz=>Gph.add_ob z hz;have b1:Bd (g.add a 2 1 1) n 0 0 0 0:=⟨by omega,ξl l1.symm,by rw[hn];exact Gph.add_new⟩;generalize g.add a 2 1 1=g1 at l1 s1 v1 o1 b1;obtain⟨⟨o2,l2,s2⟩,-⟩:=Z8 (by rw[s1];exact la) (by rw[v1,θ rfl]) b1 f;generalize g1.wrG a 2 2 f=g2 at o2 l2 s2;have v2:∀j,g2.sv j=g1.sv j:=λj=>by unfold Gph.sv;rw[s2]
 have b2:Bd g2 n 0 0 f 0:=⟨b1.h1,by rw[l2];exact b1.h2,by rw[o2,θ rfl]⟩;obtain⟨-,o3,l3,s3⟩:=Z8 (g:=g2) (s:=a) (by rw[s2,s1];exact la) (by rw[v2,v1,θ rfl]) b2 w;generalize g2.wrG a 3 3 w=g3 at o3 l3 s3;have v3:∀j,g3.sv j=if j=a then n else g.sv j:=λj=>by rw[<-v1,<-v2];unfold Gph.sv;rw[s3]
 have X:g3.S.length=g.S.length:=by rw[s3,s2,s1]
 have hl:g.L.length<=g3.L.length:=by rw[l3,l2,l1];omega
 have hm:∀z∈R.ids,z≠n:=λz hz e=>by have:=(h.hs.rep.mem z hz).2;omega
 have ho:∀z∈R.ids,g3.ob z=g.ob z:=λz hz=>by rw[o3,φ (hm z hz),o2,φ (hm z hz),o1 z (h.hs.rep.mem z hz).2]
 have U:Has g3 r R:=h.hs.of hl X (by rw[v3,φ ra]) ho;have J:Has g3 a (.node n f w .nil .nil):=⟨by rw[X];exact la,by rw[v3,θ rfl];rfl,⟨b2.h1,by rw[l3];exact b2.h2,by rw[o3,θ rfl];rfl⟩,trivial,trivial⟩;have q3:Q6 g3 r a b t d s:=⟨h.q.nd,λj hj=>by rw[X];exact h.q.lt j hj,λj hj=>by rw[v3,φ (λe=>hj (by simp[e]))];exact h.q.al j hj,by rw[v3,φ (λe=>Y e.symm)];exact h.q.s0⟩;have sn:(BT.node n f w .nil .nil).Sg:=.inr ⟨_,_,_,_,rfl⟩;obtain⟨m1,m2,z4,f4⟩:=TZ U J (by rw[X];exact ls) ra rs Y h.sr sn h.nd (by simp[BT.ids]) (λz hz hz'=>hm z hz (by simpa[BT.ids]using hz')) (by rw[v3,φ (λe=>Y e.symm)];exact h.q.s0);obtain⟨p1,p2⟩:=BT.meld_ids h.sr sn;have dj:(R.ids++(BT.node n f w .nil .nil).ids).Nodup:=ζ0.2 ⟨h.nd,by simp[BT.ids],λx hx y hy e=>hm x hx (by rw[e];simpa[BT.ids]using hy)⟩;have Z:(FM s r a g3).sv d=0:=by rw[f4.sv d (by simp;exact⟨λe=>rd e.symm,λe=>ad e.symm,ds⟩),v3,φ (λe=>ad e.symm)];exact h.z d (λe=>rd e.symm)
 have dr:DrG (FM s r a g3) r a b t d s (R.meld (.node n f w .nil .nil)) .nil:=⟨q3.next f4 (λj hj=>by simp at hj⊢;omega) z4,m1,⟨by rw[f4.s,X];exact h.q.lt d (by simp),Z,trivial⟩,BT.meld_sg h.sr sn,by rw[show BT.nil.ids=[]from rfl,ξI];exact p1.nodup_iff.2 dj,BT.meld_hp h.sr sn h.hp ⟨λp hp=>(by cases hp),trivial,trivial⟩,trivial⟩;refine⟨_,(dr.rest Z).1,p2.trans ?_⟩;rw[show (BT.node n f w .nil .nil).its=[(f,w)]from rfl];exact ξ4
theorem BT.least{w:Nat}(h:(BT.node x f w c .nil).Hp):∀p∈(BT.node x f w c .nil).its,leQ (f,w) p=true:=λp hp=>by
 simp only[BT.its,ξI,ζD]at hp;rcases hp with rfl|hp
 ·exact WM _
 ·exact h.1 p hp
theorem Yf8(hd:[r,a,b,t,d,s].Nodup)(hl:∀j∈[r,a,b,t,d,s],j<n):GC ⟨[],List.replicate n 0⟩ r a b t d s .nil:=by
 have hz:∀j,(⟨[],List.replicate n 0⟩:Gph).sv j=0:=λj=>by
  show (List.replicate n 0).getD j 0=0
  rw[β,ξc]
  split <;> rfl
 have hs:(⟨[],List.replicate n 0⟩:Gph).S.length=n:=ζI ..;exact⟨⟨hd,λj hj=>by rw[hs];exact hl j hj,λj _=>hz j,hz s⟩,⟨by rw[hs];exact hl r (by simp),hz r,trivial⟩,.inl rfl,ξN,trivial,λj _=>hz j⟩
end
def ndC(N:List (Nat×Nat)):List Value:=N.flatMap λo=>[uU (o.1:Nat),uU (o.2:Nat)]
theorem Q2(L M:List (Nat×Nat)):ndC (L++M)=ndC L++ndC M:=by simp[ndC]
theorem UN(L:List (Nat×Nat)):(ndC L).length=L.length*2:=by
 induction L with
 | nil=>rfl
 | cons o r ih=>simp[ndC]at ih⊢;omega
theorem Qn9{L:List (Nat×Nat)}(h:i<L.length):(ndC L)[i*2]?=some (uU ((L.getD i (0,0)).1:Nat))/\(ndC L)[i*2+1]?=some (uU ((L.getD i (0,0)).2:Nat)):=by
 induction L generalizing i with
 | nil=>exact absurd h (ζC _)
 | cons o r ih=>
  have e:ndC (o :: r)=uU (o.1:Nat) :: uU (o.2:Nat) :: ndC r:=rfl;rw[e];cases i with
  | zero=>exact⟨rfl,rfl⟩
  | succ i=>
   have:=ih (i:=i) (by simpa using h);rw[show (i+1)*2=i*2+1+1 by omega];simpa using this
theorem XSe:(prog.info? 104).map (λi=>(i.zero,i.size,i.bytes))=some (some (.agg #[uU 0,uU 0]),2,16):=by kernel_rfl
structure CJ(w:World)(S:Nat->Prop)(rb:Nat)(room:Int)(N:List (Nat×Nat))(v:Value):Prop where
 row:Rec w rb 57 [v,iI room]
 own:w.ownsRow 0 104 2 v N.length (ndC N)
 sr:S rb
 sn:∀g,v.ownBlock=some g->S g/\g≠rb
def V6f(w:World)(S:Nat->Prop)(rb:Nat)(room:Int)(N:List (Nat×Nat)):Prop:=∃v,CJ w S rb room N v
section
variable{S:Nat->Prop}{rb:Nat}{room:Int}{N:List (Nat × Nat)}{v:Value}
theorem CJ.touch{T:Nat->Prop}(h:CJ w S rb room N v)(t:AB T w w')(hT:∀k,S k->¬T k):CJ w' S rb room N v:=
 ⟨h.row.touch t (hT _ h.sr),BV h.own t (λg hg=>hT g (h.sn g hg).1),h.sr,h.sn⟩
theorem CJ.gr(h:CJ w S rb room N v)(g:Gr w w'):CJ w' S rb room N v:=h.touch (g.touch (λ_=>False)) (λ_ _=>id)
theorem CJ.sub{S':Nat->Prop}(h:CJ w S rb room N v)(hs:∀k,S k->S' k):CJ w S' rb room N v:=⟨h.row,h.own,hs _ h.sr,λg hg=>⟨hs _ (h.sn g hg).1,(h.sn g hg).2⟩⟩
theorem CJ.cut(h:CJ w S rb room N v):CJ w (λk=>S k/\k<w.heap.size) rb room N v:=⟨h.row,h.own,⟨h.sr,h.row.lt⟩,λg hg=>⟨⟨(h.sn g hg).1,(BE h.own hg).2⟩,(h.sn g hg).2⟩⟩
def RqO(w:World)(S:Nat->Prop)(rb:Nat)(room:Int)(N':List (Nat×Nat))(w':World):Prop:=AB S w w'/\V6f w' (plus S w) rb room N'
theorem Vpg(h:CJ w S rb room N v)(hN:N.length<=1000000)(x y:Nat):Calls prog 54 #[pP rb,uU x,uU y] w
  λe w'=>e=.returned (iI (if room<=N.length then 21 else 0))/\RqO w S rb room (if room<=N.length then N else N++[(x,y)]) w':=by
 obtain⟨A,c,rfl,-,-⟩:=DF h.own;obtain⟨i0,hi,Xb,E,I⟩:=info_parts XSe;have H:=ι h;obtain⟨c0,c1,cl⟩:=h.row.k2;clear h;by_cases hr:room<=N.length
 ·rw[θ hr,θ hr];have d0:decide (room<=(N.length:Int))=true:=ξ hr;clear hr;go_enter func54,ntmps54;go_wp2;go_quiet (fail);go_wp2;go_ret;exact⟨rfl,(((Gr.refl w).drewN nq).touch _),_,(H.o.gr ((Gr.refl w).drewN nq)).sub (λk hk=>Or.inl hk)⟩
 ·rw[φ hr,φ hr];have d0:decide (room<=(N.length:Int))=false:=ζ hr;clear hr;go_enter func54,ntmps54;go_wp2;go_quiet (fail);obtain⟨w1,V⟩:∃w1,w1=w.drewN nq:=⟨_,rfl⟩;have U:Hid (Gr w w1):=⟨by rw[V];exact(Gr.refl w).drewN _⟩;rw[<-V];clear V;have H1:=ι (H.o.gr U.o)
  clear c0 c1 cl;obtain⟨c0,c1,cl⟩:=H1.o.row.k2
  go_wp2_with(at_builtin;refine wpList_append_own_at _ rfl _ _ 55 rfl 0 104 i0 _ 2 16 underlying55 hi Xb E I rfl (by decide) (.slice A N.length c) N.length (ndC N) rfl (CM H1.o.own ((Gr.refl _).alloc _)) ⟨w1.heap.size,0,none⟩ 1 1 [uU (x:Nat),uU (y:Nat)] rfl rfl (ξs (cs:=#[uU (x:Nat),uU (y:Nat)]) (t:=104) (fr:=(0,0)) (heap_alloc_new w1 _)) (by simp[Value.oneCell']) (by unfold maxLen;omega) Ω (ζc _) ?_;intro v' w2 Y X _ J;obtain⟨A',c',rfl,-,-⟩:=DF Y;have Z:=ι ((H1.o.row.gr ((Gr.refl w1).alloc (.cells #[.int .u64 (x:Nat),.int .u64 (y:Nat)] 104))).touch (EC X (λk=>(Value.slice A N.length c).ownBlock=some k) (λk e _=>e)) (λe=>(H1.o.sn rb e).2 rfl));have Xa:=ι Y;have G:=ι X;have O:=ι J;clear Y X J;replace c0:=Z.o.cc 0;replace c1:=Z.o.free 0;replace cl:=Z.o.lt);go_ret;have hs1:=χ w1 (.cells #[.int .u64 (x:Nat),.int .u64 (y:Nat)] 104);have hsz:=U.o.size;have hrl:=H1.o.row.lt
  have M:∀g,(Value.slice A' (N.length+1) c').ownBlock=some g->(S g\/w.heap.size<=g)/\g≠rb:=λg hg=>by
   rcases O.o with e|e
   ·have:=H1.o.sn g (e▸hg);exact⟨.inl this.1,this.2⟩
   ·rw[e]at hg;have hg:=Option.some.inj hg;rw[χ]at hg;exact⟨.inr Ω,by omega⟩
  have ht:AB S w w2:=((U.o.alloc _).touch S).trans (EC G.o S (λk e _=>(H1.o.sn k e).1));refine⟨rfl,ht.setCell (λ_=>H1.o.sr) _,_,Z.o.set 0 _,?_,.inl H1.o.sr,M⟩;have hO:=BV Xa.o ((AB.refl (λk=>k=rb) w2).setCell (a:=⟨rb,0,none⟩) (λ_=>rfl) (.slice A' (N.length+1) c')) (λg hg=>(M g hg).2);rw[Q2,ζo];exact hO
end
def wd(s:Nat):List Nat:=(List.range 140).map λi=>s/65536 ^ i%65536
end Go.Proofs.YtggjoonlcjjgkaaGreatDoor
