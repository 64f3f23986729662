/- Part 2 of what ListNobody leans on: my own lemmas, merged by shake.py. -/
import Derived.Test.YteihjlcmjecmfaaGreatDoorListNobodyA
import Derived.Deep.RegionWith
import Derived.WalkSpells
namespace Go.Proofs.YteihjlcmjecmfaaGreatDoor
open _root_.Go.Proofs.Tryz
set_option maxRecDepth 100000
section
open Go.RowKit Word
theorem VuI{l:List Bool}{a:Int}{k:Nat}(hn:∀i,i<k->¬(at_ l i=true/\a<=i))(h:at_ l k=true)(ha:a<=k):ZnF l a=k/\ZnF l a<l.length:=by
 have hl:=XaX h
 have e:ZnF l a=k:=XFN Ω (λi hi=>by
  have:=hn i hi;cases h1:at_ l i with
  | false=>rfl
  | true=>simp[h1]at this;simp;omega) (λ_=>by simp[h];omega)
 exact⟨e,by omega⟩
theorem XoQ{l:List Bool}{a:Int}(hn:∀i,i<l.length->¬(at_ l i=true/\a<=i)):ZnF l a=l.length:=
 XFN Ω (λi hi=>by
  have:=hn i hi;cases h1:at_ l i with
  | false=>rfl
  | true=>simp[h1]at this;simp;omega) (λh=>by omega)
theorem YBm{l:List Bool}{b:Int}{k:Nat}(hn:∀i:Nat,k<i->¬(at_ l i=true/\(i:Int)<b))(h:at_ l k=true)(hb:(k:Int)<b):JJU l b=k:=by
 have hl:=XaX h;refine VPe Ω Ω (λi hi _=>?_) (λ_=>by simp[h];omega);have:=hn i Ω;cases h1:at_ l i with
 | false=>rfl
 | true=>simp[h1]at this;simp;omega
theorem Xaz{l:List Bool}{b:Int}(hn:∀i:Nat,¬(at_ l i=true/\(i:Int)<b)):JJU l b = -1:=by
 refine VPe Ω Ω (λi hi _=>?_) (λh=>by omega);have:=hn i;cases h1:at_ l i with
 | false=>rfl
 | true=>simp[h1]at this;simp;omega
def Jid(l:List Bool)(q:Int):Int:=if q<0 then 0 else JHm l.length (X5b l q.toNat)
def Yka(l:List Bool)(q:Int):Bool:=decide (0<=q)&&decide (X5b l q.toNat<l.length)
theorem YTa{l:List Bool}{k q:Nat}(h:at_ l k=true)(hc:cnt (at_ l) k=q):X5b l q=k/\X5b l q<l.length:=by
 have e:X5b l q=k:=ZiF (XaX h) h hc;exact⟨e,by rw[e];exact XaX h⟩
end
section
open Go.RowKit Word
structure Vec(w:World)(p b:Nat)(l:List Bool):Prop where
 ne:p≠b
 hp:p<w.heap.size
 hb:b<w.heap.size
 n1:1<=l.length
 n2:l.length<=1048576
 c0:∃cap,nw l<=cap/\cap<=maxLen/\w.cell? ⟨p,0,none⟩=some (.slice (some ⟨b,0,none⟩) (nw l) cap)
 c1:w.cell? ⟨p,1,none⟩=some (.int .i64 l.length)
 cw:∀i,i<nw l->w.cell? ⟨b,i,none⟩=some (.int .u64 (Zgh l i:Nat))
 fw:∀i,w.frozen? ⟨b,i,none⟩=false
theorem Vec.touch{S:Nat->Prop}{w w':World}{p b:Nat}{l:List Bool}(h:Vec w p b l)(t:XF4 S w w')(h1:¬S p)(h2:¬S b):Vec w' p b l:=by
 obtain⟨X,a1,a2,a3⟩:=h.c0
 exact⟨h.ne,ω h.hp t.size,ω h.hb t.size,h.n1,h.n2,⟨X,a1,a2,by rw[t.cell h.hp h1];exact a3⟩,by rw[t.cell h.hp h1];exact h.c1,
  λi hi=>by rw[t.cell h.hb h2];exact h.cw i hi,λi=>by rw[t.frozen h.hb h2];exact h.fw i⟩
theorem Vec.gr{w w':World}{p b:Nat}{l:List Bool}(h:Vec w p b l)(t:Gr w w'):Vec w' p b l:=h.touch (t.touch (λ_=>False)) (λh=>h) (λh=>h)
def Ybw(l:List Bool)(i:Int):Int:=if i<0\/(l.length:Int)<=i then 11 else 0
theorem JxP{l:List Bool}(h1:1<=l.length)(h2:l.length<=1048576):1<=nw l/\nw l<=16384:=by unfold nw;omega
theorem Xh7{l:List Bool}{i:Nat}(h:i<l.length):i/64<nw l:=by unfold nw;omega
set_option maxHeartbeats 400000 in
theorem XOv{w:World}{p b:Nat}{l:List Bool}(hV:Vec w p b l)(i:Int):
  Calls prog 230 #[.pointer (some ⟨p,0,none⟩),.int .i64 i] w λe w'=>e=.returned (.int .i64 (Ybw l i))/\w=w':=by
 have c1:=hV.c1;have n2:=hV.n2;by_cases h0:i<0
 ·go_enter func230,ntmps230;go_wp2;go_ret;exact⟨ZzN (by unfold Ybw;rw[μ Ω]),rfl⟩
 ·by_cases h1:(l.length:Int)<=i
  ·go_enter func230,ntmps230;go_wp2;go_ret;exact⟨ZzN (by unfold Ybw;rw[μ Ω]),rfl⟩
  ·go_enter func230,ntmps230;go_wp2;go_ret;exact⟨ZzN (by unfold Ybw;rw[ϑ Ω]),rfl⟩
theorem JoW{w:World}{p b:Nat}{l:List Bool}(hV:Vec w p b l):
  Calls prog 139 #[.pointer (some ⟨p,0,none⟩)] w λe w'=>e=.returned (.int .i64 l.length)/\w=w':=by
 have c1:=hV.c1;go_enter func139,ntmps139;go_wp2;go_ret;exact⟨rfl,rfl⟩
theorem XG7(x j:Nat)(hx:x<18446744073709551616):(bits .and .u64 ((x:Int)/2 ^ j) 1==1)=x.testBit j:=by
 have e:((x:Int)/2 ^ j)=((x/2 ^ j:Nat):Int):=by simp
 have h:=Jp7 (x/2 ^ j) 1 (ξL (ζ8 _ _) hx) (by decide);rw[e,show (1:Int)=((1:Nat):Int)from rfl,h,Nat.and_one_is_mod,Nat.testBit_eq_decide_div_mod_eq];by_cases h1:x/2 ^ j%2=1
 ·simp[h1]
 ·have:x/2 ^ j%2=0:=Ω
  simp[this]
set_option maxHeartbeats 400000 in
theorem X89{w:World}{p b:Nat}{l:List Bool}(hV:Vec w p b l)(i:Int):
  Calls prog 212 #[.pointer (some ⟨p,0,none⟩),.int .i64 i] w λe w'=>e=.returned (.bool (decide (0<=i)&&at_ l i.toNat))/\w=w':=by
 by_cases X:0<=i/\i<l.length
 ·obtain⟨k,rfl⟩:∃k:Nat,i=k:=⟨i.toNat,by omega⟩;have hk:k<l.length:=Ω
  have hc:=hV.cw _ (Xh7 hk);obtain⟨cap,a1,a2,c0⟩:=hV.c0;have e0:Ybw l (k:Int)=0:=by unfold Ybw;rw[ϑ Ω]
  have n2:=hV.n2;have hd:=Xh7 hk;have hnb:=JxP hV.n1 hV.n2;have HV:=hid hV;clear X;go_enter func212,ntmps212;go_wp2_with(go_at_call 230;refine(XOv HV.o _).mono ?_;rintro e w' ⟨rfl,rfl⟩);go_ret;refine⟨Zbf ?_,rfl⟩;rw[XG7 _ _ (Vhd l _),QgF,κ (show k%64<64 by omega),κ (show (0:Int)<=k by omega),τ];simp only[ξY,at_];rw[show 64*(k/64)+k%64=k by omega]
 ·have e0:(decide (0<=i)&&at_ l i.toNat)=false:=by
   by_cases h:0<=i
   ·rw[JWT Ω];simp
   ·simp[h]
  rw[e0];have e1:Ybw l i=11:=by unfold Ybw;rw[μ Ω]
  have HV:=hid hV;clear X e0;go_enter func212,ntmps212;go_wp2_with(go_at_call 230;refine(XOv HV.o _).mono ?_;rintro e w' ⟨rfl,rfl⟩);go_ret;exact⟨rfl,rfl⟩
theorem VLp(j:Nat):IntKind.u64.wrap (2 ^ (j%64))=((2 ^ (j%64):Nat):Int):=by
 have:=XN7 (2 ^ (j%64)) (Qvn j);rw[<-this];simp
theorem YyP(a b:Nat)(ha:a<18446744073709551616):bits .andNot .u64 (a:Int) (b:Int)=((Xxg a b:Nat):Int):=by
 have h1:(BitVec.ofInt 64 (a:Int)).toNat=a:=by
  rw[BitVec.ofInt_natCast,BitVec.toNat_ofNat];exact ξD Ω
 have h2:(BitVec.ofInt 64 (b:Int)).toNat=b%18446744073709551616:=by
  rw[BitVec.ofInt_natCast,BitVec.toNat_ofNat]
 show IntKind.u64.wrap ((BitVec.ofInt 64 (a:Int) &&& ~~~ BitVec.ofInt 64 (b:Int)).toNat:Int)=_
 rw[BitVec.toNat_and,BitVec.toNat_not,h1,h2];have:2 ^ 64-1-b%18446744073709551616=18446744073709551615-b%18446744073709551616:=rfl;rw[this];exact XN7 _ (YVd a b ha)
theorem Vec.set{w:World}{p b:Nat}{l:List Bool}(h:Vec w p b l)(k:Nat)(x:Bool)(hk:k<l.length){y:Nat}(hy:y=Zgh (l.set k x) (k/64)):
  Vec (w.setCell ⟨b,k/64,none⟩ (.int .u64 (y:Nat))) p b (l.set k x)/\XF4 (λi=>i=b) w (w.setCell ⟨b,k/64,none⟩ (.int .u64 (y:Nat))):=by
 have t:XF4 (λi=>i=b) w (w.setCell ⟨b,k/64,none⟩ (.int .u64 (y:Nat))):=(XF4.refl (λi=>i=b) w).setCell (a:=⟨b,k/64,none⟩) (λ_=>rfl) _;refine⟨⟨h.ne,ω h.hp t.size,ω h.hb t.size,by simp[h.n1],by simp[h.n2],?_,?_,?_,?_⟩,t⟩
 ·obtain⟨X,a1,a2,a3⟩:=h.c0;exact⟨X,by rw[Qmp];exact a1,a2,by rw[t.cell h.hp h.ne,a3,Qmp]⟩
 ·rw[t.cell h.hp h.ne,h.c1,υ]
 ·intro i hi;rw[Qmp]at hi;by_cases e:i=k/64
  ·subst e;rw[hy];exact ξm (h:=h.cw _ hi) ..
  ·rw[ξA (h:=by intro e2;injection e2 with _ e3;omega),h.cw i hi,Ywt l k i x hk e]
 ·intro i;rw[ξd];exact h.fw i
set_option maxHeartbeats 400000 in
theorem ZYZ{w:World}{p b:Nat}{l:List Bool}(hV:Vec w p b l)(k:Nat)(hk:k<l.length):
  Calls prog 206 #[.pointer (some ⟨p,0,none⟩),.int .i64 k] w λe w'=>e=.returned (.int .i64 0)/\XF4 (λi=>i=b) w w'/\Vec w' p b (l.set k true):=by
 have hc:=hV.cw _ (Xh7 hk);have hf:=hV.fw (k/64);obtain⟨cap,a1,a2,c0⟩:=hV.c0;have e0:Ybw l (k:Int)=0:=by unfold Ybw;rw[ϑ Ω]
 have n2:=hV.n2;have hd:=Xh7 hk;have hnb:=JxP hV.n1 hV.n2;have HV:=hid hV;go_enter func206,ntmps206;go_wp2_with(go_at_call 230;refine(XOv HV.o _).mono ?_;rintro e w' ⟨rfl,rfl⟩)
 go_region
 have hv:bits BinOp.or IntKind.u64 (Zgh l (k/64)) (IntKind.u64.wrap (2 ^ (k%64)))=((Zgh l (k/64) ||| 2 ^ (k%64):Nat):Int):=by
  rw[VLp];exact bits_or_u64_nat _ _ (Vhd _ _) (Qvn k)
 rw[hv];have X:=hV.set k true hk (JLE l k hk).symm;clear hv;go_wp2;go_ret;exact⟨rfl,X.2.drew,X.1.gr ((Gr.refl _).drew)⟩
end
section
open Go.RowKit Word
theorem Qh8{a b c d:Value}(h:a=c)(h2:b=d):Ending.returned (.tuple #[a,b])=.returned (.tuple #[c,d]):=by rw[h,h2]
theorem Yhd{k:IntKind}{a b:Int}(h:a=b):Value.int k a=.int k b:=by rw[h]
theorem JQa{a b:Bool}(h:a=b):Value.bool a=.bool b:=by rw[h]
set_option maxHeartbeats 800000 in
theorem QUF{w:World}{p b:Nat}{l:List Bool}(hV:Vec w p b l)(hT:VRW w)(i:Int):
  Calls prog 203 #[.pointer (some ⟨p,0,none⟩),.int .i64 i] w λe w'=>
   e=.returned (.tuple #[.int .i64 (JHm l.length (ZnF l i)),.bool (decide (ZnF l i<l.length))])/\w=w':=by
 have c1:=hV.c1;have n2:=hV.n2;by_cases Y:(l.length:Int)<=i
 ·have e:=hid (Z5e Y);go_enter func203,ntmps203;go_wp2;go_ret2;exact⟨Qh8 (Yhd (by rw[e.o,JEJ Ω])) (JQa (by rw[e.o];simp)),rfl⟩
 ·obtain⟨a,ha⟩:∃a:Nat,a=i.toNat:=⟨_,rfl⟩;rw[ZMZ l i,<-ha];have M:a<l.length:=by have:=hV.n1;omega
  obtain⟨cap,a1,a2,c0⟩:=hV.c0;have Z:=JxP hV.n1 hV.n2;have J:=hV.cw;have HC:=hid J;have HT:=hid hT;clear hT hV J;go_enter func203,ntmps203;go_upto_region 3 with(fail);go_cut [1]from 9 (λv w'=>w'=w/\v=.int .i64 a)
  case first=>
   by_cases hneg:i<0
   ·go_wp2
    all_goals (go_meet;case rel=>exact⟨rfl,Yhd Ω⟩)
   ·go_wp2
    all_goals (go_meet;case rel=>exact⟨rfl,Yhd Ω⟩)
  case rest=>
   obtain⟨rfl,rfl⟩:=hcut;have hal':=Xh7 M;have HN:=hid (λk (h:nw l<=k)=>λfr (h2:JXz l a (64*k+fr))=>JRu h2 h);clear Y ha c1 n2 a1 a2;generalize nw l=m at *
   have hm:m<=16384:=Z.2;clear Z;go_wp2
   go_loop [6,7] (λk fr=>∃k' fr':Nat,k'<=m/\fr' < 64/\a<=64*k' + fr'/\Hid (JXz l a (64*k' + fr'))/\k=.int .i64 k'/\fr=.int .i64 fr') (λk _=>m-(intOf k).toNat)
   case atStart=>exact⟨a/64,a%64,by omega,by omega,by omega,⟨X3L l a⟩,by go_num,by go_num⟩
   case round=>
    obtain⟨k,fr,hk,hfr,V,X,rfl,rfl⟩:=hrel;by_cases U:k<m
    ·have hc:=HC.o k U;have HI:=hid (YeH X.o V);have MI:=hid (ZMX X.o Ω);have hw:=hid (Vhd l k);have ht64:=ZtG (Zgh l k &&& XEJ fr 64);generalize hq:tz (Zgh l k &&& XEJ fr 64)=q at *
     have HQ:=hid hq;clear hq X;go_wp2_with(go_at_call 226;refine(QaB _ hw.o _ _ HT.o).mono ?_;rintro e w' ⟨rfl,rfl⟩;rw[HQ.o])
     ·have h:q<64:=Ω
      go_ret2;obtain⟨h1,h2⟩:=HI.o h;exact⟨Qh8 (Yhd (by rw[Jpj h2,h1];omega)) (JQa (by simp[h2])),rfl⟩
     ·go_round
      case rel=>exact⟨k+1,0,by omega,by omega,by omega,⟨MI.o Ω⟩,by go_num,by go_num⟩
      case measure=>simp[intOf];omega
    ·have NO:=hid (HN.o k Ω fr X.o);have hlt':m<=k:=Ω
     clear X U;go_wp2;go_ret2;exact⟨Qh8 (Yhd (by rw[NO.o,JEJ Ω])) (JQa (by rw[NO.o];simp)),rfl⟩
set_option maxHeartbeats 800000 in
theorem XEP{w:World}{p b:Nat}{l:List Bool}(hV:Vec w p b l)(i:Int):
  Calls prog 219 #[.pointer (some ⟨p,0,none⟩),.int .i64 i] w λe w'=>
   e=.returned (.tuple #[.int .i64 (Jvh (JJU l i)),.bool (decide (0<=JJU l i))])/\w=w':=by
 have c1:=hV.c1;have n2:=hV.n2;by_cases Z:i<=0
 ·have e:=hid (Q9t (l:=l) Z);go_enter func219,ntmps219;go_wp2;go_ret2;exact⟨Qh8 (Yhd (by rw[e.o];rfl)) (JQa (by rw[e.o];simp)),rfl⟩
 ·obtain⟨a,ha⟩:∃a:Nat,(a:Int)=min i l.length:=⟨(min i l.length).toNat,by omega⟩;rw[ZAa l i,<-ha];have h1:1<=a:=by have:=hV.n1;omega
  have hal:a<=l.length:=Ω
  obtain⟨cap,a1,a2,c0⟩:=hV.c0;have J:=JxP hV.n1 hV.n2;have V:=hV.cw;have HC:=hid V;clear hV V;go_enter func219,ntmps219;go_upto_region 3 with(fail);go_cut [1]from 8 (λv w'=>w'=w/\v=.int .i64 a)
  case first=>
   by_cases hneg:i<l.length
   ·go_wp2
    all_goals (go_meet;case rel=>exact⟨rfl,Yhd Ω⟩)
   ·go_wp2
    all_goals (go_meet;case rel=>exact⟨rfl,Yhd Ω⟩)
  case rest=>
   obtain⟨rfl,rfl⟩:=hcut;have hal':(a-1)/64<nw l:=Xh7 Ω;have U:ZoR l (a:Int) (64*(((a-1)/64:Nat):Int)+64):=λi h1 h2=>by omega
   have HS:=hid U;have a64:a<=1048576:=Ω
   clear Z ha c1 n2 a1 a2 U;generalize nw l=m at *
   have hm:(m:Int)<=16384:=by have:=J.2;omega
   clear J;go_wp2
   go_loop [6] (λk=>∃k':Nat,k'<=m/\Hid (ZoR l a (64*((k':Int)-1)+64))/\k=.int .i64 ((k':Int)-1)) (λk=>(intOf k+1).toNat)
   case atStart=>exact⟨(a-1)/64+1,by omega,⟨by have:=HS.o;rwa [show 64*((((a-1)/64+1:Nat):Int)-1)+64=64*(((a-1)/64:Nat):Int)+64 by omega]⟩,by go_num⟩
   case round=>
    obtain⟨k',hk,Y,rfl⟩:=hrel;cases k' with
    | zero=>
     have NO:=hid (JS8 Y.o Ω);clear Y;go_wp2;go_ret2;exact⟨Qh8 (Yhd (by rw[NO.o];rfl)) (JQa (by rw[NO.o];simp)),rfl⟩
    | succ k=>
     have hc:=HC.o k Ω;have X:ZoR l a (64*(k:Int)+64):=by have:=Y.o;rwa [show ((k+1:Nat):Int)-1=k by omega]at this
     rw[show ((k+1:Nat):Int)-1=k by omega];have HI:=hid (Vu4 X);have MI:=hid (JlV X);have hw:=hid (Vhd l k);have ht64:=Y6K (Zgh l k &&& XEJ 0 ((a:Int)-64*k));generalize hq:len (Zgh l k &&& XEJ 0 ((a:Int)-64*k))=q at *
     have HQ:=hid hq;clear hq Y X;go_wp2_with(go_at_call 235;refine(Ydz _ hw.o _ _).mono ?_;rintro e w' ⟨rfl,rfl⟩;rw[HQ.o])
     ·have h:0<=q-1:=Ω
      go_ret2;have h1:=HI.o h;exact⟨Qh8 (Yhd (by rw[h1];unfold Jvh;rw[μ Ω])) (JQa (by rw[h1];simp;omega)),rfl⟩
     ·go_round
      case rel=>exact⟨k,by omega,⟨by have:=MI.o Ω;rwa [show 64*((k:Int)-1)+64=64*(k:Int)by omega]⟩,by go_num⟩
      case measure=>simp[intOf]
end
section
open Go.RowKit Word
def JJZ(I:Nat->World->Prop)(lo:Nat)(hi:Int)(W:World):Prop:=∃k,lo/64<=k/\((lo:Int)<hi->hi<=64*k)/\I k W
set_option maxHeartbeats 1600000 in
theorem QLO(g:FuncId)(bx:Addr)(p b n m c:Nat)(I:Nat->World->Prop)
  (hg:∀args W,(callFunc g args).run prog W=.ok (.enter g args) W)
  (hI:∀k W,I k W->W.cell? ⟨p,0,none⟩=some (.slice (some ⟨b,0,none⟩) m c)/\W.cell? ⟨p,1,none⟩=some (.int .i64 n))
  (hD:∀k W d,I k W->I k (W.drewN d))
  (hm:n<=64*m) (hn:(n:Int)<=1048576) (f t:Int) (hf64:f<=9223372036854775807) (lo:Nat) (hlo:(lo:Int)=max f 0) (hi:Int) (hhi:hi=min t n)
  (hstep:∀k W,lo/64<=k->(64*k:Int)<hi->(lo:Int)<hi->I k W →
   Calls prog g #[.pointer (some ⟨b,k,none⟩),.int .u64 (XEJ ((lo:Int)-64*k) (hi-64*k):Nat),.pointer (some bx)] W (λe W'=>e=.returned (.tuple #[])/\I (k+1) W'))
  (w:World) (h0:I (lo/64) w):
  Calls prog 184 #[.pointer (some ⟨p,0,none⟩),.int .i64 f,.int .i64 t,.func (.func g) #[] #[.pointer (some bx)]] w λe W'=>
   e=.returned (.tuple #[])/\JJZ I lo hi W':=by
 obtain⟨c0,c1⟩:=hI _ _ h0;have HI:=hid hI;have HD:=hid hD;have HS:=hid hstep;have H0:=hid h0;clear hI hD hstep h0;go_enter func184,ntmps184;go_upto_region 1 with(fail);go_cut [1,2]from 9 (λu v w'=>u=.int .i64 lo/\v=.int .i64 hi/\∃d,w'=w.drewN d)
 case first=>
  have U:f<0\/0<=f:=Ω
  have N:t<n\/(n:Int)<=t:=Ω
  rcases U with hf|hf <;> rcases N with ht|ht
  all_goals
   go_wp2
   go_region
  all_goals go_wp2
  all_goals (go_meet;case rel=>exact⟨Yhd Ω,Yhd Ω,1,rfl⟩)
 case rest=>
  obtain⟨rfl,rfl,d,rfl⟩:=hcut;have H1:=hid (HD.o _ _ d H0.o);have Z:hi<=n:=Ω
  have hlo2:(0:Int)<=lo:=Ω
  have J:(lo:Int)<=9223372036854775807:=Ω
  clear hhi hlo c0 c1 H0;by_cases Y:(lo:Int)<hi
  ·have hln:(lo:Int)<1048576:=Ω
   have hin:hi<=1048576:=Ω
   have hpos:1<=hi:=Ω
   have hm2:hi<=64*m:=Ω
   clear hm hn Z;go_upto_region 2 with(fail);go_wp2
   go_loopw [8] (λi W=>∃k:Nat,lo/64<=k/\Hid (I k W)/\i=.int .i64 k) (λi _=>(hi+64-64*intOf i).toNat)
   case atStart=>exact⟨lo/64,by omega,H1,by go_num⟩
   case round=>
    obtain⟨k,hk,X,rfl⟩:=hrel;by_cases M:(64*k:Int)<hi
    ·have V:(k:Int)<=(hi-1)/64:=Ω
     have hkm:k<m:=Ω
     obtain⟨c0,c1⟩:=HI.o _ _ X.o;have HC:=hid (HS.o k wr.drew hk M Y (HD.o _ _ 1 X.o));go_upto_region 5 with(fail);have S1:=hid (ζA (64*(k:Int)) Ω);have S2:=hid (ζA ((lo:Int)-64*(k:Int)) Ω);have S3:=hid (ζA (hi-64*(k:Int)) Ω)
     go_region_with (first
      | (go_at_call 217;rw[S1.o,S2.o,S3.o];refine(JOY _ _ _).mono ?_;rintro e w' ⟨rfl,rfl⟩)
      | (refine HC.o.mono ?_;rintro e W2 ⟨rfl,h2⟩))
     all_goals
      go_wp2;go_roundw
      case rel=>exact⟨k+1,by omega,⟨h2⟩,by go_num⟩
      case measure=>simp[intOf];omega
    ·have V:¬(k:Int)<=(hi-1)/64:=Ω
     go_wp2
     go_end0
     exact⟨rfl,k,hk,λ_=>by omega,X.o⟩
  ·have hlw:(lo:Int)<=9223372036854775807:=J;have hlw2:¬(lo:Int)<hi:=Y;have O:=hid Y;clear hm hn;go_wp2
   go_loopw [8] (λi W=>W=w.drewN d/\i=.int .i64 (lo/64:Nat)) (λ_ _=>0)
   case atStart=>exact⟨rfl,by go_num⟩
   case round=>
    obtain⟨rfl,rfl⟩:=hrel;go_wp2
    go_end0
    exact⟨rfl,lo/64,π _,λh=>absurd h (by have:=O.o;omega),H1.o⟩
end
section
open Go.RowKit Word
set_option maxHeartbeats 1600000 in
theorem Vz5(w:World)(b k x m:Nat)(bx:Nat)(n:Int)(hx:x<18446744073709551616)(hm:m<18446744073709551616)
  (hc:w.cell? ⟨b,k,none⟩=some (.int .u64 x)) (hf:w.frozen? ⟨b,k,none⟩=false) (hb:w.cell? ⟨bx,0,none⟩=some (.int .i64 n)) (hfb:w.frozen? ⟨bx,0,none⟩=false) (hne:b≠bx) (hn0:0<=n) (hn:n<=1048576):
  Calls prog 227 #[.pointer (some ⟨b,k,none⟩),.int .u64 m,.pointer (some ⟨bx,0,none⟩)] w λe w'=>
   e=.returned (.tuple #[])/\∃d,w'=((w.setCell ⟨bx,0,none⟩ (.int .i64 (n+pc (Xxg m x):Int))).setCell ⟨b,k,none⟩ (.int .u64 (x ||| m:Nat))).drewN d:=by
 have KA:=hid (YyP m x hm);have KO:=hid (bits_or_u64_nat x m hx hm);have HL:=hid (YVd m x hm);have HX:=hid (XiT (Xxg m x) (YVd m x hm));have hp:=Qn1 (Xxg m x);have HW:=hid (ζA (n+pc (Xxg m x)) Ω);clear hx hm;go_enter func227,ntmps227;go_upto_region 0 with(fail)
 go_region_with (go_at_call 186;rw[KA.o];refine(Jj6 _ HL.o _ _ _).mono ?_;rintro e w' ⟨rfl,rfl⟩;rw[HX.o])
 all_goals
  rw[HW.o];go_wp2;rw[KO.o]
  go_end0
  exact⟨rfl,1,rfl⟩
set_option maxHeartbeats 1600000 in
theorem Jyf(w:World)(b k x m:Nat)(bx:Nat)(n:Int)(hx:x<18446744073709551616)(hm:m<18446744073709551616)
  (hc:w.cell? ⟨b,k,none⟩=some (.int .u64 x)) (hf:w.frozen? ⟨b,k,none⟩=false) (hb:w.cell? ⟨bx,0,none⟩=some (.int .i64 n)) (hfb:w.frozen? ⟨bx,0,none⟩=false) (hne:b≠bx) (hn0:0<=n) (hn:n<=1048576):
  Calls prog 185 #[.pointer (some ⟨b,k,none⟩),.int .u64 m,.pointer (some ⟨bx,0,none⟩)] w λe w'=>
   e=.returned (.tuple #[])/\∃d,w'=((w.setCell ⟨bx,0,none⟩ (.int .i64 (n+pc (m &&& x):Int))).setCell ⟨b,k,none⟩ (.int .u64 (Xxg x m:Nat))).drewN d:=by
 have KA:=hid (Jp7 m x hm hx);have KO:=hid (YyP x m hx);have HL:=hid (X9g m x hm);have HX:=hid (XiT (m &&& x) (X9g m x hm));have hp:=Qn1 (m &&& x);have HW:=hid (ζA (n+pc (m &&& x)) Ω);clear hx hm;go_enter func185,ntmps185;go_upto_region 0 with(fail)
 go_region_with (go_at_call 186;rw[KA.o];refine(Jj6 _ HL.o _ _ _).mono ?_;rintro e w' ⟨rfl,rfl⟩;rw[HX.o])
 all_goals
  rw[HW.o];go_wp2;rw[KO.o]
  go_end0
  exact⟨rfl,1,rfl⟩
set_option maxHeartbeats 1600000 in
theorem XcC(w:World)(b k x m:Nat)(bx:Nat)(n:Int)(hx:x<18446744073709551616)(hm:m<18446744073709551616)
  (hc:w.cell? ⟨b,k,none⟩=some (.int .u64 x)) (hb:w.cell? ⟨bx,0,none⟩=some (.int .i64 n)) (hfb:w.frozen? ⟨bx,0,none⟩=false) (hn0:0<=n) (hn:n<=1048576):
  Calls prog 238 #[.pointer (some ⟨b,k,none⟩),.int .u64 m,.pointer (some ⟨bx,0,none⟩)] w λe w'=>
   e=.returned (.tuple #[])/\∃d,w'=(w.setCell ⟨bx,0,none⟩ (.int .i64 (n+pc (m &&& x):Int))).drewN d:=by
 have KA:=hid (Jp7 m x hm hx);have HL:=hid (X9g m x hm);have HX:=hid (XiT (m &&& x) (X9g m x hm));have hp:=Qn1 (m &&& x);have HW:=hid (ζA (n+pc (m &&& x)) Ω);clear hx hm;go_enter func238,ntmps238;go_upto_region 0 with(fail)
 go_region_with (go_at_call 186;rw[KA.o];refine(Jj6 _ HL.o _ _ _).mono ?_;rintro e w' ⟨rfl,rfl⟩;rw[HX.o])
 all_goals
  rw[HW.o];go_wp2
  go_end0
  exact⟨rfl,1,rfl⟩
end
section
open Go.RowKit Word
theorem Vec.write{w:World}{p b bx:Nat}{l m:List Bool}(h:Vec w p b l)(k:Nat)(hk:k<nw l)(hl:m.length=l.length)(hw:∀i,i≠k->Zgh l i=Zgh m i){y:Nat}(hy:y=Zgh m k)(hbp:bx≠p)(hbb:bx≠b)(v:Value)(d:Nat):
  Vec (((w.setCell ⟨bx,0,none⟩ v).setCell ⟨b,k,none⟩ (.int .u64 (y:Nat))).drewN d) p b m:=by
 have t0:XF4 (λi=>i=bx) w (w.setCell ⟨bx,0,none⟩ v):=(XF4.refl (λi=>i=bx) w).setCell (a:=⟨bx,0,none⟩) (λ_=>rfl) _;have h0:=h.touch t0 (λe=>hbp e.symm) (λe=>hbb e.symm);generalize w.setCell ⟨bx,0,none⟩ v=w1 at *
 have X:nw m=nw l:=by unfold nw;rw[hl]
 have t:XF4 (λi=>i=b) w1 (w1.setCell ⟨b,k,none⟩ (.int .u64 (y:Nat))):=(XF4.refl (λi=>i=b) w1).setCell (a:=⟨b,k,none⟩) (λ_=>rfl) _;refine Vec.gr ⟨h.ne,ω h0.hp t.size,ω h0.hb t.size,by rw[hl];exact h.n1,by rw[hl];exact h.n2,?_,?_,?_,?_⟩ ((Gr.refl _).drewN d)
 ·obtain⟨Y,a1,a2,a3⟩:=h0.c0;exact⟨Y,by rw[X];exact a1,a2,by rw[t.cell h0.hp h.ne,a3,X]⟩
 ·rw[t.cell h0.hp h.ne,h0.c1,hl]
 ·intro i hi;rw[X]at hi;by_cases e:i=k
  ·subst e;rw[hy];exact ξm (h:=h0.cw _ hi) ..
  ·rw[ξA (h:=by intro e2;injection e2 with _ e3;omega),h0.cw i hi,hw i e]
 ·intro i;rw[ξd];exact h0.fw i
structure XZQ(w0:World)(p b bx:Nat)(c:Nat->Nat)(m:Nat->List Bool)(k:Nat)(W:World):Prop where
 vec:Vec W p b (m k)
 box:W.cell? ⟨bx,0,none⟩=some (.int .i64 (c k:Nat))
 free:W.frozen? ⟨bx,0,none⟩=false
 ne:b≠bx
 np:bx≠p
 lt:bx<W.heap.size
 touch:XF4 (λi=>i=b\/i=bx) w0 W
theorem XZQ.drewN{w0:World}{p b bx:Nat}{c:Nat->Nat}{m:Nat->List Bool}{k:Nat}{W:World}(h:XZQ w0 p b bx c m k W)(d:Nat):XZQ w0 p b bx c m k (W.drewN d):=
 ⟨h.vec.gr ((Gr.refl W).drewN d),h.box,h.free,h.ne,h.np,h.lt,h.touch.drewN d⟩
theorem QQ1(args:Array Value)(W:World):(callFunc 227 args).run prog W=.ok (.enter 227 args) W:=by kernel_rfl
theorem YCw(args:Array Value)(W:World):(callFunc 185 args).run prog W=.ok (.enter 185 args) W:=by kernel_rfl
theorem YKd(args:Array Value)(W:World):(callFunc 238 args).run prog W=.ok (.enter 238 args) W:=by kernel_rfl
theorem X8y{w:World}{p b:Nat}{l:List Bool}(hV:Vec w p b l)(m:Nat->List Bool)(c:Nat->Nat)(k:Nat)(hm:m k=l)(hc:c k=0)(T:TypeId):
  XZQ (w.alloc (.cells #[.int .i64 0] T)) p b w.heap.size c m k (w.alloc (.cells #[.int .i64 0] T)):=by
 have hs:=hV.hp;have hs2:=hV.hb;exact⟨by rw[hm];exact hV.gr ((Gr.refl w).alloc _),by rw[hc];exact ζq ..,ξ9 ..,by omega,by omega,by simp,XF4.refl _ _⟩
theorem XZQ.step{w0:World}{p b bx:Nat}{c:Nat->Nat}{m:Nat->List Bool}{k:Nat}{W:World}(h:XZQ w0 p b bx c m k W)(hk:k<nw (m k))(hl:(m (k+1)).length=(m k).length)
  (hw:∀i,i≠k->Zgh (m k) i=Zgh (m (k+1)) i) {y:Nat} (hy:y=Zgh (m (k+1)) k) {z:Int} (hz:z=(c (k+1):Nat)) (d:Nat):
  XZQ w0 p b bx c m (k+1) (((W.setCell ⟨bx,0,none⟩ (.int .i64 z)).setCell ⟨b,k,none⟩ (.int .u64 (y:Nat))).drewN d):=by
 refine⟨h.vec.write k hk hl hw hy h.np (λe=>h.ne e.symm) _ d,?_,?_,h.ne,h.np,?_,?_⟩
 ·show World.cell? (World.setCell _ _ _) _=_
  rw[ξA (h:=by intro e;injection e with e1 _;exact h.ne e1),hz];exact ξm (h:=h.box) ..
 ·show World.frozen? (World.setCell (World.setCell _ _ _) _ _) _=_
  rw[ξd,ξd];exact h.free
 ·have:=h.lt;simpa[World.setCell]using this
 ·exact((h.touch.setCell (λ_=>.inr rfl) _).setCell (λ_=>.inl rfl) _).drewN d
theorem XZQ.head{w:World}{p b:Nat}{l:List Bool}(hV:Vec w p b l){T:TypeId}{c:Nat->Nat}{m:Nat->List Bool}{k:Nat}{W:World}(h:XZQ (w.alloc (.cells #[.int .i64 0] T)) p b w.heap.size c m k W):
  W.cell? ⟨p,0,none⟩=w.cell? ⟨p,0,none⟩/\W.cell? ⟨p,1,none⟩=w.cell? ⟨p,1,none⟩:=by
 have hp:=hV.hp;have e:=λo=>h.touch.cell (b:=p) (by simp;omega) (by intro h;rcases h with h|h;exact hV.ne h;omega) o;have g:=λo=>((Gr.refl w).alloc (.cells #[.int .i64 0] T)).cell (b:=p) hp o;exact⟨(e 0).trans (g 0),(e 1).trans (g 1)⟩
def YbN(l:List Bool)(lo hi:Int)(x:Bool)(k:Nat):List Bool:=XCN l lo (min hi (64*k)) x
def Qv1(l:List Bool)(lo hi:Int)(x:Bool)(k:Nat):Nat:=ZJd l lo (min hi (64*k)) x
theorem JLN{l:List Bool}{lo hi:Int}{x:Bool}{k:Nat}(hk:lo<hi->hi<=64*k):YbN l lo hi x k=XCN l lo hi x/\Qv1 l lo hi x k=ZJd l lo hi x:=by
 unfold YbN Qv1;by_cases h:lo<hi
 ·rw[Int.min_eq_left (hk h)];exact⟨rfl,rfl⟩
 ·rw[QvE x (show min hi (64*k)<=lo by omega),QvE x (show hi<=lo by omega),YbQ,YbQ,JR4 _ _ (show min hi (64*k)<=lo by omega),JR4 _ _ (show hi<=lo by omega)];exact⟨rfl,rfl⟩
set_option maxHeartbeats 800000 in
theorem XBA{w:World}{p b:Nat}{l:List Bool}(hV:Vec w p b l)(f t:Int)(hf64:f<=9223372036854775807):
  Calls prog 204 #[.pointer (some ⟨p,0,none⟩),.int .i64 f,.int .i64 t] w λe w'=>
   e=.returned (.int .i64 (ZJd l f t true:Nat))/\XF4 (λi=>i=b) w w'/\Vec w' p b (XCN l f t true):=by
 obtain⟨lo,Z⟩:∃lo:Nat,(lo:Int)=max f 0:=⟨(max f 0).toNat,by omega⟩;obtain⟨hi,J⟩:∃hi:Int,hi=min t l.length:=⟨_,rfl⟩;have hh:hi<=l.length:=Ω
 have hn:=hV.n2;obtain⟨Y,a1,a2,c0⟩:=hV.c0;have N:YbN l lo hi true (lo/64)=l:=QvE _ Ω;have V:Qv1 l lo hi true (lo/64)=0:=by unfold Qv1;rw[YbQ];exact JR4 _ _ Ω
 have H0:=λT=>X8y hV (YbN l lo hi true) (Qv1 l lo hi true) (lo/64) N V T
 have HE:=λT=>QLO 227 ⟨w.heap.size,0,none⟩ p b l.length (nw l) Y (XZQ (w.alloc (.cells #[.int .i64 0] T)) p b w.heap.size (Qv1 l lo hi true) (YbN l lo hi true))
  QQ1 (λk W h=>⟨(XZQ.head hV h).1.trans c0,(XZQ.head hV h).2.trans hV.c1⟩) (λk W d h=>h.drewN d) (by unfold nw;omega) Ω f t hf64 lo Z hi J
  (λk W I X hlt h=>by
   have M:k<nw (YbN l lo hi true k):=by unfold YbN;rw[XP8];unfold nw;omega
   have hcb:Qv1 l lo hi true k<=l.length:=Qa9 _ _ _ _;refine(Vz5 W b k (Zgh (YbN l lo hi true k) k) _ w.heap.size (Qv1 l lo hi true k:Nat) (Vhd _ _) (YPt _ _) (h.vec.cw k M) (h.vec.fw k) h.box h.free h.ne Ω Ω).mono ?_;rintro e W' ⟨rfl,d,rfl⟩;refine⟨rfl,h.step M ?_ ?_ ?_ ?_ d⟩
   ·unfold YbN;rw[J8M,J8M]
   ·intro i E;exact X3E X hh true E
   ·exact VeX X hh
   ·have:=XOq X hh (lo:=(lo:Int));unfold Qv1 YbN;omega)
  _ (H0 T)
 have HE:=hid HE;have HV:=hid hV;have O:=hid Z;have U:=hid J;clear hV N V H0 hh a1 a2 c0 J Z hn hf64;have hmf:∀(fn:Fn) (first Y:Array Value) (w:World),(Instr.makeFunc fn first Y).run prog w=.ok (.func fn first Y) w:=λ_ _ _ _=>rfl;go_enter func204,ntmps204;go_wp2_with(go_at_call 184;refine(HE.o _).mono ?_;rintro e W2 ⟨rfl,k,I,X,hL⟩;have hbox:=hL.box);go_ret;obtain⟨e1,e2⟩:=JLN (l:=l) (x:=true) X;refine⟨ZzN (by rw[e2,O.o,U.o,YbQ,YbQ,Xl3]),?_,?_⟩
 ·refine(((Gr.refl w).alloc _).touch _).trans' hL.touch ?_;rintro i hi (h|h)
  ·exact h
  ·omega
 ·have:=hL.vec;rw[e1,O.o,U.o,XD7]at this;exact this
set_option maxHeartbeats 800000 in
theorem JRq{w:World}{p b:Nat}{l:List Bool}(hV:Vec w p b l)(f t:Int)(hf64:f<=9223372036854775807):
  Calls prog 140 #[.pointer (some ⟨p,0,none⟩),.int .i64 f,.int .i64 t] w λe w'=>
   e=.returned (.int .i64 (ZJd l f t false:Nat))/\XF4 (λi=>i=b) w w'/\Vec w' p b (XCN l f t false):=by
 obtain⟨lo,Z⟩:∃lo:Nat,(lo:Int)=max f 0:=⟨(max f 0).toNat,by omega⟩;obtain⟨hi,J⟩:∃hi:Int,hi=min t l.length:=⟨_,rfl⟩;have hh:hi<=l.length:=Ω
 have hn:=hV.n2;obtain⟨Y,a1,a2,c0⟩:=hV.c0;have N:YbN l lo hi false (lo/64)=l:=QvE _ Ω;have V:Qv1 l lo hi false (lo/64)=0:=by unfold Qv1;rw[YbQ];exact JR4 _ _ Ω
 have H0:=λT=>X8y hV (YbN l lo hi false) (Qv1 l lo hi false) (lo/64) N V T
 have HE:=λT=>QLO 185 ⟨w.heap.size,0,none⟩ p b l.length (nw l) Y (XZQ (w.alloc (.cells #[.int .i64 0] T)) p b w.heap.size (Qv1 l lo hi false) (YbN l lo hi false))
  YCw (λk W h=>⟨(XZQ.head hV h).1.trans c0,(XZQ.head hV h).2.trans hV.c1⟩) (λk W d h=>h.drewN d) (by unfold nw;omega) Ω f t hf64 lo Z hi J
  (λk W I X hlt h=>by
   have M:k<nw (YbN l lo hi false k):=by unfold YbN;rw[XP8];unfold nw;omega
   have hcb:Qv1 l lo hi false k<=l.length:=Qa9 _ _ _ _;refine(Jyf W b k (Zgh (YbN l lo hi false k) k) _ w.heap.size (Qv1 l lo hi false k:Nat) (Vhd _ _) (YPt _ _) (h.vec.cw k M) (h.vec.fw k) h.box h.free h.ne Ω Ω).mono ?_;rintro e W' ⟨rfl,d,rfl⟩;refine⟨rfl,h.step M ?_ ?_ ?_ ?_ d⟩
   ·unfold YbN;rw[J8M,J8M]
   ·intro i E;exact X3E X hh false E
   ·exact QlU X hh
   ·have:=YDx X hh (lo:=(lo:Int));unfold Qv1 YbN;omega)
  _ (H0 T)
 have HE:=hid HE;have HV:=hid hV;have O:=hid Z;have U:=hid J;clear hV N V H0 hh a1 a2 c0 J Z hn hf64;have hmf:∀(fn:Fn) (first Y:Array Value) (w:World),(Instr.makeFunc fn first Y).run prog w=.ok (.func fn first Y) w:=λ_ _ _ _=>rfl;go_enter func140,ntmps140;go_wp2_with(go_at_call 184;refine(HE.o _).mono ?_;rintro e W2 ⟨rfl,k,I,X,hL⟩;have hbox:=hL.box);go_ret;obtain⟨e1,e2⟩:=JLN (l:=l) (x:=false) X;refine⟨ZzN (by rw[e2,O.o,U.o,YbQ,YbQ,Xl3]),?_,?_⟩
 ·refine(((Gr.refl w).alloc _).touch _).trans' hL.touch ?_;rintro i hi (h|h)
  ·exact h
  ·omega
 ·have:=hL.vec;rw[e1,O.o,U.o,XD7]at this;exact this
structure JOl(w0:World)(bx:Nat)(c:Nat->Nat)(k:Nat)(W:World):Prop where
 box:W.cell? ⟨bx,0,none⟩=some (.int .i64 (c k:Nat))
 free:W.frozen? ⟨bx,0,none⟩=false
 touch:XF4 (λi=>i=bx) w0 W
set_option maxHeartbeats 800000 in
theorem V7Z{w:World}{p b:Nat}{l:List Bool}(hV:Vec w p b l)(f t:Int)(hf64:f<=9223372036854775807):
  V4y prog 229 #[.pointer (some ⟨p,0,none⟩),.int .i64 f,.int .i64 t] w (.int .i64 (QnT l f t:Nat)):=by
 obtain⟨lo,Z⟩:∃lo:Nat,(lo:Int)=max f 0:=⟨(max f 0).toNat,by omega⟩;obtain⟨hi,J⟩:∃hi:Int,hi=min t l.length:=⟨_,rfl⟩;have hh:hi<=l.length:=Ω
 have hn:=hV.n2;have hp:=hV.hp;have hb:=hV.hb;obtain⟨X,a1,a2,c0⟩:=hV.c0;obtain⟨c,hc⟩:∃c:Nat->Nat,c=λk=>ZIf (at_ l) lo (min hi (64*(k:Nat))) l.length:=⟨_,rfl⟩;have U:c (lo/64)=0:=by rw[hc];exact JR4 _ _ Ω
 have H0:∀T,JOl (w.alloc (.cells #[.int .i64 0] T)) w.heap.size c (lo/64) (w.alloc (.cells #[.int .i64 0] T)):=λT=>⟨by rw[U];exact ζq ..,ξ9 ..,XF4.refl _ _⟩
 have HR:∀T k W,JOl (w.alloc (.cells #[.int .i64 0] T)) w.heap.size c k W->∀q o,q<w.heap.size->W.cell? ⟨q,o,none⟩=w.cell? ⟨q,o,none⟩:=λT k W h q o hq=>by
  rw[h.touch.cell (by simp;omega) Ω,((Gr.refl w).alloc _).cell hq]
 have HE:=λT=>QLO 238 ⟨w.heap.size,0,none⟩ p b l.length (nw l) X (JOl (w.alloc (.cells #[.int .i64 0] T)) w.heap.size c)
  YKd (λk W h=>⟨(HR T k W h p 0 hp).trans c0,(HR T k W h p 1 hp).trans hV.c1⟩) (λk W d h=>⟨h.box,h.free,h.touch.drewN d⟩) (by unfold nw;omega) Ω f t hf64 lo Z hi J
  (λk W M Y hlt h=>by
   have N:k<nw l:=by unfold nw;omega
   have hcb:c k<=l.length:=by rw[hc];exact Qa9 _ _ _ _
   refine(XcC W b k (Zgh l k) _ w.heap.size (c k:Nat) (Vhd _ _) (YPt _ _) ((HR T k W h b k hb).trans (hV.cw k N)) h.box h.free Ω Ω).mono ?_;rintro e W' ⟨rfl,d,rfl⟩;refine⟨rfl,?_,?_,(h.touch.setCell (λ_=>rfl) _).drewN d⟩
   ·have:=YpL Y hh (lo:=(lo:Int));have e:((c k:Nat):Int)+(pc (XEJ ((lo:Int)-64*k) (hi-64*k) &&& Zgh l k):Nat)=(c (k+1):Nat):=by rw[hc];simp only[];omega
    rw[e];exact ξm (h:=h.box) ..
   ·show World.frozen? (World.setCell _ _ _) _=_
    rw[ξd];exact h.free)
  _ (H0 T)
 have HE:=hid HE;have O:=hid Z;have V:=hid J;have HC:=hid hc;clear hV U H0 hh a1 a2 c0 J Z hn hf64 HR hc;have hmf:∀(fn:Fn) (first X:Array Value) (w:World),(Instr.makeFunc fn first X).run prog w=.ok (.func fn first X) w:=λ_ _ _ _=>rfl;unfold V4y;go_enter func229,ntmps229;go_wp2_with(go_at_call 184;refine(HE.o _).mono ?_;rintro e W2 ⟨rfl,k,M,Y,hL⟩;have hbox:=hL.box);go_ret;refine⟨ZzN ?_,XF4.gr ?_⟩
 ·rw[HC.o,Y7X,<-Xl3 (at_ l) f t,<-O.o,<-V.o];simp only[];by_cases h:(lo:Int)<hi
  ·rw[Int.min_eq_left (Y h)]
  ·rw[JR4 _ _ (show min hi (64*k)<=lo by omega),JR4 _ _ (show hi<=lo by omega)]
 ·refine(((Gr.refl w).alloc _).touch _).trans' hL.touch ?_;rintro i hi rfl;omega
end
section
open Go.RowKit Word
def QHw(w:World)(l:List Bool)(e:Ending)(w':World):Prop:=
 ∃p b,e=.returned (.tuple #[.pointer (some ⟨p,0,none⟩),.int .i64 0])/\Gr w w'/\Vec w' p b l/\w.heap.size<=p/\w.heap.size<=b
theorem ZiX:(prog.info? 22).map (λi=>(i.zero,i.size,i.bytes))=some (some (.int .u64 0),1,8):=by kernel_rfl
theorem JEA{w w':World}{row:Option Nat}(h:w.grownBy w' row)(S:Nat->Prop)(hS:∀k,row=some k->k<w.heap.size->S k):XF4 S w w':=
 ⟨h.os,h.tape,h.output,h.size,λk hk hn=>h.block k hk (λe=>hn (hS k e.symm hk))⟩
theorem VGT(n i:Nat):Zgh (List.replicate n false) i=0:=
 (VEf (by decide) (λj _=>by rw[Nat.zero_testBit];simp[φ,ζD];split <;> rfl)).symm
theorem Jnq(n:Nat):(madeCells #[.int .u64 0] n).toList=(List.range n).map λ_=>Value.int .u64 ((0:Nat):Int):=by
 unfold madeCells;simp[ψi]
theorem Q13{w1:World}{l:List Bool}(n1:1<=l.length)(n2:l.length<=1048576){base T b k cap:Nat}{xs:List Value}{E:TypeId}
  (hown:w1.ownsRow base E 1 (.slice (some ⟨b,0,none⟩) k cap) k xs) (hk:k=nw l) (hcap:cap<=maxLen) (hx:xs=(List.range (nw l)).map λi=>Value.int .u64 ((Zgh l i:Nat):Int)):
  Vec (w1.alloc (.cells #[.slice (some ⟨b,0,none⟩) k cap,.int .i64 l.length] T)) w1.heap.size b l/\b<w1.heap.size:=by
 obtain⟨hlen,h|⟨g,c,X,e1,e2,e3,e4,e5,e6,e7⟩⟩:=hown
 ·simp at h
 ·simp only[Value.slice.injEq,Option.some.injEq,Addr.mk.injEq,and_true,true_and]at e1;obtain⟨rfl,rfl⟩:=e1
  have hb:b<w1.heap.size:=by
   rcases γ b w1.heap.size with h|h
   ·exact h
   ·rw[ξw h]at e3;cases e3
  subst hk;refine⟨⟨by omega,by simp,by simp;omega,n1,n2,⟨cap,e4,hcap,?_⟩,?_,?_,?_⟩,hb⟩
  ·exact ζq ..
  ·exact ζq ..
  ·intro i hi;rw[ψh (h:=hb)];unfold World.cell?;simp only[e3]
   have:X[i]?=xs[i]?:=by
    rw[<-e7,ξz,ξE,μ hi,Array.getElem?_toList]
   rw[ϑ (by simp),this,hx];simp[hi]
  ·intro i;rw[World.frozen?_alloc_old (h:=by show b≠_;omega)];unfold World.frozen?;simp only[e3];simp
set_option maxHeartbeats 800000 in
theorem Vk2(n:Nat)(h1:1<=n)(h2:n<=1048576)(w:World):
  Calls prog 92 #[.int .i64 n] w (QHw w (List.replicate n false)):=by
 obtain⟨i0,hi,J,V,U⟩:=info_parts ZiX;have d1:decide ((n:Int)<1)=false:=by simp;omega
 have d2:decide ((1048576:Int)<(n:Int))=false:=by simp;omega
 have hb:i0.bytes*((n+63)/64)<=281474976710656:=by rw[U];omega
 have hm:(n+63)/64<=maxLen:=by unfold maxLen;omega
 have HB:=hid hb;have HM:=hid hm;clear hb hm;go_enter func92,ntmps92;go_wp2_with(at_make;refine wpList_make_full _ rfl _ _ 61 rfl w.heap.size 22 i0 (.int .u64 0) 1 underlying61 hi J V .i64 .i64 _ _ ((n+63)/64) rfl rfl ?h1 ?h2 HB.o HM.o (π _) ?h3)
 case h1=>omega
 case h2=>omega
 case h3=>
  intro w1 Y X;have Z:Gr w w1:=(JEA X (λ_=>False) (λk e _=>by cases e)).gr
  have HV:=hid (λT=>Q13 (l:=List.replicate n false) (by simp;omega) (by simp;omega) (T:=T) (show w1.ownsRow w.heap.size 22 1 (.slice (some ⟨w.heap.size,0,none⟩) ((n+63)/64) ((n+63)/64)) ((n+63)/64) _ from Y) (by simp[nw]) (by unfold maxLen;omega) (by
   rw[Jnq,nw,ζC]
   exact ξR (λi _=>by rw[VGT])))
  clear Y X;go_wp2;go_ret2;obtain⟨hV,hlt⟩:=HV.o 222;exact⟨_,_,Qh8 rfl rfl,Z.alloc _,by simpa using hV,Z.size,π _⟩
theorem YS7{w:World}{base:Nat}{e:TypeId}{size:Nat}{v:Value}{n:Nat}{xs:List Value}(h:w.ownsRow base e size v n xs)(hn:n≠0):
  ∃g c,v=.slice (some ⟨g,0,none⟩) n c/\base<=g/\n<=c/\c<=maxLen:=by
 obtain⟨_,⟨_,h⟩|⟨g,c,cur,e1,e2,_,e4,e5,_⟩⟩:=h
 ·exact absurd h hn
 ·exact⟨g,c,e1,e2,e4,e5⟩
def VSg(w:World)(l:List Bool)(e:Ending)(w':World):Prop:=
 ∃g c,e=.returned (.slice (some ⟨g,0,none⟩) (nw l) c)/\Gr w w'/\w.heap.size<=g/\c<=maxLen ∧
  w'.ownsRow w.heap.size 22 1 (.slice (some ⟨g,0,none⟩) (nw l) c) (nw l) ((List.range (nw l)).map λi=>Value.int .u64 ((Zgh l i:Nat):Int))
set_option maxHeartbeats 800000 in
theorem X73{w:World}{p b:Nat}{l:List Bool}(hV:Vec w p b l)(cap:Nat):
  Calls prog 237 #[.slice (some ⟨b,0,none⟩) (nw l) cap] w (VSg w l):=by
 obtain⟨i0,hi,E,D,L⟩:=info_parts ZiX;have V:=JxP hV.n1 hV.n2;have hsn:=Lib.run_eql_slice_nil (P:=prog) w 61 22 (some ⟨b,0,none⟩) (nw l) cap 0 0 underlying61
 have J:(w.alloc (.cells #[] 22)).ownsRow w.heap.size 22 1 (.slice (some ⟨w.heap.size,0,none⟩) 0 0) 0 []:=
  ⟨rfl,.inr ⟨w.heap.size,0,#[],rfl,π _,heap_alloc_new w _,π _,by unfold maxLen;omega,rfl,rfl⟩⟩
 have X:∀(j:Nat) (u:Value),((List.range (nw l)).map λi=>Value.int .u64 ((Zgh l i:Nat):Int))[j]?=some u->(w.alloc (.cells #[] 22)).cell? (Addr.add ⟨b,0,none⟩ j)=some u:=λj u hj=>by
  rw[ξZ]at hj
  have N:j<nw l:=by
   rcases γ j (nw l)with h|h
   ·exact h
   ·rw[ζf (by simpa using h)]at hj;cases hj
  rw[ξ4 N]at hj;simp only[ξV,Option.some.injEq]at hj;have e:Addr.add ⟨b,0,none⟩ j=⟨b,j,none⟩:=by unfold Addr.add;split <;> simp_all
  rw[e,ψh (h:=hV.hb),hV.cw j N,hj]
 have M:∀u∈(List.range (nw l)).map λi=>Value.int .u64 ((Zgh l i:Nat):Int),u.oneCell'=true:=λu hu=>by
  obtain⟨i,_,rfl⟩:=ξp.1 hu;rfl
 have HO:=hid J;have HC:=hid X;have H1:=hid M;have HN:=hid V;clear V hV J X M;go_enter func237,ntmps237;go_wp2_with(at_builtin;refine wpList_append_own _ rfl _ _ 61 rfl w.heap.size 22 i0 (.int .u64 0) 1 8 underlying61 hi E D L rfl (by decide) _ _ _ rfl HO.o ⟨b,0,none⟩ (nw l) cap ((List.range (nw l)).map λi=>Value.int .u64 ((Zgh l i:Nat):Int)) rfl (by simp) HC.o H1.o (by have:=HN.o;unfold maxLen;omega) (by have:=HN.o;omega) (by simp) ?_;intro v' w1 Y U _;obtain⟨g,c,hv,O,hg2,I⟩:=YS7 Y (by have:=HN.o;omega);subst hv);go_ret;have Z:(w.alloc (.cells #[] 22)).grownBy w1 (some w.heap.size):=U;refine⟨g,c,rfl,?_,O,I,by simpa using Y⟩;refine XF4.gr ((((Gr.refl w).alloc _).touch _).trans' (JEA Z (λk=>k=w.heap.size) (λk e _=>by cases e;rfl)) ?_);rintro i hi rfl;omega
def JqX(w:World)(l:List Bool)(e:Ending)(w':World):Prop:=
 ∃p b,e=.returned (.pointer (some ⟨p,0,none⟩))/\Gr w w'/\Vec w' p b l/\w.heap.size<=p/\w.heap.size<=b
set_option maxHeartbeats 800000 in
theorem Z27{w:World}{p b:Nat}{l:List Bool}(hV:Vec w p b l):
  Calls prog 228 #[.pointer (some ⟨p,0,none⟩)] w (JqX w l):=by
 obtain⟨cap,a1,a2,c0⟩:=hV.c0;have c1:=hV.c1;have M:=hV.hp;have HV:=hid hV;clear hV a1 a2;go_enter func228,ntmps228;go_upto_region 3 with(fail)
 go_region_with (go_at_call 237;refine(X73 (HV.o.gr ((Gr.refl w).drew)) _).mono ?_;rintro e w1 ⟨g,c,rfl,Y,U,J,X⟩;have V:=(Y.cell (b:=p) (by simpa using M) 1).trans c1)
 all_goals
  have HF:=hid (λT=>Q13 HV.o.n1 HV.o.n2 (T:=T) X rfl J rfl);have Z:=(Gr.refl w).drew.trans Y;have hs:w.heap.size<=g:=U;clear X Y U J c0 c1 V;go_wp2;go_ret;obtain⟨hF,hlt⟩:=HF.o 222;exact⟨_,_,rfl,Z.alloc _,hF,Z.size,hs⟩
end
section
open Go.RowKit Word
theorem Gr.tab{w W:World}(h:Gr w W)(hz:1<w.heap.size)(ht:VRW w):VRW W:=λi hi=>by rw[h.cell hz];exact ht i hi
theorem XF4.tab{S:Nat->Prop}{w W:World}(h:XF4 S w W)(hz:1<w.heap.size)(hS:¬S 1)(ht:VRW w):VRW W:=λi hi=>by rw[h.cell hz hS];exact ht i hi
theorem VRW.lt{w:World}(h:VRW w):1<w.heap.size:=by
 have:=h 0 (by decide);unfold World.cell? at this;rcases γ 1 w.heap.size with h|h
 ·exact h
 ·rw[ξw h]at this;cases this
end
section
open Go.RowKit Word
theorem Xjn(P:Program)(ts:Array TypeId)(t:TypeId)(k:IntKind)(x y:Int)(w:World):(Builtin.min_ ts t #[.int k x,.int k y]).run P w=.ok (.int k (min x y)) w:=by
 simp only[Builtin.min_,List.foldlM];simp[Y9c]
theorem V9O(P:Program)(ts:Array TypeId)(t:TypeId)(k:IntKind)(x y:Int)(w:World):(Builtin.max_ ts t #[.int k x,.int k y]).run P w=.ok (.int k (max x y)) w:=by
 simp only[Builtin.max_,List.foldlM];simp[YQd]
theorem V9n(l:List Bool){a b c:Int}(h1:a<=b)(h2:b<=c):((QnT l a b:Nat):Int)+(QnT l b c:Nat)=(QnT l a c:Nat):=by
 rw[Y7X,Y7X,Y7X]
 have:=Jjp (f:=λi=>decide (a<=(i:Nat)/\((i:Nat):Int)<b)&&at_ l i) (g:=λi=>decide (b<=(i:Nat)/\((i:Nat):Int)<c)&&at_ l i) (λi=>by
  by_cases h:((i:Nat):Int)<b
  ·rw[ψ (p:=b<=(i:Nat)/\((i:Nat):Int)<c) Ω];simp
  ·rw[ψ (p:=a<=(i:Nat)/\((i:Nat):Int)<b) Ω];simp) l.length
 unfold ZIf;rw[<-ψm,<-this];congr 1;refine XmU (λi _=>?_);by_cases h:((i:Nat):Int)<b
 ·rw[ψ (p:=b<=(i:Nat)/\((i:Nat):Int)<c) Ω,show decide (a<=(i:Nat)/\((i:Nat):Int)<b)=decide (a<=(i:Nat)/\((i:Nat):Int)<c)from ζK.2 Ω];simp
 ·rw[ψ (p:=a<=(i:Nat)/\((i:Nat):Int)<b) Ω,show decide (b<=(i:Nat)/\((i:Nat):Int)<c)=decide (a<=(i:Nat)/\((i:Nat):Int)<c)from ζK.2 Ω];simp
theorem Vbb(l:List Bool){b:Int}(h:l.length<=b):QnT l 0 b=cnt (at_ l) l.length:=by
 rw[Y7X];exact XmU (λi hi=>by rw[κ Ω];simp)
theorem V58(l:List Bool){r:Nat}(h:r<=l.length):QnT l 0 (r:Int)=cnt (at_ l) r:=by
 rw[Y7X];unfold ZIf;rw[ZC7 h (λi h1 _=>by rw[ψ Ω];rfl)];exact XmU (λi hi=>by rw[κ Ω];simp)
theorem Zmr{l:List Bool}{q:Nat}(h:q<cnt (at_ l) l.length):X5b l q<l.length/\at_ l (X5b l q)=true/\cnt (at_ l) (X5b l q)=q:=X9n h
theorem VZZ{l:List Bool}{q:Nat}(h:cnt (at_ l) l.length<=q):X5b l q=l.length:=Vit h
end
section
open Go.ChangeShapes Go.WideShapes Go.ChangeAt Go.RowKit Word
end
section
open Go.ChangeShapes Go.WideShapes Go.ChangeAt Go.RowKit
namespace listNobody
theorem YUs:Tryz.pinned.checked.prog.funcNamed Rows.listNobodyRow.func=some 3:=by kernel_rfl
set_option maxHeartbeats 0 in
theorem JSQ:joinedFacts Tryz.pinned.checked.prog 3 f3 (OpenSpec.ofChange Rows.listNobodySpec).bare Rows.listNobodyRow=true:=by
 unfold joinedFacts
 repeat' (with_reducible refine ζ0.2 ⟨?_,?_⟩)
 all_goals (as_aux_lemma=>kernel_rfl)
end listNobody
end
section
open Go.ChangeShapes Go.WideShapes Go.ChangeAt Go.RowKit Word
structure JNP where
 kd:Nat
 i:Int
 w:Nat
 f:Nat
def JNP.L(x:JNP):List Value:=[.int .u8 x.kd,.int .i64 x.i,.int .u64 x.w,.int .u64 x.f]
structure JNP.Bd(x:JNP):Prop where
 kd:x.kd<=255
 i:-9223372036854775808<=x.i/\x.i<=9223372036854775807
 w:x.w<18446744073709551616
 f:x.f<18446744073709551616
theorem Y1r:prog.cellsOf 24=4:=by kernel_rfl
theorem VCz:prog.cellsOf 22=1:=by kernel_rfl
theorem JKD:prog.cellsOf 3=1:=by kernel_rfl
theorem ZG9:prog.cellsOf 5=1:=by kernel_rfl
theorem QN9{l:List Value}{j:Nat}{v:Value}(h:(l.drop j).take 1=[v]):l[j]?=some v:=by
 have:((l.drop j).take 1)[0]?=some v:=by rw[h];rfl
 simpa using this
theorem VZr{l:List Value}{v0 v1 v2 v3:Value}(hl:l.length=4)(h0:l[0]?=some v0)(h1:l[1]?=some v1)(h2:l[2]?=some v2)(h3:l[3]?=some v3):l=[v0,v1,v2,v3]:=by
 match l,hl with
 | [a0,a1,a2,a3],_=>simp at h0 h1 h2 h3;simp[*]
section
variable {H:Type} {enc:TypeId × Value->H} {w:World} {base:Nat} {spare:Nat->Bool} {held:Bool} {fuel:Nat} {cs:List Value} {x:DataW H × List MemPlace}
theorem VdY(h:DataW.trod enc prog w base spare held fuel 24 cs=some x):∃g:JNP,cs=g.L/\g.Bd:=by
 obtain⟨xs,n,-,-,hl,X,hf⟩:=DataW.trod_struct underlying24 h;have ex:∀i,i<xs.length->∃y,xs[i]?=some y:=λi hi=>⟨_,δ hi⟩
 have X:xs.length=4:=X;have g0:DataW.trod enc prog w base spare held n 5 ((cs.drop 0).take (prog.cellsOf 5))=xs[0]?:=hf 0 _ rfl;have g1:DataW.trod enc prog w base spare held n 3 ((cs.drop 1).take (prog.cellsOf 3))=xs[1]?:=hf 1 _ rfl;have g2:DataW.trod enc prog w base spare held n 22 ((cs.drop 2).take (prog.cellsOf 22))=xs[2]?:=hf 2 _ rfl;have g3:DataW.trod enc prog w base spare held n 22 ((cs.drop 3).take (prog.cellsOf 22))=xs[3]?:=hf 3 _ rfl;obtain⟨y0,e0⟩:=ex 0 Ω;obtain⟨y1,e1⟩:=ex 1 Ω;obtain⟨y2,e2⟩:=ex 2 Ω;obtain⟨y3,e3⟩:=ex 3 Ω;rw[e0]at g0;rw[e1]at g1;rw[e2]at g2;rw[e3]at g3;obtain⟨a0,c0,-,b0⟩:=DataW.trod_int underlying5 g0;obtain⟨a1,c1,-,b1⟩:=DataW.trod_int underlying3 g1;obtain⟨a2,c2,-,b2⟩:=DataW.trod_int underlying22 g2;obtain⟨a3,c3,-,b3⟩:=DataW.trod_int underlying22 g3;simp only[JKD,VCz,ZG9]at c0 c1 c2 c3;have Y:=VZr (hl.trans Y1r) (QN9 c0) (QN9 c1) (QN9 c2) (QN9 c3);have u0:=bounds_u8 b0;have u2:=bounds_u64 b2;have u3:=bounds_u64 b3;refine⟨⟨a0.toNat,a1,a2.toNat,a3.toNat⟩,?_,⟨by show a0.toNat<=_;omega,bounds_i64 b1,by show a2.toNat<_;omega,by show a3.toNat<_;omega⟩⟩;rw[Y];unfold JNP.L;dsimp only;rw[show ((a0.toNat:Nat):Int)=a0 from ξx Ω,show ((a2.toNat:Nat):Int)=a2 from ξx Ω,show ((a3.toNat:Nat):Int)=a3 from ξx Ω]
end
theorem Jrp{H:Type}{enc:TypeId×Value->H}{W:World}{r:Reach}{b0:Nat}{v:Value}{d:DataW H}{p:List MemPlace}
  (hv:Value.okWide prog W r b0 24 v) (h:DataW.Trod enc prog W 0 (λ_=>true) true 24 v d p):∃g:JNP,v=.agg g.L.toArray/\g.Bd:=by
 obtain⟨cs,rfl,hsz⟩:=okWide_struct underlying24 hv;obtain⟨fuel,hf⟩:=h;obtain⟨g,h1,h2⟩:=VdY hf;refine⟨g,?_,h2⟩;have:cs.toList=g.L:=by simpa[Value.cells]using h1
 rw[<-this]
end
section
open Go.RowKit Word
end
section
open Word
abbrev Ob:=Nat×Nat
structure Q4l(n:Nat)(L:List Ob):Prop where
 pw:L.Pairwise (λo q=>o.1+o.2<=q.1)
 sz:∀o∈L,1<=o.2/\o.1+o.2<=n
theorem Q4l.nil(n:Nat):Q4l n []:=⟨List.Pairwise.nil,λ_ h=>by cases h⟩
theorem Q4l.at{n:Nat}{L:List Ob}(h:Q4l n L){i j:Nat}(hi:i<L.length)(hj:j<L.length)(hij:i<j):L[i].1+L[i].2<=L[j].1:=List.pairwise_iff_getElem.1 h.pw i j hi hj hij
theorem Q4l.disj{n:Nat}{L:List Ob}(h:Q4l n L){o q:Ob}(ho:o∈L)(hq:q∈L):o=q\/o.1+o.2<=q.1\/q.1+q.2<=o.1:=by
 obtain⟨i,hi,rfl⟩:=ζt ho;obtain⟨j,hj,rfl⟩:=ζt hq;rcases ζW i j with X|rfl|X
 ·exact .inr (.inl (h.at hi hj X))
 ·exact .inl rfl
 ·exact .inr (.inr (h.at hj hi X))
theorem Q4l.len{n:Nat}:∀{L:List Ob},Q4l n L->L.length<=n:=by
 intro L h
 have X:∀(L:List Ob),L.Pairwise (λo q=>o.1+o.2<=q.1)->(∀o∈L,1<=o.2/\o.1+o.2<=n)->∀a,a<=n->(∀o∈L,a<=o.1)->a+L.length<=n:=by
  intro L
  induction L with
  | nil=>intro _ _ a ha _;simpa using ha
  | cons o r ih=>
   intro hp hs a ha hl;obtain⟨h1,h2⟩:=ξg.1 hp;have ho:=hs o (ζg ..);have:=ih h2 (λq hq=>hs q (ζo _ hq)) (o.1+o.2) ho.2 (λq hq=>h1 q hq);have:=hl o (ζg ..);simp only[ζU];omega
 have:=X L h.pw h.sz 0 (ζh _) (λ_ _=>ζh _);omega
def VC5(n:Nat)(L:List Ob):List Bool:=(List.range n).map λi=>L.any λo=>o.1==i
def JsC(n:Nat)(L:List Ob):List Bool:=(List.range n).map λi=>L.any λo=>o.1+o.2==i+1
theorem JQA(n:Nat)(L:List Ob):(VC5 n L).length=n:=by simp[VC5]
theorem Q9C(n:Nat)(L:List Ob):(JsC n L).length=n:=by simp[JsC]
theorem Qn0(f:Nat->Bool)(n i:Nat):at_ ((List.range n).map f) i=(decide (i<n)&&f i):=by
 unfold at_;rw[φ,ξZ];by_cases h:i<n
 ·rw[ξ4 h,κ h];rfl
 ·rw[ζf (by simpa using h),ψ h];rfl
theorem ZKf{n:Nat}{L:List Ob}(h:Q4l n L)(i:Nat):at_ (VC5 n L) i=true↔∃o∈L,o.1=i:=by
 unfold VC5;rw[Qn0];simp only[ζd,ζe,ξs,ζZ];constructor
 ·rintro⟨_,h⟩;exact h
 ·rintro⟨o,ho,rfl⟩;have:=h.sz o ho;exact⟨by omega,o,ho,rfl⟩
theorem Zkw{n:Nat}{L:List Ob}(h:Q4l n L)(i:Nat):at_ (JsC n L) i=true↔∃o∈L,o.1+o.2=i+1:=by
 unfold JsC;rw[Qn0];simp only[ζd,ζe,ξs,ζZ];constructor
 ·rintro⟨_,h⟩;exact h
 ·rintro⟨o,ho,e⟩;have:=h.sz o ho;exact⟨by omega,o,ho,e⟩
theorem Zox{n:Nat}{L:List Ob}(h:Q4l n L){o:Ob}(ho:o∈L):ZnF (JsC n L) (o.1:Int)=o.1+o.2-1/\o.1+o.2-1<(JsC n L).length:=by
 have hs:=h.sz o ho
 have:=VuI (l:=JsC n L) (a:=(o.1:Int)) (k:=o.1+o.2-1) (λi hi hc=>by
  obtain⟨q,hq,e⟩:=(Zkw h i).1 hc.1;have hqs:=h.sz q hq;have hc2:=hc.2
  rcases h.disj ho hq with rfl|hd|hd <;> omega) ((Zkw h _).2 ⟨o,ho,by omega⟩) Ω
 exact⟨this.1,by rw[Q9C];omega⟩
def Jxr(L:List Ob)(a:Int):Nat:=L.findIdx λo=>decide (a<=o.1)
theorem XH0(L:List Ob)(a:Int):Jxr L a<=L.length:=List.findIdx_le_length
theorem X9H{L:List Ob}{a:Int}{i:Nat}(h:i<Jxr L a)(hi:i<L.length):(L[i].1:Int)<a:=by
 have:=List.not_of_lt_findIdx h;simp at this;omega
theorem XOX{L:List Ob}{a:Int}(h:Jxr L a<L.length):a<=(L[Jxr L a]'h).1:=by
 have:=List.findIdx_getElem (p:=λo:Ob=>decide (a<=(o.1:Int))) (w:=h);simp only[ζe]at this;exact this
theorem Qzy{L:List Ob}{a:Int}{j:Nat}(hj:j<=L.length)(hn:∀i (hi:i<L.length),i<j->(L[i].1:Int)<a)(hy:∀h:j<L.length,a<=(L[j].1:Int)):Jxr L a=j:=by
 rcases ζW (Jxr L a) j with h|h|h
 ·have h1:=XOX (L:=L) (a:=a) Ω;have h2:=hn _ Ω h;omega
 ·exact h
 ·have X:j<L.length:=by have:=XH0 L a;omega
  have h1:=X9H h X;have h2:=hy X;omega
theorem Jia{n:Nat}{L:List Ob}(h:Q4l n L){a:Int}(hj:Jxr L a<L.length):ZnF (VC5 n L) a=(L[Jxr L a]).1/\ZnF (VC5 n L) a<(VC5 n L).length:=by
 have hy:=XOX hj;refine VuI (λi hi hc=>?_) ((ZKf h _).2 ⟨_,χ hj,rfl⟩) Ω;obtain⟨q,hq,e⟩:=(ZKf h i).1 hc.1;obtain⟨k,hk,rfl⟩:=ζt hq;rcases ζW k (Jxr L a)with X|rfl|X
 ·have:=X9H X hk;omega
 ·omega
 ·have:=h.at hj hk X;omega
theorem YTx{n:Nat}{L:List Ob}(h:Q4l n L){a:Int}(hj:¬Jxr L a<L.length):ZnF (VC5 n L) a=(VC5 n L).length:=by
 refine XoQ (λi hi hc=>?_);obtain⟨q,hq,e⟩:=(ZKf h i).1 hc.1;obtain⟨k,hk,rfl⟩:=ζt hq;have:=X9H (L:=L) (a:=a) (i:=k) Ω hk;omega
theorem X1z{n:Nat}{L:List Ob}(h:Q4l n L){j:Nat}(hj:j<L.length):Jxr L ((L[j].1:Int)+(L[j].2:Int))=j+1:=by
 refine Qzy Ω (λi hi hij=>?_) (λh2=>?_)
 ·have hs:=h.sz _ (χ hj);rcases γ i j with h1|h1
  ·have:=h.at hi hj h1;have:=h.sz _ (χ hi);omega
  ·have:i=j:=Ω
   subst this;omega
 ·have:=h.at hj h2 (ξr j);omega
def ZNZ(a:Int)(o:Ob):Bool:=decide ((o.1:Int)<=a/\a<o.1+o.2)
def ZH8(L:List Ob)(a:Int):Nat:=L.findIdx (ZNZ a)
theorem JtS(L:List Ob)(a:Int):ZH8 L a<=L.length:=List.findIdx_le_length
theorem JBb{L:List Ob}{a:Int}(h:ZH8 L a<L.length):((L[ZH8 L a]'h).1:Int)<=a/\a<(L[ZH8 L a]'h).1+(L[ZH8 L a]'h).2:=by
 have:=List.findIdx_getElem (p:=ZNZ a) (w:=h);simp only[ZNZ,ζe]at this;exact this
theorem Z8o{L:List Ob}{a:Int}{i:Nat}(h:i<ZH8 L a)(hi:i<L.length):¬((L[i].1:Int)<=a/\a<L[i].1+L[i].2):=by
 have:=List.not_of_lt_findIdx h;simpa[ZNZ]using this
theorem XxN{n:Nat}{L:List Ob}(h:Q4l n L){a:Int}{j:Nat}(hj:j<L.length)(h1:(L[j].1:Int)<=a)(h2:a<L[j].1+L[j].2):ZH8 L a=j:=by
 rcases ζW (ZH8 L a) j with X|he|X
 ·have hy:=JBb (L:=L) (a:=a) Ω;have:=h.at (i:=ZH8 L a) Ω hj X;omega
 ·exact he
 ·exact absurd ⟨h1,h2⟩ (Z8o X hj)
theorem ZDJ{L:List Ob}{a:Int}(h:∀o∈L,¬((o.1:Int)<=a/\a<o.1+o.2)):ZH8 L a=L.length:=by
 rcases γ (ZH8 L a) L.length with h1|h1
 ·exact absurd (JBb h1) (h _ (χ h1))
 ·have:=JtS L a;omega
theorem XA1{n:Nat}{L:List Ob}(h:Q4l n L)(a:Int):(JJU (VC5 n L) (a+1) = -1/\∀o∈L,a<(o.1:Int))\/∃j,∃hj:j<L.length,JJU (VC5 n L) (a+1)=(L[j].1:Int)/\(L[j].1:Int)<=a/\∀i (hi:i<L.length),j<i->a<(L[i].1:Int):=by
 have hx:=XH0 L (a+1);rcases ζE (Jxr L (a+1))with h0|h0
 ·left
  have X:∀o∈L,a<(o.1:Int):=λo ho=>by
   obtain⟨k,hk,rfl⟩:=ζt ho;have hy:=XOX (L:=L) (a:=a+1) Ω;rcases ζE k with rfl|J
   ·have e:L[Jxr L (a+1)]' Ω=L[0]:=by congr 1
    rw[e]at hy;omega
   ·have:=h.at (i:=0) (j:=k) Ω hk J;have e:L[Jxr L (a+1)]' Ω=L[0]' Ω:=by congr 1
    rw[e]at hy;omega
  refine⟨Xaz (λi hc=>?_),X⟩;obtain⟨q,hq,e⟩:=(ZKf h i).1 hc.1;have:=X q hq;omega
 ·right;obtain⟨j,hj⟩:∃j,Jxr L (a+1)=j+1:=⟨Jxr L (a+1)-1,by omega⟩;have Y:j<L.length:=Ω
  have h1:=X9H (L:=L) (a:=a+1) (i:=j) Ω Y
  have X:∀i (hi:i<L.length),j<i->a<(L[i].1:Int):=λi hi hij=>by
   have hy:=XOX (L:=L) (a:=a+1) Ω;rcases γ (Jxr L (a+1)) i with h2|h2
   ·have:=h.at (i:=Jxr L (a+1)) Ω hi h2;omega
   ·have e:L[Jxr L (a+1)]' Ω=L[i]:=by congr 1;omega
    rw[e]at hy;omega
  refine⟨j,Y,YBm (λi hij hc=>?_) ((ZKf h _).2 ⟨_,χ Y,rfl⟩) Ω,by omega,X⟩;obtain⟨q,hq,e⟩:=(ZKf h i).1 hc.1;obtain⟨k,hk,rfl⟩:=ζt hq;rcases ζW k j with Z|rfl|Z
  ·have:=h.at hk Y Z;omega
  ·omega
  ·have:=X k hk Z;omega
end
section
open Word
def VoH(L:List Ob)(i:Nat):Bool:=L.any λo=>decide (o.1<=i/\i<o.1+o.2)
theorem XB1{L:List Ob}{i:Nat}:VoH L i=true↔∃o∈L,o.1<=i/\i<o.1+o.2:=by simp[VoH]
theorem Q5g{L:List Ob}{i:Nat}:VoH L i=decide (ZH8 L (i:Int)<L.length):=by
 by_cases h:ZH8 L (i:Int)<L.length
 ·rw[κ h];have:=JBb h;exact XB1.2 ⟨_,χ h,by omega,by omega⟩
 ·rw[ψ h];cases hb:VoH L i with
  | false=>rfl
  | true=>
   obtain⟨o,ho,h1,h2⟩:=XB1.1 hb;obtain⟨k,hk,rfl⟩:=ζt ho;exact absurd ⟨by omega,by omega⟩ (Z8o (L:=L) (a:=(i:Int)) (i:=k) Ω hk)
def JM8(L:List Ob)(n:Nat)(f t:Int):Nat:=cnt (λi=>decide (f<=(i:Nat)/\((i:Nat):Int)<t)&&VoH L i) n
def Jc4(o:Ob)(f t:Int):Int:=max 0 (min (o.1+o.2:Int) t-max (o.1:Int) f)
def VeJ(L:List Ob)(f t:Int):Int:=(L.map λo=>Jc4 o f t).sum
theorem J2a(a b n:Nat)(h1:a<=b)(h2:b<=n):cnt (λi=>decide (a<=i/\i<b)) n=b-a:=by
 induction n generalizing b with
 | zero=>rw[YAO];omega
 | succ n ih=>
  rw[Z10];rcases γ n b with h|h
  ·have e:cnt (λi=>decide (a<=i/\i<b)) n=cnt (λi=>decide (a<=i/\i<b-1)) n\/a=b:=by
    by_cases X:a=b
    ·exact .inr X
    ·exact .inl (XmU (λi hi=>ζK.2 Ω))
   rcases e with e|e
   ·by_cases X:a=b
    ·subst X;rw[Z6o (λi _=>ψ Ω),ψ Ω];simp
    ·rw[e,ih (b-1) Ω Ω,κ Ω];simp;omega
   ·subst e;rw[Z6o (λi _=>ψ Ω),ψ Ω];simp
  ·rw[ih b h1 h,ψ Ω];simp
theorem XFd(n:Nat)(f t:Int):JM8 [] n f t=0:=Z6o (λi _=>by simp[VoH])
theorem X5c{n:Nat}{o:Ob}(ho:o.1+o.2<=n)(f t:Int):((cnt (λi=>decide (f<=(i:Nat)/\((i:Nat):Int)<t)&&decide (o.1<=i/\i<o.1+o.2)) n:Nat):Int)=Jc4 o f t:=by
 unfold Jc4;by_cases h:max (o.1:Int) f<min (o.1+o.2:Int) t
 ·have e:cnt (λi=>decide (f<=(i:Nat)/\((i:Nat):Int)<t)&&decide (o.1<=i/\i<o.1+o.2)) n=cnt (λi=>decide ((max (o.1:Int) f).toNat<=i/\i<(min (o.1+o.2:Int) t).toNat)) n:=
   XmU (λi _=>by rw[<-Bool.decide_and];exact ζK.2 Ω)
  rw[e,J2a _ _ _ Ω Ω];omega
 ·rw[Z6o (λi _=>by rw[<-Bool.decide_and];exact ψ Ω)];omega
theorem XxJ{n:Nat}:∀{L:List Ob},Q4l n L->∀(f t:Int),((JM8 L n f t:Nat):Int)=VeJ L f t:=by
 intro L
 induction L with
 | nil=>intro _ f t;rw[XFd];rfl
 | cons o r ih=>
  intro h f t;obtain⟨h1,h2⟩:=ξg.1 h.pw;have hr:Q4l n r:=⟨h2,λq hq=>h.sz q (ζo _ hq)⟩;have ho:=h.sz o (ζg ..)
  have hs:=Jjp (f:=λi=>decide (f<=(i:Nat)/\((i:Nat):Int)<t)&&decide (o.1<=i/\i<o.1+o.2)) (g:=λi=>decide (f<=(i:Nat)/\((i:Nat):Int)<t)&&VoH r i) (λi=>by
   by_cases hc:o.1<=i/\i<o.1+o.2
   ·have:VoH r i=false:=by
     cases hb:VoH r i with
     | false=>rfl
     | true=>obtain⟨q,hq,h3,h4⟩:=XB1.1 hb;have:=h1 q hq;omega
    rw[this];simp
   ·rw[ψ hc];simp) n
  have e:JM8 (o :: r) n f t=cnt (λi=>(decide (f<=(i:Nat)/\((i:Nat):Int)<t)&&decide (o.1<=i/\i<o.1+o.2))||(decide (f<=(i:Nat)/\((i:Nat):Int)<t)&&VoH r i)) n:=
   XmU (λi _=>by rw[<-Bool.and_or_distrib_left];rfl)
  rw[e,hs,ψm,X5c ho.2];have:=ih hr f t;unfold JM8 at this;rw[this];simp[VeJ]
theorem YSu(L M:List Ob)(f t:Int):VeJ (L++M) f t=VeJ L f t+VeJ M f t:=by simp[VeJ]
theorem XLs{o:Ob}{f t:Int}(h:(o.1+o.2:Int)<=f\/t<=o.1):Jc4 o f t=0:=by unfold Jc4;omega
theorem XJg{L:List Ob}{f t:Int}(h:∀o∈L,(o.1+o.2:Int)<=f\/t<=o.1):VeJ L f t=0:=by
 induction L with
 | nil=>rfl
 | cons o r ih=>
  have:=ih (λq hq=>h q (ζo _ hq));have h2:=XLs (h o (ζg ..));simp only[VeJ,ξX,List.sum_cons]at this⊢;omega
theorem VRD{L:List Ob}{j:Nat}(hj:j<L.length)(f t:Int):VeJ (L.take (j+1)) f t=VeJ (L.take j) f t+Jc4 L[j] f t:=by
 rw[ξe hj,YSu];simp[VeJ]
theorem QMe(L:List Ob)(j:Nat)(f t:Int):VeJ L f t=VeJ (L.take j) f t+VeJ (L.drop j) f t:=by
 rw[<-YSu,ψc]
theorem XDP{L:List Ob}{j:Nat}{o:Ob}(h:o∈L.take j):∃i,∃hi:i<L.length,i<j/\L[i]=o:=by
 obtain⟨i,hi,rfl⟩:=ζt h;simp only[List.length_take]at hi;exact⟨i,by omega,by omega,by rw[List.getElem_take]⟩
theorem JEg{L:List Ob}{j:Nat}{o:Ob}(h:o∈L.drop j):∃i,∃hi:i<L.length,j<=i/\L[i]=o:=by
 obtain⟨i,hi,rfl⟩:=ζt h;simp only[List.length_drop]at hi;exact⟨j+i,by omega,by omega,by rw[List.getElem_drop]⟩
theorem Vth{n:Nat}{L:List Ob}(h:Q4l n L){f t:Int}:
  VeJ (L.take (Jxr L f)) f t=if ZH8 L f<L.length/\(L[ZH8 L f]?.getD (0,0)).1<f/\f<t then min ((L[ZH8 L f]?.getD (0,0)).1+(L[ZH8 L f]?.getD (0,0)).2:Int) t-f else 0:=by
 by_cases X:ZH8 L f<L.length
 ·have hy:=JBb X;have hg:L[ZH8 L f]?.getD (0,0)=L[ZH8 L f]:=by rw[δ X];rfl
  rw[hg];by_cases hlt:(L[ZH8 L f].1:Int)<f
  ·have hn:Jxr L f=ZH8 L f+1:=Qzy Ω (λi hi Y=>by
    rcases γ i (ZH8 L f)with h1|h1
    ·have:=h.at hi X h1;omega
    ·have:i=ZH8 L f:=Ω
     subst this;omega) (λh2=>by have:=h.at X h2 (ξr _);omega)
   rw[hn,VRD X,XJg (λo ho=>by
    obtain⟨i,hi,Y,rfl⟩:=XDP ho
    have:=h.at hi X Y;left;omega)]
   by_cases Z:f<t
   ·rw[μ ⟨X,by omega,Z⟩];unfold Jc4;omega
   ·rw[ϑ Ω];unfold Jc4;omega
  ·rw[ϑ Ω];refine XJg (λo ho=>?_);obtain⟨i,hi,Y,rfl⟩:=XDP ho;have h1:=X9H Y hi;rcases ζW i (ZH8 L f)with h2|rfl|h2
   ·have:=h.at hi X h2;left;omega
   ·omega
   ·have:=h.at X hi h2;have:=(h.sz _ (χ X)).1;omega
 ·rw[ϑ Ω];refine XJg (λo ho=>?_);obtain⟨i,hi,Y,rfl⟩:=XDP ho;have h1:=X9H Y hi;have h2:=Z8o (L:=L) (a:=f) (i:=i) Ω hi;left;omega
theorem Yso{n:Nat}{L:List Ob}(h:Q4l n L){j:Nat}{f t:Int}(hj:∀hl:j<L.length,t<=(L[j].1:Int)):VeJ (L.drop j) f t=0:=by
 refine XJg (λo ho=>?_);obtain⟨i,hi,hij,rfl⟩:=JEg ho;right;have:=hj Ω;rcases γ j i with h1|h1
 ·have:=h.at (i:=j) Ω hi h1;omega
 ·have:i=j:=Ω
  subst this;exact hj _
theorem JAq{n:Nat}{L:List Ob}(h:Q4l n L)(f t:Int):VeJ L (max f 0) (min t n)=VeJ L f t:=by
 unfold VeJ;congr 1;refine ξR (λo ho=>?_);have:=h.sz o ho;unfold Jc4;omega
def sizes:List Ob->Nat
 | []=>0
 | o :: r=>o.2+sizes r
def JlZ:List Ob->Nat->Option Nat
 | [],_=>none
 | o :: r,k=>if k<o.2 then some (o.1+k)else JlZ r (k-o.2)
def V5E(L:List Ob)(k:Int):Int:=if k<0 then 0 else ((JlZ L k.toNat).getD 0:Nat)
def Y2i(L:List Ob)(k:Int):Bool:=decide (0<=k)&&(JlZ L k.toNat).isSome
theorem Jkd{L:List Ob}:∀{k:Nat},JlZ L k=none↔sizes L<=k:=by
 induction L with
 | nil=>intro k;simp[JlZ,sizes]
 | cons o r ih=>
  intro k;unfold JlZ sizes
  split
  ·constructor
   ·intro h;cases h
   ·intro h;omega
  ·rw[ih];omega
theorem Qsm{L:List Ob}{j:Nat}(hj:j<L.length):sizes (L.take (j+1))=sizes (L.take j)+L[j].2:=by
 induction L generalizing j with
 | nil=>simp at hj
 | cons o r ih=>
  cases j with
  | zero=>simp[sizes]
  | succ j=>
   have:=ih (j:=j) (by simpa using hj);simp only[ξQ,sizes,ψz]at this⊢;omega
theorem XEK{L:List Ob}{j i:Nat}(hj:j<L.length)(hi:i<L[j].2):JlZ L (sizes (L.take j)+i)=some (L[j].1+i):=by
 induction L generalizing j with
 | nil=>simp at hj
 | cons o r ih=>
  cases j with
  | zero=>
   have hi:i<o.2:=hi;simp only[List.take_zero,sizes,ξN,JlZ,ψy];rw[μ hi]
  | succ j=>
   have:=ih (j:=j) (by simpa using hj) (by simpa using hi);simp only[ξQ,sizes,ψz,JlZ];rw[ϑ Ω,show o.2+sizes (List.take j r)+i-o.2=sizes (List.take j r)+i by omega];exact this
theorem Z3c{n:Nat}{L:List Ob}(h:Q4l n L):VeJ L 0 n=sizes L:=by
 have X:∀(L:List Ob),(∀o∈L,1<=o.2/\o.1+o.2<=n)->VeJ L 0 n=sizes L:=by
  intro L
  induction L with
  | nil=>intro _;rfl
  | cons o r ih=>
   intro hs;have h1:=ih (λq hq=>hs q (ζo _ hq));have ho:=hs o (ζg ..);have h2:Jc4 o 0 n=o.2:=by unfold Jc4;omega
   simp only[VeJ,ξX,List.sum_cons,sizes]at h1⊢;rw[h2];omega
 exact X L h.sz
theorem Yhz{n:Nat}{L:List Ob}(h:Q4l n L){j i:Nat}(hj:j<L.length)(hi:i<=L[j].2):VeJ L 0 ((L[j].1:Int)+i)=sizes (L.take j)+i:=by
 rw[QMe L (j+1),Yso h (j:=j+1) (λhl=>by have:=h.at hj hl (ξr _);omega),VRD hj]
 have hg:Q4l L[j].1 (L.take j):=⟨h.pw.sublist (List.take_sublist ..),λo ho=>by
  obtain⟨q,hq,X,rfl⟩:=XDP ho;have:=h.at hq hj X
  exact⟨(h.sz _ (χ hq)).1,this⟩⟩
 have e:VeJ (L.take j) 0 ((L[j].1:Int)+i)=VeJ (L.take j) 0 (L[j].1:Nat):=by
  unfold VeJ;congr 1;refine ξR (λo ho=>?_);have:=hg.sz o ho;unfold Jc4;omega
 rw[e,Z3c hg];unfold Jc4;omega
theorem XY5{n:Nat}{L:List Ob}(h:Q4l n L):sizes L<=n:=by
 have h1:=Z3c h;have h2:=XxJ h 0 n;have h3:JM8 L n 0 n<=n:=QMh _ _;omega
end
section
open Word
def VZz:List Ob->Ob->List Ob
 | [],o=>[o]
 | q :: r,o=>if o.1<q.1 then o :: q :: r else q :: VZz r o
theorem Xz6{L:List Ob}{o x:Ob}:x∈VZz L o↔x=o\/x∈L:=by
 induction L with
 | nil=>simp[VZz]
 | cons q r ih=>
  unfold VZz
  split
  ·simp
  ·simp only[ζH,ih];constructor
   ·rintro(h|h|h) <;> simp[h]
   ·rintro(h|h|h) <;> simp[h]
theorem YKx(L:List Ob)(o:Ob):(VZz L o).length=L.length+1:=by
 induction L with
 | nil=>rfl
 | cons q r ih=>unfold VZz;split <;> simp[ih]
theorem VuR{n:Nat}{L:List Ob}(h:Q4l n L){o:Ob}(h1:1<=o.2)(h2:o.1+o.2<=n)(hd:∀q∈L,o.1+o.2<=q.1\/q.1+q.2<=o.1):Q4l n (VZz L o):=by
 refine⟨?_,λx hx=>?_⟩
 ·have Y:∀(L:List Ob),L.Pairwise (λo q=>o.1+o.2<=q.1)->(∀q∈L,1<=q.2)->(∀q∈L,o.1+o.2<=q.1\/q.1+q.2<=o.1)->(VZz L o).Pairwise (λo q=>o.1+o.2<=q.1):=by
   intro L
   induction L with
   | nil=>intro _ _ _;simp[VZz]
   | cons q r ih=>
    intro hp hs hd;obtain⟨X,Z⟩:=ξg.1 hp;have hq:=hd q (ζg ..);have hqs:=hs q (ζg ..);unfold VZz
    split
    ·rename_i hlt;refine ξg.2 ⟨λx hx=>?_,hp⟩;rcases ζH.1 hx with rfl|hx
     ·omega
     ·have:=X x hx;omega
    ·rename_i hlt;refine ξg.2 ⟨λx hx=>?_,ih Z (λx hx=>hs x (ζo _ hx)) (λx hx=>hd x (ζo _ hx))⟩;rcases Xz6.1 hx with rfl|hx
     ·omega
     ·exact X x hx
  exact Y L h.pw (λq hq=>(h.sz q hq).1) hd
 ·rcases Xz6.1 hx with rfl|hx
  ·exact⟨h1,h2⟩
  ·exact h.sz x hx
theorem YRY{a b:Bool}(h:a=true↔b=true):a=b:=ψn.2 h
theorem JJN{l:List Bool}{k i:Nat}{x:Bool}(hk:k<l.length):at_ (l.set k x) i=if i=k then x else at_ l i:=XRU l k i x hk
theorem Yfk{n:Nat}{L:List Ob}(h:Q4l n L){o:Ob}(h1:1<=o.2)(h2:o.1+o.2<=n)(hd:∀q∈L,o.1+o.2<=q.1\/q.1+q.2<=o.1):VC5 n (VZz L o)=(VC5 n L).set o.1 true:=
 J2X (by rw[υ,JQA,JQA]) (λi _=>by
  rw[JJN (by rw[JQA];omega)];refine YRY ?_;rw[ZKf (VuR h h1 h2 hd)]
  split
  ·rename_i e;subst e;exact⟨λ_=>rfl,λ_=>⟨o,Xz6.2 (.inl rfl),rfl⟩⟩
  ·rename_i e;rw[ZKf h];constructor
   ·rintro⟨q,hq,rfl⟩;rcases Xz6.1 hq with rfl|hq
    ·exact absurd rfl e
    ·exact⟨q,hq,rfl⟩
   ·rintro⟨q,hq,rfl⟩;exact⟨q,Xz6.2 (.inr hq),rfl⟩)
theorem Y48{n:Nat}{L:List Ob}(h:Q4l n L){o:Ob}(h1:1<=o.2)(h2:o.1+o.2<=n)(hd:∀q∈L,o.1+o.2<=q.1\/q.1+q.2<=o.1):JsC n (VZz L o)=(JsC n L).set (o.1+o.2-1) true:=
 J2X (by rw[υ,Q9C,Q9C]) (λi _=>by
  rw[JJN (by rw[Q9C];omega)];refine YRY ?_;rw[Zkw (VuR h h1 h2 hd)]
  split
  ·rename_i e;subst e;exact⟨λ_=>rfl,λ_=>⟨o,Xz6.2 (.inl rfl),by omega⟩⟩
  ·rename_i e;rw[Zkw h];constructor
   ·rintro⟨q,hq,e2⟩;rcases Xz6.1 hq with rfl|hq
    ·omega
    ·exact⟨q,hq,e2⟩
   ·rintro⟨q,hq,e2⟩;exact⟨q,Xz6.2 (.inr hq),e2⟩)
def Jf9(L:List Ob)(s z:Int):Bool:=L.any λo=>decide ((o.1:Int)<s+z/\s<o.1+o.2)
theorem Y01{L:List Ob}{s z:Int}:Jf9 L s z=true↔∃o∈L,(o.1:Int)<s+z/\s<o.1+o.2:=by simp[Jf9]
theorem V3K{n:Nat}{L:List Ob}(h:Q4l n L){s z:Int}(hz:1<=z):Jf9 L s z=(decide (ZH8 L s<L.length)||(decide (Jxr L s<L.length)&&decide (((L[Jxr L s]?.getD (0,0)).1:Int)<s+z))):=by
 refine YRY ?_;rw[Y01];simp only[ζY,ζd,ζe];constructor
 ·rintro⟨o,ho,h1,h2⟩;by_cases hs:(o.1:Int)<=s
  ·left;obtain⟨j,hj,rfl⟩:=ζt ho;rw[XxN h hj hs h2];exact hj
  ·right;obtain⟨j,hj,rfl⟩:=ζt ho
   have hn:Jxr L s<=j:=by
    rcases γ j (Jxr L s)with X|Y
    ·have:=X9H X hj;omega
    ·exact Y
   refine⟨by omega,?_⟩;rw[δ Ω]
   show (L[Jxr L s].1:Int)<s+z
   rcases γ (Jxr L s) j with X|Y
   ·have:=h.at (i:=Jxr L s) Ω hj X;omega
   ·have e:L[Jxr L s]' Ω=L[j]:=by congr 1;omega
    rw[e];exact h1
 ·rintro(hf|⟨hn,hl⟩)
  ·have:=JBb hf;exact⟨_,χ hf,by omega,by omega⟩
  ·rw[δ hn]at hl;have hl:(L[Jxr L s].1:Int)<s+z:=hl;have hy:=XOX hn;have:=(h.sz _ (χ hn)).1;exact⟨_,χ hn,hl,by omega⟩
def ZbB(L:List Ob)(n:Nat)(s z:Int):Int:=if z<1 then 15 else if s<0\/(n:Int)<=s\/(n:Int)-s<z then 11 else if Jf9 L s z then 7 else 0
def VI0(L:List Ob)(n:Nat)(s z:Int):List Ob:=if ZbB L n s z=0 then VZz L (s.toNat,z.toNat)else L
theorem YLm{L:List Ob}{n:Nat}{s z:Int}(h:ZbB L n s z=0):1<=z/\0<=s/\s+z<=n/\Jf9 L s z=false:=by
 unfold ZbB at h
 split at h
 ·omega
 ·split at h
  ·omega
  ·split at h
   ·omega
   ·rename_i h1 h2 h3;refine⟨by omega,by omega,by omega,by simpa using h3⟩
theorem XCZ{L:List Ob}{s z:Int}(hs:0<=s)(hz:1<=z)(h:Jf9 L s z=false):∀q∈L,s.toNat+z.toNat<=q.1\/q.1+q.2<=s.toNat:=λq hq=>by
 by_cases hc:(q.1:Int)<s+z/\s<q.1+q.2
 ·have:=Y01.2 ⟨q,hq,hc⟩;rw[h]at this;cases this
 ·omega
theorem V9U{n:Nat}{L:List Ob}(h:Q4l n L)(s z:Int):Q4l n (VI0 L n s z):=by
 unfold VI0
 split
 ·rename_i he;obtain⟨h1,h2,h3,h4⟩:=YLm he;exact VuR h (by show 1<=z.toNat;omega) (by show s.toNat+z.toNat<=n;omega) (XCZ h2 h1 h4)
 ·exact h
theorem V9f(n:Nat):VC5 n []=List.replicate n false:=by unfold VC5;exact J2X (by simp) (λi hi=>by rw[Qn0];simp[at_,φ,ζD];split <;> rfl)
theorem JfC(n:Nat):JsC n []=List.replicate n false:=by unfold JsC;exact J2X (by simp) (λi hi=>by rw[Qn0];simp[at_,φ,ζD];split <;> rfl)
end
section
open Go.RowKit Word
def nbl(n B:Nat):Nat:=(n+B-1)/B
theorem QnL{n B j:Nat}(hB:1<=B)(h1:n<=j*B)(h2:∀i,i<j->i*B<n):nbl n B=j:=by
 unfold nbl;refine Nat.div_eq_of_lt_le ?_ ?_
 ·cases j with
  | zero=>simp
  | succ i=>
   have:=h2 i Ω;rw[ζ6];omega
 ·rw[ζ6];omega
theorem VjL{n B j:Nat}(hB:1<=B):j<nbl n B↔j*B<n:=by
 unfold nbl;constructor
 ·intro h;have h2:=(ζ3 (by omega:0<B)).1 (show j+1<=(n+B-1)/B from h);rw[ζ6]at h2;omega
 ·intro h
  show j+1<=_
  rw[ζ3 Ω,ζ6];omega
end
section
open Go.RowKit Word
end
section
open Go.RowKit Word
structure Idx(w:World)(x p b a:Nat)(l:List Bool)(B:Nat):Prop where
 vec:Vec w p b l
 b1:1<=B
 b2:B<=1024
 hx:x<w.heap.size
 ha:a<w.heap.size
 c0:w.cell? ⟨x,0,none⟩=some (.pointer (some ⟨p,0,none⟩))
 c1:∃cap,w.cell? ⟨x,1,none⟩=some (.slice (some ⟨a,0,none⟩) (nbl l.length B) cap)
 c2:w.cell? ⟨x,2,none⟩=some (.int .i64 B)
 c3:w.cell? ⟨x,3,none⟩=some (.int .i64 (cnt (at_ l) l.length:Nat))
 ca:∀j,j<nbl l.length B->w.cell? ⟨a,j,none⟩=some (.int .i64 (cnt (at_ l) (j*B):Nat))
theorem Idx.touch{S:Nat->Prop}{w w':World}{x p b a:Nat}{l:List Bool}{B:Nat}(h:Idx w x p b a l B)(t:XF4 S w w')(h1:¬S x)(h2:¬S p)(h3:¬S b)(h4:¬S a):Idx w' x p b a l B:=by
 obtain⟨X,hc⟩:=h.c1
 exact⟨h.vec.touch t h2 h3,h.b1,h.b2,ω h.hx t.size,ω h.ha t.size,by rw[t.cell h.hx h1];exact h.c0,⟨X,by rw[t.cell h.hx h1];exact hc⟩,by rw[t.cell h.hx h1];exact h.c2,
  by rw[t.cell h.hx h1];exact h.c3,λj hj=>by rw[t.cell h.ha h4];exact h.ca j hj⟩
theorem Idx.gr{w w':World}{x p b a:Nat}{l:List Bool}{B:Nat}(h:Idx w x p b a l B)(t:Gr w w'):Idx w' x p b a l B:=h.touch (t.touch (λ_=>False)) (λh=>h) (λh=>h) (λh=>h) (λh=>h)
theorem J5D{n B:Nat}(h:1<=B):nbl n B<=n:=by
 rcases γ n (nbl n B)with h1|h1
 ·have:=(VjL h).1 h1;have h2:n*1<=n*B:=Nat.mul_le_mul_left n h;omega
 ·exact h1
theorem ZsP{w:World}{x p b a:Nat}{l:List Bool}{B:Nat}(hX:Idx w x p b a l B):
  Calls prog 207 #[.pointer (some ⟨x,0,none⟩)] w λe w'=>e=.returned (.int .i64 (cnt (at_ l) l.length:Nat))/\w=w':=by
 have c3:=hX.c3;have HX:=hid hX;clear hX;go_enter func207,ntmps207;go_wp2;go_ret;exact⟨rfl,rfl⟩
end
section
open Go.RowKit Word
theorem VlR(l:List Bool){b:Int}(h:b<=0):QnT l 0 b=0:=by
 rw[Y7X];unfold ZIf;have:cnt (λi=>decide ((0:Int)<=(i:Nat)/\((i:Nat):Int)<b)&&at_ l i) l.length=cnt (λ_=>false) l.length:=XmU (λi _=>by rw[ψ Ω];rfl);rw[this];generalize l.length=n
 induction n with
 | zero=>rfl
 | succ n ih=>rw[Z10,ih];rfl
set_option maxHeartbeats 1600000 in
theorem Zde{w:World}{x p b a:Nat}{l:List Bool}{B:Nat}(hX:Idx w x p b a l B)(i:Int):
  V4y prog 213 #[.pointer (some ⟨x,0,none⟩),.int .i64 i] w (.int .i64 (QnT l 0 i:Nat)):=by
 have HX:=hid hX;have k0:=hX.c0;have k2:=hX.c2;have k3:=hX.c3;obtain⟨O,k1⟩:=hX.c1;have n2:=hX.vec.n2;clear hX;unfold V4y;by_cases h0:i<=0
 ·have d0:decide (i<=0)=true:=by simp[h0]
  rw[VlR l h0];clear k0 k1 k2 k3;go_enter func213,ntmps213;go_wp2;go_ret;exact⟨rfl,Gr.refl _⟩
 ·obtain⟨r,rfl⟩:∃r:Nat,i=r:=⟨i.toNat,by omega⟩;have hr:0<r:=Ω
  have d0:decide ((r:Int)<=0)=false:=by simp;omega
  by_cases h1:l.length<=r
  ·have d1:decide (l.length<=r)=true:=by simp[h1]
   rw[Vbb l Ω];obtain⟨N,hN⟩:∃N,N=cnt (at_ l) l.length:=⟨_,rfl⟩;rw[<-hN]at k3⊢;clear hN k1 k2;go_enter func213,ntmps213;go_wp2_with(go_at_call 139;refine(JoW HX.o.vec).mono ?_;rintro e w1 ⟨rfl,rfl⟩);go_ret;exact⟨rfl,Gr.refl _⟩
  ·have d1:decide (l.length<=r)=false:=by simp;omega
   obtain⟨j,hj⟩:∃j,j=r/B:=⟨_,rfl⟩;have hB:=HX.o.b1;have hB2:=HX.o.b2;have V:j*B<=r:=by rw[hj];exact ζm r B
   have J:j<nbl l.length B:=(VjL hB).2 Ω;have ka:=HX.o.ca j J;have q1:((r:Int).tdiv (B:Int))=(j:Int):=by rw[hj];rfl
   have q2:((r:Int)/(B:Int))=(j:Int):=by rw[hj];rfl
   obtain⟨t,ht⟩:∃t,t=j*B:=⟨_,rfl⟩;have M:(j:Int)*(B:Int)=(t:Int):=by rw[ht,Int.natCast_mul]
   have hs:=V9n l (a:=0) (b:=(t:Int)) (c:=(r:Int)) Ω Ω;have hu:=V58 l (r:=t) Ω;rw[<-ht]at ka;rw[hu]at hs;obtain⟨c1,Z⟩:∃c,c=cnt (at_ l) t:=⟨_,rfl⟩;obtain⟨c2,X⟩:∃c,c=QnT l (t:Int) (r:Int):=⟨_,rfl⟩;obtain⟨c3,Y⟩:∃c,c=QnT l 0 (r:Int):=⟨_,rfl⟩;have hb1:c1<=1048576:=by have:=QMh (at_ l) t;omega
   have hb2:c2<=1048576:=by have:=QMh (Xkh l (t:Int) (r:Int)) l.length;unfold QnT at X;omega
   rw[<-Z]at ka hs;rw[<-X,<-Y]at hs;rw[<-Y];obtain⟨N,hN⟩:∃N,N=nbl l.length B:=⟨_,rfl⟩;rw[<-hN]at J k1;have I:=hid hN;have htb:(t:Int)<=1048576:=Ω
   have hBp:(B:Int)≠0:=Ω
   have H2:=hid X.symm;have HS:=hid hs;clear Z X Y hN hj ht hu hs V k3;have hjb:(j:Int)<N:=Ω
   have hjl:j<=1048576:=by have:=J5D (n:=l.length) hB;have:=I.o;omega
   have w3:IntKind.i64.wrap ((j:Int)*(B:Int))=(t:Int):=by rw[M,ζA _ Ω]
   have w4:IntKind.i64.wrap ((c1:Int)+(c2:Int))=(c3:Int):=by rw[HS.o,ζA _ (by have:=HS.o;omega)]
   have z0:∀xs m,(grow w xs m).cell? ⟨x,0,none⟩=some (.pointer (some ⟨p,0,none⟩)):=λxs m=>((grown w xs m).cell HX.o.hx 0).trans k0;have z1:∀xs m,(grow w xs m).cell? ⟨x,1,none⟩=some (.slice (some ⟨a,0,none⟩) N O):=λxs m=>((grown w xs m).cell HX.o.hx 1).trans k1;have z2:∀xs m,(grow w xs m).cell? ⟨x,2,none⟩=some (.int .i64 B):=λxs m=>((grown w xs m).cell HX.o.hx 2).trans k2;have z4:∀xs m,(grow w xs m).cell? ⟨a,j,none⟩=some (.int .i64 c1):=λxs m=>((grown w xs m).cell HX.o.ha j).trans ka;go_enter func213,ntmps213;go_upto_region 6 with(go_at_call 139;refine(JoW HX.o.vec).mono ?_;rintro e w1 ⟨rfl,rfl⟩);refine XAX (by kernel_rfl) (by kernel_rfl) ?_
   repeat(go_big_quiet_step (first
    | (go_at_call 229;have hc:=λxs m=>V7Z (HX.o.vec.gr (grown w xs m)) (t:Int) (r:Int) Ω;simp only[H2.o]at hc;exact V4y.grown (hc _ _))))
   refine θ ?_;intro _ E;obtain⟨⟨xs,nq⟩,U⟩:=E;subst U;go_wp2;go_ret;exact⟨by first|rfl|exact ZzN HS.o,grown w _ _⟩
end
section
open Go.RowKit Word
set_option maxHeartbeats 1600000 in
theorem Qza(g:FuncId)(b1 b2:Addr)(n:Nat)(hn:n<=1048576)(t:Nat->Bool)(w:World)
  (hg:∀args W,(callFunc g args).run prog W=.ok (.enter g args) W)
  (hm:∀i j,i<=j->j<n->t i=true->t j=true)
  (hf:∀i W,i<n->Gr w W->Calls prog g #[.int .i64 (i:Nat),.pointer (some b1),.pointer (some b2)] W (λe W'=>e=.returned (.bool (t i))/\Gr W W')):
  V4y prog 242 #[.int .i64 n,.func (.func g) #[] #[.pointer (some b1),.pointer (some b2)]] w (.int .i64 (first t n:Nat)):=by
 have HF:=hid hf;have HM:=hid hm;clear hf hm;unfold V4y;go_enter func242,ntmps242;go_wp2
 go_loopw [5,6] (λx y wr=>∃lo hi:Nat,lo<=hi/\hi<=n/\Hid (∀i,i<lo->t i=false)/\Hid (hi<n->t hi=true)/\Hid (Gr w wr)/\x=.int .i64 lo/\y=.int .i64 hi) (λx y _=>(intOf y).toNat-(intOf x).toNat)
 case atStart=>exact⟨0,n,by omega,by omega,⟨λi h=>by omega⟩,⟨λh=>by omega⟩,⟨Gr.refl _⟩,rfl,rfl⟩
 case round=>
  obtain⟨lo,hi,h1,h2,hl,hh,hG,rfl,rfl⟩:=hrel;by_cases hlt:lo<hi
  ·obtain⟨m,Y⟩:∃m,m=(lo+hi)/2:=⟨_,rfl⟩;have hm1:lo<=m/\m<hi:=Ω
   have q1:((lo:Int)+(hi:Int))/2=(m:Int):=Ω
   clear Y;cases ht:t m with
   | false=>
    have HC:=hid (HF.o m wr Ω hG.o);have HN:=hid ht;go_wp2_with(refine HC.o.mono ?_;rintro e W2 ⟨rfl,h2⟩;rw[HN.o];have X:=hid (hG.o.trans h2);clear h2);go_roundw
    case rel=>
     refine⟨m+1,hi,by omega,by omega,⟨λi hi'=>?_⟩,hh,X,by go_num,rfl⟩;cases hti:t i with
     | false=>rfl
     | true=>have:=HM.o i m Ω Ω hti;rw[HN.o]at this;cases this
    case measure=>simp[intOf];omega
   | true=>
    have HC:=hid (HF.o m wr Ω hG.o);have HN:=hid ht;go_wp2_with(refine HC.o.mono ?_;rintro e W2 ⟨rfl,h2⟩;rw[HN.o];have X:=hid (hG.o.trans h2);clear h2);go_roundw
    case rel=>exact⟨lo,m,by omega,by omega,hl,⟨λ_=>HN.o⟩,X,rfl,by go_num⟩
    case measure=>simp[intOf];omega
  ·obtain rfl:lo=hi:=Ω
   have E:=hid (XFN h2 hl.o hh.o);go_wp2;go_ret;exact⟨ZzN (by rw[E.o]),hG.o⟩
end
section
open Go.RowKit Word
theorem Q3a(l:List Bool){a q:Nat}(h:cnt (at_ l) a=q):ZnF l (a:Int)=X5b l q:=by
 obtain⟨j,hj⟩:∃j,j=ZnF l (a:Int):=⟨_,rfl⟩;have hle:j<=l.length:=by rw[hj];exact Xgi _ _
 have Z:∀i,i<j->¬(at_ l i=true/\a<=i):=λi hi hc=>by
  have:=ZGm (λi=>at_ l i&&decide ((a:Int)<=i)) l.length i (by rw[hj]at hi;exact hi);simp[hc.1]at this;omega
 rw[<-hj];rcases γ j l.length with X|hge
 ·have J:=JyT (λi=>at_ l i&&decide ((a:Int)<=i)) l.length (by rw[hj]at X;exact X)
  have Y:at_ l j=true/\(a:Int)<=j:=by
   have e:first (λi=>at_ l i&&decide ((a:Int)<=i)) l.length=j:=hj.symm
   rw[e]at J;simpa using J
  have hc:cnt (at_ l) j=q:=by
   rw[<-h]
   exact ZC7 Ω (λi h1 h2=>by
    cases hi:at_ l i with
    | false=>rfl
    | true=>exact absurd ⟨hi,h1⟩ (Z i h2))
  exact(ZiF X Y.1 hc).symm
 ·have:cnt (at_ l) l.length<=q:=by
   rw[<-h];rcases γ a l.length with h1|h1
   ·rw[ZC7 (m:=a) Ω (λi h2 h3=>by
     cases hi:at_ l i with
     | false=>rfl
     | true=>exact absurd ⟨hi,h2⟩ (Z i Ω))]
    exact π _
   ·exact ZoC _ h1
  rw[VZZ this];omega
theorem Z7T{l:List Bool}{q:Nat}(h:q<cnt (at_ l) l.length):ZnF l ((X5b l q:Int)+1)=X5b l (q+1):=by
 obtain⟨h1,h2,h3⟩:=Zmr h;have:=Q3a l (a:=X5b l q+1) (q:=q+1) (by rw[Z10,h2,h3];rfl);rw[<-this];rfl
set_option maxHeartbeats 1600000 in
theorem VVz{w:World}{x p b a:Nat}{l:List Bool}{B:Nat}(hX:Idx w x p b a l B)(bx bk:Addr)(k:Nat)(hbx:w.cell? bx=some (.pointer (some ⟨x,0,none⟩)))(hbk:w.cell? bk=some (.int .i64 k))
  (i:Nat) (hi:i<nbl l.length B):
  Calls prog 243 #[.int .i64 i,.pointer (some bx),.pointer (some bk)] w λe w'=>e=.returned (.bool (decide (k<cnt (at_ l) (i*B))))/\Gr w w':=by
 obtain⟨cap,c1⟩:=hX.c1;have ca:=hX.ca i hi;have n2:=hX.vec.n2;have hN:=J5D (n:=l.length) hX.b1;obtain⟨N,X⟩:∃N,N=nbl l.length B:=⟨_,rfl⟩;obtain⟨C,hC⟩:∃C,C=cnt (at_ l) (i*B):=⟨_,rfl⟩;rw[<-X]at c1 hi hN;rw[<-hC]at ca⊢;have hi':(i:Int)<(N:Int):=Ω
 have hi0:(0:Int)<=(i:Int):=Ω
 have hN2:N<=1048576:=Ω
 clear hX X hC hN n2;go_enter func243,ntmps243;go_upto_region 1 with(fail);go_quiet (fail);go_wp2;go_ret;exact⟨Zbf (by simp),(Gr.refl w).drewN _⟩
end
section
open Go.RowKit Word
theorem YDO(l:List Bool){B k:Nat}(hB:1<=B)(hk:k<cnt (at_ l) l.length):
  ∃j,first (λi=>decide (k<cnt (at_ l) (i*B))) (nbl l.length B)=j+1/\j<nbl l.length B/\cnt (at_ l) (j*B)<=k:=by
 obtain⟨f,hf⟩:∃f,f=first (λi=>decide (k<cnt (at_ l) (i*B))) (nbl l.length B):=⟨_,rfl⟩
 have hle:f<=nbl l.length B:=by rw[hf];exact Xgi _ _
 have hn:0<l.length:=by
  rcases ζE l.length with h|h
  ·rw[h,YAO]at hk;omega
  ·exact h
 have hN:0<nbl l.length B:=(VjL hB).2 Ω
 have h0:f≠0:=λh=>by
  have:=JyT (λi=>decide (k<cnt (at_ l) (i*B))) (nbl l.length B) (by rw[<-hf,h];exact hN);rw[<-hf,h]at this;simp[YAO]at this
 obtain⟨j,rfl⟩:∃j,f=j+1:=⟨f-1,by omega⟩;refine⟨j,hf.symm,by omega,?_⟩;have:=ZGm (λi=>decide (k<cnt (at_ l) (i*B))) (nbl l.length B) j (by rw[<-hf];omega);simpa using this
theorem JEG{w:World}(u v:Value)(T1 T2:TypeId):
  Gr w ((w.alloc (.cells #[u] T1)).alloc (.cells #[v] T2))/\((w.alloc (.cells #[u] T1)).alloc (.cells #[v] T2)).cell? ⟨w.heap.size,0,none⟩=some u/\((w.alloc (.cells #[u] T1)).alloc (.cells #[v] T2)).cell? ⟨w.heap.size+1,0,none⟩=some v:=by
 refine⟨((Gr.refl w).alloc _).alloc _,?_,?_⟩
 ·rw[ψh (h:=by simp)];exact ζq ..
 ·have h:=ζq (w:=w.alloc (.cells #[u] T1)) (c:=#[v]) (t:=T2) (i:=0);rw[η]at h;exact h
set_option maxHeartbeats 1600000 in
theorem Zo5{w:World}(x:Nat)(q:Int)(hq:q<0):V4y prog 241 #[.pointer (some ⟨x,0,none⟩),.int .i64 q] w (.tuple #[.int .i64 0,.bool false]):=by
 have d0:decide (q<0)=true:=by simp[hq]
 unfold V4y;go_enter func241,ntmps241;go_upto_region 1 with(fail);obtain⟨hg,c1,c2⟩:=JEG (w:=w) (.pointer (some ⟨x,0,none⟩)) (.int .i64 q) 277 3;generalize (w.alloc (.cells #[.pointer (some ⟨x,0,none⟩)] 277)).alloc (.cells #[.int .i64 q] 3)=W2 at *
 go_quiet (fail);go_wp2;go_ret2;exact⟨Qh8 rfl rfl,hg.drewN _⟩
set_option maxHeartbeats 1600000 in
theorem V1d{w:World}{x p b a:Nat}{l:List Bool}{B:Nat}(hX:Idx w x p b a l B)(q:Nat)(hq:cnt (at_ l) l.length<=q):
  V4y prog 241 #[.pointer (some ⟨x,0,none⟩),.int .i64 q] w (.tuple #[.int .i64 0,.bool false]):=by
 obtain⟨N,hN⟩:∃N,N=cnt (at_ l) l.length:=⟨_,rfl⟩;have k3:=hX.c3;rw[<-hN]at k3 hq;have hx:=hX.hx;have d0:decide ((q:Int)<0)=false:=by simp
 have d1:decide (N<=q)=true:=by simp[hq]
 clear hX hN hq;unfold V4y;go_enter func241,ntmps241;go_upto_region 1 with(fail);obtain⟨hg,c1,c2⟩:=JEG (w:=w) (.pointer (some ⟨x,0,none⟩)) (.int .i64 q) 277 3;generalize (w.alloc (.cells #[.pointer (some ⟨x,0,none⟩)] 277)).alloc (.cells #[.int .i64 q] 3)=W2 at *
 have c3:=(hg.cell hx 3).trans k3;go_quiet (fail);go_wp2;go_ret2;exact⟨Qh8 rfl rfl,hg.drewN _⟩
theorem Zrb(args:Array Value)(W:World):(callFunc 243 args).run prog W=.ok (.enter 243 args) W:=by kernel_rfl
set_option maxHeartbeats 1600000 in
theorem JlP{w:World}{x p b a:Nat}{l:List Bool}{B:Nat}(hX:Idx w x p b a l B)(hT:VRW w)(k:Nat)(hk:k<cnt (at_ l) l.length):
  V4y prog 241 #[.pointer (some ⟨x,0,none⟩),.int .i64 k] w (.tuple #[.int .i64 (X5b l k:Nat),.bool true]):=by
 have HX:=hid hX;have HT:=hid hT;have HK:=hid hk;obtain⟨j,L,V,Y⟩:=YDO l hX.b1 hk;obtain⟨N,hN⟩:∃N,N=cnt (at_ l) l.length:=⟨_,rfl⟩;have k0:=hX.c0;have k2:=hX.c2;have k3:=hX.c3;obtain⟨Z,k1⟩:=hX.c1;have ka:=hX.ca j V;have hx:=hX.hx;have n2:=hX.vec.n2;have Xa:=J5D (n:=l.length) hX.b1;have hb2:=hX.b2;rw[<-hN]at k3;have hNk:k<N:=by rw[hN];exact hk
 have A:N<=l.length:=by rw[hN];exact QMh _ _
 have d0:decide ((k:Int)<0)=false:=by simp
 have d1:decide (N<=k)=false:=by simp;omega
 have hkb:k<=1048576:=Ω
 have Xc:j*B<l.length:=(VjL hX.b1).1 V;obtain⟨t,ht⟩:∃t,t=j*B:=⟨_,rfl⟩;rw[<-ht]at Xc ka Y;obtain⟨c,hc⟩:∃c,c=cnt (at_ l) t:=⟨_,rfl⟩;rw[<-hc]at ka Y;have hw3:IntKind.i64.wrap ((j:Int)*(B:Int))=(t:Int):=by rw[show (j:Int)*(B:Int)=(t:Int)by rw[ht,Int.natCast_mul],ζA _ Ω]
 have D:=hid (Q3a l hc.symm);have HP:Hid (∀n,n<=k->X5b l n<l.length):=⟨λn hn=>(Zmr (l:=l) (q:=n) Ω).1⟩;have Xd:Hid (∀n,n<=k->ZnF l ((X5b l n:Int)+1)=X5b l (n+1)):=⟨λn hn=>Z7T Ω⟩;obtain⟨M,hM⟩:∃M,M=nbl l.length B:=⟨_,rfl⟩;have G:=hid L;rw[<-hM]at k1 V Xa;have HM:=hid hM;have hjM:(j:Int)<M:=Ω
 clear hX hk hN ht hc L hM hT A;unfold V4y;go_enter func241,ntmps241;go_upto_region 1 with(fail);obtain⟨hg,c1,c2⟩:=JEG (w:=w) (.pointer (some ⟨x,0,none⟩)) (.int .i64 k) 277 3;generalize (w.alloc (.cells #[.pointer (some ⟨x,0,none⟩)] 277)).alloc (.cells #[.int .i64 k] 3)=W2 at *
 have z0:=(hg.cell hx 0).trans k0;have z1:=(hg.cell hx 1).trans k1;have z2:=(hg.cell hx 2).trans k2;have z3:=(hg.cell hx 3).trans k3;have K1:=hid k1;clear k0 k1 k2 k3;have HG:=hid hg;have HC:=hid (ν c1 c2);clear hg;go_quiet (fail)
 have HS:=hid (Qza 243 ⟨w.heap.size,0,none⟩ ⟨w.heap.size+1,0,none⟩ M Ω (λi=>decide (k<cnt (at_ l) (i*B))) (W2.drewN nq) Zrb
  (λi i' h1 h2 h3=>by
   have:=ZoC (at_ l) (ζl B h1)
   simp at h3⊢;omega)
  (λi W hi hgW=>VVz (HX.o.gr ((HG.o.drewN nq).trans hgW)) _ _ k (by
    rw[hgW.cell (b:=w.heap.size) (by have:=ZQf HC.o.1;exact this)];exact HC.o.1) (by
    rw[hgW.cell (b:=w.heap.size+1) (by have:=ZQf HC.o.2;exact this)];exact HC.o.2) i (by rw[<-HM.o];exact hi)))
 rw[HM.o,G.o,<-HM.o]at HS;have hmf:∀(fn:Fn) (first Z:Array Value) (w:World),(Instr.makeFunc fn first Z).run prog w=.ok (.func fn first Z) w:=λ_ _ _ _=>rfl;go_upto_region 4 with(go_at_call 242;refine HS.o.mono ?_;rintro e W3 ⟨rfl,h3⟩;have X:=hid (HG.o.trans (((Gr.refl W2).drewN nq).trans h3));have y0:=(h3.cell (b:=w.heap.size) (ZQf HC.o.1) 0).trans HC.o.1;have y1:=(h3.cell (b:=w.heap.size+1) (ZQf HC.o.2) 0).trans HC.o.2;clear h3);have v0:=(X.o.cell hx 0).trans HX.o.c0;have v2:=(X.o.cell hx 2).trans HX.o.c2
 have v1:W3.cell? ⟨x,1,none⟩=some (.slice (some ⟨a,0,none⟩) M Z):=by
  exact(X.o.cell hx 1).trans K1.o
 have va:W3.cell? ⟨a,j,none⟩=some (.int .i64 c):=(X.o.cell HX.o.ha j).trans ka;have E:=hid (HX.o.vec.gr X.o);have J:=hid (X.o.tab HT.o.lt HT.o);have O:=HP.o c Y
 have HN:Hid (∀n,Calls prog 203 #[.pointer (some ⟨p,0,none⟩),.int .i64 t] (W3.drewN n) λe w'=>e=.returned (.tuple #[.int .i64 (X5b l c:Nat),.bool true])/\w'=W3.drewN n):=⟨λn=>
  (QUF (E.o.gr ((Gr.refl W3).drewN n)) (((Gr.refl W3).drewN n).tab J.o.lt J.o) t).mono λe w' ⟨he,hw⟩=>⟨by rw[he,D.o,Jpj O,κ O],hw.symm⟩⟩
 clear z0 z1 z2 z3 ka HS;go_quiet ((go_at_call 203;exact Calls.quiet_of_same (HN.o _)));go_wp2
 go_loop [7,9] (λs7 s9=>∃n:Nat,c<=n/\n<=k/\s7=.int .i64 (X5b l n:Nat)/\s9=.int .i64 n) (λ_ s9=>k-(intOf s9).toNat)
 case atStart=>exact⟨c,π _,Y,rfl,rfl⟩
 case round=>
  obtain⟨n,hn1,I,rfl,rfl⟩:=hrel;have hp:=HP.o n I;obtain⟨r,hr⟩:∃r,r=X5b l n:=⟨_,rfl⟩;have HE:=Xd.o n I;rw[<-hr]at hp HE⊢;by_cases hlt:n<k
  ·have U:=HP.o (n+1) Ω;have Xb:=hid HE;have HR:=hid (ν (Jpj U) (κ U));clear hr HE U;go_wp2_with(go_at_call 203;refine(QUF (E.o.gr ((Gr.refl W3).drewN _)) (((Gr.refl W3).drewN _).tab J.o.lt J.o) _).mono ?_;rintro e w' ⟨rfl,rfl⟩;rw[Xb.o,HR.o.1,HR.o.2]);go_round
   case rel=>exact⟨n+1,by omega,by omega,rfl,by go_num⟩
   case measure=>simp[intOf];omega
  ·obtain rfl:n=k:=Ω
   have HR:=hid hr;clear hr HE;go_wp2;go_ret2;exact⟨Qh8 (by rw[HR.o];rfl) rfl,X.o.drewN _⟩
theorem Qax{w:World}{x p b a:Nat}{l:List Bool}{B:Nat}(hX:Idx w x p b a l B)(hT:VRW w)(q:Int):
  V4y prog 241 #[.pointer (some ⟨x,0,none⟩),.int .i64 q] w (.tuple #[.int .i64 (Jid l q),.bool (Yka l q)]):=by
 by_cases h:q<0
 ·have e1:Jid l q=0:=by unfold Jid;rw[μ h]
  have e2:Yka l q=false:=by unfold Yka;rw[ψ Ω];rfl
  rw[e1,e2];exact Zo5 x q h
 ·obtain⟨k,rfl⟩:∃k:Nat,q=k:=⟨q.toNat,by omega⟩;have e1:Jid l k=JHm l.length (X5b l k):=by unfold Jid;rw[ϑ h,τ]
  have e2:Yka l k=decide (X5b l k<l.length):=by unfold Yka;rw[κ Ω,τ];rfl
  rw[e1,e2];rcases γ k (cnt (at_ l) l.length)with hk|hk
  ·have:=(Zmr hk).1;rw[Jpj this,κ this];exact JlP hX hT k hk
  ·have:=VZZ hk;rw[this,JEJ Ω,ψ Ω];exact V1d hX k hk
end
section
open Go.RowKit Word
theorem QTm:(prog.info? 3).map (λi=>(i.zero,i.size,i.bytes))=some (some (.int .i64 0),1,8):=by kernel_rfl
def ZQP(w:World)(l:List Bool)(B:Nat)(e:Ending)(w':World):Prop:=
 ∃x p b a,e=.returned (.tuple #[.pointer (some ⟨x,0,none⟩),.int .i64 0])/\Gr w w'/\Idx w' x p b a l B/\w.heap.size<=x/\w.heap.size<=p/\w.heap.size<=b/\w.heap.size<=a
def VHU(l:List Bool)(B k:Nat):List Value:=(List.range k).map λj=>Value.int .i64 (cnt (at_ l) (j*B):Nat)
theorem X5M(l:List Bool)(B k:Nat):VHU l B (k+1)=VHU l B k++[.int .i64 (cnt (at_ l) (k*B):Nat)]:=by
 unfold VHU;rw[ψC,ζO];rfl
structure ZL0(w:World)(l:List Bool)(B X p b BASE k m:Nat)(v:Value)(wr:World):Prop where
 gr:Gr w wr
 vec:Vec wr p b l
 own:wr.ownsRow BASE 3 1 v k (VHU l B k)
 c0:wr.cell? ⟨X,0,none⟩=some (.pointer (some ⟨p,0,none⟩))
 c1:wr.cell? ⟨X,1,none⟩=some v
 c2:wr.cell? ⟨X,2,none⟩=some (.int .i64 B)
 c3:wr.cell? ⟨X,3,none⟩=some (.int .i64 (QnT l 0 (m*B:Nat):Nat))
 free:∀o,wr.frozen? ⟨X,o,none⟩=false
 lt:X<BASE
 ltp:p<X
 ltb:b<X
 ge:w.heap.size<=p/\w.heap.size<=b
 base:BASE<=wr.heap.size
theorem ZL0.far{w:World}{l:List Bool}{B X p b BASE k m:Nat}{v:Value}{wr:World}(h:ZL0 w l B X p b BASE k m v wr):v.ownBlock≠some X:=λe=>by
 have:=(Vvr h.own e).1;have:=h.lt;omega
theorem ZL0.grow{w:World}{l:List Bool}{B X p b BASE k m:Nat}{v:Value}{wr wr':World}(h:ZL0 w l B X p b BASE k m v wr)(g:Gr wr wr'):ZL0 w l B X p b BASE k m v wr':=by
 have hX:X<wr.heap.size:=by have:=h.lt;have:=h.base;omega
 exact⟨h.gr.trans g,h.vec.gr g,Y9I h.own g,(g.cell hX 0).trans h.c0,(g.cell hX 1).trans h.c1,(g.cell hX 2).trans h.c2,(g.cell hX 3).trans h.c3,λo=>(g.frozen hX o).trans (h.free o),h.lt,h.ltp,h.ltb,h.ge,ζb h.base g.size⟩
theorem ZL0.append{w:World}{l:List Bool}{B X p b BASE k m:Nat}{v:Value}{wr w1:World}(h:ZL0 w l B X p b BASE k m v wr){g c:Nat}
  (hown:w1.ownsRow BASE 3 1 (.slice (some ⟨g,0,none⟩) (k+1) c) (k+1) (VHU l B (k+1))) (hgrow:wr.grownBy w1 v.ownBlock):
  ZL0 w l B X p b BASE (k+1) m (.slice (some ⟨g,0,none⟩) (k+1) c) (w1.setCell ⟨X,1,none⟩ (.slice (some ⟨g,0,none⟩) (k+1) c)):=by
 have hX:X<wr.heap.size:=by have:=h.lt;have:=h.base;omega
 have t:XF4 (λi=>v.ownBlock=some i) wr w1:=VxQ hgrow _ (λk e _=>e);have t2:XF4 (λi=>i=X) w1 (w1.setCell ⟨X,1,none⟩ (.slice (some ⟨g,0,none⟩) (k+1) c)):=(XF4.refl (λi=>i=X) w1).setCell (a:=⟨X,1,none⟩) (λ_=>rfl) _;have Y:∀i,i<BASE->v.ownBlock≠some i:=λi hi e=>by have:=(Vvr h.own e).1;omega
 have hX1:X<w1.heap.size:=ω hX t.size;have e:∀o,w1.cell? ⟨X,o,none⟩=wr.cell? ⟨X,o,none⟩:=λo=>t.cell hX (Y X h.lt) o
 have o:∀o,o≠1->(w1.setCell ⟨X,1,none⟩ (.slice (some ⟨g,0,none⟩) (k+1) c)).cell? ⟨X,o,none⟩=wr.cell? ⟨X,o,none⟩:=λo ho=>by
  rw[ξA (h:=by intro e2;injection e2 with _ e3;omega),e o]
 have hp:=h.ltp;have hb:=h.ltb;have hl:=h.lt;refine⟨?_,?_,?_,(o 0 Ω).trans h.c0,?_,(o 2 Ω).trans h.c2,(o 3 Ω).trans h.c3,?_,h.lt,h.ltp,h.ltb,h.ge,ζb h.base (ζb t.size t2.size)⟩
 ·refine(((h.gr.touch (λ_=>False)).trans' t (λi hi e=>?_)).trans' t2 (λi hi e=>?_)).gr
  ·have:=(Vvr h.own e).1;have:=h.ge;omega
  ·have e:i=X:=e;have:=h.ge;omega
 ·exact(h.vec.touch t (Y p Ω) (Y b Ω)).touch t2 Ω Ω
 ·refine Zs2 hown t2 (λi hi e=>?_);have e:i=X:=e;have:=(Vvr hown hi).1;omega
 ·exact ξm (h:=(e 1).trans h.c1) ..
 ·intro o;rw[ξd,t.frozen hX (Y X h.lt)];exact h.free o
theorem ZL0.count{w:World}{l:List Bool}{B X p b BASE k m:Nat}{v:Value}{wr:World}(h:ZL0 w l B X p b BASE k m v wr){m':Nat}{z:Int}(hz:z=(QnT l 0 (m' * B:Nat):Nat)):
  ZL0 w l B X p b BASE k m' v (wr.setCell ⟨X,3,none⟩ (.int .i64 z)):=by
 have hX:X<wr.heap.size:=by have:=h.lt;have:=h.base;omega
 have t2:XF4 (λi=>i=X) wr (wr.setCell ⟨X,3,none⟩ (.int .i64 z)):=(XF4.refl (λi=>i=X) wr).setCell (a:=⟨X,3,none⟩) (λ_=>rfl) _;have hp:=h.ltp;have hb:=h.ltb;have hl:=h.lt
 have o:∀o,o≠3->(wr.setCell ⟨X,3,none⟩ (.int .i64 z)).cell? ⟨X,o,none⟩=wr.cell? ⟨X,o,none⟩:=λo ho=>by
  rw[ξA (h:=by intro e2;injection e2 with _ e3;omega)]
 refine⟨?_,h.vec.touch t2 Ω Ω,?_,(o 0 Ω).trans h.c0,(o 1 Ω).trans h.c1,(o 2 Ω).trans h.c2,?_,?_,h.lt,h.ltp,h.ltb,h.ge,ζb h.base t2.size⟩
 ·refine((h.gr.touch (λ_=>False)).trans' t2 (λi hi e=>?_)).gr;have e:i=X:=e;have:=h.ge;omega
 ·refine Zs2 h.own t2 (λi hi e=>?_);have e:i=X:=e;have:=(Vvr h.own hi).1;omega
 ·rw[hz];exact ξm (h:=h.c3) ..
 ·intro o;rw[ξd];exact h.free o
theorem ZL0.done{w:World}{l:List Bool}{B X p b BASE k:Nat}{v:Value}{wr:World}(h:ZL0 w l B X p b BASE k k v wr)(h1:1<=B)(h2:B<=1024)(hk:k=nbl l.length B)(hl:l.length<=k*B):
  ∃a,Idx wr X p b a l B/\w.heap.size<=a:=by
 have hn:=h.vec.n1;have Z:k≠0:=by rintro rfl;omega
 obtain⟨g,c,rfl,hg1,hg2,hg3,Y⟩:=YTP h.own Z;have:=h.lt;have hb:=h.base;refine⟨g,⟨h.vec,h1,h2,by omega,Y,h.c0,⟨c,by rw[h.c1,hk]⟩,h.c2,?_,λj hj=>?_⟩,by have:=h.ge;have:=h.ltp;omega⟩
 ·rw[h.c3,Vbb l Ω]
 ·refine ZBn h.own ?_;unfold VHU;rw[ξZ,ξ4 Ω];rfl
set_option maxHeartbeats 800000 in
theorem JHa{w w1:World}{l:List Bool}{B q r:Nat}{T:TypeId}(hg:Gr w w1)(hV:Vec w1 q r l)(h1:w.heap.size<=q)(h2:w.heap.size<=r):
  ZL0 w l B w1.heap.size q r (w1.heap.size+1) 0 0 (.slice none 0 0) (w1.alloc (.cells #[.pointer (some ⟨q,0,none⟩),.slice none 0 0,.int .i64 B,.int .i64 0] T)):=by
 have hp:=hV.hp;have hb:=hV.hb;refine⟨hg.alloc _,hV.gr ((Gr.refl w1).alloc _),Vm9 _ _ _ _,ζq ..,ζq ..,ζq ..,?_,λo=>ξ9 ..,by omega,hp,hb,⟨h1,h2⟩,by simp⟩;rw[show QnT l 0 ((0*B:Nat):Int)=0 from VlR l (by simp)];exact ζq ..
set_option maxHeartbeats 800000 in
theorem XFA{w:World}{p b:Nat}{l:List Bool}(hV:Vec w p b l)(n:Int)(hn:Y1d n=false)(hn2:n<=9223372036854775807):
  Calls prog 205 #[.pointer (some ⟨p,0,none⟩),.int .i64 n] w λe w'=>e=.returned (.tuple #[.pointer none,.int .i64 5])/\w=w':=by
 have n1:((l.length:Int)==0)=false:=by have:=hV.n1;exact ζy.2 Ω
 have HV:=hid hV;rw[XYi]at hn;cases hp:XuW n with
 | false=>
  have HP:=hid hp;clear hp hn hV;go_enter func205,ntmps205
  go_wp2_with(first
   | (go_at_call 139;refine(JoW HV.o).mono ?_;rintro e w1 ⟨rfl,rfl⟩)
   | (go_at_call 119;refine(VWY n hn2 _).mono ?_;rintro e w1 ⟨rfl,rfl⟩;rw[HP.o]))
  go_ret2;exact⟨Qh8 rfl rfl,rfl⟩
 | true=>
  rw[hp]at hn;have d1:decide ((1024:Int)<n)=true:=by simp at hn;simp;omega
  have HP:=hid hp;clear hp hn hV;go_enter func205,ntmps205
  go_wp2_with(first
   | (go_at_call 139;refine(JoW HV.o).mono ?_;rintro e w1 ⟨rfl,rfl⟩)
   | (go_at_call 119;refine(VWY n hn2 _).mono ?_;rintro e w1 ⟨rfl,rfl⟩;rw[HP.o]))
  go_ret2;exact⟨Qh8 rfl rfl,rfl⟩
set_option maxHeartbeats 3200000 in
theorem Zv3{w:World}{p b:Nat}{l:List Bool}(hV:Vec w p b l)(B:Nat)(hB:Y1d B=true):
  Calls prog 205 #[.pointer (some ⟨p,0,none⟩),.int .i64 B] w (ZQP w l B):=by
 have n1:((l.length:Int)==0)=false:=by have:=hV.n1;exact ζy.2 Ω
 have n2:=hV.n2;have hb:=Quq hB;have Xf:1<=B:=Ω
 have Xn:B<=1024:=Ω
 have d1:decide ((1024:Int)<(B:Int))=false:=by simp;omega
 have HP:Hid (XuW B=true):=⟨by rw[XYi]at hB;simp at hB;exact hB.1⟩;obtain⟨i0,hi,Xl,Xm,Xi⟩:=info_parts QTm;have HV:=hid hV;clear hV hB hb;go_enter func205,ntmps205
 go_wp2_with(first
  | (go_at_call 139;refine(JoW HV.o).mono ?_;rintro e w1 ⟨rfl,rfl⟩)
  | (go_at_call 119;refine(VWY B Ω _).mono ?_;rintro e w1 ⟨rfl,rfl⟩;rw[HP.o])
  | (go_at_call 228;refine(Z27 HV.o).mono ?_;rintro e w1 ⟨q,r,rfl,D,Xh,Xa,Xg⟩))
 have G:=hid (JHa (B:=B) (T:=297) D Xh Xa Xg);generalize w1.alloc (.cells #[.pointer (some ⟨q,0,none⟩),.slice none 0 0,.int .i64 B,.int .i64 0] 297)=W2 at *
 obtain⟨X,hX⟩:∃X,X=w1.heap.size:=⟨_,rfl⟩;rw[<-hX]at G⊢;clear hX;clear D Xh Xa Xg
 go_loopw [7] (λs7 wr=>∃k t v,Hid (ZL0 w l B X q r (X+1) k k v wr)/\Hid (t=k*B)/\k<=t/\t<=1048576+1024/\Hid (∀i,i<k->i*B<l.length)/\s7=.int .i64 (t:Nat)) (λs7 _=>1048576+1025-(intOf s7).toNat)
 case atStart=>exact⟨0,0,_,G,⟨by simp⟩,by omega,by omega,⟨λi h=>by omega⟩,rfl⟩
 case round=>
  obtain⟨k,t,v,HN,ht,hkt,htb,A,rfl⟩:=hrel;by_cases Xq:t<l.length
  ·have Xj:Hid (∀i,i<k+1->i*B<l.length):=⟨λi h=>by
    rcases γ i k with h1|h1
    ·exact A.o i h1
    ·rw[show i=k by omega,<-ht.o];exact Xq⟩
   have L:Hid (t+B=(k+1)*B):=⟨by rw[ζ6,ht.o]⟩;go_upto_region 9 with(go_at_call 139;refine(JoW (HV.o.gr HN.o.gr)).mono ?_;rintro e w1 ⟨rfl,rfl⟩);have c1:=HN.o.c1;obtain⟨c,hc⟩:∃c,c=QnT l 0 (k*B:Nat):=⟨_,rfl⟩;have c3:=HN.o.c3;have fr:=HN.o.free 1;rw[<-hc]at c3
   have Xc:VHU l B (k+1)=VHU l B k++[.int .i64 (c:Nat)]:=by
    rw[X5M,hc,V58 l (by rw[<-ht.o];omega)]
   have Xr:=hid Xc;have HC:=hid hc;have HX:Hid (X<wr.heap.size):=⟨by have:=HN.o.base;omega⟩;clear Xc hc;have KS:Hid (∀W',Gr wr W'->W'.cell? ⟨X,1,none⟩=some v/\W'.cell? ⟨X,3,none⟩=some (.int .i64 (c:Nat))/\W'.frozen? ⟨X,1,none⟩=false):=⟨λW' h=>⟨(h.cell HX.o 1).trans c1,(h.cell HX.o 3).trans c3,(h.frozen HX.o 1).trans fr⟩⟩;obtain⟨S,hS⟩:∃S:World->Prop,S=λW'=>W'.cell? ⟨X,1,none⟩=some v/\W'.cell? ⟨X,3,none⟩=some (.int .i64 (c:Nat))/\W'.frozen? ⟨X,1,none⟩=false:=⟨_,rfl⟩;have x1:∀p:ZJV S,p.w.cell? ⟨X,1,none⟩=some v:=λp=>(ZJV.get hS p).1;have x3:∀p:ZJV S,p.w.cell? ⟨X,3,none⟩=some (.int .i64 (c:Nat)):=λp=>(ZJV.get hS p).2.1;have Z:S wr.drew:=by rw[hS];exact KS.o _ (Gr.refl _).drew
   have HS:=hid hS;clear hS;have U:Inhabited (ZJV S):=⟨⟨_,Z⟩⟩;refine Vv2 S 13 [([0,1,2,3,4,5,6,7,8],9),([],10),([11,12],13)] [] (by kernel_rfl) (by kernel_rfl) Z ?_;refine XGW ?_;simp only[XZy,ζ,ξ]
   repeat(go_big_quiet_step (fail))
   refine θ ?_;go_wp2;refine⟨.inr (ZJV.of (by rw[HS.o];exact KS.o _ ((Gr.refl _).alloc _).drew)),?_⟩;refine XGW ?_;simp only[XZy,ζ,ξ];refine θ ?_;go_wp2_with(at_builtin;refine wpList_append_lies _ rfl _ _ 66 rfl (X+1) 3 i0 _ 1 8 underlying66 hi Xl Xm Xi rfl Ω v k (VHU l B k) rfl ((HN.o.own.alloc _).drew) ⟨wr.heap.size,0,none⟩ 1 1 [.int .i64 (c:Nat)] rfl rfl (ξI (cs:=#[.int .i64 (c:Nat)]) (t:=3) (fr:=(0,0)) (heap_alloc_new wr _)) (by simp[Value.oneCell']) Ω (by unfold maxLen;omega) Ω (by have:=HX.o;simp;omega) (wr.heap.size+1) (by simp) ?_;intro g cp w1 V Y Xk I)
   go_frame
   have O:Gr wr (wr.alloc (.cells #[.int .i64 (c:Nat)] 3)).drew:=((Gr.refl _).alloc _).drew
   have N:w1.cell? ⟨X,1,none⟩=some v/\w1.cell? ⟨X,3,none⟩=some (.int .i64 (c:Nat))/\w1.frozen? ⟨X,1,none⟩=false:=by
    have hz:=KS.o _ O
    exact⟨(Y.cell_far ⟨X,1,none⟩ (by have:=HX.o;simp;omega) (Ne.symm HN.o.far)).trans hz.1,(Y.cell_far ⟨X,3,none⟩ (by have:=HX.o;simp;omega) (Ne.symm HN.o.far)).trans hz.2.1,
     (Y.frozen_far ⟨X,1,none⟩ (by have:=HX.o;simp;omega) (Ne.symm HN.o.far)).trans hz.2.2⟩
   refine⟨.inr (ZJV.of (by rw[HS.o];exact N)),?_⟩;have HM:=hid ((HN.o.grow O).append (by rw[Xr.o];exact V) Y);have k1:=N.1;have k3:=N.2.2;clear O V Y Xk I N;refine XGW ?_;simp only[XZy,ζ,ξ]
   repeat(go_big_quiet_step (fail))
   refine θ ?_;go_wp2;refine⟨.inl trivial,?_⟩;refine Z9U ?_;refine θ ?_;refine β ?_;generalize w1.setCell ⟨X,1,none⟩ (.slice (some ⟨g,0,none⟩) (k+1) cp)=W3 at HM⊢;generalize (Value.slice (some ⟨g,0,none⟩) (k+1) cp)=v3 at HM⊢;clear x1 x3 Z HS U k1 k3 KS c1 c3 fr HX;clear S;obtain⟨tb,J⟩:∃tb,tb=t+B:=⟨_,rfl⟩;obtain⟨d,hd⟩:∃d,d=QnT l (t:Int) (tb:Int):=⟨_,rfl⟩;obtain⟨e,he⟩:∃e,e=QnT l 0 ((k+1)*B:Nat):=⟨_,rfl⟩
   have Xd:(c:Int)+(d:Int)=(e:Int):=by
    have:=V9n l (a:=0) (b:=(t:Int)) (c:=(tb:Int)) Ω Ω;rw[hd,he,HC.o,<-ht.o,<-L.o,<-J];exact this
   have hel:e<=l.length:=by rw[he];exact QMh _ _
   have Xo:IntKind.i64.wrap ((t:Int)+(B:Int))=(tb:Int):=by rw[J,ζA _ Ω];omega
   have Xp:IntKind.i64.wrap ((c:Int)+(d:Int))=(e:Int):=by rw[Xd,ζA _ Ω]
   have HD:=hid hd;have HE:=hid he;have HTB:=hid J;have k3:W3.cell? ⟨X,3,none⟩=some (.int .i64 (c:Nat)):=by rw[HM.o.c3,HC.o]
   have fr:W3.frozen? ⟨X,3,none⟩=false:=HM.o.free 3;have HX:Hid (X<W3.heap.size):=⟨by have:=HM.o.base;omega⟩;clear Xd hd he J;go_upto_region 10 with(fail);obtain⟨S,hS⟩:∃S:World->Prop,S=λW'=>W'.cell? ⟨X,3,none⟩=some (.int .i64 (c:Nat)):=⟨_,rfl⟩;have x3:∀p:ZJV S,p.w.cell? ⟨X,3,none⟩=some (.int .i64 (c:Nat)):=λp=>ZJV.get hS p;have Z:S W3.drew:=by rw[hS];exact k3
   have HS:=hid hS;clear hS;have U:Inhabited (ZJV S):=⟨⟨_,Z⟩⟩;refine Vv2 S 13 [([0,1,2,3,4,5,6,7,8],9),([10,11,12],13)] [] (by kernel_rfl) (by kernel_rfl) Z ?_;refine XGW ?_;simp only[XZy,ζ,ξ]
   repeat(go_big_quiet_step (fail))
   refine θ ?_;go_wp2_with(go_at_call 229;refine(V7Z (HV.o.gr (HM.o.gr.drew)) (t:Int) (tb:Int) Ω).mono ?_;rintro e' W4 ⟨rfl,Xb⟩;rw[<-HD.o]);have M:Gr W3 W4:=(Gr.refl W3).drew.trans Xb;have q3:=(M.cell HX.o 3).trans k3;have qf:=(M.frozen HX.o 3).trans fr;have Xe:=hid ((HM.o.grow M).count (m':=k+1) (z:=(e:Nat)) (by rw[HE.o]));clear Xb M;refine⟨.inr (ZJV.of (by rw[HS.o];exact q3)),?_⟩;refine XGW ?_;simp only[XZy,ζ,ξ]
   repeat(go_big_quiet_step (fail))
   refine θ ?_;go_wp2;refine⟨.inl trivial,?_⟩;refine Z9U ?_;refine θ ?_;refine β ?_;generalize W4.setCell ⟨X,3,none⟩ (.int .i64 (e:Nat))=W5 at Xe⊢;clear x3 Z HS U q3 qf k3 fr Xo Xp;clear S;go_wp2;go_roundw
   case rel=>exact⟨k+1,t+B,v3,Xe,L,by omega,by omega,Xj,by go_num⟩
   case measure=>simp[intOf];omega
  ·have E:=hid (QnL Xf (show l.length<=k*B by rw[<-ht.o];omega) A.o);have HF:=hid (HN.o.done Xf Xn E.o.symm (by rw[<-ht.o];omega));go_wp2_with(go_at_call 139;refine(JoW (HV.o.gr HN.o.gr)).mono ?_;rintro e w1 ⟨rfl,rfl⟩);go_ret2;obtain⟨a,hI,ha⟩:=HF.o;exact⟨X,q,r,a,Qh8 rfl rfl,HN.o.gr,hI,by have:=HN.o.ge;have:=HN.o.ltp;omega,HN.o.ge.1,HN.o.ge.2,ha⟩
end
section
open Go.RowKit Word
end
end Go.Proofs.YteihjlcmjecmfaaGreatDoor
