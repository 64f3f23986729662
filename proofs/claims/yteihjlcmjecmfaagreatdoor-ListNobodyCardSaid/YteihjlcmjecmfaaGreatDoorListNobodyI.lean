/- Part 9 of what ListNobody leans on: my own lemmas, merged by shake.py. -/
import Derived.Test.YteihjlcmjecmfaaGreatDoorListNobodyH
import Derived.Deep.MidRow
namespace Go.Proofs.YteihjlcmjecmfaaGreatDoor
open _root_.Go.Proofs.Tryz
set_option maxRecDepth 100000
section
open Go.RowKit Word
theorem Vie{n:Nat}(h1:1<=n):n &&& (n-1)=0↔∃k,n=2 ^ k:=by
 constructor
 ·induction n using Nat.strongRecOn with
  | _ n ih=>
   intro h0;by_cases hn:n=1
   ·exact⟨0,hn⟩
   ·have e1:(n &&& (n-1)) >>> 1=n >>> 1 &&& (n-1) >>> 1:=Nat.shiftRight_and_distrib ..;rw[h0]at e1;simp only[Nat.shiftRight_succ,Nat.shiftRight_zero]at e1;rcases Nat.mod_two_eq_zero_or_one n with h|h
    ·rw[show (n-1)/2=n/2-1 by omega]at e1;obtain⟨k,hk⟩:=ih (n/2) Ω Ω Ω;exact⟨k+1,by rw[Nat.pow_succ];omega⟩
    ·rw[show (n-1)/2=n/2 by omega,Nat.and_self]at e1;omega
 ·rintro⟨k,rfl⟩;rw[Nat.and_two_pow_sub_one_eq_mod,Nat.mod_self]
theorem QdJ{a b:Nat}(ha:a<9223372036854775808)(hb:b<9223372036854775808):bits .and .i64 (a:Int) (b:Int)=((a &&& b:Nat):Int):=by
 have h1:(BitVec.ofInt 64 (a:Int)).toNat=a:=by
  rw[BitVec.ofInt_natCast,BitVec.toNat_ofNat];exact ξD Ω
 have h2:(BitVec.ofInt 64 (b:Int)).toNat=b:=by
  rw[BitVec.ofInt_natCast,BitVec.toNat_ofNat];exact ξD Ω
 show IntKind.i64.wrap ((BitVec.ofInt 64 (a:Int) &&& BitVec.ofInt 64 (b:Int)).toNat:Int)=_
 rw[BitVec.toNat_and,h1,h2];have:a &&& b<=a:=ψB;exact ζA _ Ω
theorem XyG{n:Nat}(h:n<9223372036854775808):XuW (n:Int)=true↔∃k,n=2 ^ k:=by
 unfold XuW;by_cases h0:n=0
 ·subst h0;refine⟨λh=>by simp at h,λ⟨k,hk⟩=>?_⟩;have:=Nat.two_pow_pos k;omega
 ·rw[κ Ω,ξY,show ((n:Int)-1)=((n-1:Nat):Int)by omega,QdJ h Ω,<-Vie Ω];simp
def XiS(n lo hi:Int):Bool:=XuW n&&decide (lo<=n)&&decide (n<=hi)
theorem Jo9{n lo hi:Int}(h:XiS n lo hi=true):lo<=n/\n<=hi/\XuW n=true:=by
 unfold XiS at h;simp at h;exact⟨h.1.2,h.2,h.1.1⟩
theorem X1d(n:Int):XiS n 1 1024=Y1d n:=by
 rw[XYi];unfold XiS;cases h:XuW n with
 | false=>rfl
 | true=>
  have:0<n:=by
   unfold XuW at h;simp at h;exact h.1
  rw[κ (show (1:Int)<=n by omega),ξY]
theorem V2o{a b:Nat}(ha:XuW (a:Int)=true)(hb:XuW (b:Int)=true)(ha2:a<9223372036854775808)(hb2:b<9223372036854775808)(h:a<=b):b%a=0:=by
 obtain⟨i,rfl⟩:=(XyG ha2).1 ha;obtain⟨j,rfl⟩:=(XyG hb2).1 hb;have X:i<=j:=(Nat.pow_le_pow_iff_right (by decide)).1 h;exact Nat.mod_eq_zero_of_dvd (Nat.pow_dvd_pow 2 X)
end
theorem XRU(l:List Nat)(i j y:Nat):(l.set i y).getD j 0=if j=i/\i<l.length then y else l.getD j 0:=by
 rw[φ,φ,ξv];by_cases e:i=j
 ·subst e;by_cases h:i<l.length
  ·rw[μ rfl,μ h,μ ⟨rfl,h⟩];rfl
  ·rw[μ rfl,ϑ h,ϑ (λhh=>h hh.2),ζf Ω]
 ·rw[ϑ e,ϑ (λhh=>e hh.1.symm)]
section
open Go.RowKit Word
theorem ZaP{W:World}{b:Nat}{T:TypeId}{xs:List Value}(h:Rec W b T xs):∀(n i:Nat) (acc:Array Value),i+n=xs.length->(loadCellsFrom ⟨b,0,none⟩ i n acc).run prog W=.ok (acc++(xs.drop i).toArray) W:=by
 intro n
 induction n with
 | zero=>
  intro i acc hi;rw[List.drop_eq_nil_of_le Ω];simp[loadCellsFrom,go_sem]
 | succ n ih=>
  intro i acc hi;have hc:=h.cell (j:=i) (u:=xs[i]' Ω) (δ _);have e:Addr.add ⟨b,0,none⟩ i=⟨b,i,none⟩:=by unfold Addr.add;split <;> simp_all
  unfold loadCellsFrom;simp only[Sem.run_bind];rw[show (load (Addr.add ⟨b,0,none⟩ i)).run prog W=.ok (xs[i]' Ω) W by rw[e];simp[go_sem,hc]];simp only[Result.andThen];rw[ih (i+1) _ Ω,ξB (show i<xs.length by omega)];simp
theorem XkM{W:World}{b:Nat}{T:TypeId}{xs:List Value}(h:Rec W b T xs)(hA:(isAgg T).run prog W=.ok true W)(hS:(sizeOf T).run prog W=.ok xs.length W):(loadVar T ⟨b,0,none⟩).run prog W=.ok (.agg xs.toArray) W:=by
 have:=ZaP h xs.length 0 #[] Ω;simp only[List.drop_zero,Array.empty_append]at this;simp[loadVar,Sem.run_bind,hA,hS,Result.andThen,loadCells,this,go_sem]
theorem Qwi(a:Addr)(k:FloatKind)(b:Nat)(w:World):(store a (.float k b)).run prog w=stored prog w a (.float k b) .plain:=run_store _ _ _ _ _ rfl
end
section
open Go.RowKit Word
section
variable {g:Gph} {s a b y j:Nat} {i:Int} {o:GOb}
theorem Gph.sl_lt(h:s<g.S.length):g.sl (s:Int)=true:=by
 unfold Gph.sl;rw[κ Ω,κ Ω];rfl
theorem Gph.fd_ob(hs:s<g.S.length)(hy:g.S.getD s 0=y)(h0:y≠0)(ho:g.ob y=o){kd:Int}(hij:i=(j:Int))(hk:Yoq o.hdr i=kd)(hk0:kd≠0):g.fdE s i kd=0/\g.fdV s i kd=o.w.getD j 0:=by
 have X:g.at (s:Int)=y:=hy
 have e:g.fdE s i kd=0:=by
  unfold Gph.fdE;rw[g.sl_lt hs,μ rfl,X,ϑ h0,ho,hk,ϑ hk0,μ rfl]
 refine⟨e,?_⟩;unfold Gph.fdV;rw[μ e,X,ho,hij];rfl
theorem Gph.two_ok(ha:a<g.S.length)(hb:b<g.S.length)(e:Int):g.two a b e=e:=by
 unfold Gph.two;rw[g.sl_lt ha,g.sl_lt hb];rfl
theorem Gph.loG_ob(ha:a<g.S.length)(hb:b<g.S.length)(hy:g.S.getD b 0=y)(h0:y≠0)(ho:g.ob y=o)(hij:i=(j:Int))(hk:Yoq o.hdr i=1):g.loE a b i=0/\g.loG a b i=⟨g.L,g.S.set a (o.w.getD j 0)⟩:=by
 obtain⟨h1,h2⟩:=g.fd_ob hb hy h0 ho hij hk (by decide);have e:g.loE a b i=0:=by unfold Gph.loE;rw[g.two_ok ha hb,h1]
 refine⟨e,?_⟩;unfold Gph.loG;rw[μ e,h2];rfl
theorem Gph.stG_ob(ha:a<g.S.length)(hb:b<g.S.length)(hy:g.S.getD a 0=y)(h0:y≠0)(ho:g.ob y=o)(hij:i=(j:Int))(hk:Yoq o.hdr i=1):g.stE a i b=0/\g.stG a i b=g.put y j (g.S.getD b 0):=by
 obtain⟨h1,-⟩:=g.fd_ob ha hy h0 ho hij hk (by decide);have e:g.stE a i b=0:=by unfold Gph.stE;rw[g.two_ok ha hb,h1]
 refine⟨e,?_⟩;unfold Gph.stG Gph.setFd;rw[μ e,show g.at (a:Int)=y from hy,hij];rfl
theorem Gph.wrG_ob(hs:s<g.S.length)(hy:g.S.getD s 0=y)(h0:y≠0)(ho:g.ob y=o){kd:Int}(hij:i=(j:Int))(hk:Yoq o.hdr i=kd)(hk0:kd≠0)(v:Nat):g.wrG s i kd v=g.put y j v:=by
 unfold Gph.wrG Gph.setFd;rw[μ (g.fd_ob hs hy h0 ho hij hk hk0).1,show g.at (s:Int)=y from hy,hij];rfl
theorem Gph.cpG_ok(ha:a<g.S.length)(hb:b<g.S.length):g.cpG a b=⟨g.L,g.S.set a (g.S.getD b 0)⟩:=by
 unfold Gph.cpG;rw[g.sl_lt ha,g.sl_lt hb];rfl
theorem Gph.clG_ok(ha:a<g.S.length):g.clG a=⟨g.L,g.S.set a 0⟩:=by
 unfold Gph.clG;rw[g.sl_lt ha];rfl
theorem Gph.shE_ok(hs:s<g.S.length):g.shE s=if g.S.getD s 0=0 then 18 else 0:=by
 unfold Gph.shE;rw[g.sl_lt hs];rfl
theorem Vn2{l:List Nat}{i j v:Nat}(h:i≠j):(l.set i v).getD j 0=l.getD j 0:=by
 rw[φ,ψG h,<-φ]
theorem JhX{l:List Nat}{i v:Nat}(h:i<l.length):(l.set i v).getD i 0=v:=by
 rw[φ,ψA h];rfl
theorem QDC{l:List Nat}{i:Nat}(h:i<l.length):l.set i (l.getD i 0)=l:=by
 refine ζ9 (by simp) (λj h1 h2=>?_);rw[ψg]
 split
 ·rename_i e;subst e;rw[φ,δ h];rfl
 ·rfl
theorem Gph.all_of(hk:g.Ok){T:List Nat}(hn:T.Nodup)(h1:∀r∈g.S,r≠0->r∈T)(h2:∀x∈T,∀z∈g.pts x,z≠0->z∈T)(h3:∀x∈T,g.Rd x):g.all.length=T.length/\g.words=(T.map λx=>(g.ob x).size).sum:=by
 have hm:∀x,x∈g.all↔x∈T:=λx=>by
  rw[hk.mem_all];exact⟨λhx=>hx (λx=>x∈T) h1 h2,h3 x⟩
 have X:g.all.Nodup:=(Zeq g.pts g.L.length g.S).1;have hp:g.all.Perm T:=(List.perm_ext_iff_of_nodup X hn).2 hm;exact⟨hp.length_eq,(hp.map _).sum_nat⟩
end
end
section
open Go.RowKit Word
def ndO(nx f w:Nat):GOb:=⟨1,1,1,[nx,f,w]⟩
theorem Q1Z(nx f w:Nat):Yoq (ndO nx f w).hdr 0=1/\Yoq (ndO nx f w).hdr 1=2/\Yoq (ndO nx f w).hdr 2=3:=by
 rw[show (ndO nx f w).hdr=(⟨1,1,1⟩:Hdr)from rfl];exact⟨by decide,by decide,by decide⟩
structure Nd(g:Gph)(y nx f w:Nat):Prop where
 h1:1<=y
 h2:y<=g.L.length
 ob:g.ob y=ndO nx f w
def Chn(g:Gph):Nat->List Nat->List (Nat×Nat)->Prop
 | y,[],D=>y=0/\D=[]
 | y,x :: T,D=>y=x/\∃f w nx D',D=(w,f) :: D'/\Nd g x nx f w/\Chn g nx T D'
section
variable {g:Gph} {hd at_ off:Nat}
theorem Nd.slots{y nx f w:Nat}(h:Nd g y nx f w)(S:List Nat):Nd ⟨g.L,S⟩ y nx f w:=⟨h.h1,h.h2,h.ob⟩
theorem Chn.slots(S:List Nat):∀{T:List Nat} {y:Nat} {D:List (Nat×Nat)},Chn g y T D->Chn ⟨g.L,S⟩ y T D
 | [],_,_,h=>h
 | _ :: _,_,_,⟨e,f,w,nx,D',h1,h2,h3⟩=>⟨e,f,w,nx,D',h1,h2.slots S,h3.slots S⟩
theorem Nd.put{y nx f w x i v:Nat}(h:Nd g y nx f w)(h1:1<=x)(h2:x<=g.L.length)(hne:y≠x):Nd (g.put x i v) y nx f w:=
 ⟨h.h1,by show y<=(g.L.set _ _).length;rw[υ];exact h.h2,by rw[Gph.put_ob h1 h2,ϑ hne];exact h.ob⟩
theorem Chn.put{x i v:Nat}(h1:1<=x)(h2:x<=g.L.length):∀{T:List Nat} {y:Nat} {D:List (Nat×Nat)},Chn g y T D->¬x∈T->Chn (g.put x i v) y T D
 | [],_,_,h,_=>h
 | z :: T,_,_,⟨e,f,w,nx,D',a1,a2,a3⟩,hx=>⟨e,f,w,nx,D',a1,a2.put h1 h2 (λe=>hx (by rw[<-e];exact ζg ..)),a3.put h1 h2 (λhm=>hx (ζo _ hm))⟩
theorem Nd.add{y nx f w s p q k:Nat}(h:Nd g y nx f w):Nd (g.add s p q k) y nx f w:=
 ⟨h.h1,by show y<=(g.L++[_]).length;rw[ζk];have:=h.h2;omega,by rw[Gph.add_ob _ h.h2];exact h.ob⟩
theorem Chn.add{s p q k:Nat}:∀{T:List Nat} {y:Nat} {D:List (Nat×Nat)},Chn g y T D->Chn (g.add s p q k) y T D
 | [],_,_,h=>h
 | _ :: _,_,_,⟨e,f,w,nx,D',a1,a2,a3⟩=>⟨e,f,w,nx,D',a1,a2.add,a3.add⟩
theorem Chn.mem:∀{T:List Nat} {y:Nat} {D:List (Nat×Nat)},Chn g y T D->∀x∈T,1<=x/\x<=g.L.length
 | [],_,_,_,_,hx=>by cases hx
 | z :: T,_,_,⟨_,f,w,nx,D',_,a2,a3⟩,x,hx=>by
  rcases ζH.1 hx with rfl|hx
  ·exact⟨a2.h1,a2.h2⟩
  ·exact a3.mem x hx
theorem Chn.len:∀{T:List Nat} {y:Nat} {D:List (Nat×Nat)},Chn g y T D->T.length=D.length
 | [],_,_,⟨_,e⟩=>by rw[e];rfl
 | _ :: _,_,_,⟨_,_,_,_,_,e,_,a3⟩=>by rw[e];simp[a3.len]
theorem Chn.nil{y:Nat}{T:List Nat}{D:List (Nat×Nat)}(h:Chn g y T D)(h0:y=0):T=[]/\D=[]:=by
 cases T with
 | nil=>exact⟨rfl,h.2⟩
 | cons x T=>
  obtain⟨e,f,w,nx,D',a1,a2,a3⟩:=h;have:=a2.h1;omega
theorem Chn.head{y:Nat}{T:List Nat}{D:List (Nat×Nat)}(h:Chn g y T D)(h0:y≠0):∃T' f w nx D',T=y :: T'/\D=(w,f) :: D'/\Nd g y nx f w/\Chn g nx T' D':=by
 cases T with
 | nil=>exact absurd h.1 h0
 | cons x T=>
  obtain⟨rfl,f,w,nx,D',a1,a2,a3⟩:=h;exact⟨T,f,w,nx,D',rfl,a1,a2,a3⟩
theorem Chn.rd:∀{T:List Nat} {y:Nat} {D:List (Nat×Nat)},Chn g y T D->(y≠0->g.Rd y)->∀x∈T,g.Rd x
 | [],_,_,_,_,_,hx=>by cases hx
 | z :: T,y,_,⟨e,f,w,nx,D',_,a2,a3⟩,hy,x,hx=>by
  subst e;have hr:g.Rd y:=hy (by have:=a2.h1;omega);rcases ζH.1 hx with rfl|hx
  ·exact hr
  ·refine a3.rd (λh0=>hr.step ?_ h0) x hx;unfold Gph.pts;rw[a2.ob];exact ζg ..
theorem Chn.shut:∀{T:List Nat} {y:Nat} {D:List (Nat×Nat)},Chn g y T D->∀x∈T,∀z∈g.pts x,z≠0->z∈T
 | [],_,_,_,_,hx=>by cases hx
 | z :: T,y,_,⟨_,f,w,nx,D',_,a2,a3⟩,x,hx=>by
  intro v hv h0;rcases ζH.1 hx with rfl|hx
  ·unfold Gph.pts at hv;rw[a2.ob]at hv;obtain rfl:v=nx:=by simpa[ndO]using hv
   obtain⟨T',_,_,_,_,e,-⟩:=a3.head h0;rw[e];exact ζo _ (ζg ..)
  ·exact ζo _ (a3.shut x hx v hv h0)
theorem Chn.sizes:∀{T:List Nat} {y:Nat} {D:List (Nat×Nat)},Chn g y T D->(T.map λx=>(g.ob x).size).sum=4*T.length
 | [],_,_,_=>rfl
 | x :: T,_,_,⟨_,f,w,nx,D',_,a2,a3⟩=>by
  rw[ξX,List.sum_cons,a3.sizes,a2.ob]
  show 1+1+1+1+_=4*(T.length+1)
  omega
structure LsG(g:Gph)(hd at_ off:Nat)(T:List Nat)(D:List (Nat×Nat)):Prop where
 h1:hd<g.S.length
 h2:at_<g.S.length
 h3:off<g.S.length
 d1:hd≠at_
 d2:hd≠off
 d3:at_≠off
 z2:g.S.getD at_ 0=0
 z3:g.S.getD off 0=0
 ch:Chn g (g.S.getD hd 0) T D
 nd:T.Nodup
def ZCB(g:Gph)(hd:Nat):Prop:=∀j,j≠hd->g.S.getD j 0=0
theorem LsG.live{T:List Nat}{D:List (Nat×Nat)}(h:LsG g hd at_ off T D)(hk:g.Ok)(ha:ZCB g hd):g.all.length=D.length/\g.words=4*D.length:=by
 have h1:∀r∈g.S,r≠0->r∈T:=λr hr h0=>by
  obtain⟨j,hj,e⟩:=ψF.1 hr;have e2:g.S.getD j 0=r:=by rw[φ,δ hj];exact e
  by_cases ej:j=hd
  ·subst ej;rw[<-e2]at h0⊢;obtain⟨T',_,_,_,_,e3,-⟩:=h.ch.head h0;rw[e3];exact ζg ..
  ·rw[ha j ej]at e2;exact absurd e2.symm h0
 have hr:g.S.getD hd 0≠0->g.Rd (g.S.getD hd 0):=λh0=>Gph.Rd.root (by rw[φ,δ h.h1];exact χ _) h0;obtain⟨a,b⟩:=Gph.all_of hk h.nd h1 h.ch.shut (h.ch.rd hr);rw[a,b,h.ch.sizes,h.ch.len];exact⟨rfl,rfl⟩
def YYI(at_ off:Nat)(g:Gph):Gph:=(g.clG at_).clG off
def YNL(hd at_ off w f C:Nat)(g:Gph):Gph:=
 if g.alE C at_ ⟨1,1,1⟩=0 then
  YYI at_ off (((((g.alG C at_ ⟨1,1,1⟩).wrG at_ 2 3 w).wrG at_ 1 2 f).stG at_ 0 hd).cpG hd at_)
 else g
def JOs(at_:Nat):Nat->Gph->Gph
 | 0,g=>g
 | i+1,g=>if g.shE at_=0 then JOs at_ i (g.loG at_ at_ 0)else g
end
end
section
open Go.RowKit Word
section
variable {g:Gph} {hd at_ off C:Nat} {T:List Nat} {D:List (Nat × Nat)}
theorem YbF(h2:at_<g.S.length)(h3:off<g.S.length):YYI at_ off g=⟨g.L,(g.S.set at_ 0).set off 0⟩:=by
 unfold YYI;rw[g.clG_ok h2,Gph.clG_ok (by show off<(g.S.set at_ 0).length;rw[υ];exact h3)]
theorem LsG.al(h:LsG g hd at_ off T D):g.alE C at_ ⟨1,1,1⟩=if (C:Int)<g.words+4 then 21 else 0:=by
 unfold Gph.alE;rw[g.sl_lt h.h2,μ rfl,show JQC ⟨1,1,1⟩=0 by decide,show Z3o ⟨1,1,1⟩=4 by decide];rfl
theorem ZpA(h:LsG g hd at_ off T D)(he:g.alE C at_ ⟨1,1,1⟩=0)(w f:Nat):
  YNL hd at_ off w f C g=⟨((((g.add at_ 1 1 1).put (g.L.length+1) 2 w).put (g.L.length+1) 1 f).put (g.L.length+1) 0 (g.S.getD hd 0)).L,g.S.set hd (g.L.length+1)⟩:=by
 unfold YNL;rw[μ he];have e1:g.alG C at_ ⟨1,1,1⟩=g.add at_ 1 1 1:=by unfold Gph.alG;rw[μ he];rfl
 rw[e1];have l1:(g.add at_ 1 1 1).L.length=g.L.length+1:=by show (g.L++[_]).length=_;rw[ζk];rfl
 have s1:(g.add at_ 1 1 1).S=g.S.set at_ (g.L.length+1):=rfl;have a1:at_<(g.add at_ 1 1 1).S.length:=by rw[s1,υ];exact h.h2
 have v1:(g.add at_ 1 1 1).S.getD at_ 0=g.L.length+1:=by rw[s1,JhX h.h2]
 have o1:(g.add at_ 1 1 1).ob (g.L.length+1)=ndO 0 0 0:=Gph.add_new;rw[Gph.wrG_ob (i:=2) (j:=2) a1 v1 Ω o1 rfl (Q1Z 0 0 0).2.2 (by decide)];have o2:((g.add at_ 1 1 1).put (g.L.length+1) 2 w).ob (g.L.length+1)=ndO 0 0 w:=by rw[Gph.put_ob Ω Ω,μ rfl,o1];rfl
 rw[Gph.wrG_ob (i:=1) (j:=1) (g:=(g.add at_ 1 1 1).put (g.L.length+1) 2 w) a1 v1 Ω o2 rfl (Q1Z 0 0 w).2.1 (by decide)];have l2:((g.add at_ 1 1 1).put (g.L.length+1) 2 w).L.length=g.L.length+1:=by show (List.set _ _ _).length=_;rw[υ,l1]
 have o3:(((g.add at_ 1 1 1).put (g.L.length+1) 2 w).put (g.L.length+1) 1 f).ob (g.L.length+1)=ndO 0 f w:=by rw[Gph.put_ob Ω Ω,μ rfl,o2];rfl
 have b1:hd<(g.add at_ 1 1 1).S.length:=by rw[s1,υ];exact h.h1
 rw[(Gph.stG_ob (i:=0) (j:=0) (g:=((g.add at_ 1 1 1).put (g.L.length+1) 2 w).put (g.L.length+1) 1 f) a1 b1 v1 Ω o3 rfl (Q1Z 0 f w).1).2]
 have v2:(((g.add at_ 1 1 1).put (g.L.length+1) 2 w).put (g.L.length+1) 1 f).S.getD hd 0=g.S.getD hd 0:=by
  show (g.S.set at_ _).getD hd 0=_
  rw[Vn2 h.d1.symm]
 rw[v2];rw[Gph.cpG_ok (g:=(((g.add at_ 1 1 1).put (g.L.length+1) 2 w).put (g.L.length+1) 1 f).put (g.L.length+1) 0 (g.S.getD hd 0)) b1 a1];rw[YbF (by show at_<(List.set _ _ _).length;rw[υ];exact a1) (by show off<(List.set _ _ _).length;rw[υ,show ((((g.add at_ 1 1 1).put (g.L.length+1) 2 w).put (g.L.length+1) 1 f).put (g.L.length+1) 0 (g.S.getD hd 0)).S=g.S.set at_ (g.L.length+1)from rfl,υ];exact h.h3)]
 show (⟨_,((((g.S.set at_ (g.L.length+1)).set hd ((g.S.set at_ (g.L.length+1)).getD at_ 0)).set at_ 0).set off 0)⟩:Gph)=_
 rw[JhX h.h2];congr 1;refine ζ9 (by simp) (λj j1 j2=>?_);have z2:∀hj:at_<g.S.length,g.S[at_]=0:=λhj=>by have:=h.z2;rw[φ,δ hj]at this;exact this
 have z3:∀hj:off<g.S.length,g.S[off]=0:=λhj=>by have:=h.z3;rw[φ,δ hj]at this;exact this
 have d1:=h.d1;have d2:=h.d2;have d3:=h.d3;simp only[ψg];by_cases e3:off=j
 ·subst e3;rw[μ rfl,ϑ d2,z3 h.h3]
 ·rw[ϑ e3];by_cases e2:at_=j
  ·subst e2;rw[μ rfl,ϑ d1,z2 h.h2]
  ·rw[ϑ e2];by_cases e1:hd=j
   ·rw[μ e1,μ e1]
   ·rw[ϑ e1,ϑ e1,ϑ e2]
structure VXl(g g':Gph)(hd at_ off:Nat)(T:List Nat)(D:List (Nat×Nat))(w f:Nat):Prop where
 ls:LsG g' hd at_ off ((g.L.length+1) :: T) ((w,f) :: D)
 S:g'.S=g.S.set hd (g.L.length+1)
 ob:∀x,x<=g.L.length->g'.ob x=g.ob x
 len:g'.L.length=g.L.length+1
 ok:g'.Ok
theorem LsG.push(h:LsG g hd at_ off T D)(hk:g.Ok)(he:g.alE C at_ ⟨1,1,1⟩=0)(w f:Nat):VXl g (YNL hd at_ off w f C g) hd at_ off T D w f:=by
 rw[ZpA h he w f];have l1:(g.add at_ 1 1 1).L.length=g.L.length+1:=by show (g.L++[_]).length=_;rw[ζk];rfl
 have l2:((g.add at_ 1 1 1).put (g.L.length+1) 2 w).L.length=g.L.length+1:=by show (List.set _ _ _).length=_;rw[υ,l1]
 have l3:(((g.add at_ 1 1 1).put (g.L.length+1) 2 w).put (g.L.length+1) 1 f).L.length=g.L.length+1:=by show (List.set _ _ _).length=_;rw[υ,l2]
 have l4:((((g.add at_ 1 1 1).put (g.L.length+1) 2 w).put (g.L.length+1) 1 f).put (g.L.length+1) 0 (g.S.getD hd 0)).L.length=g.L.length+1:=by show (List.set _ _ _).length=_;rw[υ,l3]
 have hy:g.S.getD hd 0<=g.L.length:=hk.st _ (by rw[φ,δ h.h1];exact χ _);have hT:¬(g.L.length+1)∈T:=λhm=>by have:=h.ch.mem _ hm;omega
 have k1:=hk.add (s:=at_) (p:=1) (f:=1) (k:=1) Ω;have o1:(g.add at_ 1 1 1).ob (g.L.length+1)=ndO 0 0 0:=Gph.add_new;have k2:=k1.put (x:=g.L.length+1) (i:=2) (y:=w) Ω Ω (λhi=>by rw[o1]at hi;exact absurd hi (by decide));have o2:((g.add at_ 1 1 1).put (g.L.length+1) 2 w).ob (g.L.length+1)=ndO 0 0 w:=by rw[Gph.put_ob Ω Ω,μ rfl,o1];rfl
 have k3:=k2.put (x:=g.L.length+1) (i:=1) (y:=f) Ω Ω (λhi=>by rw[o2]at hi;exact absurd hi (by show ¬1<1;omega));have o3:(((g.add at_ 1 1 1).put (g.L.length+1) 2 w).put (g.L.length+1) 1 f).ob (g.L.length+1)=ndO 0 f w:=by rw[Gph.put_ob Ω Ω,μ rfl,o2];rfl
 have k4:=k3.put (x:=g.L.length+1) (i:=0) (y:=g.S.getD hd 0) Ω Ω (λ_=>by omega);have o4:((((g.add at_ 1 1 1).put (g.L.length+1) 2 w).put (g.L.length+1) 1 f).put (g.L.length+1) 0 (g.S.getD hd 0)).ob (g.L.length+1)=ndO (g.S.getD hd 0) f w:=by rw[Gph.put_ob Ω Ω,μ rfl,o3];rfl
 have c4:Chn ((((g.add at_ 1 1 1).put (g.L.length+1) 2 w).put (g.L.length+1) 1 f).put (g.L.length+1) 0 (g.S.getD hd 0)) (g.S.getD hd 0) T D:=
  (((h.ch.add).put Ω Ω hT).put Ω Ω hT).put Ω Ω hT
 have X:∀x,x<=g.L.length->((((g.add at_ 1 1 1).put (g.L.length+1) 2 w).put (g.L.length+1) 1 f).put (g.L.length+1) 0 (g.S.getD hd 0)).ob x=g.ob x:=λx hx=>by
  rw[Gph.put_ob Ω Ω,ϑ Ω,Gph.put_ob Ω Ω,ϑ Ω,Gph.put_ob Ω Ω,ϑ Ω,Gph.add_ob _ hx]
 generalize (((g.add at_ 1 1 1).put (g.L.length+1) 2 w).put (g.L.length+1) 1 f).put (g.L.length+1) 0 (g.S.getD hd 0)=g4 at l4 k4 o4 c4 X;have hS:(g.S.set hd (g.L.length+1)).getD hd 0=g.L.length+1:=JhX h.h1;refine⟨⟨by show hd<(List.set _ _ _).length;rw[υ];exact h.h1,by show at_<(List.set _ _ _).length;rw[υ];exact h.h2,by show off<(List.set _ _ _).length;rw[υ];exact h.h3,h.d1,h.d2,h.d3,?_,?_,?_,List.nodup_cons.2 ⟨hT,h.nd⟩⟩,rfl,X,l4,⟨k4.len,k4.pt,λz hz=>?_⟩⟩
 ·show (g.S.set hd _).getD at_ 0=0
  rw[Vn2 h.d1,h.z2]
 ·show (g.S.set hd _).getD off 0=0
  rw[Vn2 h.d2,h.z3]
 ·show Chn _ ((g.S.set hd _).getD hd 0) _ _
  rw[hS];exact⟨rfl,f,w,_,D,rfl,⟨by omega,by show _<=g4.L.length;omega,o4⟩,c4.slots _⟩
 ·show z<=g4.L.length
  rcases ζp hz with h1|h1
  ·have:=hk.st z h1;omega
  ·omega
end
end
section
open Go.RowKit Word
section
variable {g:Gph} {hd at_ off C:Nat} {T:List Nat} {D:List (Nat × Nat)}
theorem Nd.reads{s y nx f w:Nat}(hs:s<g.S.length)(hy:g.S.getD s 0=y)(h:Nd g y nx f w):g.fdE s 2 3=0/\g.fdV s 2 3=w/\g.fdE s 1 2=0/\g.fdV s 1 2=f/\g.shE s=0:=by
 have h0:y≠0:=by have:=h.h1;omega
 obtain⟨a1,a2⟩:=g.fd_ob (i:=2) (j:=2) hs hy h0 h.ob rfl (Q1Z nx f w).2.2 (by decide);obtain⟨b1,b2⟩:=g.fd_ob (i:=1) (j:=1) hs hy h0 h.ob rfl (Q1Z nx f w).2.1 (by decide);refine⟨a1,a2,b1,b2,?_⟩;rw[g.shE_ok hs,hy,ϑ h0]
theorem Nd.load{a s y nx f w:Nat}(ha:a<g.S.length)(hs:s<g.S.length)(hy:g.S.getD s 0=y)(h:Nd g y nx f w):g.loG a s 0=⟨g.L,g.S.set a nx⟩:=by
 have h0:y≠0:=by have:=h.h1;omega
 exact(Gph.loG_ob (i:=0) (j:=0) ha hs hy h0 h.ob rfl (Q1Z nx f w).1).2
theorem Gph.Ok.slots{S:List Nat}(hk:g.Ok)(h:∀y∈S,y<=g.L.length):Gph.Ok ⟨g.L,S⟩:=⟨hk.len,hk.pt,h⟩
theorem Gph.Ok.getS(hk:g.Ok)(s:Nat):g.S.getD s 0<=g.L.length:=by
 rcases γ s g.S.length with h|h
 ·exact hk.st _ (by rw[φ,δ h];exact χ _)
 ·rw[φ,ζf h];exact ζh _
theorem Chn.le{y:Nat}(h:Chn g y T D):y<=g.L.length:=by
 rcases ζE y with h0|h0
 ·omega
 ·obtain⟨_,_,_,_,_,_,_,hn,_⟩:=h.head Ω;exact hn.h2
theorem XHD:∀(i:Nat) {T:List Nat} {D:List (Nat×Nat)} {g:Gph},at_<g.S.length->Chn g (g.S.getD at_ 0) T D->JOs at_ i g=⟨g.L,g.S.set at_ (T.getD i 0)⟩
 | 0,T,D,g,ha,hc=>by
  show g=_
  have:T.getD 0 0=g.S.getD at_ 0:=by
   cases T with
   | nil=>exact hc.1.symm
   | cons x T=>exact hc.1.symm
  rw[this,QDC ha]
 | i+1,T,D,g,ha,hc=>by
  show (if g.shE at_=0 then JOs at_ i (g.loG at_ at_ 0)else g)=_
  by_cases h0:g.S.getD at_ 0=0
  ·obtain⟨rfl,-⟩:=hc.nil h0;rw[ϑ (by rw[g.shE_ok ha,μ h0];decide)]
   show g=⟨g.L,g.S.set at_ 0⟩
   conv=>rhs;rw[<-h0,QDC ha]
  ·obtain⟨T',f,w,nx,D',rfl,rfl,hn,Y⟩:=hc.head h0;rw[μ (by rw[g.shE_ok ha,ϑ h0]),hn.load ha ha rfl];have X:at_<(⟨g.L,g.S.set at_ nx⟩:Gph).S.length:=by show at_<(g.S.set at_ nx).length;rw[υ];exact ha
   rw[XHD i (g:=⟨g.L,g.S.set at_ nx⟩) (T:=T') (D:=D') X (by show Chn _ ((g.S.set at_ nx).getD at_ 0) _ _;rw[JhX ha];exact Y.slots _)]
   show (⟨g.L,(g.S.set at_ nx).set at_ _⟩:Gph)=_
   rw[ψp];rfl
def Xpk(hd at_ i:Nat)(g:Gph):Gph:=JOs at_ i (g.cpG at_ hd)
theorem LsG.find(h:LsG g hd at_ off T D)(i:Nat):Xpk hd at_ i g=⟨g.L,g.S.set at_ (T.getD i 0)⟩:=by
 unfold Xpk;rw[Gph.cpG_ok h.h2 h.h1];have X:at_<(⟨g.L,g.S.set at_ (g.S.getD hd 0)⟩:Gph).S.length:=by show at_<(List.set _ _ _).length;rw[υ];exact h.h2
 rw[XHD i (g:=⟨g.L,g.S.set at_ (g.S.getD hd 0)⟩) (T:=T) (D:=D) X (by show Chn _ ((g.S.set at_ _).getD at_ 0) _ _;rw[JhX h.h2];exact h.ch.slots _)]
 show (⟨g.L,(g.S.set at_ _).set at_ _⟩:Gph)=_
 rw[ψp]
theorem LsG.rest{g':Gph}(h:LsG g hd at_ off T D){v:Nat}(hL:g'.S=g.S.set at_ v):YYI at_ off g'=⟨g'.L,g.S⟩:=by
 have hl:g'.S.length=g.S.length:=by rw[hL,υ]
 rw[YbF (by rw[hl];exact h.h2) (by rw[hl];exact h.h3),hL,ψp]
 have e1:g.S.set at_ 0=g.S:=by
  conv=>rhs;rw[<-QDC (l:=g.S) h.h2,h.z2]
 have e2:g.S.set off 0=g.S:=by
  conv=>rhs;rw[<-QDC (l:=g.S) h.h3,h.z3]
 rw[e1,e2]
theorem Chn.get:∀{T:List Nat} {y:Nat} {D:List (Nat×Nat)},Chn g y T D->∀i,i<T.length->∃nx,Nd g (T.getD i 0) nx (D.getD i (0,0)).2 (D.getD i (0,0)).1
 | [],_,_,_,_,hi=>absurd hi (ζV _)
 | x :: T,_,_,⟨e,f,w,nx,D',e2,hn,hc⟩,0,_=>⟨nx,by rw[e2];exact hn⟩
 | x :: T,_,_,⟨e,f,w,nx,D',e2,hn,hc⟩,i+1,hi=>by
  obtain⟨n',h'⟩:=hc.get i (by simpa using hi);exact⟨n',by rw[e2];exact h'⟩
end
end
section
open Go.RowKit Word
section
variable {g g0:Gph} {hd at_ off C:Nat} {T R T0:List Nat} {D E D0:List (Nat × Nat)}
structure TnG(g0 g:Gph)(hd at_ off:Nat)(T R T0:List Nat)(D E D0:List (Nat×Nat)):Prop where
 len:g.L.length=g0.L.length
 sl:g.S.length=g0.S.length
 so:∀j,j≠hd->j≠at_->j≠off->g.S.getD j 0=g0.S.getD j 0
 ct:Chn g (g.S.getD hd 0) T D
 cr:Chn g (g.S.getD off 0) R E
 ts:R.reverse++T=T0
 ds:E.reverse++D=D0
 ob:∀z,¬z∈T0->g.ob z=g0.ob z
 ok:g.Ok
theorem TnG.start(h:LsG g hd at_ off T D)(hk:g.Ok):TnG g g hd at_ off T [] T D [] D:=
 ⟨rfl,rfl,λ_ _ _ _=>rfl,h.ch,⟨h.z3,rfl⟩,rfl,rfl,λ_ _=>rfl,hk⟩
def VOv(hd at_ off:Nat)(g:Gph):Gph:=(((g.cpG at_ hd).loG hd hd 0).stG at_ 0 off).cpG off at_
theorem Nd.next{y nx f w v:Nat}(h:Nd g y nx f w):Nd (g.put y 0 v) y v f w:=by
 refine⟨h.h1,by show y<=(List.set _ _ _).length;rw[υ];exact h.h2,?_⟩;rw[Gph.put_ob h.h1 h.h2,μ rfl,h.ob];rfl
theorem TnG.step(h:TnG g0 g hd at_ off T R T0 D E D0)(h1:hd<g.S.length)(h2:at_<g.S.length)(h3:off<g.S.length)(d1:hd≠at_)(d2:hd≠off)(d3:at_≠off)(hn:T0.Nodup)(h0:g.S.getD hd 0≠0):
  ∃x T' w f D',T=x :: T'/\D=(w,f) :: D'/\TnG g0 (VOv hd at_ off g) hd at_ off T' (x :: R) T0 D' ((w,f) :: E) D0:=by
 obtain⟨T',f,w,nx,D',rfl,rfl,X,hc⟩:=h.ct.head h0;obtain⟨x,hx⟩:∃x,x=g.S.getD hd 0:=⟨_,rfl⟩;rw[<-hx]at h0 X;have Y:=h.ts;have U:=h.ds;rw[<-hx]at Y
 have e:VOv hd at_ off g=(⟨(g.put x 0 (g.S.getD off 0)).L,((g.S.set at_ x).set hd nx).set off x⟩:Gph):=by
  unfold VOv;rw[g.cpG_ok h2 h1,<-hx];have a1:hd<(⟨g.L,g.S.set at_ x⟩:Gph).S.length:=by show hd<(List.set _ _ _).length;rw[υ];exact h1
  have v1:(⟨g.L,g.S.set at_ x⟩:Gph).S.getD hd 0=x:=by show (g.S.set at_ x).getD hd 0=x;rw[Vn2 d1.symm,hx]
  rw[(X.slots _).load a1 a1 v1];have l2:(⟨g.L,(g.S.set at_ x).set hd nx⟩:Gph).S.length=g.S.length:=by show ((g.S.set at_ x).set hd nx).length=_;rw[υ,υ]
  have v2:(⟨g.L,(g.S.set at_ x).set hd nx⟩:Gph).S.getD at_ 0=x:=by show ((g.S.set at_ x).set hd nx).getD at_ 0=x;rw[Vn2 d1,JhX h2]
  have v3:(⟨g.L,(g.S.set at_ x).set hd nx⟩:Gph).S.getD off 0=g.S.getD off 0:=by show ((g.S.set at_ x).set hd nx).getD off 0=_;rw[Vn2 d2,Vn2 d3]
  rw[(Gph.stG_ob (i:=0) (j:=0) (g:=⟨g.L,(g.S.set at_ x).set hd nx⟩) (by rw[l2];exact h2) (by rw[l2];exact h3) v2 h0 (X.slots _).ob rfl (Q1Z _ _ _).1).2,v3];rw[Gph.cpG_ok (g:=(⟨g.L,(g.S.set at_ x).set hd nx⟩:Gph).put x 0 (g.S.getD off 0)) (by rw[show ((⟨g.L,(g.S.set at_ x).set hd nx⟩:Gph).put x 0 (g.S.getD off 0)).S=(g.S.set at_ x).set hd nx from rfl,υ,υ];exact h3) (by rw[show ((⟨g.L,(g.S.set at_ x).set hd nx⟩:Gph).put x 0 (g.S.getD off 0)).S=(g.S.set at_ x).set hd nx from rfl,υ,υ];exact h2)]
  show (⟨_,((g.S.set at_ x).set hd nx).set off (((g.S.set at_ x).set hd nx).getD at_ 0)⟩:Gph)=_
  rw[Vn2 d1,JhX h2];rfl
 have Z:x∈T0:=by rw[<-Y];exact List.mem_append_right _ (ζg ..)
 have J:¬x∈R:=λhm=>by
  rw[<-Y]at hn;exact(ξu.1 hn).2.2 x (List.mem_reverse.2 hm) x (ζg ..) rfl
 have M:¬x∈T':=by
  rw[<-Y]at hn;exact(List.nodup_cons.1 (ξu.1 hn).2.1).1
 have V:Gph.Ok (g.put x 0 (g.S.getD off 0)):=h.ok.put X.h1 X.h2 (λ_=>h.ok.getS off);have lp:(g.put x 0 (g.S.getD off 0)).L.length=g.L.length:=by show (List.set _ _ _).length=_;rw[υ]
 refine⟨x,T',w,f,D',by rw[hx],rfl,?_⟩;rw[e];refine⟨lp.trans h.len,?_,λj j1 j2 j3=>?_,?_,?_,by rw[<-Y,List.reverse_cons,ζX];rfl,by rw[<-U,List.reverse_cons,ζX];rfl,λz hz=>?_,?_⟩
 ·show (((g.S.set at_ x).set hd nx).set off x).length=_
  rw[υ,υ,υ];exact h.sl
 ·show (((g.S.set at_ x).set hd nx).set off x).getD j 0=_
  rw[Vn2 (Ne.symm j3),Vn2 (Ne.symm j1),Vn2 (Ne.symm j2)];exact h.so j j1 j2 j3
 ·show Chn _ ((((g.S.set at_ x).set hd nx).set off x).getD hd 0) _ _
  rw[Vn2 d2.symm,JhX (by rw[υ];exact h1)];exact(hc.put X.h1 X.h2 M).slots _
 ·show Chn _ ((((g.S.set at_ x).set hd nx).set off x).getD off 0) _ _
  rw[JhX (by rw[υ,υ];exact h3)];exact⟨rfl,f,w,_,E,rfl,X.next.slots _,(h.cr.put X.h1 X.h2 J).slots _⟩
 ·show (g.put x 0 _).ob z=_
  rw[Gph.put_ob X.h1 X.h2,ϑ (λ(e2:z=x)=>hz (by rw[e2];exact Z))];exact h.ob z hz
 ·refine V.slots (λy hy=>?_);have hxl:=X.h2;have hnl:=hc.le;rw[lp];rcases ζp hy with h5|h5
  ·rcases ζp h5 with h6|h6
   ·rcases ζp h6 with h7|h7
    ·exact h.ok.st y h7
    ·omega
   ·omega
  ·omega
structure Vop(g0 g:Gph)(hd at_ off:Nat)(T0:List Nat)(D0:List (Nat×Nat)):Prop where
 ls:LsG g hd at_ off T0.reverse D0.reverse
 len:g.L.length=g0.L.length
 sl:g.S.length=g0.S.length
 so:∀j,j≠hd->g.S.getD j 0=g0.S.getD j 0
 ob:∀z,¬z∈T0->g.ob z=g0.ob z
 ok:g.Ok
theorem TnG.fin(h:TnG g0 g hd at_ off T R T0 D E D0)(h1:hd<g.S.length)(h2:at_<g.S.length)(h3:off<g.S.length)(d1:hd≠at_)(d2:hd≠off)(d3:at_≠off)(hn:T0.Nodup)(z2:g0.S.getD at_ 0=0)(z3:g0.S.getD off 0=0)(h0:g.S.getD hd 0=0):
  Vop g0 (YYI at_ off (g.cpG hd off)) hd at_ off T0 D0:=by
 obtain⟨rfl,rfl⟩:=h.ct.nil h0
 have e:YYI at_ off (g.cpG hd off)=⟨g.L,((g.S.set hd (g.S.getD off 0)).set at_ 0).set off 0⟩:=by
  rw[g.cpG_ok h1 h3,YbF (by show at_<(List.set _ _ _).length;rw[υ];exact h2) (by show off<(List.set _ _ _).length;rw[υ];exact h3)]
 rw[e];have Y:=h.ts;have X:=h.ds;rw[ξ8]at Y X;have eR:R=T0.reverse:=by rw[<-Y,List.reverse_reverse]
 have eE:E=D0.reverse:=by rw[<-X,List.reverse_reverse]
 have g1:(((g.S.set hd (g.S.getD off 0)).set at_ 0).set off 0).getD hd 0=g.S.getD off 0:=by rw[Vn2 d2.symm,Vn2 d1.symm,JhX h1]
 have g2:(((g.S.set hd (g.S.getD off 0)).set at_ 0).set off 0).getD at_ 0=0:=by rw[Vn2 d3.symm,JhX (by rw[υ];exact h2)]
 have g3:(((g.S.set hd (g.S.getD off 0)).set at_ 0).set off 0).getD off 0=0:=by rw[JhX (by rw[υ,υ];exact h3)]
 have l1:(((g.S.set hd (g.S.getD off 0)).set at_ 0).set off 0).length=g.S.length:=by rw[υ,υ,υ]
 refine⟨⟨by rw[l1];exact h1,by rw[l1];exact h2,by rw[l1];exact h3,d1,d2,d3,g2,g3,?_,?_⟩,h.len,l1.trans h.sl,λj hj=>?_,h.ob,h.ok.slots (λy hy=>?_)⟩
 ·show Chn _ _ _ _
  rw[g1,<-eR,<-eE];exact h.cr.slots _
 ·exact(List.reverse_perm T0).nodup_iff.2 hn
 ·by_cases e2:j=at_
  ·subst e2;exact g2.trans z2.symm
  ·by_cases e3:j=off
   ·subst e3;exact g3.trans z3.symm
   ·show (((g.S.set hd _).set at_ 0).set off 0).getD j 0=_
    rw[Vn2 (Ne.symm e3),Vn2 (Ne.symm e2),Vn2 (Ne.symm hj)];exact h.so j hj e2 e3
 ·have:=h.ok.getS off;rcases ζp hy with h5|h5
  ·rcases ζp h5 with h6|h6
   ·rcases ζp h6 with h7|h7
    ·exact h.ok.st y h7
    ·omega
   ·omega
  ·omega
end
end
section
open Go.RowKit Word
section
variable {g:Gph} {hd at_ off C:Nat} {T:List Nat} {D:List (Nat × Nat)}
theorem LsG.atSlot(h:LsG g hd at_ off T D)(k:Nat):at_<(Xpk hd at_ k g).S.length/\(Xpk hd at_ k g).S.getD at_ 0=T.getD k 0/\YYI at_ off (Xpk hd at_ k g)=g:=by
 rw[h.find k];exact⟨by show at_<(List.set _ _ _).length;rw[υ];exact h.h2,JhX h.h2,h.rest (v:=T.getD k 0) rfl⟩
theorem LsG.at_ok(h:LsG g hd at_ off T D){k:Nat}(hk:k<D.length):(Xpk hd at_ k g).shE at_=0/\(Xpk hd at_ k g).fdV at_ 2 3=(D.getD k (0,0)).1/\(Xpk hd at_ k g).fdV at_ 1 2=(D.getD k (0,0)).2:=by
 obtain⟨a1,a2,-⟩:=h.atSlot k;obtain⟨nx,hn⟩:=h.ch.get k (by rw[h.ch.len];exact hk);have X:Nd (Xpk hd at_ k g) (T.getD k 0) nx (D.getD k (0,0)).2 (D.getD k (0,0)).1:=by rw[h.find k];exact hn.slots _
 obtain⟨-,r2,-,r4,r5⟩:=X.reads a1 a2;exact⟨r5,r2,r4⟩
theorem LsG.at_no(h:LsG g hd at_ off T D){k:Nat}(hk:D.length<=k):¬(Xpk hd at_ k g).shE at_=0:=by
 obtain⟨a1,a2,-⟩:=h.atSlot k;rw[Gph.shE_ok a1,a2,φ,ζf (by rw[h.ch.len];exact hk)];decide
theorem VXl.alone{g':Gph}{w f:Nat}(h:VXl g g' hd at_ off T D w f)(ha:ZCB g hd):ZCB g' hd:=λj hj=>by
 rw[h.S,Vn2 (Ne.symm hj)];exact ha j hj
theorem Vop.alone{g':Gph}(h:Vop g g' hd at_ off T D)(ha:ZCB g hd):ZCB g' hd:=λj hj=>(h.so j hj).trans (ha j hj)
end
theorem QyT{n hd at_ off:Nat}(h1:hd<n)(h2:at_<n)(h3:off<n)(d1:hd≠at_)(d2:hd≠off)(d3:at_≠off):LsG ⟨[],List.replicate n 0⟩ hd at_ off [] []/\Gph.Ok ⟨[],List.replicate n 0⟩/\ZCB ⟨[],List.replicate n 0⟩ hd:=by
 have hz:∀j,(List.replicate n 0).getD j 0=0:=λj=>by
  rw[φ,ζD]
  split <;> rfl
 refine⟨⟨by simpa using h1,by simpa using h2,by simpa using h3,d1,d2,d3,hz _,hz _,⟨hz _,rfl⟩,ξ1⟩,⟨λo ho=>(by cases ho),λo ho=>(by cases ho),λy hy=>?_⟩,λj _=>hz j⟩;rw[(List.mem_replicate.1 hy).2];exact ζh _
theorem XIn{n a:Nat}(h:a<n)(L:List GOb):Gph.clG ⟨L,List.replicate n 0⟩ a=⟨L,List.replicate n 0⟩:=by
 rw[Gph.clG_ok (by simpa using h)]
 show (⟨L,(List.replicate n 0).set a 0⟩:Gph)=_
 rw[List.set_replicate_self]
theorem V6I{n hd at_ off:Nat}(h1:hd<n)(h2:at_<n)(h3:off<n):YYI at_ off (Gph.clG ⟨[],List.replicate n 0⟩ hd)=⟨[],List.replicate n 0⟩:=by
 unfold YYI;rw[XIn h1,XIn h2,XIn h3]
end
end Go.Proofs.YteihjlcmjecmfaaGreatDoor
