/- Part 14 of what ListPlays leans on: my own lemmas, merged by shake.py. -/
import Derived.Test.YteihjlcmjecmfaaGreatDoorListPlaysM
namespace Go.Proofs.YteihjlcmjecmfaaGreatDoor
open _root_.Go.Proofs.Tryz
set_option maxHeartbeats 6400000
set_option maxRecDepth 100000
open Go.RowKit Go.Shelf Word
section
variable {w w':World} {c:HCf} {hb lb hd at_ off:Nat}
theorem P38.new{K:Nat->Prop}(h:BY w K c hb lb hd at_ off [] w')(ht:1<w.heap.size):P38 w (λ_=>False) c hb lb w'.heap.size hd at_ off [] [] (w'.alloc (.cells #[.slice none 0 0,.int .i64 (c.wd/4:Nat)] 51)):=by
 have g:=(Gr.refl w').alloc (.cells #[.slice none 0 0,.int .i64 (c.wd/4:Nat)] 51);have hz:=h.grew.size
 have hlb:lb<w'.heap.size:=by
  obtain⟨⟨g,T,a,b⟩,hq⟩:=h;exact a.row.lt
 have hr:=Rec.new w' 51 [.slice none 0 0,iI (c.wd/4:Nat)];refine⟨⟨_,λk=>k=w'.heap.size,h.wr (g.touch (λ_=>False)) (λ_ h=>h.elim) ht,⟨.slice none 0 0,hr,GD _ _ _ _,rfl,λg hg=>by cases hg⟩,λk hk=>?_,λ_ h=>h.elim⟩,ht⟩;subst hk;exact⟨.inr ⟨π _,hr.lt⟩,by omega,by omega⟩
theorem YPg(hT:AP w)(c:CfI)(hc:c.Bd)(x y z:Int){A:Option Addr}{cap:Nat}{l:List C2}(hA:N5 w A l)(hl:l.length<=maxLen):Calls prog 4 #[c.V,.agg #[iI x,iI y,iI z],.slice A l.length cap] w λe w'=>e=.returned (.bool true)/\Gr w w':=by
 unfold maxLen at hl;obtain⟨w1,Xk⟩:∃w1,w1=(w.alloc (.cells (E3 c).toArray 41)).alloc (.cells #[.int .i64 x,.int .i64 y,.int .i64 z] 42):=⟨_,rfl⟩;have Xm:Hid (Gr w w1):=⟨by rw[Xk];exact((Gr.refl w).alloc _).alloc _⟩;have Xe:Hid (Rec w1 w.heap.size 41 (E3 c)):=⟨by rw[Xk];exact(Rec.new w _ (E3 c)).gr ((Gr.refl _).alloc _)⟩
 have Xo:Hid (Rec w1 (w.heap.size+1) 42 [iI x,iI y,iI z]):=⟨by
  have:=Rec.new (w.alloc (.cells (E3 c).toArray 41)) 42 [iI x,iI y,iI z];rw[γ]at this
  rw[Xk];exact this⟩
 have HL:=ι (λ(V:World) (g:Gr w V)=>Vbr V (g.tab hT.lt hT));have Za:Hid (∀V,Gr w V->1<V.heap.size):=⟨λV g=>υ hT.lt g.size⟩;have E:=ι Xk;have HA:=ι hA;obtain⟨N,hN⟩:∃N,N=l.length:=⟨_,rfl⟩;have HN:=ι hN;rw[<-hN]at hl⊢;have U:=ι (λ(V:World)=>YUJ c (n:=0) Ω none 0 V);have Yf:=ι (λ(V:World) (g:Gr w1 V)=>ZT (Xe.o.gr g));obtain⟨b0,b1,b2,b3,b4,b5,b6,b7,bl⟩:=ZT Xe.o;have Xq:Hid (∀V,Gr w1 V->V.cell? ⟨w.heap.size,3,none⟩=some (iI c.wd)/\V.cell? ⟨w.heap.size,4,none⟩=some (iI c.sl)/\w.heap.size<V.heap.size):=⟨λV g=>⟨(Xe.o.gr g).cell (j:=3) rfl,(Xe.o.gr g).cell (j:=4) rfl,(Xe.o.gr g).lt⟩⟩;have Xu:Hid (∀V,Gr w1 V->V.cell? ⟨w.heap.size+1,0,none⟩=some (iI x)/\V.cell? ⟨w.heap.size+1,1,none⟩=some (iI y)/\V.cell? ⟨w.heap.size+1,2,none⟩=some (iI z)/\w.heap.size+1<V.heap.size):=⟨λV g=>⟨(Xo.o.gr g).cell (j:=0) rfl,(Xo.o.gr g).cell (j:=1) rfl,(Xo.o.gr g).cell (j:=2) rfl,(Xo.o.gr g).lt⟩⟩;have Xa:Hid (∀V,Gr w V->c.may=true->Calls prog 15 #[c.V] V λe w'=>∃s,e=.returned (.tuple #[pP s.A.hp,iI 0])/\XM V c.nat s w'):=⟨λV g hm=>Xcy c hc hm V (g.tab hT.lt hT)⟩;have Xl:=ι (λ(V:World) hm=>YnZ c hc hm V);clear Xk hA hN hc;by_cases hf:2048<c.wd
 ·have d0:decide (2048<c.wd)=true:=θ hf;rw[d0]at U;unfold CfI.V at U⊢;unfold E3 at E;clear hf d0;go_enter func4,ntmps4;go_upto_region 1 with(fail);rw[<-E.o]
  go_wp2_with(first
   | (go_at_call 14;refine(U.o _).mono ?_;rintro e w2 ⟨rfl,hg⟩;have Y:=ι (Xm.o.trans hg);clear hg)
   | (go_at_call 13;refine(HL.o _ Y.o).mono ?_;rintro e w3 ⟨rfl,hg⟩;have J:=ι (Y.o.trans hg);clear hg))
  go_ret;exact⟨rfl,J.o⟩
 have d0:decide (2048<c.wd)=false:=φ hf;rw[d0]at U;by_cases hn:60<N
 ·have Yu:(60:Int)<(N:Int):=Ω
  unfold CfI.V at U⊢;unfold E3 at E;clear hf hn d0;go_enter func4,ntmps4;go_upto_region 1 with(fail);rw[<-E.o]
  go_wp2_with(first
   | (go_at_call 14;refine(U.o _).mono ?_;rintro e w2 ⟨rfl,hg⟩;have Y:=ι (Xm.o.trans hg);clear hg)
   | (go_at_call 13;refine(HL.o _ Y.o).mono ?_;rintro e w3 ⟨rfl,hg⟩;have J:=ι (Y.o.trans hg);clear hg))
  go_ret;exact⟨rfl,J.o⟩
 have Yu:¬(60:Int)<(N:Int):=Ω
 by_cases hm:c.may=true
 case neg=>
  have Xl:=ι (λV=>Xl.o V (by simpa using hm));unfold CfI.V at U Xl⊢;unfold E3 at E;clear hf hn d0 hm Xa;go_enter func4,ntmps4;go_upto_region 1 with(fail);rw[<-E.o]
  go_wp2_with(first
   | (go_at_call 14;refine(U.o _).mono ?_;rintro e w2 ⟨rfl,hg⟩;have Y:=ι hg;obtain⟨a0,a1,a2,a3,a4,a5,a6,a7,al⟩:=Yf.o _ hg;clear hg)
   | (go_at_call 15;refine(Xl.o _).mono ?_;rintro e w3 ⟨rfl,hg⟩;have J:=ι ((Xm.o.trans Y.o).trans hg);clear hg)
   | (go_at_call 13;refine(HL.o _ J.o).mono ?_;rintro e w4 ⟨rfl,hg⟩;have B:=ι (J.o.trans hg);clear hg))
  go_ret;exact⟨rfl,B.o⟩
 obtain⟨d,hd⟩:∃d,d=c.nat:=⟨_,rfl⟩;have Xw:=CfI.base_in (c:=c) (by unfold CfI.may at hm;simp at hm;exact hm.1);have Xx:c.wd=(d.wd:Int):=by rw[hd];exact(ζ9 (by have:=IM Xw.1.2.2.2.2.1;omega)).symm
 have Yi:c.sl=(d.sl:Int):=by rw[hd];exact(ζ9 (by have:=Xw.2.1;omega)).symm
 have Xa:=ι (λV g=>Xa.o V g hm);rw[<-hd]at Xa;rw[Xx,Yi]at Xq;rw[Xx]at hf;have HD:Hid (d.wd<=2048):=⟨by omega⟩;have Xf:=ι (λV=>Jmz (d.sl:Int) x y z V);unfold CfI.V at U Xa⊢;unfold E3 at E;clear hf hn d0 hm Xl Xw Xx Yi hd;go_enter func4,ntmps4;go_upto_region 1 with(fail);rw[<-E.o]
 go_upto_region 4 with(first
  | (go_at_call 14;refine(U.o _).mono ?_;rintro e w2 ⟨rfl,hg⟩;have Y:=ι hg;obtain⟨a0,a1,a2,a3,a4,a5,a6,a7,al⟩:=Yf.o _ hg;clear hg)
  | (go_at_call 15;refine(Xa.o _ (Xm.o.trans Y.o)).mono ?_;rintro e w3 ⟨s,rfl,hn⟩;have Xr:=ι hn;clear hn))
 have O:=ι (Xm.o.trans Y.o);have J:=ι (Y.o.trans Xr.o.gr);have Xi:=ι (O.o.trans Xr.o.gr);have hv:=HLv.new Xr.o;obtain⟨hb,Yh⟩:∃hb,hb=s.A.hp:=⟨_,rfl⟩;rw[<-Yh]at hv⊢;have HV:=ι hv;obtain⟨x0,x1,x2,xl⟩:=Xu.o _ J.o;obtain⟨f3,f4,fl⟩:=Xq.o _ J.o;clear hv Yh Xr b0 b1 b2 b3 b4 b5 b6 b7 bl a0 a1 a2 a3 a4 a5 a6 a7 al;by_cases hq:GC d.sl x y z=0
 case neg=>
  have Xh:=ι (X3J HV.o x y z hq);obtain⟨M,hM⟩:∃M,M=GC d.sl x y z:=⟨_,rfl⟩;rw[<-hM]at Xh Xf hq;have e0:(M==0)=false:=AZ hq;clear hq hM
  go_wp2_with(first
   | (go_at_call 6;refine(Xh.o).mono ?_;rintro e w4 ⟨rfl,hg⟩;have B:=ι hg;obtain⟨x0,x1,x2,xl⟩:=Xu.o _ (J.o.trans hg);obtain⟨f3,f4,fl⟩:=Xq.o _ (J.o.trans hg);clear hg)
   | (go_at_call 16;refine AT (Xf.o _) ?_)
   | (go_at_call 13;refine(HL.o _ (Xi.o.trans B.o)).mono ?_;rintro e w6 ⟨rfl,hg⟩;have Yr:=ι ((Xi.o.trans B.o).trans hg);clear hg))
  go_ret;exact⟨rfl,Yr.o⟩
 obtain⟨hd,at_,off,rfl,rfl,rfl,q1,q2,q3,q4,q5,q6⟩:∃a b e:Nat,x=a/\y=b/\z=e/\a<d.sl/\b<d.sl/\e<d.sl/\a≠b/\a≠e/\b≠e:=by
  unfold GC at hq
  split at hq
  ·cases hq
  ·split at hq
   ·cases hq
   ·exact⟨x.toNat,y.toNat,z.toNat,by omega,by omega,by omega,by omega,by omega,by omega,by omega,by omega,by omega⟩
 rw[hq]at Xf;have Xh:=ι (ZA7 HV.o q1 q2 q3 q4 q5 q6);clear hq q1 q2 q3 q4 q5 q6;obtain⟨rm,Yq⟩:∃rm,rm=d.wd/4:=⟨_,rfl⟩;have Zc:=ι Yq;have e4:wrap64 ((d.wd:Int)/4)=(rm:Int):=by have:=HD.o;rw[ψf _ Ω];omega
 clear Yq
 go_upto_region 13 with(first
  | (go_at_call 6;refine(Xh.o).mono ?_;rintro e w4 ⟨lb,rfl,ht,Xd,-⟩;have B:=ι Xd.grew;have Ye:=ι Xd;obtain⟨x0,x1,x2,xl⟩:=Xu.o _ (Y.o.trans Xd.grew);obtain⟨f3,f4,fl⟩:=Xq.o _ (Y.o.trans Xd.grew);clear ht Xd)
  | (go_at_call 16;refine AT (Xf.o _) ?_))
 have hp:=P38.new Ye.o (Za.o _ O.o);rw[<-Zc.o]at hp;obtain⟨w5,Yo⟩:∃w5,w5=w4.alloc (.cells #[.slice none 0 0,.int .i64 (rm:Nat)] 51):=⟨_,rfl⟩;obtain⟨rb,Yk⟩:∃rb,rb=w4.heap.size:=⟨_,rfl⟩;rw[<-Yo,<-Yk]at hp⊢;have HP:=ι hp;clear hp Yo Yk x0 x1 x2 xl f3 f4 fl Ye B J Xi HV e4 Xf Xh;have Xs:=ι (λ(V:World) (g:Gr w2 V)=>HL.o V (O.o.trans g));go_wp2
 go_loopw [80] (λs80 wr=>∃(i:Nat) (M:List (Nat×Nat)),i<=N/\s80=iI i/\Hid (P38 w2 (λ_=>False) d hb lb rb hd at_ off M.reverse M wr)) (λs80 _=>N-(intOf s80).toNat)
 case atStart=>exact⟨0,[],ζe _,rfl,HP⟩
 case round=>
  clear HP;obtain⟨i,M,hi,rfl,HP⟩:=hrel;by_cases X:i<N
  ·have Yw:(i:Int)<(N:Int):=Ω
   have Ym:i<l.length:=by rw[<-HN.o];exact X
   have Xp:=ι X;obtain⟨Xt,b,o,rfl,Yy,c0,c1,c2,c3⟩:=(HA.o.gr (O.o.trans HP.o.grew)) i Ym;generalize l[i]=a at Xt c0 c1 c2 c3;have Z:=Rec.new wr 24 a.L;have Ya:=ι (λ(V:World) (g:Gr wr V)=>J2u (HP.o.gr g) a Xt);obtain⟨kd,ai,aw,af⟩:=a;unfold C2.L at Z Ya;dsimp only at Z Ya c0 c1 c2 c3;clear Xt X Ym hi;go_upto_region 16 with(fail);have Xg:=(Gr.refl wr).alloc (.cells #[.int .u8 kd,.int .i64 ai,.int .u64 aw,.int .u64 af] 24);obtain⟨wz,I⟩:∃wz,wz=wr.alloc (.cells #[.int .u8 kd,.int .i64 ai,.int .u64 aw,.int .u64 af] 24):=⟨_,rfl⟩;obtain⟨ob,D⟩:∃ob,ob=wr.heap.size:=⟨_,rfl⟩;have Z:Rec wz ob 24 [.int .u8 kd,iI ai,uU aw,uU af]:=by rw[I,D];exact Z
   have Yt:Hid (Gr wr wz):=⟨by rw[I];exact Xg⟩;rw[<-I,<-D];clear I D Xg c0 c1 c2 c3 Yy;obtain⟨y0,y1,y2,y3,yl⟩:=Z.k4;clear Z;go_wp2_with(go_at_call 17;refine(Ya.o _ Yt.o).mono ?_;rintro e w6 ⟨rfl,-,M2,hp⟩;have Xj:=ι hp;clear hp);go_round
   case rel=>exact⟨i+1,M2,Xp.o,by go_num,Xj⟩
   case measure=>have:=Xp.o;simp[intOf];omega
  ·have Yw:¬(i:Int)<(N:Int):=Ω
   obtain⟨A2,cp,Xz⟩:=HP.o.rr;have r0:=Xz.cc 0;have rl:=Xz.lt;have Xy:Hid (M.length<=1000000):=⟨by have:=HP.o.len_le;rwa [ζJ]at this⟩;have Ys:=ι (HP.o.own (X':=λ_=>False) (Gr.refl _) (λ_ h=>h.elim));clear Xz hi X;have Xs:=ι (λ(V:World) (g:Gr wr V)=>Xs.o V (HP.o.grew.trans g));have HW2:=ι HP.o.grew;go_wp2
   go_loopw [96] (λs96 wq=>∃k:Nat,k<=M.length/\s96=iI k/\Hid (P38 w2 (λ_=>False) d hb lb rb hd at_ off M.reverse M wq)) (λs96 _=>M.length-(intOf s96).toNat)
   case atStart=>exact⟨0,ζe _,rfl,HP⟩
   case round=>
    clear HP Ys Xs r0 rl;obtain⟨k,hk,rfl,HP⟩:=hrel;by_cases X:k<M.length
    ·have Yj:(k:Int)<(M.length:Int):=Ω
     have Yd:=Xy.o;obtain⟨xv,yv,ev,h1,h2,h3⟩:=HP.o.at2 Yd (i:=(k:Int)) Ω;have h3:=h3 Ω Yj;subst h3;have Xp:=ι X;have H1:=ι (h1 _ (Gr.refl _));have H2:=ι h2;clear h1 h2 X hk Yd
     go_upto_region 24 with(first
      | (go_at_call 8;refine(H1.o).mono ?_;rintro e w6 ⟨rfl,-,hp⟩;have Xj:=ι hp;clear hp)
      | (go_at_call 18;refine(H2.o _ Xj.o).mono ?_;rintro e w7 ⟨rfl,-,hp⟩;have Xn:=ι hp;clear hp))
     have Z:=Rec.new w7 54 [uU xv,uU yv];have Xg:=(Gr.refl w7).alloc (.cells #[.int .u64 xv,.int .u64 yv] 54);obtain⟨wz,I⟩:∃wz,wz=w7.alloc (.cells #[.int .u64 xv,.int .u64 yv] 54):=⟨_,rfl⟩;obtain⟨ob,D⟩:∃ob,ob=w7.heap.size:=⟨_,rfl⟩;have Yc:Hid (Rec wz ob 54 [uU xv,uU yv]):=⟨by rw[I,D];exact Z⟩;have Yx:Hid (P38 w2 (λ_=>False) d hb lb rb hd at_ off M.reverse M wz):=⟨by rw[I];exact Xn.o.gr Xg⟩;rw[<-I,<-D];clear I D Z Xg;obtain⟨Sx,Xb,HS⟩:=AA.start λW'=>Rec W' ob 54 [uU xv,uU yv];have y0:=AA.fact Xb λ_ h=>h.cell (j:=0) rfl;have y1:=AA.fact Xb λ_ h=>h.cell (j:=1) rfl;have G:=HS.o _ (Yc.o.gr (Gr.refl wz).drew);have Xc:Inhabited (AA Sx):=⟨⟨_,G⟩⟩;clear Xb;refine AR Sx 15 [([0,1,2,3,4,5,7,8],6)] [9,10,11,12,13,14] (by kernel_rfl) (by kernel_rfl) G ?_;refine AG ?_
     try simp only[AC,ζ,ξ]
     repeat(go_big_quiet_step (fail))
     refine ψ ?_;go_wp2_with((go_at_call 19;refine AT (XE _ _) ?_));refine⟨.inr (AA.of (HS.o _ (Yc.o.gr (Gr.refl wz).drew))),?_⟩;refine AS ?_
     try simp only[AC,ζ,ξ]
     repeat(go_big_quiet_step (fail))
     refine ψ ?_;refine τ ?_;clear y0 y1 G Xc;clear HS Sx;have Yv:=ι (Yx.o.gr (Gr.refl wz).drew);have q1:=Xp.o;have q2:=Xy.o;go_wp2;go_round
     case rel=>exact⟨k+1,q1,by go_num,Yv⟩
     case measure=>simp[intOf];omega
    ·have Yj:¬(k:Int)<(M.length:Int):=Ω
     clear X hk;have HW9:=ι HP.o.grew;have Xv:=HP.o.ls λK hl=>hl.live;rw[ζJ]at Xv;have Yl:=ι Xv;obtain⟨q,hq⟩:∃q,q=4*M.length:=⟨_,rfl⟩;rw[<-hq]at Yl;have em:wrap64 (4*(M.length:Int))=(q:Int):=by have:=Xy.o;rw[ψf _ Ω];omega
     clear Xv hq;go_upto_region 28 with(go_at_call 20;refine(Yl.o).mono ?_;rintro e w6 ⟨rfl,-,hp⟩;have Xj:=ι hp;clear hp);obtain⟨A3,Zb,Yp⟩:=Xj.o.len2;have Yg:=ι Yp;have Yz:=ι (λ(V:World) (g:Gr w2 V)=>HL.o V (O.o.trans g));clear Yp;obtain⟨Sx,Xb,HS⟩:=AA.start λW'=>Rec W' rb 51 [.slice A3 M.length Zb,iI (d.wd/4:Nat)];have y0:=AA.fact Xb λ_ h=>h.cell (j:=0) rfl;have G:=HS.o _ ((Yg.o _ (Gr.refl w6).drew).1);have Xc:Inhabited (AA Sx):=⟨⟨_,G⟩⟩;clear Xb;refine AR Sx 27 [([0,2,3,4,5,6],1),([7,8,9,10,11,12,13,14,15,16,17,18,19,20,21,22,23],24)] [25,26] (by kernel_rfl) (by kernel_rfl) G ?_;refine AG ?_
     try simp only[AC,ζ,ξ]
     repeat(go_big_quiet_step (fail))
     refine ψ ?_;go_wp2_with((go_at_call 12;refine((Yg.o _ (Gr.refl w6).drew).2).mono ?_;rintro e w7 ⟨⟨rfl,-,hp⟩,hr⟩;have Xn:=ι hp;have Yn:=ι hr;clear hp hr));refine⟨.inr (AA.of (HS.o _ (Yn.o))),?_⟩;refine AG ?_
     try simp only[AC,ζ,ξ]
     repeat(go_big_quiet_step (fail))
     refine ψ ?_;go_wp2_with((go_at_call 13;refine(Yz.o _ Xn.o.grew).mono ?_;rintro e w8 ⟨rfl,hg⟩;have Yb:=ι hg;clear hg));refine⟨.inr (AA.of (HS.o _ (Yn.o.gr Yb.o))),?_⟩;refine AS ?_
     try simp only[AC,ζ,ξ]
     repeat(go_big_quiet_step (fail))
     refine ψ ?_;refine τ ?_;clear y0 G Xc;clear HS Sx;have Zd:=ι ((O.o.trans Xn.o.grew).trans Yb.o);go_wp2;go_ret;exact⟨rfl,Zd.o⟩
end
end Go.Proofs.YteihjlcmjecmfaaGreatDoor
