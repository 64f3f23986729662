/- Part 3 of what AuditModels leans on: my own lemmas, merged by shake.py. -/
import Derived.Test.YtgmaanehcbnchaaAuditModelsB
import Derived.Deep.CutBlock
import Derived.Deep.DeepCutAuto
namespace Go.Proofs.Ytgmaanehcbnchaa
open _root_.Go.Proofs.Try
set_option maxHeartbeats 6400000
set_option maxRecDepth 100000
section
section
open Go.RowKit Word
theorem VAE{w5:World}{u x:Nat}(h:ZkF w5 u dg0):w5.there u 0 (wL x).toArray.size/\(prog.info? 118).map (·.size)=some (wL x).toArray.size/\WAt (w5.setCells u 0 (wL x)) u x/\∀w,Gr w w5->w.heap.size<=u->Gr w (w5.setCells u 0 (wL x)):=by
 refine⟨by rw[V2u];exact h.there,by rw[V2u];exact Vnc (cs:=dgL dg0) (ZlJ XMG),(ZkF.over h.row (ZlJ XMG) (QlO x)).row,λw g hu=>?_⟩;exact(((g.touch (λk=>k=u)).trans (XF4.setCells (q:=u) (wL x) 0 w5)).mono (T:=λ_=>False) (λk hk e=>by omega)).gr
theorem ZS5{x:Nat}(hx:x<65536 ^ 140)(w:World):Calls prog 59 #[.agg (wL x).toArray] w λe w'=>e=.returned (.int .u64 (X5K x:Nat))/\Gr w w':=by
 obtain⟨w1,hw1⟩:∃w1,w1=w.alloc (.cells (wL x).toArray 118):=⟨_,rfl⟩;have HW1:=hid hw1;have HG1:Hid (Gr w w1):=⟨by rw[hw1];exact(Gr.refl w).alloc _⟩;have HA:Hid (WAt w1 w.heap.size x):=⟨by rw[hw1];exact Rec.new w _ _⟩;have hwl:w.heap.size<w1.heap.size:=by rw[hw1,τ];omega
 have s1:=V2u x;have HX:=hid hx;have a1:=Xip;have a2:=JBE;clear hx;generalize hAA:(wL x).toArray=AA at HW1 s1⊢;have HAA:=hid hAA;clear hw1 hAA;go_enter func59,ntmps59;go_upto_region 1 with(fail);rw[<-HW1.o];clear HW1;go_wp2
 go_loopw [3,4] (λs3 s4 wr=>∃lo hi:Nat,s3=.int .u64 lo/\s4=.int .u64 hi/\lo<=hi/\hi<=9218868437227405312/\Hid (JHm lo<=x/\(hi<QXS->x<JHm (hi+1)))/\Hid (Gr w1 wr)) (λs3 s4 _=>(intOf s4-intOf s3).toNat)
 case atStart=>exact⟨0,QXS,rfl,rfl,ζb _,ζe _,⟨V63 x,λh=>absurd h (ξh _)⟩,⟨Gr.refl _⟩⟩
 case round=>
  obtain⟨lo,hi,rfl,rfl,hlh,hhi,HI,HG⟩:=hrel;have HWR:=hid (HA.o.gr HG.o);have HLD:=hid (λ(W:World) (g:Gr wr W)=>(HA.o.gr (HG.o.trans g)).from0);by_cases hlt:lo<hi
  ·obtain⟨n1,n2,n3⟩:=Vkv (a:=x) hlt;obtain⟨d,hd⟩:∃d,d=hi-lo:=⟨_,rfl⟩;rw[<-hd]at n1 n2 n3;have hdI:(hi:Int)-(lo:Int)=(d:Int):=Ω
   have e1:((d:Int)/2)=((d/2:Nat):Int):=rfl;have e2:((d:Int).tdiv 2)=((d/2:Nat):Int):=rfl;have hq:d/2<=d:=ζ5 _ _;generalize d/2=q at e1 e2 hq n1 n2 n3;obtain⟨mid,hmid⟩:∃mid,mid=hi-q:=⟨_,rfl⟩;have hmI:(hi:Int)-(q:Int)=(mid:Int):=Ω
   rw[<-hmid]at n1 n2 n3;have hmb:mid<=QXS:=γ n2 hhi;have HV:=hid (λ(W:World)=>VIr hmb W);have HLE:=hid (λ(W:World)=>Qa4 HX.o (Zy6 hmb) W);rw[HAA.o]at HLE
   have HLQ:Hid (∀W,(∃p:YF9,W=grow wr p.xs p.n)->W.rangeAt w.heap.size 0 (wL x)):=⟨λW h=>by
    obtain⟨p,rfl⟩:=h
    exact(HA.o.gr (HG.o.trans (grown wr _ _))).dg.range⟩
   have HIF:=hid (Vnc (YBc x));have HN3:=hid n3;have HMB:=hid hmb;clear hmid hd n3 hmb;have hfin:∀W',Gr wr W'->Gr w1 W':=λW' g=>HG.o.trans g;have HFIN:=hid hfin;clear hfin;by_cases hc:x<JHm mid
   ·have HC:=hid hc;rw[υ hc]at HLE;have hm1:(mid:Int)-1=((mid-1:Nat):Int):=Ω
    obtain⟨m1,hm1e⟩:∃m1,m1=mid-1:=⟨_,rfl⟩;rw[<-hm1e]at hm1;have HM1:=hid hm1e;have hmm:m1<hi:=Ω
    clear hc hm1e;go_upto_region 5 with(fail);refine XAX (by kernel_rfl) (by kernel_rfl) ?_;refine VhI rfl 118 _ rfl w.heap.size 0 rfl (wL x) _ HLQ.o underlying118 rfl HIF.o ?_;rw[HAA.o];simp only[Act.put,ψ,ϑ,κ]
    repeat(go_big_quiet_step (first|(go_at_call 73;have hc:=HV.o;exact V4y.grown (hc _))|(go_at_call 58;have hc:=HLE.o;exact V4y.grown (hc _))))
    refine φ ?_;intro _ hw';obtain⟨⟨xs,nq⟩,hw''⟩:=hw';subst hw'';go_wp2;go_round
    case rel=>
     have h3:=HN3.o HC.o;rw[<-HM1.o]at h3;exact⟨lo,m1,rfl,rfl,h3.1,by omega,⟨HI.o.1,h3.2⟩,⟨HFIN.o _ (grown wr _ _)⟩⟩
    case measure=>simp[intOf];omega
   ·have HC:=hid hc;rw[π hc]at HLE;clear hc;go_upto_region 5 with(fail);refine XAX (by kernel_rfl) (by kernel_rfl) ?_;refine VhI rfl 118 _ rfl w.heap.size 0 rfl (wL x) _ HLQ.o underlying118 rfl HIF.o ?_;rw[HAA.o];simp only[Act.put,ψ,ϑ,κ]
    repeat(go_big_quiet_step (first|(go_at_call 73;have hc:=HV.o;exact V4y.grown (hc _))|(go_at_call 58;have hc:=HLE.o;exact V4y.grown (hc _))))
    refine φ ?_;intro _ hw';obtain⟨⟨xs,nq⟩,hw''⟩:=hw';subst hw'';go_wp2;go_round
    case rel=>exact⟨mid,hi,rfl,rfl,n2,hhi,⟨ξL HC.o,HI.o.2⟩,⟨HFIN.o _ (grown wr _ _)⟩⟩
    case measure=>simp[intOf];omega
  ·obtain rfl:lo=hi:=Ω
   have HNA:Hid (VRa x lo):=⟨XJW HI.o.1 hhi HI.o.2⟩;have HRN:Hid (X5K x=if lo=QXS then QXS else if JHm (lo+1)-x<x-JHm lo\/(¬x-JHm lo<JHm (lo+1)-x/\lo%2=1)then lo+1 else lo):=⟨JJz HNA.o⟩;by_cases htop:lo=QXS
   ·have e0:((lo:Int)==9218868437227405312)=true:=by rw[htop];rfl
    have HR:Hid (X5K x=QXS):=⟨by rw[HRN.o,χ htop]⟩;clear htop hlt;go_wp2;go_ret;exact⟨by rw[HR.o] <;> rfl,HG1.o.trans HG.o⟩
   ·have e0:((lo:Int)==9218868437227405312)=false:=by
     rw[σ];intro h;exact htop (by unfold QXS;omega)
    have hlo:lo<QXS:=by unfold QXS at htop⊢;omega
    have HUP:Hid (x<JHm (lo+1)):=⟨HI.o.2 hlo⟩;have HDN:Hid (JHm lo<=x):=⟨HI.o.1⟩;have hlo1:(lo:Int)+1=((lo+1:Nat):Int):=rfl;obtain⟨lo1,hl1⟩:∃lo1,lo1=lo+1:=⟨_,rfl⟩;rw[<-hl1]at hlo1;have HL1:=hid hl1;have hlb:lo<9218868437227405312:=hlo;have HV1:=hid (λ(W:World)=>VIr (b:=lo1) (by rw[hl1];exact hlo) W);have HV2:=hid (λ(W:World)=>VIr (b:=lo) (ζG hlo) W);have HM1:=hid (λ(W:World)=>XnE (x:=JHm lo1) (y:=x) (Zy6 (by rw[hl1];exact hlo)) (by rw[hl1];exact ζG HUP.o) W);have HM2:=hid (λ(W:World)=>XnE (x:=x) (y:=JHm lo) HX.o HDN.o W);have b1:JHm lo1-x<65536 ^ 140:=ζz (Nat.sub_le _ _) (Zy6 (by rw[hl1];exact hlo));have b2:x-JHm lo<65536 ^ 140:=ζz (Nat.sub_le _ _) HX.o;have HC1:=hid (λ(W:World)=>Qa4 b1 b2 W);have HC2:=hid (λ(W:World)=>Qa4 b2 b1 W);have HR:Hid (X5K x=if JHm lo1-x<x-JHm lo\/(¬x-JHm lo<JHm lo1-x/\lo%2=1)then lo1 else lo):=⟨by rw[HRN.o,ν htop,hl1]⟩;rw[HAA.o]at HM1 HM2;have HIF:=hid (Vnc (YBc x));clear htop hlo hlt hl1 b1 b2 hhi hlh;go_upto_region 10 with(fail);go_cut [6] (λs6 wx=>∃u:Nat,s6=.pointer (some ⟨u,0,none⟩)/\Hid (WAt wx u (JHm lo1-x))/\Hid (Gr wr wx))
    case first=>
     obtain⟨Sx,hSx⟩:∃Sx:World->Prop,Sx=λW'=>Gr wr W':=⟨_,rfl⟩;have HLQ:Hid (∀W,(∃p:ZJV Sx,W=p.w)->W.rangeAt w.heap.size 0 (wL x)):=⟨λW h=>by obtain⟨p,rfl⟩:=h;exact(HWR.o.gr (by have g:=ZJV.get hSx p;exact g)).dg.range⟩;have hS0:Sx wr.drew:=by rw[hSx];exact(Gr.refl wr).drew
     have HSX:=hid hSx;have inst:Inhabited (ZJV Sx):=⟨⟨_,hS0⟩⟩;clear hSx;refine JzF Sx (.two [0,1,3] 2 (.two [] 4 (.one [] 5 (.one [] 6 (.fin []))) 5 (.one [] 4 (.one [] 6 (.fin [])))) 5 (.one [] 2 (.one [] 4 (.one [] 6 (.fin []))))) (by kernel_rfl) (by kernel_rfl) hS0 ?_;refine JbS ?_;simp only[XZy,ξ,ζ]
     repeat(go_big_quiet_step (fail))
     refine VhI rfl 118 _ rfl w.heap.size 0 rfl (wL x) _ HLQ.o underlying118 rfl HIF.o ?_;rw[HAA.o];simp only[Act.put,ψ,ϑ,κ]
     repeat(go_big_quiet_step (fail))
     refine φ ⟨?_,?_⟩
     ·go_wp2_with(go_at_call 73;refine(HV1.o _).mono ?_;rintro e w2 ⟨rfl,hg⟩;have HGw2:=hid hg;clear hg);have HA2:Hid (Gr wr w2):=⟨((Gr.refl wr).drew).trans HGw2.o⟩;refine⟨ZJV.of (by rw[HSX.o];exact HA2.o),?_⟩;refine JbS ?_;simp only[XZy,ξ,ζ]
      repeat(go_big_quiet_step (fail))
      refine φ ⟨?_,?_⟩
      ·go_wp2_with(go_at_call 60;refine(HM1.o _).mono ?_;rintro e w3 ⟨rfl,hg⟩;have HGw3:=hid hg;clear hg);have HA3:Hid (Gr wr w3):=⟨HA2.o.trans HGw3.o⟩;refine⟨ZJV.of (by rw[HSX.o];exact HA3.o),?_⟩;refine QbJ ?_;simp only[XZy,ξ,ζ]
       repeat(go_big_quiet_step (fail))
       refine φ ?_;go_wp2;refine⟨ZJV.of (by rw[HSX.o];exact HA3.o.alloc _),?_⟩;obtain⟨k1,k2,k3,k4⟩:=VAE (x:=JHm lo1-x) (w5:=(w3.alloc (.cells (dgL dg0).toArray 118))) (u:=w3.heap.size) (ZkF.new w3 XMG);have HTH:=hid k1;have HI4:=hid k2;have HW5:=hid k3;have HG5:Hid (Gr wr (World.setCells (w3.alloc (.cells (dgL dg0).toArray 118)) w3.heap.size 0 (wL (JHm lo1-x)))):=⟨k4 wr (HA3.o.alloc _) (HA3.o.size)⟩;have HOO:=hid (JEv (wd (JHm lo1-x)));clear k1 k2 k3 k4;refine QbJ ?_;simp only[XZy,ξ,ζ]
       repeat(go_big_quiet_step (fail))
       refine φ ?_;refine wpList_store_mid rfl 118 _ _ rfl (w3.heap.size) 0 (wL (JHm lo1-x)).toArray rfl rfl HTH.o HI4.o HOO.o ?_;go_wp2;refine⟨ZJV.of (by rw[HSX.o];exact HG5.o),?_⟩;refine Vy6 ?_;simp only[XZy];refine φ ?_;refine δ ?_;go_wp2
       go_meet
       case rel=>exact⟨_,rfl,HW5,HG5⟩
      ·go_wp2;have HD2:Hid (ZkF (w2.alloc (.cells (dgL dg0).toArray 118)) w2.heap.size dg0):=⟨ZkF.new w2 XMG⟩;refine⟨ZJV.of (by rw[HSX.o];exact HA2.o.alloc _),?_⟩;refine QbJ ?_;simp only[XZy,ξ,ζ]
       repeat(go_big_quiet_step (fail))
       refine φ ?_;go_wp2_with(go_at_call 60;refine(HM1.o _).mono ?_;rintro e w4 ⟨rfl,hg⟩;have HGw4:=hid hg;clear hg);have HA4:Hid (Gr wr w4):=⟨(HA2.o.alloc _).trans HGw4.o⟩;refine⟨ZJV.of (by rw[HSX.o];exact HA4.o),?_⟩;obtain⟨k1,k2,k3,k4⟩:=VAE (x:=JHm lo1-x) (w5:=w4) (u:=w2.heap.size) (HD2.o.gr HGw4.o);have HTH:=hid k1;have HI4:=hid k2;have HW5:=hid k3;have HG5:Hid (Gr wr (World.setCells w4 w2.heap.size 0 (wL (JHm lo1-x)))):=⟨k4 wr (HA4.o) (HA2.o.size)⟩;have HOO:=hid (JEv (wd (JHm lo1-x)));clear k1 k2 k3 k4;refine QbJ ?_;simp only[XZy,ξ,ζ]
       repeat(go_big_quiet_step (fail))
       refine φ ?_;refine wpList_store_mid rfl 118 _ _ rfl (w2.heap.size) 0 (wL (JHm lo1-x)).toArray rfl rfl HTH.o HI4.o HOO.o ?_;go_wp2;refine⟨ZJV.of (by rw[HSX.o];exact HG5.o),?_⟩;refine Vy6 ?_;simp only[XZy];refine φ ?_;refine δ ?_;go_wp2
       go_meet
       case rel=>exact⟨_,rfl,HW5,HG5⟩
     ·go_wp2;have HD2:Hid (ZkF (wr.drew.alloc (.cells (dgL dg0).toArray 118)) wr.heap.size dg0):=⟨ZkF.new wr.drew XMG⟩;have HA1:Hid (Gr wr (wr.drew.alloc (.cells (dgL dg0).toArray 118))):=⟨(Gr.refl wr).drew.alloc _⟩;refine⟨ZJV.of (by rw[HSX.o];exact HA1.o),?_⟩;refine QbJ ?_;simp only[XZy,ξ,ζ]
      repeat(go_big_quiet_step (fail))
      refine φ ?_;go_wp2_with(go_at_call 73;refine(HV1.o _).mono ?_;rintro e w3 ⟨rfl,hg⟩;have HGw3:=hid hg;clear hg);have HA3:Hid (Gr wr w3):=⟨HA1.o.trans HGw3.o⟩;refine⟨ZJV.of (by rw[HSX.o];exact HA3.o),?_⟩;refine QbJ ?_;simp only[XZy,ξ,ζ]
      repeat(go_big_quiet_step (fail))
      refine φ ?_;go_wp2_with(go_at_call 60;refine(HM1.o _).mono ?_;rintro e w4 ⟨rfl,hg⟩;have HGw4:=hid hg;clear hg);have HA4:Hid (Gr wr w4):=⟨HA3.o.trans HGw4.o⟩;refine⟨ZJV.of (by rw[HSX.o];exact HA4.o),?_⟩;obtain⟨k1,k2,k3,k4⟩:=VAE (x:=JHm lo1-x) (w5:=w4) (u:=wr.heap.size) ((HD2.o.gr HGw3.o).gr HGw4.o);have HTH:=hid k1;have HI4:=hid k2;have HW5:=hid k3;have HG5:Hid (Gr wr (World.setCells w4 wr.heap.size 0 (wL (JHm lo1-x)))):=⟨k4 wr (HA4.o) (ζe _)⟩;have HOO:=hid (JEv (wd (JHm lo1-x)));clear k1 k2 k3 k4;refine QbJ ?_;simp only[XZy,ξ,ζ]
      repeat(go_big_quiet_step (fail))
      refine φ ?_;refine wpList_store_mid rfl 118 _ _ rfl (wr.heap.size) 0 (wL (JHm lo1-x)).toArray rfl rfl HTH.o HI4.o HOO.o ?_;go_wp2;refine⟨ZJV.of (by rw[HSX.o];exact HG5.o),?_⟩;refine Vy6 ?_;simp only[XZy];refine φ ?_;refine δ ?_;go_wp2
      go_meet
      case rel=>exact⟨_,rfl,HW5,HG5⟩
    case rest=>
     obtain⟨u,rfl,HU,HGC⟩:=hcut;go_upto_region 11 with(fail);go_cut [7] (λs7 wx=>∃u:Nat,s7=.pointer (some ⟨u,0,none⟩)/\Hid (WAt wx u (x-JHm lo))/\Hid (Gr wc wx))
     case first=>
      obtain⟨Sx,hSx⟩:∃Sx:World->Prop,Sx=λW'=>Gr wc W':=⟨_,rfl⟩;have HLQ:Hid (∀W,(∃p:ZJV Sx,W=p.w)->W.rangeAt w.heap.size 0 (wL x)):=⟨λW h=>by obtain⟨p,rfl⟩:=h;exact(HWR.o.gr (by have g:=ZJV.get hSx p;exact HGC.o.trans g)).dg.range⟩;have hS0:Sx wc.drew:=by rw[hSx];exact(Gr.refl wc).drew
      have HSX:=hid hSx;have inst:Inhabited (ZJV Sx):=⟨⟨_,hS0⟩⟩;clear hSx;refine JzF Sx (.two [0,1] 2 (.two [] 3 (.one [] 4 (.one [] 5 (.fin []))) 4 (.one [] 3 (.one [] 5 (.fin [])))) 4 (.one [] 2 (.one [] 3 (.one [] 5 (.fin []))))) (by kernel_rfl) (by kernel_rfl) hS0 ?_;refine JbS ?_;simp only[XZy,ξ,ζ]
      repeat(go_big_quiet_step (fail))
      refine VhI rfl 118 _ rfl w.heap.size 0 rfl (wL x) _ HLQ.o underlying118 rfl HIF.o ?_;rw[HAA.o];simp only[Act.put,ψ,ϑ,κ]
      repeat(go_big_quiet_step (fail))
      refine φ ⟨?_,?_⟩
      ·go_wp2_with(go_at_call 73;refine(HV2.o _).mono ?_;rintro e w2 ⟨rfl,hg⟩;have HGw2:=hid hg;clear hg);have HA2:Hid (Gr wc w2):=⟨((Gr.refl wc).drew).trans HGw2.o⟩;refine⟨ZJV.of (by rw[HSX.o];exact HA2.o),?_⟩;refine JbS ?_;simp only[XZy,ξ,ζ]
       repeat(go_big_quiet_step (fail))
       refine φ ⟨?_,?_⟩
       ·go_wp2_with(go_at_call 60;refine(HM2.o _).mono ?_;rintro e w3 ⟨rfl,hg⟩;have HGw3:=hid hg;clear hg);have HA3:Hid (Gr wc w3):=⟨HA2.o.trans HGw3.o⟩;refine⟨ZJV.of (by rw[HSX.o];exact HA3.o),?_⟩;refine QbJ ?_;simp only[XZy,ξ,ζ]
        repeat(go_big_quiet_step (fail))
        refine φ ?_;go_wp2;refine⟨ZJV.of (by rw[HSX.o];exact HA3.o.alloc _),?_⟩;obtain⟨k1,k2,k3,k4⟩:=VAE (x:=x-JHm lo) (w5:=(w3.alloc (.cells (dgL dg0).toArray 118))) (u:=w3.heap.size) (ZkF.new w3 XMG);have HTH:=hid k1;have HI4:=hid k2;have HW5:=hid k3;have HG5:Hid (Gr wc (World.setCells (w3.alloc (.cells (dgL dg0).toArray 118)) w3.heap.size 0 (wL (x-JHm lo)))):=⟨k4 wc (HA3.o.alloc _) (HA3.o.size)⟩;have HOO:=hid (JEv (wd (x-JHm lo)));clear k1 k2 k3 k4;refine QbJ ?_;simp only[XZy,ξ,ζ]
        repeat(go_big_quiet_step (fail))
        refine φ ?_;refine wpList_store_mid rfl 118 _ _ rfl (w3.heap.size) 0 (wL (x-JHm lo)).toArray rfl rfl HTH.o HI4.o HOO.o ?_;go_wp2;refine⟨ZJV.of (by rw[HSX.o];exact HG5.o),?_⟩;refine Vy6 ?_;simp only[XZy];refine φ ?_;refine δ ?_;go_wp2
        go_meet
        case rel=>exact⟨_,rfl,HW5,HG5⟩
       ·go_wp2;have HD2:Hid (ZkF (w2.alloc (.cells (dgL dg0).toArray 118)) w2.heap.size dg0):=⟨ZkF.new w2 XMG⟩;refine⟨ZJV.of (by rw[HSX.o];exact HA2.o.alloc _),?_⟩;refine QbJ ?_;simp only[XZy,ξ,ζ]
        repeat(go_big_quiet_step (fail))
        refine φ ?_;go_wp2_with(go_at_call 60;refine(HM2.o _).mono ?_;rintro e w4 ⟨rfl,hg⟩;have HGw4:=hid hg;clear hg);have HA4:Hid (Gr wc w4):=⟨(HA2.o.alloc _).trans HGw4.o⟩;refine⟨ZJV.of (by rw[HSX.o];exact HA4.o),?_⟩;obtain⟨k1,k2,k3,k4⟩:=VAE (x:=x-JHm lo) (w5:=w4) (u:=w2.heap.size) (HD2.o.gr HGw4.o);have HTH:=hid k1;have HI4:=hid k2;have HW5:=hid k3;have HG5:Hid (Gr wc (World.setCells w4 w2.heap.size 0 (wL (x-JHm lo)))):=⟨k4 wc (HA4.o) (HA2.o.size)⟩;have HOO:=hid (JEv (wd (x-JHm lo)));clear k1 k2 k3 k4;refine QbJ ?_;simp only[XZy,ξ,ζ]
        repeat(go_big_quiet_step (fail))
        refine φ ?_;refine wpList_store_mid rfl 118 _ _ rfl (w2.heap.size) 0 (wL (x-JHm lo)).toArray rfl rfl HTH.o HI4.o HOO.o ?_;go_wp2;refine⟨ZJV.of (by rw[HSX.o];exact HG5.o),?_⟩;refine Vy6 ?_;simp only[XZy];refine φ ?_;refine δ ?_;go_wp2
        go_meet
        case rel=>exact⟨_,rfl,HW5,HG5⟩
      ·go_wp2;have HD2:Hid (ZkF (wc.drew.alloc (.cells (dgL dg0).toArray 118)) wc.heap.size dg0):=⟨ZkF.new wc.drew XMG⟩;have HA1:Hid (Gr wc (wc.drew.alloc (.cells (dgL dg0).toArray 118))):=⟨(Gr.refl wc).drew.alloc _⟩;refine⟨ZJV.of (by rw[HSX.o];exact HA1.o),?_⟩;refine QbJ ?_;simp only[XZy,ξ,ζ]
       repeat(go_big_quiet_step (fail))
       refine φ ?_;go_wp2_with(go_at_call 73;refine(HV2.o _).mono ?_;rintro e w3 ⟨rfl,hg⟩;have HGw3:=hid hg;clear hg);have HA3:Hid (Gr wc w3):=⟨HA1.o.trans HGw3.o⟩;refine⟨ZJV.of (by rw[HSX.o];exact HA3.o),?_⟩;refine QbJ ?_;simp only[XZy,ξ,ζ]
       repeat(go_big_quiet_step (fail))
       refine φ ?_;go_wp2_with(go_at_call 60;refine(HM2.o _).mono ?_;rintro e w4 ⟨rfl,hg⟩;have HGw4:=hid hg;clear hg);have HA4:Hid (Gr wc w4):=⟨HA3.o.trans HGw4.o⟩;refine⟨ZJV.of (by rw[HSX.o];exact HA4.o),?_⟩;obtain⟨k1,k2,k3,k4⟩:=VAE (x:=x-JHm lo) (w5:=w4) (u:=wc.heap.size) ((HD2.o.gr HGw3.o).gr HGw4.o);have HTH:=hid k1;have HI4:=hid k2;have HW5:=hid k3;have HG5:Hid (Gr wc (World.setCells w4 wc.heap.size 0 (wL (x-JHm lo)))):=⟨k4 wc (HA4.o) (ζe _)⟩;have HOO:=hid (JEv (wd (x-JHm lo)));clear k1 k2 k3 k4;refine QbJ ?_;simp only[XZy,ξ,ζ]
       repeat(go_big_quiet_step (fail))
       refine φ ?_;refine wpList_store_mid rfl 118 _ _ rfl (wc.heap.size) 0 (wL (x-JHm lo)).toArray rfl rfl HTH.o HI4.o HOO.o ?_;go_wp2;refine⟨ZJV.of (by rw[HSX.o];exact HG5.o),?_⟩;refine Vy6 ?_;simp only[XZy];refine φ ?_;refine δ ?_;go_wp2
       go_meet
       case rel=>exact⟨_,rfl,HW5,HG5⟩
     case rest=>
      obtain⟨v,rfl,HV,HGD⟩:=hcut;have HRU:=hid (HU.o.gr HGD.o).dg.range;have HRV:=hid HV.o.dg.range;have HIU:=hid (Vnc (YBc (JHm lo1-x)));have HIV:=hid (Vnc (YBc (x-JHm lo)));have lu:u<wc.heap.size:=(HU.o.gr HGD.o).dg.row.lt;have lv:v<wc.heap.size:=HV.o.dg.row.lt;have HGF:Hid (Gr w wc):=⟨HG1.o.trans (HG.o.trans (HGC.o.trans HGD.o))⟩;obtain⟨U,hU⟩:∃U,U=JHm lo1-x:=⟨_,rfl⟩;obtain⟨D,hD⟩:∃D,D=x-JHm lo:=⟨_,rfl⟩;rw[<-hU]at HRU HIU HC1 HC2 HR;rw[<-hD]at HRV HIV HC1 HC2 HR;have m1:((lo:Int)%2)=((lo%2:Nat):Int):=rfl;have m2:((lo:Int).tmod 2)=((lo%2:Nat):Int):=rfl;have HGL:=hid (λ(W:World) (g:Gr wc W)=>HGF.o.trans g);have HLU:=hid (λ(W:World) (g:Gr wc W)=>((HU.o.gr HGD.o).gr g).dg.range);have HLV:=hid (λ(W:World) (g:Gr wc W)=>(HV.o.gr g).dg.range);rw[<-hU]at HLU;rw[<-hD]at HLV;clear hU hD HM1 HM2 HV1 HV2 HU HV HGC HWR HLD HAA HA HG HI HUP HDN HNA HRN;by_cases c1:U<D
      ·rw[υ c1]at HC1;have HRR:Hid (X5K x=lo1):=⟨by rw[HR.o,χ (.inl c1)]⟩;clear c1 HC2 m1 m2 HR
       go_wp2_with(first
        | (refine wpList_load_mid rfl 118 _ rfl u 0 rfl (wL U) _ HRU.o underlying118 rfl HIU.o ?_)
        | (refine wpList_load_mid rfl 118 _ rfl v 0 rfl (wL D) _ HRV.o underlying118 rfl HIV.o ?_))
       have hc1:=HC1.o wc;refine hc1.mono ?_;rintro e w5 ⟨rfl,hg⟩;have HG5:=hid hg;clear hg hc1;go_wp2;go_ret;exact⟨by rw[HRR.o] <;> rfl,HGL.o _ HG5.o⟩
      ·rw[π c1]at HC1;by_cases c2:D<U
       ·rw[υ c2]at HC2;have HRR:Hid (X5K x=lo):=⟨by rw[HR.o,ν (λh=>h.elim c1 (λh=>h.1 c2))]⟩;clear c1 c2 m1 m2 HR
        go_wp2_with(first
         | (refine wpList_load_mid rfl 118 _ rfl u 0 rfl (wL U) _ HRU.o underlying118 rfl HIU.o ?_)
         | (refine wpList_load_mid rfl 118 _ rfl v 0 rfl (wL D) _ HRV.o underlying118 rfl HIV.o ?_))
        have hc1:=HC1.o wc;refine hc1.mono ?_;rintro e w5 ⟨rfl,hg⟩;have HG5:=hid hg;clear hg hc1
        go_wp2_with(first
         | (refine JlF rfl 118 (.tmp 7) rfl v 0 rfl (wL D) _ (HLV.o _ HG5.o) underlying118 rfl HIV.o ?_)
         | (refine JlF rfl 118 (.tmp 6) rfl u 0 rfl (wL U) _ (HLU.o _ HG5.o) underlying118 rfl HIU.o ?_))
        have hc2:=HC2.o w5;refine hc2.mono ?_;rintro e w6 ⟨rfl,hg⟩;have HG6:=hid hg;clear hg hc2;go_wp2;go_ret;exact⟨by rw[HRR.o] <;> rfl,HGL.o _ (HG5.o.trans HG6.o)⟩
       ·rw[π c2]at HC2;have hmod:lo%2=0\/lo%2=1:=Ω
        have HRR:Hid (X5K x=if lo%2=1 then lo1 else lo):=⟨by
         rw[HR.o];by_cases h:lo%2=1
         ·rw[χ h,χ (.inr ⟨c2,h⟩)]
         ·rw[ν h,ν (λhh=>hh.elim c1 (λhh=>h hh.2))]⟩
        clear c1 c2 HR;generalize lo%2=z at m1 m2 hmod HRR;rcases hmod with rfl|rfl
        all_goals
         go_wp2_with(first
          | (refine wpList_load_mid rfl 118 _ rfl u 0 rfl (wL U) _ HRU.o underlying118 rfl HIU.o ?_)
          | (refine wpList_load_mid rfl 118 _ rfl v 0 rfl (wL D) _ HRV.o underlying118 rfl HIV.o ?_))
         have hc1:=HC1.o wc;refine hc1.mono ?_;rintro e w5 ⟨rfl,hg⟩;have HG5:=hid hg;clear hg hc1
         go_wp2_with(first
          | (refine JlF rfl 118 (.tmp 7) rfl v 0 rfl (wL D) _ (HLV.o _ HG5.o) underlying118 rfl HIV.o ?_)
          | (refine JlF rfl 118 (.tmp 6) rfl u 0 rfl (wL U) _ (HLU.o _ HG5.o) underlying118 rfl HIU.o ?_))
         have hc2:=HC2.o w5;refine hc2.mono ?_;rintro e w6 ⟨rfl,hg⟩;have HG6:=hid hg;clear hg hc2;go_wp2;go_ret;exact⟨by rw[HRR.o] <;> rfl,HGL.o _ (HG5.o.trans HG6.o)⟩
end
end
section
section
open Go.RowKit Word
theorem JJo(b:Nat)(w:World):Calls prog 71 #[.int .u64 b] w λe w'=>e=.returned (.int .i64 (ZNP b))/\w=w':=by
 have e1:((b:Int)%9223372036854775808)=((b%9223372036854775808:Nat):Int):=rfl;have e2:((b:Int).tmod 9223372036854775808)=((b%9223372036854775808:Nat):Int):=rfl;have HK:Hid (ZNP b=if QXS<b%9223372036854775808 then 4 else if b%9223372036854775808=QXS then 3 else if 4503599627370496<=b%9223372036854775808 then 2 else if 0<b%9223372036854775808 then 1 else 0):=⟨rfl⟩;have hx:b%9223372036854775808<9223372036854775808:=ζn _ (by decide);unfold QXS at HK;generalize ZNP b=k at HK⊢;generalize b%9223372036854775808=x at e1 e2 HK hx;by_cases h4:9218868437227405312<x
 ·have HR:Hid (k=4):=⟨by rw[HK.o,χ h4]⟩;have d1:decide ((9218868437227405312:Int)<(x:Int))=true:=υ Ω;clear h4 HK;go_enter func71,ntmps71;go_wp2;go_ret;exact⟨by rw[HR.o] <;> rfl,rfl⟩
 ·have d1:decide ((9218868437227405312:Int)<(x:Int))=false:=π Ω;by_cases h3:x=9218868437227405312
  ·have HR:Hid (k=3):=⟨by rw[HK.o,ν h4,χ h3]⟩;have d2:((x:Int)==9218868437227405312)=true:=by rw[ζu];omega
   clear h3 h4 HK;go_enter func71,ntmps71;go_wp2;go_ret;exact⟨by rw[HR.o] <;> rfl,rfl⟩
  ·have d2:((x:Int)==9218868437227405312)=false:=by rw[σ];omega
   by_cases h2:4503599627370496<=x
   ·have HR:Hid (k=2):=⟨by rw[HK.o,ν h4,ν h3,χ h2]⟩;have d3:decide ((4503599627370496:Int)<=(x:Int))=true:=υ Ω;clear h3 h4 h2 HK;go_enter func71,ntmps71;go_wp2;go_ret;exact⟨by rw[HR.o] <;> rfl,rfl⟩
   ·have d3:decide ((4503599627370496:Int)<=(x:Int))=false:=π Ω;by_cases h1:0<x
    ·have HR:Hid (k=1):=⟨by rw[HK.o,ν h4,ν h3,ν h2,χ h1]⟩;have d4:decide (0<x)=true:=υ h1;clear h3 h4 h2 h1 HK;go_enter func71,ntmps71;go_wp2;go_ret;exact⟨by rw[HR.o] <;> rfl,rfl⟩
    ·have HR:Hid (k=0):=⟨by rw[HK.o,ν h4,ν h3,ν h2,ν h1]⟩;have d4:decide (0<x)=false:=π h1;clear h3 h4 h2 h1 HK;go_enter func71,ntmps71;go_wp2;go_ret;exact⟨by rw[HR.o] <;> rfl,rfl⟩
theorem Xyj(a b:Nat)(w:World):Calls prog 45 #[.int .u64 a,.int .u64 b] w λe w'=>e=.returned (.bool (VUa a b))/\w=w':=by
 have HB:Hid (VUa a b=if decide (9223372036854775808<=a) !=decide (9223372036854775808<=b)then decide (9223372036854775808<=a)else if 9223372036854775808<=a then decide (b<a)else decide (a<b)):=⟨rfl⟩;have d1:decide ((9223372036854775808:Int)<=(a:Int))=decide (9223372036854775808<=a):=by rw[ζP];omega
 have d2:decide ((9223372036854775808:Int)<=(b:Int))=decide (9223372036854775808<=b):=by rw[ζP];omega
 generalize VUa a b=r at HB⊢;by_cases h1:9223372036854775808<=a <;> by_cases h2:9223372036854775808<=b
 ·rw[υ h1]at d1;rw[υ h2]at d2;have HR:Hid (r=decide (b<a)):=⟨by rw[HB.o,υ h1,υ h2,χ h1];rfl⟩;clear h1 h2 HB;go_enter func45,ntmps45;go_wp2;go_ret;exact⟨by rw[HR.o] <;> rfl,rfl⟩
 ·rw[υ h1]at d1;rw[π h2]at d2;have HR:Hid (r=true):=⟨by rw[HB.o,υ h1,π h2];rfl⟩;clear h1 h2 HB;go_enter func45,ntmps45;go_wp2;go_ret;exact⟨by rw[HR.o] <;> rfl,rfl⟩
 ·rw[π h1]at d1;rw[υ h2]at d2;have HR:Hid (r=false):=⟨by rw[HB.o,π h1,υ h2];rfl⟩;clear h1 h2 HB;go_enter func45,ntmps45;go_wp2;go_ret;exact⟨by rw[HR.o] <;> rfl,rfl⟩
 ·rw[π h1]at d1;rw[π h2]at d2;have HR:Hid (r=decide (a<b)):=⟨by rw[HB.o,π h1,π h2,ν h1];rfl⟩;clear h1 h2 HB;go_enter func45,ntmps45;go_wp2;go_ret;exact⟨by rw[HR.o] <;> rfl,rfl⟩
end
end
section
section
open Go.RowKit Word
def Y10(w:World)(A:Option Addr)(l:List Nat):Prop:=∀i,i<l.length->∃b o,A=some ⟨b,o,none⟩/\b<w.heap.size/\w.cell? ⟨b,o+i,none⟩=some (.int .u64 (l.getD i 0:Nat))
theorem Y10.gr{w w':World}{A:Option Addr}{l:List Nat}(h:Y10 w A l)(g:Gr w w'):Y10 w' A l:=λi hi=>by
 obtain⟨b,o,h1,h2,h3⟩:=h i hi;exact⟨b,o,h1,ζa h2 g.size,(g.cell h2 _).trans h3⟩
def naB(l:List Nat):Bool:=l.any λb=>decide (QXS<b%sgN)
def plB(l:List Nat):Bool:=l.any λb=>b==QXS
def miB(l:List Nat):Bool:=l.any λb=>b==QXS+sgN
def zeB(l:List Nat):Bool:=l.all λb=>b==sgN
theorem VKe{wr w3:World}{b x:Nat}(h:WAt wr b x)(g:Gr wr w3)(y:Nat):w3.there b 0 (wL y).toArray.size/\(prog.info? 118).map (·.size)=some (wL y).toArray.size/\WAt (w3.setCells b 0 (wL y)) b y/\XF4 (λk=>k=b) wr (w3.setCells b 0 (wL y))/\b<w3.heap.size:=by
 obtain⟨k1,k2,k3,k4,k5⟩:=Yea h.dg (XF4.refl _ wr) g (QlO y);exact⟨k1,k2,k3.row,k4,k5⟩
theorem VWf(x:Nat)(hx:x<18446744073709551616):(decide (ZNP x<3)=false/\¬x<QXS/\¬(9223372036854775808<=x/\x<9223372036854775808+QXS))\/(decide (ZNP x<3)=true/\x<QXS)\/(decide (ZNP x<3)=true/\9223372036854775808<=x/\x<9223372036854775808+QXS):=by
 unfold ZNP sgN QXS;rcases(by omega:9218868437227405312<x%9223372036854775808\/x%9223372036854775808=9218868437227405312\/x%9223372036854775808<9218868437227405312)with h|h|h
 ·rw[χ h];exact .inl ⟨rfl,by omega,by omega⟩
 ·rw[ν Ω,χ h];exact .inl ⟨rfl,by omega,by omega⟩
 ·rw[ν Ω,ν Ω];have hk:decide ((if 4503599627370496<=x%9223372036854775808 then (2:Int)else if 0<x%9223372036854775808 then 1 else 0)<3)=true:=υ (by (repeat' split) <;> omega);rcases ζj x 9223372036854775808 with h2|h2
  ·exact .inr (.inl ⟨hk,by omega⟩)
  ·exact .inr (.inr ⟨hk,h2,by omega⟩)
theorem VxB(x:Nat):(ZNP x==4)=decide (QXS<x%sgN):=by
 unfold ZNP;by_cases h:QXS<x%sgN
 ·rw[χ h,υ h];rfl
 ·rw[ν h,π h,σ]
  (repeat' split) <;> decide
def Q97(w:World)(l:List Nat)(e:Ending)(w':World):Prop:=e=.returned (.tuple #[.agg (wL (Q6E l)).toArray,.agg (wL (VxH l)).toArray,.bool (naB l||(plB l&&miB l)),.bool (plB l),.bool (miB l),.bool (decide (0<l.length)&&zeB l)])/\Gr w w'
theorem XH4{w:World}{A:Option Addr}{c:Nat}{l:List Nat}(hL:Y10 w A l)(hl:l.length<=255)(hb:∀x∈l,x<18446744073709551616):Calls prog 57 #[.slice A l.length c] w (Q97 w l):=by
 obtain⟨w4,hw4,hg4,h1,h2,h3,h4⟩:=ZkO w XMG XMG;have hz0:lv 65536 dg0=0:=(JYU (by decide)).2 (λx hx=>(ζC.1 hx).2)
 have hz:dg0=wd 0:=by
  have:=ZLF XMG;rw[hz0]at this;exact this
 have HR1:=hid h1;have HR2:=hid h2;have HA0:Hid (WAt w4 (w.heap.size+2) 0):=⟨by have:=h3.row;rw[hz]at this;exact this⟩;have HB0:Hid (WAt w4 (w.heap.size+3) 0):=⟨by have:=h4.row;rw[hz]at this;exact this⟩;have HG4:=hid hg4;have HW4:=hid hw4;have HL:=hid hL;have HB:=hid hb;obtain⟨N,hN⟩:∃N,N=l.length:=⟨_,rfl⟩;have HN:=hid hN
 have hbig:∀i,Q6E (l.take i)<=255*JHm QXS/\VxH (l.take i)<=255*JHm QXS:=λi=>by
  have e:(l.take i).length<=255:=by rw[ζk];omega
  exact⟨γ (X2h _) (ξm _ e),γ (QXW _) (ξm _ e)⟩
 have HBIG:=hid (λ(i x:Nat) (h:x<QXS)=>show Q6E (l.take i)+JHm x<65536 ^ 140/\VxH (l.take i)+JHm x<65536 ^ 140 by
  have h1:=hbig i;have h2:=Y3B h;have h3:=XJ1;generalize Q6E (l.take i)=a at h1⊢;generalize VxH (l.take i)=b at h1⊢;generalize JHm x=v at h2⊢;generalize JHm QXS=t at h1 h2 h3;generalize 65536 ^ 140=u at h3⊢
  omega)
 have hlN:(N:Int)<=255:=Ω
 rw[<-hN]at hl⊢;have HPE:Hid (∀e w',Q97 w l e w'↔(e=.returned (.tuple #[.agg (wL (Q6E l)).toArray,.agg (wL (VxH l)).toArray,.bool (naB l||(plB l&&miB l)),.bool (plB l),.bool (miB l),.bool (decide (0<N)&&zeB l)])/\Gr w w')):=⟨λe w'=>by unfold Q97;rw[hN]⟩;clear hw4 hg4 h1 h2 h3 h4 hz hz0 hL hb hN hbig;go_enter func57,ntmps57;go_upto_region 2 with(fail);generalize hq4:World.alloc _ _=q4;have hq:q4=w4:=by rw[<-hq4,HW4.o];rfl
 subst hq;clear hq4 HW4;go_upto_region 5 with(fail);obtain⟨zn,hzn⟩:∃zn,zn=decide (0<N):=⟨_,rfl⟩;have hznI:decide ((0:Int)<(N:Int))=zn:=by rw[hzn,ζP];omega
 have HZN:=hid hzn;have hzn2:=hzn.symm;rw[<-hzn]at HPE;clear hzn;go_wp2
 go_loopw [10,11,12,13,14] (λs10 s11 s12 s13 s14 wr=>∃i:Nat,i<=N/\s10=.bool (naB (l.take i))/\s11=.bool (plB (l.take i))/\s12=.bool (miB (l.take i))/\s13=.bool (zn&&zeB (l.take i))/\s14=.int .i64 i/\Hid (WAt wr (w.heap.size+2) (Q6E (l.take i))/\WAt wr (w.heap.size+3) (VxH (l.take i)))/\Hid (XF4 (λk=>k=w.heap.size+2\/k=w.heap.size+3) q4 wr)) (λ_ _ _ _ s14 _=>N-(intOf s14).toNat)
 case atStart=>exact⟨0,ζb _,rfl,rfl,rfl,by simp[zeB],rfl,⟨HA0.o,HB0.o⟩,⟨XF4.refl _ _⟩⟩
 case round=>
  obtain⟨i,hi,rfl,rfl,rfl,rfl,rfl,HC,HT⟩:=hrel;by_cases hlast:i<N
  ·have hiI:(i:Int)<(N:Int):=Ω
   have hil:i<l.length:=by rw[<-HN.o];exact hlast
   obtain⟨lb,lo,rfl,hlb0,hcx0⟩:=(HL.o.gr HG4.o) i hil
   have hTK:l.take (i+1)=l.take i++[l.getD i 0]:=by
    rw[ζg hil,θ,μ hil];rfl
   have hxb:l.getD i 0<18446744073709551616:=by
    rw[θ,μ hil];exact HB.o _ (ζo hil)
   have hlbw:lb<w.heap.size:=by
    obtain⟨b',o',e1,e2,-⟩:=HL.o i hil;cases e1;exact e2
   have hcx:wr.cell? ⟨lb,lo+i,none⟩=some (.int .u64 (l.getD i 0:Nat)):=(HT.o.cell hlb0 Ω _).trans hcx0;have hlb:lb<wr.heap.size:=ζa hlb0 HT.o.size;have hP:=Z8X (l.take i) (l.getD i 0);have hNg:=Z4j (l.take i) (l.getD i 0)
   have hF:naB (l.take (i+1))=(naB (l.take i)||decide (QXS<l.getD i 0%sgN))/\plB (l.take (i+1))=(plB (l.take i)||(l.getD i 0==QXS))/\miB (l.take (i+1))=(miB (l.take i)||(l.getD i 0==QXS+sgN))/\zeB (l.take (i+1))=(zeB (l.take i)&&(l.getD i 0==sgN)):=by
    rw[hTK];unfold naB plB miB zeB;simp
   rw[<-hTK]at hP hNg;obtain⟨x,hx⟩:∃x,x=l.getD i 0:=⟨_,rfl⟩;rw[<-hx]at hcx hP hNg hF hxb;clear hx;have hk4:=VxB x;have hcut:=VWf x hxb;have HK:=hid (λW=>JJo x W);generalize ZNP x=kx at hk4 hcut HK;have hb1:((x:Int)==9218868437227405312)=(x==QXS):=by rw[ξs,ζu,ζu];unfold QXS;omega
   have hb2:((x:Int)==18442240474082181120)=(x==QXS+sgN):=by rw[ξs,ζu,ζu];unfold QXS sgN;omega
   have hb3:((x:Int)==9223372036854775808)=(x==sgN):=by rw[ξs,ζu,ζu];unfold sgN;omega
   obtain⟨f1,f2,f3,f4⟩:=hF;generalize decide (QXS<x%sgN)=z1 at f1 hk4;generalize (x==QXS)=z2 at f2 hb1;generalize (x==QXS+sgN)=z3 at f3 hb2;generalize (x==sgN)=z4 at f4 hb3;have HF1:=hid f1;have HF2:=hid f2;have HF3:=hid f3;have HF4:Hid ((zn&&zeB (l.take (i+1)))=((zn&&zeB (l.take i))&&z4)):=⟨by rw[f4,Bool.and_assoc]⟩;have HP:=hid hP;have HNG:=hid hNg;have HII:=hid hlast;have HLW:=hid hlbw;clear f1 f2 f3 f4 hP hNg hTK hxb hcx0 hlb0 hil hlast hi hlbw;generalize naB (l.take i)=v1 at HF1⊢;generalize plB (l.take i)=v2 at HF2⊢;generalize miB (l.take i)=v3 at HF3⊢;generalize (zn&&zeB (l.take i))=v4 at HF4⊢;go_upto_region 10 with(go_at_call 71;refine(HK.o _).mono ?_;rintro e w1 ⟨rfl,rfl⟩);go_cut [10] (λs10 wx=>s10=.bool (v1||z1)/\wx=wr)
   case first=>
    cases v1
    all_goals
     go_wp2
     go_meet
     case rel=>exact⟨rfl,rfl⟩
   case rest=>
    obtain⟨rfl,hwc⟩:=hcut;have hwc:=hwc.symm;subst hwc;generalize (v1||z1)=y1 at HF1⊢;go_upto_region 11 with(fail);go_cut [11] (λs11 wx=>s11=.bool (v2||z2)/\wx=wr)
    case first=>
     cases v2
     all_goals
      go_wp2
      go_meet
      case rel=>exact⟨rfl,rfl⟩
    case rest=>
     obtain⟨rfl,hwc⟩:=hcut;have hwc:=hwc.symm;subst hwc;generalize (v2||z2)=y2 at HF2⊢;go_upto_region 12 with(fail);go_cut [12] (λs12 wx=>s12=.bool (v3||z3)/\wx=wr)
     case first=>
      cases v3
      all_goals
       go_wp2
       go_meet
       case rel=>exact⟨rfl,rfl⟩
     case rest=>
      obtain⟨rfl,hwc⟩:=hcut;have hwc:=hwc.symm;subst hwc;generalize (v3||z3)=y3 at HF3⊢;go_upto_region 13 with(fail);go_cut [13] (λs13 wx=>s13=.bool (v4&&z4)/\wx=wr)
      case first=>
       cases v4
       all_goals
        go_wp2
        go_meet
        case rel=>exact⟨rfl,rfl⟩
      case rest=>
       obtain⟨rfl,hwc⟩:=hcut;have hwc:=hwc.symm;subst hwc;generalize (v4&&z4)=y4 at HF4⊢;go_upto_region 14 with(fail);clear hk4 hb1 hb2 hb3;obtain⟨cp,hcp⟩:∃cp,cp=Q6E (l.take i):=⟨_,rfl⟩;obtain⟨cn,hcn⟩:∃cn,cn=VxH (l.take i):=⟨_,rfl⟩;have HBG:=hid (HBIG.o i);rw[<-hcp]at HC HP HBG;rw[<-hcn]at HC HNG HBG;have HIP:=hid (Vnc (YBc cp));have HIN:=hid (Vnc (YBc cn));clear hcp hcn;rcases hcut with⟨d1,n1,n2⟩|⟨d1,n1⟩|⟨d1,n1,n2⟩
       ·have HPE2:Hid (Q6E (l.take (i+1))=cp/\VxH (l.take (i+1))=cn):=⟨by rw[HP.o,ν n1,ζA],by rw[HNG.o,ν n2,ζA]⟩;clear n1 n2;go_wp2;go_round
        case rel=>exact⟨i+1,HII.o,by rw[HF1.o],by rw[HF2.o],by rw[HF3.o],by rw[HF4.o],by go_num,⟨by rw[HPE2.o.1];exact HC.o.1,by rw[HPE2.o.2];exact HC.o.2⟩,HT⟩
        case measure=>simp[intOf];omega
       ·have d2:decide ((x:Int)<9223372036854775808)=true:=υ (by unfold QXS at n1;omega);have d3:decide ((9223372036854775808:Int)<=(x:Int))=false:=π (by unfold QXS at n1;omega);have HV:=hid (λ(W:World)=>VIr (b:=x) (ζG n1) W);have hsum:=(HBG.o x n1).1;have HPE2:Hid (Q6E (l.take (i+1))=cp+JHm x/\VxH (l.take (i+1))=cn):=⟨by rw[HP.o,χ n1],by rw[HNG.o,ν (by unfold QXS at n1;omega),ζA]⟩;generalize JHm x=v at HV hsum HPE2;have HPL:=hid (λ(W:World)=>JYA (x:=cp) (y:=v) hsum W);have HCUR:=hid HC.o.1;have HOTH:=hid HC.o.2;clear n1 hsum;go_upto_region 15 with(fail);obtain⟨Sx,hSx⟩:∃Sx:World->Prop,Sx=λW'=>Gr wr W':=⟨_,rfl⟩;have x0:∀p:ZJV Sx,p.w.cell? ⟨lb,lo+i,none⟩=some (.int .u64 (x:Nat)):=λp=>(Gr.cell (ZJV.get hSx p) hlb _).trans hcx;have HLQ:Hid (∀W,(∃p:ZJV Sx,W=p.w)->W.rangeAt (w.heap.size+2) 0 (wL cp)):=⟨λW h=>by obtain⟨p,rfl⟩:=h;exact(HCUR.o.gr (ZJV.get hSx p)).dg.range⟩;have hS0:Sx wr.drew:=by rw[hSx];exact(Gr.refl wr).drew
        have HSX:=hid hSx;have inst:Inhabited (ZJV Sx):=⟨⟨_,hS0⟩⟩;clear hSx;refine Vv2 Sx 7 [([0,1,2,3,4],5),([],6),([],7)] [] (by kernel_rfl) (by kernel_rfl) hS0 ?_;refine XGW ?_;simp only[XZy,ξ,ζ];refine VhI rfl 118 _ rfl (w.heap.size+2) 0 rfl (wL cp) _ HLQ.o underlying118 rfl HIP.o ?_;simp only[Act.put,ψ,ϑ,κ]
        repeat(go_big_quiet_step (fail))
        refine φ ?_;go_wp2_with(go_at_call 73;refine(HV.o _).mono ?_;rintro e w2 ⟨rfl,hg⟩;have HG2:=hid (((Gr.refl wr).drew).trans hg);clear hg);refine⟨.inr (ZJV.of (by rw[HSX.o];exact HG2.o)),?_⟩;refine XGW ?_;simp only[XZy,ξ,ζ]
        repeat(go_big_quiet_step (fail))
        refine φ ?_;go_wp2_with(go_at_call 72;refine(HPL.o _).mono ?_;rintro e w3 ⟨rfl,hg⟩;have HG3:=hid (HG2.o.trans hg);clear hg);refine⟨.inr (ZJV.of (by rw[HSX.o];exact HG3.o)),?_⟩;obtain⟨k1,k2,k3,k4,k5⟩:=VKe HCUR.o HG3.o (cp+v);have HTH:=hid k1;have HI4:=hid k2;have HW5:=hid k3;have HT5:=hid k4;have HOO:=hid (JEv (wd (cp+v)));refine XGW ?_;simp only[XZy,ξ,ζ]
        repeat(go_big_quiet_step (fail))
        refine φ ?_;refine wpList_store_mid rfl 118 _ _ rfl (w.heap.size+2) 0 (wL (cp+v)).toArray rfl rfl HTH.o HI4.o HOO.o ?_;clear k1 k2 k3 k4 k5;go_wp2;refine⟨.inl trivial,?_⟩;refine Z9U ?_;simp only[XZy];refine φ ?_;refine δ ?_;clear x0 hS0 inst HSX HLQ Sx;have hw5:=HW5.o;have ht5:=HT5.o;generalize hwq:World.setCells _ _ _ _=wq;have HWQ:Hid (WAt wq (w.heap.size+2) (cp+v)):=⟨by rw[<-hwq];exact hw5⟩;have HTQ:Hid (XF4 (λk=>k=(w.heap.size+2)) wr wq):=⟨by rw[<-hwq];exact ht5⟩;clear hwq hw5 ht5 HW5 HT5 HTH HI4 HOO;have hcq:wq.cell? ⟨lb,lo+i,none⟩=some (.int .u64 (x:Nat)):=(HTQ.o.cell hlb (by have:=HLW.o;omega) _).trans hcx;have hlq:lb<wq.heap.size:=ζa hlb HTQ.o.size;clear hcx hlb;go_wp2;go_round
        case rel=>exact⟨i+1,HII.o,by rw[HF1.o],by rw[HF2.o],by rw[HF3.o],by rw[HF4.o],by go_num,⟨by rw[HPE2.o.1];exact HWQ.o,by rw[HPE2.o.2];exact HOTH.o.touch HTQ.o Ω⟩,⟨HT.o.trans (HTQ.o.mono (λk _ h=>.inl h))⟩⟩
        case measure=>simp[intOf];omega
       ·have d2:decide ((x:Int)<9223372036854775808)=false:=π Ω;have d3:decide ((9223372036854775808:Int)<=(x:Int))=true:=υ Ω;obtain⟨xs,hxs⟩:∃xs,xs=x-9223372036854775808:=⟨_,rfl⟩;have hxI:(x:Int)-9223372036854775808=(xs:Int):=Ω
        have hxl:xs<QXS:=by unfold QXS at n2⊢;omega
        have hxw:IntKind.u64.wrap ((x:Int)-9223372036854775808)=(xs:Int):=by rw[ζx];unfold QXS at n2;omega
        have hxu:IntKind.u64.wrap (xs:Int)=(xs:Int):=by rw[ζx];unfold QXS at hxl;omega
        have HV:=hid (λ(W:World)=>VIr (b:=xs) (ζG hxl) W);have hsum:=(HBG.o xs hxl).2;have HPE2:Hid (Q6E (l.take (i+1))=cp/\VxH (l.take (i+1))=cn+JHm xs):=⟨by rw[HP.o,ν (by unfold QXS;omega),ζA],by rw[HNG.o,χ ⟨n1,n2⟩,hxs]⟩;generalize JHm xs=v at HV hsum HPE2;have HPL:=hid (λ(W:World)=>JYA (x:=cn) (y:=v) hsum W);have HCUR:=hid HC.o.2;have HOTH:=hid HC.o.1;clear n1 n2 hsum hxs hxl;go_upto_region 17 with(fail);obtain⟨Sx,hSx⟩:∃Sx:World->Prop,Sx=λW'=>Gr wr W':=⟨_,rfl⟩;have x0:∀p:ZJV Sx,p.w.cell? ⟨lb,lo+i,none⟩=some (.int .u64 (x:Nat)):=λp=>(Gr.cell (ZJV.get hSx p) hlb _).trans hcx;have HLQ:Hid (∀W,(∃p:ZJV Sx,W=p.w)->W.rangeAt (w.heap.size+3) 0 (wL cn)):=⟨λW h=>by obtain⟨p,rfl⟩:=h;exact(HCUR.o.gr (ZJV.get hSx p)).dg.range⟩;have hS0:Sx wr.drew:=by rw[hSx];exact(Gr.refl wr).drew
        have HSX:=hid hSx;have inst:Inhabited (ZJV Sx):=⟨⟨_,hS0⟩⟩;clear hSx;refine Vv2 Sx 8 [([0,1,2,3,4,5],6),([],7),([],8)] [] (by kernel_rfl) (by kernel_rfl) hS0 ?_;refine XGW ?_;simp only[XZy,ξ,ζ];refine VhI rfl 118 _ rfl (w.heap.size+3) 0 rfl (wL cn) _ HLQ.o underlying118 rfl HIN.o ?_;simp only[Act.put,ψ,ϑ,κ]
        repeat(go_big_quiet_step (fail))
        refine φ ?_;go_wp2_with(go_at_call 73;refine(HV.o _).mono ?_;rintro e w2 ⟨rfl,hg⟩;have HG2:=hid (((Gr.refl wr).drew).trans hg);clear hg);refine⟨.inr (ZJV.of (by rw[HSX.o];exact HG2.o)),?_⟩;refine XGW ?_;simp only[XZy,ξ,ζ]
        repeat(go_big_quiet_step (fail))
        refine φ ?_;go_wp2_with(go_at_call 72;refine(HPL.o _).mono ?_;rintro e w3 ⟨rfl,hg⟩;have HG3:=hid (HG2.o.trans hg);clear hg);refine⟨.inr (ZJV.of (by rw[HSX.o];exact HG3.o)),?_⟩;obtain⟨k1,k2,k3,k4,k5⟩:=VKe HCUR.o HG3.o (cn+v);have HTH:=hid k1;have HI4:=hid k2;have HW5:=hid k3;have HT5:=hid k4;have HOO:=hid (JEv (wd (cn+v)));refine XGW ?_;simp only[XZy,ξ,ζ]
        repeat(go_big_quiet_step (fail))
        refine φ ?_;refine wpList_store_mid rfl 118 _ _ rfl (w.heap.size+3) 0 (wL (cn+v)).toArray rfl rfl HTH.o HI4.o HOO.o ?_;clear k1 k2 k3 k4 k5;go_wp2;refine⟨.inl trivial,?_⟩;refine Z9U ?_;simp only[XZy];refine φ ?_;refine δ ?_;clear x0 hS0 inst HSX HLQ Sx;have hw5:=HW5.o;have ht5:=HT5.o;generalize hwq:World.setCells _ _ _ _=wq;have HWQ:Hid (WAt wq (w.heap.size+3) (cn+v)):=⟨by rw[<-hwq];exact hw5⟩;have HTQ:Hid (XF4 (λk=>k=(w.heap.size+3)) wr wq):=⟨by rw[<-hwq];exact ht5⟩;clear hwq hw5 ht5 HW5 HT5 HTH HI4 HOO;have hcq:wq.cell? ⟨lb,lo+i,none⟩=some (.int .u64 (x:Nat)):=(HTQ.o.cell hlb (by have:=HLW.o;omega) _).trans hcx;have hlq:lb<wq.heap.size:=ζa hlb HTQ.o.size;clear hcx hlb;go_wp2;go_round
        case rel=>exact⟨i+1,HII.o,by rw[HF1.o],by rw[HF2.o],by rw[HF3.o],by rw[HF4.o],by go_num,⟨by rw[HPE2.o.1];exact HOTH.o.touch HTQ.o Ω,by rw[HPE2.o.2];exact HWQ.o⟩,⟨HT.o.trans (HTQ.o.mono (λk _ h=>.inr h))⟩⟩
        case measure=>simp[intOf];omega
  ·have hiI:¬(i:Int)<(N:Int):=Ω
   have hiN:i=N:=Ω
   subst hiN;have HTL:l.take i=l:=ζB (by rw[HN.o];exact ζe _);rw[HTL]at HC⊢;obtain⟨cp,hcp⟩:∃cp,cp=Q6E l:=⟨_,rfl⟩;obtain⟨cn,hcn⟩:∃cn,cn=VxH l:=⟨_,rfl⟩;rw[<-hcp,<-hcn]at HC HPE;generalize naB l=v1 at HPE⊢;generalize plB l=v2 at HPE⊢;generalize miB l=v3 at HPE⊢;generalize (zn&&zeB l)=v4 at HPE⊢;have HPF:Hid (∀e w',(e=.returned (.tuple #[.agg (wL cp).toArray,.agg (wL cn).toArray,.bool (v1||(v2&&v3)),.bool v2,.bool v3,.bool v4])/\Gr w w')->Q97 w l e w'):=⟨λe w' h=>(HPE.o e w').2 h⟩;have HIP:=hid (Vnc (YBc cp));have HIN:=hid (Vnc (YBc cn));obtain⟨k1,k2,k3,k4,-⟩:=Yea (HR1.o.touch HT.o Ω) (XF4.refl _ wr) ((Gr.refl wr).drew) (QlO cp);have hR2:=(HR2.o.touch HT.o Ω).touch k4 Ω;obtain⟨j1,j2,j3,j4,-⟩:=Yea hR2 (XF4.refl _ _) (Gr.refl _) (QlO cn);have L1:=(k3.touch j4 Ω).load;have L2:=j3.load;have HTH1:=hid k1;have HI1:=hid k2;have HK4:=hid k4;have HTH2:=hid j1;have HI2:=hid j2;have HL1:Hid ((loadVar 118 ⟨w.heap.size,0,none⟩).run prog ((wr.drew.setCells w.heap.size 0 (wL cp)).setCells (w.heap.size+1) 0 (wL cn))=.ok (.agg (wL cp).toArray) ((wr.drew.setCells w.heap.size 0 (wL cp)).setCells (w.heap.size+1) 0 (wL cn))):=⟨L1⟩;have HL2:Hid ((loadVar 118 ⟨w.heap.size+1,0,none⟩).run prog ((wr.drew.setCells w.heap.size 0 (wL cp)).setCells (w.heap.size+1) 0 (wL cn))=.ok (.agg (wL cn).toArray) ((wr.drew.setCells w.heap.size 0 (wL cp)).setCells (w.heap.size+1) 0 (wL cn))):=⟨L2⟩;have HO1:=hid (JEv (wd cp));have HO2:=hid (JEv (wd cn));have HTT:Hid (XF4 (λk=>k=w.heap.size\/k=w.heap.size+1) wr ((wr.drew.setCells w.heap.size 0 (wL cp)).setCells (w.heap.size+1) 0 (wL cn))):=⟨(k4.mono (λk _ h=>.inl h)).trans (j4.mono (λk _ h=>.inr h))⟩;have HGF:Hid (Gr w ((wr.drew.setCells w.heap.size 0 (wL cp)).setCells (w.heap.size+1) 0 (wL cn))):=⟨(((HG4.o.touch (λk=>k=w.heap.size+2\/k=w.heap.size+3\/k=w.heap.size\/k=w.heap.size+1)).trans (HT.o.mono (λk _ h=>h.elim .inl (λh=>.inr (.inl h))))).trans (HTT.o.mono (λk _ h=>.inr (.inr h))) |>.mono (T:=λ_=>False) (λk hk e=>by rcases e with e|e|e|e <;> omega)).gr⟩;clear k1 k2 k3 k4 j1 j2 j3 j4 L1 L2 hR2 hcp hcn HPE HTL hi;go_upto_region 18 with(fail);obtain⟨Sx,hSx⟩:∃Sx:World->Prop,Sx=λW'=>XF4 (λk=>k=w.heap.size\/k=w.heap.size+1) wr W':=⟨_,rfl⟩;have HLA:Hid (∀W,(∃p:ZJV Sx,W=p.w)->W.rangeAt (w.heap.size+2) 0 (wL cp)):=⟨λW h=>by obtain⟨p,rfl⟩:=h;exact(HC.o.1.touch (ZJV.get hSx p) Ω).dg.range⟩;have HLB:Hid (∀W,(∃p:ZJV Sx,W=p.w)->W.rangeAt (w.heap.size+3) 0 (wL cn)):=⟨λW h=>by obtain⟨p,rfl⟩:=h;exact(HC.o.2.touch (ZJV.get hSx p) Ω).dg.range⟩;have hS0:Sx wr.drew:=by rw[hSx];exact(XF4.refl _ wr).drew
   have HSX:=hid hSx;have inst:Inhabited (ZJV Sx):=⟨⟨_,hS0⟩⟩;clear hSx;cases v1 <;> cases v2
   all_goals
    refine Vv2 Sx 18 [([0,1,2,3,4,5,6,7,8,9,10,11],12),([],13)] [14,15,16,17] (by kernel_rfl) (by kernel_rfl) hS0 ?_;refine XGW ?_;simp only[XZy,ξ,ζ];refine VhI rfl 118 _ rfl (w.heap.size+2) 0 rfl (wL cp) _ HLA.o underlying118 rfl HIP.o ?_;simp only[Act.put,ψ,ϑ,κ];refine VhI rfl 118 _ rfl (w.heap.size+3) 0 rfl (wL cn) _ HLB.o underlying118 rfl HIN.o ?_;simp only[Act.put,ψ,ϑ,κ]
    repeat(go_big_quiet_step (fail))
    refine φ ?_;refine wpList_store_mid rfl 118 _ _ rfl w.heap.size 0 (wL cp).toArray rfl rfl HTH1.o HI1.o HO1.o ?_;go_wp2;refine⟨ZJV.of (by rw[HSX.o];exact HK4.o.mono (λk _ h=>.inl h)),?_⟩;refine XGW ?_
    try simp only[Act.put]
    simp only[XZy,ξ,ζ]
    repeat(go_big_quiet_step (fail))
    refine φ ?_;refine wpList_store_mid rfl 118 _ _ rfl (w.heap.size+1) 0 (wL cn).toArray rfl rfl HTH2.o HI2.o HO2.o ?_;go_wp2;refine⟨.inr (ZJV.of (by rw[HSX.o];exact HTT.o)),?_⟩;refine Z9U ?_
    try simp only[Act.put]
    simp only[XZy,ξ,ζ]
    repeat(go_big_quiet_step (fail))
    refine φ ?_;refine δ ?_;go_wp2;have l1:=HL1.o;have l2:=HL2.o;refine ζt (v:=_) ?_ rfl (HPF.o _ _ ⟨rfl,HGF.o⟩);simp[results,results57,asAddr,Result.andThen,l1,l2]
end
end
section
section
open Go.RowKit Word
theorem QCG(w1:World)(x y:Nat):((w1.alloc (.cells (dgL dg0).toArray 118)).alloc (.cells (dgL dg0).toArray 118)).there w1.heap.size 0 (wL x).toArray.size ∧
  (((w1.alloc (.cells (dgL dg0).toArray 118)).alloc (.cells (dgL dg0).toArray 118)).setCells w1.heap.size 0 (wL x)).there (w1.heap.size+1) 0 (wL y).toArray.size ∧
  (∀z,(prog.info? 118).map (·.size)=some (wL z).toArray.size) ∧
  (∀wz,wz=(((w1.alloc (.cells (dgL dg0).toArray 118)).alloc (.cells (dgL dg0).toArray 118)).setCells w1.heap.size 0 (wL x)).setCells (w1.heap.size+1) 0 (wL y)->WAt wz w1.heap.size x/\WAt wz (w1.heap.size+1) y/\Gr w1 wz):=by
 obtain⟨w3,h3,g3,a3,b3,-⟩:=JHf w1 XMG XMG;rw[<-h3];obtain⟨k1,k2,k3,k4,-⟩:=Yea a3 (XF4.refl _ w3) (Gr.refl w3) (QlO x);obtain⟨j1,j2,j3,j4,-⟩:=Yea (b3.touch k4 Ω) (XF4.refl _ _) (Gr.refl _) (QlO y);refine⟨k1,j1,λz=>by rw[V2u];exact Vnc (cs:=dgL dg0) (ZlJ XMG),λwz hz=>?_⟩;subst hz;refine⟨(k3.touch j4 Ω).row,j3.row,?_⟩;exact(((g3.touch (λk=>k=w1.heap.size\/k=w1.heap.size+1)).trans (k4.mono (λk _ h=>.inl h))).trans (j4.mono (λk _ h=>.inr h)) |>.mono (T:=λ_=>False) (λk hk e=>by rcases e with e|e <;> omega)).gr
theorem V3j(w1:World)(x y:Nat):∀wz,wz=(((w1.alloc (.cells (dgL dg0).toArray 118)).alloc (.cells (dgL dg0).toArray 118)).setCells w1.heap.size 0 (wL x)).setCells (w1.heap.size+1) 0 (wL y)->(∀W,Gr wz W->W.rangeAt w1.heap.size 0 (wL x))/\(∀W,Gr wz W->W.rangeAt (w1.heap.size+1) 0 (wL y))/\Gr w1 wz/\w1.heap.size+1<wz.heap.size:=λwz hz=>by
 obtain⟨h1,h2,h3⟩:=(QCG w1 x y).2.2.2 wz hz;exact⟨λW g=>(h1.gr g).dg.range,λW g=>(h2.gr g).dg.range,h3,h2.dg.row.lt⟩
theorem V8M(x:Nat):(prog.info? 118).map (·.size)=some (wL x).length/\(prog.info? 118).map (·.size)=some (wL x).toArray.size/\(wL x).toArray.all (·.oneCell')=true:=⟨Vnc (YBc x),by rw[V2u];exact Vnc (cs:=dgL dg0) (ZlJ XMG),JEv (wd x)⟩
theorem QRl(l:List Nat):QRR l=if naB l||(plB l&&miB l)then 9221120237041090560 else if plB l then QXS else if miB l then QXS+sgN else if decide (0<l.length)&&zeB l then sgN else if Q6E l<VxH l then X5K (VxH l-Q6E l)+sgN else X5K (Q6E l-VxH l):=rfl
theorem QWo{l:List Nat}(hl:l.length<=255):Q6E l<65536 ^ 140/\VxH l<65536 ^ 140:=by
 have h1:=X2h l;have h2:=QXW l;have h3:=XJ1;have h4:=ξm (JHm QXS) hl;generalize Q6E l=a at h1⊢;generalize VxH l=b at h2⊢;generalize JHm QXS=t at h1 h2 h3 h4;generalize 65536 ^ 140=u at h3⊢;generalize l.length*t=z at h1 h2 h4;omega
theorem ZzZ{w:World}{A:Option Addr}{c:Nat}{l:List Nat}(hL:Y10 w A l)(hl:l.length<=255)(hb:∀x∈l,x<18446744073709551616):Calls prog 44 #[.slice A l.length c] w λe w'=>e=.returned (.int .u64 (QRR l:Nat))/\Gr w w':=by
 have HP:=hid (XH4 (c:=c) hL hl hb);have HW:=hid (QRl l);obtain⟨hpb,hnb⟩:=QWo hl;unfold Q97 at HP;have HRB:=hid (ζp (Q1n (Q6E l-VxH l)) (Q1n (VxH l-Q6E l)));obtain⟨R,hR⟩:∃R,R=QRR l:=⟨_,rfl⟩;rw[<-hR]at HW⊢;obtain⟨N,hN⟩:∃N,N=l.length:=⟨_,rfl⟩;rw[<-hN]at HP HW⊢;obtain⟨p,hp⟩:∃p,p=Q6E l:=⟨_,rfl⟩;obtain⟨m,hm⟩:∃m,m=VxH l:=⟨_,rfl⟩;rw[<-hp,<-hm]at HP HW HRB;rw[<-hp]at hpb;rw[<-hm]at hnb;generalize (naB l||(plB l&&miB l))=b1 at HP HW;generalize plB l=b2 at HP HW;generalize miB l=b3 at HP HW;generalize (decide (0<N)&&zeB l)=b4 at HP HW;have HL:=hid (λW=>Qa4 hpb hnb W);have HM1:=hid (λ(hc:p<m) (W:World)=>XnE hnb (ζG hc) W);have HM2:=hid (λ(hc:¬p<m) (W:World)=>XnE hpb (ξL hc) W);have HN1:=hid (λ(W:World)=>ZS5 (x:=m-p) (ζz (Nat.sub_le _ _) hnb) W);have HN2:=hid (λ(W:World)=>ZS5 (x:=p-m) (ζz (Nat.sub_le _ _) hpb) W);have HTS:=hid (λ(w1:World)=>(ζp (QCG w1 p m).1 (QCG w1 p m).2.1));have HTR:=hid (λ(w1:World)=>V3j w1 p m);have HIP:=hid (V8M p);have HIM:=hid (V8M m);clear hR hN hp hm hL hl hb hpb hnb;generalize wL p=lp at HP HL HM1 HM2 HTS HTR HIP;generalize wL m=lm at HP HL HM1 HM2 HTS HTR HIM;generalize wL (m-p)=ld1 at HM1 HN1;generalize wL (p-m)=ld2 at HM2 HN2;go_enter func44,ntmps44;go_upto_region 1 with(fail);go_wp2_with(fail);refine HP.o.mono ?_;rintro e w1 ⟨rfl,hg⟩;have HG1:=hid hg;have HT:=hid (HTS.o w1);have HR:=hid (HTR.o w1);clear hg HTS HTR HP
 go_upto_region 2 with(first
  | (refine wpList_store_mid rfl 118 _ _ rfl w1.heap.size 0 lp.toArray rfl rfl HT.o.1 HIP.o.2.1 HIP.o.2.2 ?_)
  | (refine wpList_store_mid rfl 118 _ _ rfl (w1.heap.size+1) 0 lm.toArray rfl rfl HT.o.2 HIM.o.2.1 HIM.o.2.2 ?_))
 have hz:=HR.o _ rfl;generalize hwz:World.setCells (World.setCells _ _ _ _) _ _ _=wz;obtain⟨z1,z2,z3,z4⟩:(∀W,Gr wz W->W.rangeAt w1.heap.size 0 lp)/\(∀W,Gr wz W->W.rangeAt (w1.heap.size+1) 0 lm)/\Gr w1 wz/\w1.heap.size+1<wz.heap.size:=by rw[<-hwz];exact hz
 have HU:=hid z1;have HV:=hid z2;have HGZ:=hid (HG1.o.trans z3);clear hwz hz z1 z2 z3 HT HR HG1;obtain⟨u,hu⟩:∃u,u=w1.heap.size:=⟨_,rfl⟩;rw[<-hu]at HU HV z4⊢;clear hu;cases b1 with
 | true=>
  go_wp2;go_ret;exact⟨by rw[HW.o] <;> rfl,HGZ.o⟩
 | false=>
  cases b2 with
  | true=>
   go_wp2;go_ret;exact⟨by rw[HW.o] <;> rfl,HGZ.o⟩
  | false=>
   cases b3 with
   | true=>
    go_wp2;go_ret;exact⟨by rw[HW.o] <;> rfl,HGZ.o⟩
   | false=>
    cases b4 with
    | true=>
     go_wp2;go_ret;exact⟨by rw[HW.o] <;> rfl,HGZ.o⟩
    | false=>
     have HGR:=hid (Gr.refl wz);have lu:u<wz.heap.size:=Ω
     go_wp2_with(first
      | (refine wpList_load_mid rfl 118 _ rfl u 0 rfl lp _ (HU.o _ HGR.o) underlying118 rfl HIP.o.1 ?_)
      | (refine wpList_load_mid rfl 118 _ rfl (u+1) 0 rfl lm _ (HV.o _ HGR.o) underlying118 rfl HIM.o.1 ?_))
     have hl:=HL.o wz;refine hl.mono ?_;rintro e w5 ⟨rfl,hg⟩;have HG5:=hid hg;have lu5:u<w5.heap.size:=ζa lu hg.size;have lv5:u+1<w5.heap.size:=ζa z4 hg.size;clear hg hl HL HGR lu z4;have HGR:=HG5;by_cases hc:p<m
     ·rw[υ hc];have HM:=hid (HM1.o hc w5);have HRR:Hid (R=X5K (m-p)+sgN):=⟨by rw[HW.o];exact χ hc⟩;have hrb:=HRB.o.2;clear HM1 HM2 HN2 HW HRB;generalize X5K (m-p)=r at HRR hrb HN1;have hw1:IntKind.u64.wrap ((r:Int)+9223372036854775808)=((r+sgN:Nat):Int):=by rw[ζx];unfold QXS at hrb;unfold sgN;omega
      clear hc hrb
      go_wp2_with(first
       | (refine wpList_load_mid rfl 118 _ rfl u 0 rfl lp _ (HU.o _ HGR.o) underlying118 rfl HIP.o.1 ?_)
       | (refine wpList_load_mid rfl 118 _ rfl (u+1) 0 rfl lm _ (HV.o _ HGR.o) underlying118 rfl HIM.o.1 ?_))
      have hl:=HM.o;refine hl.mono ?_;rintro e w6 ⟨rfl,hg⟩;have HG6:=hid hg;clear hl hg HM;go_wp2_with(go_at_call 59;refine(HN1.o _).mono ?_;rintro e w7 ⟨rfl,hg⟩;have HG7:=hid hg;clear hg);go_ret;exact⟨by rw[HRR.o] <;> rfl,HGZ.o.trans (HG5.o.trans (HG6.o.trans HG7.o))⟩
     ·rw[π hc];have HM:=hid (HM2.o hc w5);have HRR:Hid (R=X5K (p-m)):=⟨by rw[HW.o];exact ν hc⟩;clear HM1 HM2 HN1 HW HRB;generalize X5K (p-m)=r at HRR HN2;clear hc
      go_wp2_with(first
       | (refine wpList_load_mid rfl 118 _ rfl u 0 rfl lp _ (HU.o _ HGR.o) underlying118 rfl HIP.o.1 ?_)
       | (refine wpList_load_mid rfl 118 _ rfl (u+1) 0 rfl lm _ (HV.o _ HGR.o) underlying118 rfl HIM.o.1 ?_))
      have hl:=HM.o;refine hl.mono ?_;rintro e w6 ⟨rfl,hg⟩;have HG6:=hid hg;clear hl hg HM;go_wp2_with(go_at_call 59;refine(HN2.o _).mono ?_;rintro e w7 ⟨rfl,hg⟩;have HG7:=hid hg;clear hg);go_ret;exact⟨by rw[HRR.o] <;> rfl,HGZ.o.trans (HG5.o.trans (HG6.o.trans HG7.o))⟩
end
end
section
section
section
open Go.RowKit Word
theorem Zx4{p f k:Nat}(hp:p<=255)(hf:f<=255)(hk:k<=255)(w:World):Calls prog 46 #[.agg #[.int .i64 p,.int .i64 f,.int .i64 k]] w λe w'=>e=.returned (.bool (decide (p+f+k<=255)))/\Gr w w':=by
 have d1:decide (255<(p:Int))=false:=π Ω;have d2:decide (255<(f:Int))=false:=π Ω;have d3:decide (255<(k:Int))=false:=π Ω;have HD:Hid (decide ((p:Int)+f+k<=255)=decide (p+f+k<=255)):=⟨by by_cases h:p+f+k<=255 <;> simp[h] <;> omega⟩;go_enter func46,ntmps46;go_wp2;go_ret;exact⟨congrArg (λb=>Ending.returned (.bool b)) HD.o,(Gr.refl w).alloc _⟩
theorem QTR{p f k:Nat}(hs:p+f+k<=255)(w:World):Calls prog 27 #[.agg #[.int .i64 p,.int .i64 f,.int .i64 k]] w λe w'=>e=.returned (.int .i64 (Z3o ⟨p,f,k⟩))/\Gr w w':=by
 have HM:=hid (λW=>Zx4 (p:=p) (f:=f) (k:=k) Ω Ω Ω W);rw[υ hs]at HM;have HN:Hid (Z3o ⟨p,f,k⟩=1+(p:Int)+f+k):=⟨χ (JJj hs)⟩;have HR:=hid (Rec.new w 31 [.int .i64 p,.int .i64 f,.int .i64 k]);go_enter func27,ntmps27;go_wp2_with(go_at_call 46;refine(HM.o _).mono ?_;rintro e w1 ⟨rfl,hg1⟩;have HG1:=hid (((Gr.refl w).alloc _).trans hg1);have R1:=HR.o.gr hg1;have y0:=R1.cell (j:=0) rfl;have y1:=R1.cell (j:=1) rfl;have y2:=R1.cell (j:=2) rfl;clear hg1 R1);go_ret;exact⟨ZzN (by rw[HN.o];omega),HG1.o⟩
end
end
section
section
open Go.RowKit Word
end
end
section
section
section
open Go.RowKit Word
def kl(p f k:Nat):List Int:=List.replicate p 1++List.replicate f 2++List.replicate k 3
theorem Xc4(p f k:Nat):(kl p f k).length=p+f+k:=by simp[kl];omega
theorem Y21{p f k i:Nat}(hi:i<p+f+k):(kl p f k)[i]'(by rw[Xc4];exact hi)=if i<p then 1 else if i<p+f then 2 else 3:=by
 unfold kl;by_cases h1:i<p
 ·rw[χ h1,ζ9 (by simp;omega),ζ9 (by simpa using h1)];simp
 ·rw[ν h1];by_cases h2:i<p+f
  ·rw[χ h2,ζ9 (by simp;omega),ξG (by simp;omega)];simp
  ·rw[ν h2,ξG (by simp;omega)];simp
def Jix(w:World)(p f k:Nat)(e:Ending)(w':World):Prop:=∃A c,e=.returned (.slice A (p+f+k) c)/\Gr w w'/\w'.ownsRow w.heap.size 3 1 (.slice A (p+f+k) c) (p+f+k) (zs (kl p f k))
theorem VUt{p f k:Nat}(hs:p+f+k<=255)(w:World):Calls prog 70 #[.agg #[.int .i64 p,.int .i64 f,.int .i64 k]] w (Jix w p f k):=by
 have HM:=hid (λW=>Zx4 (p:=p) (f:=f) (k:=k) Ω Ω Ω W);rw[υ hs]at HM;have HR:=hid (Rec.new w 31 [.int .i64 p,.int .i64 f,.int .i64 k]);obtain⟨ii,hii,hi0,hi1,hi2⟩:=info_parts J0c;go_enter func70,ntmps70;go_wp2_with(go_at_call 46;refine(HM.o _).mono ?_;rintro e w1 ⟨rfl,hg1⟩;have HG1:=hid (((Gr.refl w).alloc _).trans hg1);have HR1:=hid (HR.o.gr hg1);clear hg1)
 go_loopw [3,4] (λs3 s4 wr=>∃(j:Nat) (vL:Value),j<=p/\Hid (wr.ownsRow w.heap.size 3 1 vL (j) (zs (List.replicate j 1)))/\Hid (Rec wr w.heap.size 31 [.int .i64 p,.int .i64 f,.int .i64 k])/\Hid (XF4 (λi=>w.heap.size<=i) w wr)/\s3=vL/\s4=.int .i64 j) (λ_ s4 _=>p-(intOf s4).toNat)
 case atStart=>exact⟨0,_,ζb _,⟨Vm9 _ _ _ _⟩,HR1,⟨HG1.o.touch _⟩,rfl,rfl⟩
 case round=>
  obtain⟨j,vL,hj,HO,HQ,HT,rfl,rfl⟩:=hrel;have y0:=HQ.o.cell (j:=0) rfl;have y1:=HQ.o.cell (j:=1) rfl;have y2:=HQ.o.cell (j:=2) rfl;obtain⟨A,cc,rfl,hc1,hc2⟩:=ZfN HO.o;unfold maxLen at hc2;by_cases hlast:j<p
  ·have HSU:Hid (zs (List.replicate (j+1) 1)=zs (List.replicate j 1)++[.int .i64 1]):=⟨by rw[ξQ];unfold zs;rw[ζw];rfl⟩;have hNb:j<=255:=Ω
   have HJ:=hid hlast;have hjI:(j:Int)<(p:Int):=Ω
   clear hlast hj;go_wp2_with(at_builtin;refine wpList_append_lies _ rfl _ _ 41 rfl w.heap.size 3 ii _ 1 8 underlying41 hii hi0 hi1 hi2 rfl (by decide) (.slice A j cc) j (zs (List.replicate j 1)) rfl (HO.o.alloc _) ⟨wr.heap.size,0,none⟩ 1 1 [.int .i64 1] rfl rfl (β (cs:=#[.int .i64 1]) (t:=3) (fr:=(0,0)) (heap_alloc_new wr (.cells #[.int .i64 1] 3))) (by simp[Value.oneCell']) Ω (by unfold maxLen;omega) Ω (by have:=HT.o.size;rw[τ];omega) (wr.heap.size+1) (by simp) ?_;intro g3 c3 w3 hown3 hgrow3 hat3 hlt3;have t3:XF4 (λk=>(Value.slice A j cc).ownBlock=some k) wr w3:=(((Gr.refl _).alloc _).touch _).trans (VxQ hgrow3 _ (λk e _=>e));have HT3:=hid t3;have HO3:=hid hown3;clear hown3 hgrow3 hat3 hlt3 t3);go_round
   case rel=>
    refine⟨j+1,.slice (some ⟨g3,0,none⟩) (j+1) c3,HJ.o,⟨?_⟩,⟨HQ.o.touch HT3.o (λe=>YnK HO.o HQ.o (by decide) e rfl rfl)⟩,⟨HT.o.trans (HT3.o.mono (λi _ h=>(Vvr HO.o h).1))⟩,rfl,by go_num⟩;rw[HSU.o];exact HO3.o
   case measure=>have:=HJ.o;simp[intOf];omega
  ·obtain rfl:p=j:=Ω
   clear hlast hj;obtain⟨wa,rfl⟩:∃wa:World,wa=wr:=⟨_,rfl⟩;go_wp2_with(fail)
   go_loopw [3,5] (λs3 s5 wr=>∃(j:Nat) (vL:Value),j<=f/\Hid (wr.ownsRow w.heap.size 3 1 vL (p+j) (zs (List.replicate p 1++List.replicate j 2)))/\Hid (Rec wr w.heap.size 31 [.int .i64 p,.int .i64 f,.int .i64 k])/\Hid (XF4 (λi=>w.heap.size<=i) w wr)/\s3=vL/\s5=.int .i64 j) (λ_ s5 _=>f-(intOf s5).toNat)
   case atStart=>exact⟨0,_,ζb _,⟨by rw[ζA];have:=HO.o;simpa using this⟩,HQ,HT,rfl,rfl⟩
   case round=>
    clear y0 y1 y2 hc1 hc2 HO HQ HT;obtain⟨j,vL,hj,HO,HQ,HT,rfl,rfl⟩:=hrel;have y0:=HQ.o.cell (j:=0) rfl;have y1:=HQ.o.cell (j:=1) rfl;have y2:=HQ.o.cell (j:=2) rfl;obtain⟨A,cc,rfl,hc1,hc2⟩:=ZfN HO.o;unfold maxLen at hc2;by_cases hlast:j<f
    ·have HSU:Hid (zs (List.replicate p 1++List.replicate (j+1) 2)=zs (List.replicate p 1++List.replicate j 2)++[.int .i64 2]):=⟨by rw[ξQ,<-ξj];unfold zs;rw[ζw];rfl⟩;obtain⟨N,hN⟩:∃N,N=p+j:=⟨_,rfl⟩;have HN:=hid hN;rw[<-hN]at HO hc1;have hNb:N<=255:=Ω
     have HJ:=hid hlast;have hjI:(j:Int)<(f:Int):=Ω
     clear hlast hj;rw[<-hN];clear hN;go_wp2_with(at_builtin;refine wpList_append_lies _ rfl _ _ 41 rfl w.heap.size 3 ii _ 1 8 underlying41 hii hi0 hi1 hi2 rfl (by decide) (.slice A N cc) N (zs (List.replicate p 1++List.replicate j 2)) rfl (HO.o.alloc _) ⟨wr.heap.size,0,none⟩ 1 1 [.int .i64 2] rfl rfl (β (cs:=#[.int .i64 2]) (t:=3) (fr:=(0,0)) (heap_alloc_new wr (.cells #[.int .i64 2] 3))) (by simp[Value.oneCell']) Ω (by unfold maxLen;omega) Ω (by have:=HT.o.size;rw[τ];omega) (wr.heap.size+1) (by simp) ?_;intro g3 c3 w3 hown3 hgrow3 hat3 hlt3;have t3:XF4 (λk=>(Value.slice A N cc).ownBlock=some k) wr w3:=(((Gr.refl _).alloc _).touch _).trans (VxQ hgrow3 _ (λk e _=>e));have HT3:=hid t3;have HO3:=hid hown3;clear hown3 hgrow3 hat3 hlt3 t3);go_round
     case rel=>
      refine⟨j+1,.slice (some ⟨g3,0,none⟩) (N+1) c3,HJ.o,⟨?_⟩,⟨HQ.o.touch HT3.o (λe=>YnK HO.o HQ.o (by decide) e rfl rfl)⟩,⟨HT.o.trans (HT3.o.mono (λi _ h=>(Vvr HO.o h).1))⟩,rfl,by go_num⟩;rw[HSU.o,show p+(j+1)=N+1 by have:=HN.o;omega];exact HO3.o
     case measure=>have:=HJ.o;simp[intOf];omega
    ·obtain rfl:f=j:=Ω
     clear hlast hj;obtain⟨wb,rfl⟩:∃wb:World,wb=wr:=⟨_,rfl⟩;go_wp2_with(fail)
     go_loopw [3,6] (λs3 s6 wr=>∃(j:Nat) (vL:Value),j<=k/\Hid (wr.ownsRow w.heap.size 3 1 vL (p+f+j) (zs ((List.replicate p 1++List.replicate f 2)++List.replicate j 3)))/\Hid (Rec wr w.heap.size 31 [.int .i64 p,.int .i64 f,.int .i64 k])/\Hid (XF4 (λi=>w.heap.size<=i) w wr)/\s3=vL/\s6=.int .i64 j) (λ_ s6 _=>k-(intOf s6).toNat)
     case atStart=>exact⟨0,_,ζb _,⟨by rw[ζA];have:=HO.o;simpa using this⟩,HQ,HT,rfl,rfl⟩
     case round=>
      clear y0 y1 y2 hc1 hc2 HO HQ HT;obtain⟨j,vL,hj,HO,HQ,HT,rfl,rfl⟩:=hrel;have y0:=HQ.o.cell (j:=0) rfl;have y1:=HQ.o.cell (j:=1) rfl;have y2:=HQ.o.cell (j:=2) rfl;obtain⟨A,cc,rfl,hc1,hc2⟩:=ZfN HO.o;unfold maxLen at hc2;by_cases hlast:j<k
      ·have HSU:Hid (zs ((List.replicate p 1++List.replicate f 2)++List.replicate (j+1) 3)=zs ((List.replicate p 1++List.replicate f 2)++List.replicate j 3)++[.int .i64 3]):=⟨by rw[ξQ,<-ξj];unfold zs;rw[ζw];rfl⟩;obtain⟨N,hN⟩:∃N,N=p+f+j:=⟨_,rfl⟩;have HN:=hid hN;rw[<-hN]at HO hc1;have hNb:N<=255:=Ω
       have HJ:=hid hlast;have hjI:(j:Int)<(k:Int):=Ω
       clear hlast hj;rw[<-hN];clear hN;go_wp2_with(at_builtin;refine wpList_append_lies _ rfl _ _ 41 rfl w.heap.size 3 ii _ 1 8 underlying41 hii hi0 hi1 hi2 rfl (by decide) (.slice A N cc) N (zs ((List.replicate p 1++List.replicate f 2)++List.replicate j 3)) rfl (HO.o.alloc _) ⟨wr.heap.size,0,none⟩ 1 1 [.int .i64 3] rfl rfl (β (cs:=#[.int .i64 3]) (t:=3) (fr:=(0,0)) (heap_alloc_new wr (.cells #[.int .i64 3] 3))) (by simp[Value.oneCell']) Ω (by unfold maxLen;omega) Ω (by have:=HT.o.size;rw[τ];omega) (wr.heap.size+1) (by simp) ?_;intro g3 c3 w3 hown3 hgrow3 hat3 hlt3;have t3:XF4 (λk=>(Value.slice A N cc).ownBlock=some k) wr w3:=(((Gr.refl _).alloc _).touch _).trans (VxQ hgrow3 _ (λk e _=>e));have HT3:=hid t3;have HO3:=hid hown3;clear hown3 hgrow3 hat3 hlt3 t3);go_round
       case rel=>
        refine⟨j+1,.slice (some ⟨g3,0,none⟩) (N+1) c3,HJ.o,⟨?_⟩,⟨HQ.o.touch HT3.o (λe=>YnK HO.o HQ.o (by decide) e rfl rfl)⟩,⟨HT.o.trans (HT3.o.mono (λi _ h=>(Vvr HO.o h).1))⟩,rfl,by go_num⟩;rw[HSU.o,show p+f+(j+1)=N+1 by have:=HN.o;omega];exact HO3.o
       case measure=>have:=HJ.o;simp[intOf];omega
      ·obtain rfl:k=j:=Ω
       clear hlast hj;go_wp2;go_ret;exact⟨A,cc,rfl,(HT.o.mono (T:=λ_=>False) (λi hi h=>by omega)).gr,HO.o⟩
end
end
section
section
open Go.RowKit Word
theorem XPR{p f k:Nat}(hs:p+f+k<=255)(i:Int)(w:World):Calls prog 56 #[.agg #[.int .i64 p,.int .i64 f,.int .i64 k],.int .i64 i] w λe w'=>e=.returned (.int .i64 (Yoq ⟨p,f,k⟩ i))/\Gr w w':=by
 have HK:=hid (λW=>VUt hs W)
 have HV:Hid (Yoq ⟨p,f,k⟩ i=if 0<=i/\i<(p:Int)+f+k then (if i<p then 1 else if i<(p:Int)+f then 2 else 3)else 0):=⟨by
  unfold Yoq;rw[show Z3o ⟨p,f,k⟩=1+(p:Int)+f+k from χ (JJj hs)]
  rw[show 1+(p:Int)+f+k-1=(p:Int)+f+k by omega]⟩
 obtain⟨S,hS⟩:∃S,S=p+f+k:=⟨_,rfl⟩;have HS:=hid hS;unfold Jix at HK;rw[<-hS]at hs HK;rcases(by omega:i<0\/(0<=i/\(S:Int)<=i)\/(0<=i/\i<S))with h|h|h
 ·have d0:decide (i<0)=true:=υ h;have HE:Hid (Yoq ⟨p,f,k⟩ i=0):=⟨by rw[HV.o,ν Ω]⟩;clear h hS;go_enter func56,ntmps56;go_wp2_with(go_at_call 70;refine(HK.o _).mono ?_;rintro e w1 ⟨A,c,rfl,hg1,ho1⟩;have HG1:=hid (((Gr.refl w).alloc _).trans hg1);clear hg1 ho1);go_ret;exact⟨ZzN HE.o.symm,HG1.o⟩
 ·have d0:decide (i<0)=false:=π Ω;have d1:decide ((S:Int)<=i)=true:=υ h.2;have HE:Hid (Yoq ⟨p,f,k⟩ i=0):=⟨by rw[HV.o,ν Ω]⟩;clear h hS;go_enter func56,ntmps56;go_wp2_with(go_at_call 70;refine(HK.o _).mono ?_;rintro e w1 ⟨A,c,rfl,hg1,ho1⟩;have HG1:=hid (((Gr.refl w).alloc _).trans hg1);clear hg1 ho1);go_ret;exact⟨ZzN HE.o.symm,HG1.o⟩
 ·obtain⟨j,rfl⟩:∃j:Nat,i=j:=⟨i.toNat,by omega⟩;have hjS:j<S:=Ω
  have hjI:(j:Int)<(S:Int):=Ω
  have d2:decide (S<=j)=false:=π Ω;have d3:decide ((S:Int)<=(j:Int))=false:=π Ω;have hat:=Y21 (p:=p) (f:=f) (k:=k) (i:=j) Ω
  have HZ:Hid ((zs (kl p f k))[j]?=some (.int .i64 (Yoq ⟨p,f,k⟩ j))):=⟨by
   unfold zs;rw[ζr,μ (by rw[Xc4];omega),Option.map_some,hat,HV.o,χ (⟨by omega,by omega⟩:(0:Int)<=(j:Int)/\(j:Int)<(p:Int)+f+k)];by_cases h1:j<p
   ·rw[χ h1,χ (by omega:(j:Int)<(p:Int))]
   ·rw[ν h1,ν (by omega:¬(j:Int)<(p:Int))];by_cases h2:j<p+f
    ·rw[χ h2,χ (by omega:(j:Int)<(p:Int)+f)]
    ·rw[ν h2,ν (by omega:¬(j:Int)<(p:Int)+f)]⟩
  clear hat HV;generalize Yoq ⟨p,f,k⟩ (j:Int)=y at *
  have hS0:S≠0:=Ω
  clear h hS;go_enter func56,ntmps56;go_wp2_with(go_at_call 70;refine(HK.o _).mono ?_;rintro e w1 ⟨A,c,rfl,hg1,ho1⟩;have HG1:=hid (((Gr.refl w).alloc _).trans hg1);obtain⟨g,c',ea,-,-,-,-⟩:=YTP ho1 hS0;simp only[Value.slice.injEq]at ea;obtain⟨rfl,-,rfl⟩:=ea;have kc:=XAn ho1 HZ.o;clear hg1 ho1);go_ret;exact⟨rfl,HG1.o⟩
end
end
end
section
section
open Go.RowKit Word
section
variable {w:World} {A:Option Addr} {cp M:Nat} {v:Vm}
end
end
end
end
section
section
open Go.RowKit Word
def obD:GOb:=⟨0,0,0,[]⟩
def obL(o:GOb)(b:Nat):List Value:=[.int .i64 o.p,.int .i64 o.f,.int .i64 o.k,.slice (some ⟨b,0,none⟩) o.w.length o.w.length]
def YHl(B:Nat->Nat):List GOb->Nat->List Value
 | [],_=>[]
 | o :: r,i=>obL o (B i)++YHl B r (i+1)
theorem Qk5(B:Nat->Nat):∀(L:List GOb) (i:Nat),(YHl B L i).length=L.length*4
 | [],_=>rfl
 | o :: r,i=>by simp[YHl,obL,Qk5 B r (i+1)];omega
theorem Zi8(B:Nat->Nat)(o:GOb):∀(L:List GOb) (i:Nat),YHl B (L++[o]) i=YHl B L i++obL o (B (i+L.length))
 | [],i=>by simp[YHl]
 | a :: r,i=>by
  show obL a (B i)++YHl B (r++[o]) (i+1)=(obL a (B i)++YHl B r (i+1))++obL o (B (i+(r.length+1)))
  rw[Zi8 B o r (i+1),ξj,show i+1+r.length=i+(r.length+1)by omega]
theorem Xq2{B B':Nat->Nat}:∀(L:List GOb) (i:Nat),(∀j,i<=j->j<i+L.length->B j=B' j)->YHl B L i=YHl B' L i
 | [],_,_=>rfl
 | o :: r,i,h=>by
  show obL o (B i)++YHl B r (i+1)=obL o (B' i)++YHl B' r (i+1)
  rw[h i (ζe _) (by simp),Xq2 r (i+1) (λj h1 h2=>h j Ω (by simp;omega))]
theorem JWT(B:Nat->Nat):∀(L:List GOb) (i j:Nat),j<L.length->(YHl B L i)[j*4]?=some (.int .i64 (L.getD j obD).p)/\(YHl B L i)[j*4+1]?=some (.int .i64 (L.getD j obD).f)/\(YHl B L i)[j*4+2]?=some (.int .i64 (L.getD j obD).k)/\(YHl B L i)[j*4+3]?=some (.slice (some ⟨B (i+j),0,none⟩) (L.getD j obD).w.length (L.getD j obD).w.length)
 | [],_,_,h=>absurd h (ξf _)
 | o :: r,i,0,_=>⟨rfl,rfl,rfl,rfl⟩
 | o :: r,i,j+1,h=>by
  have:=JWT B r (i+1) j (by simpa using h);have e:YHl B (o :: r) i=.int .i64 o.p :: .int .i64 o.f :: .int .i64 o.k :: .slice (some ⟨B i,0,none⟩) o.w.length o.w.length :: YHl B r (i+1):=rfl;rw[e,show (j+1)*4=j*4+1+1+1+1 by omega,show i+(j+1)=i+1+j by omega];simpa using this
theorem VkU(B:Nat->Nat)(o:GOb):∀(L:List GOb) (i x:Nat),(L.getD x obD).p=o.p->(L.getD x obD).f=o.f->(L.getD x obD).k=o.k->(L.getD x obD).w.length=o.w.length->YHl B (L.set x o) i=YHl B L i
 | [],_,_,_,_,_,_=>rfl
 | a :: r,i,0,h1,h2,h3,h4=>by
  have h1:a.p=o.p:=h1;have h2:a.f=o.f:=h2;have h3:a.k=o.k:=h3;have h4:a.w.length=o.w.length:=h4
  show obL o (B i)++YHl B r (i+1)=obL a (B i)++YHl B r (i+1)
  unfold obL;rw[h1,h2,h3,h4]
 | a :: r,i,x+1,h1,h2,h3,h4=>by
  show obL a (B i)++YHl B (r.set x o) (i+1)=obL a (B i)++YHl B r (i+1)
  rw[VkU B o r (i+1) x h1 h2 h3 h4]
def QYW(l:List Nat):List Value:=l.map λx:Nat=>Value.int .u64 x
def ZKn(l:List Nat):List Value:=l.map λx:Nat=>Value.int .i64 x
theorem YGR{l:List Nat}{i:Nat}(h:i<l.length):(QYW l)[i]?=some (.int .u64 (l.getD i 0:Nat)):=by
 unfold QYW;rw[ζr,θ,μ h];rfl
theorem Ypr{l:List Nat}{i:Nat}(h:i<l.length):(ZKn l)[i]?=some (.int .i64 (l.getD i 0:Nat)):=by
 unfold ZKn;rw[ζr,θ,μ h];rfl
structure XW7(w:World)(r C:Nat)(g:Gph)(lv:Value)(sb:Nat)(B:Nat->Nat):Prop where
 row:Rec w r 57 [.int .i64 C,lv,.slice (some ⟨sb,0,none⟩) g.S.length g.S.length]
 own:w.ownsRow 0 74 4 lv g.L.length (YHl B g.L 0)
 sl:Rec w sb 3 (ZKn g.S)
 wr:∀i,i<g.L.length->Rec w (B i) 32 (QYW (g.L.getD i obD).w)
 inj:∀i j,i<g.L.length->j<g.L.length->B i=B j->i=j
 len:g.L.length<=1000
 sn:g.S.length<=64
 cb:C<=1073741824
 ok:g.Ok
 wd:∀o∈g.L,∀x∈o.w,x<18446744073709551616
def ZH3(w:World)(S:Nat->Prop)(r C:Nat)(g:Gph):Prop:=∃lv sb B,XW7 w r C g lv sb B/\S r/\S sb/\(∀k,lv.ownBlock=some k->S k)/\∀i,i<g.L.length->S (B i)
section
variable {w w':World} {r C:Nat} {g:Gph} {lv:Value} {sb:Nat} {B:Nat->Nat} {S:Nat->Prop}
theorem XW7.touch{T:Nat->Prop}(h:XW7 w r C g lv sb B)(t:XF4 T w w')(h1:¬T r)(h2:¬T sb)(h3:∀k,lv.ownBlock=some k->¬T k)(h4:∀i,i<g.L.length->¬T (B i)):XW7 w' r C g lv sb B:=
 ⟨h.row.touch t h1,Zs2 h.own t h3,h.sl.touch t h2,λi hi=>(h.wr i hi).touch t (h4 i hi),h.inj,h.len,h.sn,h.cb,h.ok,h.wd⟩
theorem XW7.gr(h:XW7 w r C g lv sb B)(t:Gr w w'):XW7 w' r C g lv sb B:=h.touch (t.touch (λ_=>False)) (λh=>h) (λh=>h) (λ_ _ h=>h) (λ_ _ h=>h)
theorem ZH3.touch{T:Nat->Prop}(h:ZH3 w S r C g)(t:XF4 T w w')(hS:∀k,k<w.heap.size->S k->¬T k):ZH3 w' S r C g:=by
 obtain⟨lv,sb,B,h,s1,s2,s3,s4⟩:=h;exact⟨lv,sb,B,h.touch t (hS _ h.row.lt s1) (hS _ h.sl.lt s2) (λk hk=>hS _ (Vvr h.own hk).2 (s3 k hk)) (λi hi=>hS _ (h.wr i hi).lt (s4 i hi)),s1,s2,s3,s4⟩
theorem ZH3.gr(h:ZH3 w S r C g)(t:Gr w w'):ZH3 w' S r C g:=h.touch (t.touch (λ_=>False)) (λ_ _ _ h=>h)
theorem ZH3.cut(h:ZH3 w S r C g):ZH3 w (λk=>S k/\k<w.heap.size) r C g:=by
 obtain⟨lv,sb,B,h,s1,s2,s3,s4⟩:=h;exact⟨lv,sb,B,h,⟨s1,h.row.lt⟩,⟨s2,h.sl.lt⟩,λk hk=>⟨s3 k hk,(Vvr h.own hk).2⟩,λi hi=>⟨s4 i hi,(h.wr i hi).lt⟩⟩
theorem ZH3.mono{S':Nat->Prop}(h:ZH3 w S r C g)(hS:∀k,S k->S' k):ZH3 w S' r C g:=by
 obtain⟨lv,sb,B,h,s1,s2,s3,s4⟩:=h;exact⟨lv,sb,B,h,hS _ s1,hS _ s2,λk hk=>hS _ (s3 k hk),λi hi=>hS _ (s4 i hi)⟩
theorem Gph.ob_getD(g:Gph){x:Nat}(hx:1<=x):g.ob x=g.L.getD (x-1) obD:=by
 unfold Gph.ob;rw[ν Ω];rfl
theorem XW7.slot(h:XW7 w r C g lv sb B){a:Nat}(ha:a<g.S.length):w.cell? ⟨sb,a,none⟩=some (.int .i64 (g.S.getD a 0:Nat)):=h.sl.cell (Ypr ha)
theorem XW7.obj(h:XW7 w r C g lv sb B){x:Nat}(h1:1<=x)(h2:x<=g.L.length):∃(lb c y:Nat),lv=.slice (some ⟨lb,0,none⟩) g.L.length c/\x=y+1/\y<g.L.length/\lb<w.heap.size/\w.cell? ⟨lb,y*4,none⟩=some (.int .i64 (g.ob x).p)/\w.cell? ⟨lb,y*4+1,none⟩=some (.int .i64 (g.ob x).f)/\w.cell? ⟨lb,y*4+2,none⟩=some (.int .i64 (g.ob x).k) ∧
  w.cell? ⟨lb,y*4+3,none⟩=some (.slice (some ⟨B y,0,none⟩) (g.ob x).w.length (g.ob x).w.length)/\Rec w (B y) 32 (QYW (g.ob x).w)/\(g.ob x).w.length=(g.ob x).p+(g.ob x).f+(g.ob x).k/\(g.ob x).p+(g.ob x).f+(g.ob x).k<=255:=by
 obtain⟨y,rfl⟩:∃y,x=y+1:=⟨x-1,by omega⟩;obtain⟨lb,c,e,-,-,-,hlb⟩:=YTP h.own Ω;have ho:=h.own;rw[e]at ho;obtain⟨k0,k1,k2,k3⟩:=JWT B g.L 0 y Ω;have hob:=g.ob_getD (x:=y+1) Ω;have hl:=h.ok.len _ (Gph.ob_mem h1 h2);rw[ζR]at hob;rw[ω]at k3;refine⟨lb,c,y,e,rfl,by omega,hlb,?_,?_,?_,?_,?_,hl.1,hl.2⟩
 ·rw[hob];exact XAn ho k0
 ·rw[hob];exact XAn ho k1
 ·rw[hob];exact XAn ho k2
 ·rw[hob];exact XAn ho k3
 ·rw[hob];exact h.wr y Ω
theorem XW7.sto(h:XW7 w r C g lv sb B){a:Nat}(ha:a<g.S.length):g.S.getD a 0<=g.L.length:=by
 refine h.ok.st _ ?_;rw[θ,μ ha];exact ζo ha
end
def JZ4(w:World)(A:Option Addr)(l:List Nat):Prop:=∀i,i<l.length->∃b o,A=some ⟨b,o,none⟩/\b<w.heap.size/\w.cell? ⟨b,o+i,none⟩=some (.int .i64 (l.getD i 0:Nat))
theorem V0H{w:World}{base:Nat}{A:Option Addr}{c n:Nat}{l:List Nat}(h:w.ownsRow base 3 1 (.slice A n c) n (ZKn l))(hn:n=l.length):JZ4 w A l:=λi hi=>by
 subst hn;obtain⟨g,c,e,-,-,-,hlb⟩:=YTP h Ω;cases e;exact⟨g,0,rfl,hlb,by rw[ω];exact XAn h (Ypr hi)⟩
theorem Vr9{w:World}{A:Option Addr}{c:Nat}{l:List Nat}(hA:JZ4 w A l)(hl:l.length<=1000)(a:Nat):Calls prog 26 #[.slice A l.length c,.int .i64 a] w λe w'=>e=.returned (.bool (decide (a∈l)))/\w=w':=by
 have HA:=hid hA;obtain⟨N,hN⟩:∃N,N=l.length:=⟨_,rfl⟩;have HN:=hid hN;rw[<-hN]at hl⊢;clear hA hN;go_enter func26,ntmps26;go_wp2
 go_loop [5] (λs5=>∃i:Nat,i<=N/\s5=.int .i64 i/\Hid (∀j,j<i->l.getD j 0≠a)) (λs5=>N-(intOf s5).toNat)
 case atStart=>exact⟨0,ζb _,rfl,⟨λj hj=>absurd hj (ξf _)⟩⟩
 case round=>
  obtain⟨i,hi,rfl,HF⟩:=hrel;by_cases hlast:i<N
  ·have hiI:(i:Int)<(N:Int):=Ω
   obtain⟨b,o,rfl,hb,hc⟩:=HA.o i (by rw[<-HN.o];exact hlast);obtain⟨x,hx⟩:∃x,x=l.getD i 0:=⟨_,rfl⟩;rw[<-hx]at hc;have HX:=hid hx;have HII:=hid hlast;clear hx hlast;by_cases hxa:x=a
   ·have e1:((x:Int)==(a:Int))=true:=by rw[ζu];omega
    have HXA:=hid hxa;clear hxa;go_wp2;go_ret;refine⟨?_,rfl⟩
    have hm:a∈l:=by
     rw[<-HXA.o,HX.o,θ,μ (by rw[<-HN.o];exact HII.o)];exact ζo _
    rw[υ hm] <;> rfl
   ·have e1:((x:Int)==(a:Int))=false:=by rw[σ];omega
    have HXA:=hid hxa;clear hxa;go_wp2;go_round
    case rel=>
     refine⟨i+1,HII.o,by go_num,⟨λj hj=>?_⟩⟩;rcases ζj j i with h|h
     ·exact HF.o j h
     ·rw[show j=i by omega,<-HX.o];exact HXA.o
    case measure=>have:=HII.o;simp[intOf];omega
  ·have hiI:¬(i:Int)<(N:Int):=Ω
   have HII:=hid hlast;clear hlast;go_wp2;go_ret;refine⟨?_,rfl⟩
   have hm:¬a∈l:=λhm=>by
    obtain⟨j,hj,e⟩:=ξA.1 hm;refine HF.o j (by have:=HII.o;have:=HN.o;omega) ?_;rw[θ,μ hj,ξb,e]
   rw[π hm] <;> rfl
section
variable {w w':World} {r C:Nat} {g:Gph} {lv:Value} {sb:Nat} {B:Nat->Nat} {S:Nat->Prop}
theorem J8q(h:XW7 w r C g lv sb B)(a b:Int):Calls prog 21 #[.pointer (some ⟨r,0,none⟩),.int .i64 a,.int .i64 b] w λe w'=>e=.returned (.bool (g.sl a&&g.sl b))/\w=w':=by
 have c2:=h.row.cell (j:=2) rfl;have hlt:=h.row.lt;have HR:Hid ((g.sl a&&g.sl b)=((decide (0<=a)&&decide (a<g.S.length))&&(decide (0<=b)&&decide (b<g.S.length)))):=⟨rfl⟩;generalize (g.sl a&&g.sl b)=R at HR⊢;generalize g.S.length=n at c2 HR;obtain⟨z1,d1⟩:∃z,decide ((0:Int)<=a)=z:=⟨_,rfl⟩;obtain⟨z2,d2⟩:∃z,decide (a<(n:Int))=z:=⟨_,rfl⟩;obtain⟨z3,d3⟩:∃z,decide ((0:Int)<=b)=z:=⟨_,rfl⟩;obtain⟨z4,d4⟩:∃z,decide (b<(n:Int))=z:=⟨_,rfl⟩;rw[d1,d2,d3,d4]at HR;clear h;cases z1 with
 | false=>
  go_enter func21,ntmps21;go_wp2;go_ret;exact⟨by rw[HR.o] <;> rfl,rfl⟩
 | true=>
  cases z2 with
  | false=>
   go_enter func21,ntmps21;go_wp2;go_ret;exact⟨by rw[HR.o] <;> rfl,rfl⟩
  | true=>
   cases z3 with
   | false=>
    go_enter func21,ntmps21;go_wp2;go_ret;exact⟨by rw[HR.o] <;> rfl,rfl⟩
   | true=>
    cases z4
    all_goals
     go_enter func21,ntmps21;go_wp2;go_ret;exact⟨by rw[HR.o] <;> rfl,rfl⟩
end
end
end
section
section
open Go.RowKit Word
theorem JQI{p f k:Nat}(hs:p+f+k<=255){i:Int}(h:Yoq ⟨p,f,k⟩ i≠0):∃n:Nat,i=n/\n<p+f+k:=by
 unfold Yoq Z3o at h;rw[χ (JJj hs)]at h
 split at h
 ·rename_i h1;dsimp only at h1;exact⟨i.toNat,by omega,by omega⟩
 ·exact absurd rfl h
theorem ZPL{g:Gph}{a:Nat}(ha:a<g.S.length)(i kd:Int):g.fdE a i kd=if g.S.getD a 0=0 then 18 else if Yoq (g.ob (g.S.getD a 0)).hdr i=0 then 19 else if Yoq (g.ob (g.S.getD a 0)).hdr i=kd then 0 else 20:=by
 have:g.sl a=true:=by unfold Gph.sl;rw[υ Ω,υ Ω];rfl
 unfold Gph.fdE;rw[this,χ rfl];rfl
theorem J9p{g:Gph}{a:Int}(h:g.sl a=true):∃n:Nat,a=n/\n<g.S.length:=by
 unfold Gph.sl at h;rw[ζd,ζq,ζq]at h;exact⟨a.toNat,by omega,by omega⟩
theorem Zwn{w:World}{r C:Nat}{g:Gph}{lv:Value}{sb:Nat}{B:Nat->Nat}(h:XW7 w r C g lv sb B){a:Nat}(ha:a<g.S.length){i kd:Int}(he:g.fdE a i kd=0):∃x n:Nat,g.S.getD a 0=x/\1<=x/\x<=g.L.length/\i=n/\n<(g.ob x).w.length/\g.fdV a i kd=(g.ob x).w.getD n 0/\Yoq (g.ob x).hdr i=kd:=by
 have he2:=he;rw[ZPL ha]at he;have hle:=h.sto ha
 split at he
 ·cases he
 ·rename_i h0
  split at he
  ·cases he
  ·rename_i hk
   split at he
   ·rename_i hk2;have h1:1<=g.S.getD a 0:=Ω
    have hl:=h.ok.len _ (Gph.ob_mem h1 hle);obtain⟨n,hn1,hn2⟩:=JQI hl.2 hk;refine⟨_,n,rfl,h1,hle,hn1,by rw[hl.1];exact hn2,?_,hk2⟩;unfold Gph.fdV;rw[χ he2,hn1];rfl
   ·cases he
section
variable {w w':World} {r C:Nat} {g:Gph} {lv:Value} {sb:Nat} {B:Nat->Nat} {S:Nat->Prop}
theorem V3r(h:XW7 w r C g lv sb B){a:Nat}(ha:a<g.S.length)(i kd:Int):Calls prog 43 #[.pointer (some ⟨r,0,none⟩),.int .i64 a,.int .i64 i,.int .i64 kd] w λe w'=>e=.returned (.int .i64 (g.fdE a i kd))/\Gr w w':=by
 have c1:=h.row.cell (j:=1) rfl;have c2:=h.row.cell (j:=2) rfl;have hlt:=h.row.lt;have cs:=h.slot ha;have hsl:=h.sl.lt;have hle:=h.sto ha;have HR:=hid (ZPL ha i kd);have hsn:=h.sn;have haI:(a:Int)<(g.S.length:Int):=Ω
 obtain⟨R,hR⟩:∃R,R=g.fdE a i kd:=⟨_,rfl⟩;rw[<-hR]at HR⊢;generalize g.S.length=n at c2 haI hsn ha;obtain⟨s,hs⟩:∃s,s=g.S.getD a 0:=⟨_,rfl⟩;rw[<-hs]at cs hle HR;clear hs hR ha;by_cases h0:s=0
 ·subst h0;have HRR:Hid (R=18):=⟨by rw[HR.o,χ rfl]⟩;clear HR hle h;go_enter func43,ntmps43;go_wp2;go_ret;exact⟨by rw[HRR.o] <;> rfl,Gr.refl _⟩
 ·obtain⟨lb,c,y,rfl,rfl,hy,hlb,k0,k1,k2,-,-,-,hsz⟩:=h.obj (x:=s) Ω hle;have e0:(((y+1:Nat):Int)==0)=false:=by rw[σ];omega
  have hyI:((y+1:Nat):Int)-1=(y:Int):=Ω
  have HK:=hid (λW=>XPR hsz i W);have HRR:Hid (R=if Yoq ⟨(g.ob (y+1)).p,(g.ob (y+1)).f,(g.ob (y+1)).k⟩ i=0 then 19 else if Yoq ⟨(g.ob (y+1)).p,(g.ob (y+1)).f,(g.ob (y+1)).k⟩ i=kd then 0 else 20):=⟨by rw[HR.o,ν h0];rfl⟩;have hln:=h.len;have hyl:(y:Int)<(g.L.length:Int):=Ω
  generalize g.L.length=nl at hy hln hyl c1;generalize (g.ob (y+1)).p=p at k0 HK HRR;generalize (g.ob (y+1)).f=f at k1 HK HRR;generalize (g.ob (y+1)).k=k at k2 HK HRR;generalize Yoq ⟨p,f,k⟩ i=kk at HK HRR;generalize ((y+1:Nat):Int)=sI at cs e0 hyI;clear HR hle h h0 hsz;by_cases hk0:kk=0
  ·have HR2:Hid (R=19):=⟨by rw[HRR.o,χ hk0]⟩;have d1:(kk==0)=true:=by rw[ζu];exact hk0
   clear HRR hk0;go_enter func43,ntmps43;go_wp2_with(go_at_call 56;refine(HK.o _).mono ?_;rintro e w1 ⟨rfl,hg⟩;have HG1:=hid hg;clear hg);go_ret;exact⟨by rw[HR2.o] <;> rfl,HG1.o⟩
  ·have d1:(kk==0)=false:=by rw[σ];exact hk0
   by_cases hk1:kk=kd
   ·have HR2:Hid (R=0):=⟨by rw[HRR.o,ν hk0,χ hk1]⟩;have d2:(kk !=kd)=false:=by simp[hk1]
    clear HRR hk0 hk1;go_enter func43,ntmps43;go_wp2_with(go_at_call 56;refine(HK.o _).mono ?_;rintro e w1 ⟨rfl,hg⟩;have HG1:=hid hg;clear hg);go_ret;exact⟨by rw[HR2.o] <;> rfl,HG1.o⟩
   ·have HR2:Hid (R=20):=⟨by rw[HRR.o,ν hk0,ν hk1]⟩;have d2:(kk !=kd)=true:=by simp[hk1]
    clear HRR hk0 hk1;go_enter func43,ntmps43;go_wp2_with(go_at_call 56;refine(HK.o _).mono ?_;rintro e w1 ⟨rfl,hg⟩;have HG1:=hid hg;clear hg);go_ret;exact⟨by rw[HR2.o] <;> rfl,HG1.o⟩
theorem Zp8(h:XW7 w r C g lv sb B)(a i kd:Int):Calls prog 19 #[.pointer (some ⟨r,0,none⟩),.int .i64 a,.int .i64 i,.int .i64 kd] w λe w'=>e=.returned (.tuple #[.int .u64 (g.fdV a i kd:Nat),.int .i64 (g.fdE a i kd)])/\Gr w w':=by
 have HS:=hid (J8q h a a);rw[ξK]at HS;by_cases hs:g.sl a=true
 ·rw[hs]at HS;obtain⟨m,rfl,hm⟩:=J9p hs;have HF:=hid (V3r h hm i kd);have HH:=hid (λ(W:World) (gW:Gr w W)=>h.gr gW);by_cases he:g.fdE m i kd=0
  ·obtain⟨x,n,hx,hx1,hxl,rfl,hn,hv,-⟩:=Zwn h hm he;have HV:=hid hv;rw[he]at HF;have hx2:(m:Int)<(g.S.length:Int):=Ω
   have hsn:=h.sn;have hln:=h.len;obtain⟨lb,c,y,rfl,rfl,hy,-⟩:=h.obj hx1 hxl
   have HC:Hid (∀W,Gr w W->W.cell? ⟨r,1,none⟩=some (.slice (some ⟨lb,0,none⟩) g.L.length c)/\W.cell? ⟨r,2,none⟩=some (.slice (some ⟨sb,0,none⟩) g.S.length g.S.length)/\W.cell? ⟨sb,m,none⟩=some (.int .i64 ((y+1:Nat):Int))/\W.cell? ⟨lb,y*4+3,none⟩=some (.slice (some ⟨B y,0,none⟩) (g.ob (y+1)).w.length (g.ob (y+1)).w.length)/\W.cell? ⟨B y,n,none⟩=some (.int .u64 ((g.ob (y+1)).w.getD n 0:Nat))/\r<W.heap.size/\sb<W.heap.size/\lb<W.heap.size/\B y<W.heap.size):=⟨λW gW=>by
    have h2:=h.gr gW;obtain⟨lb',c',y',e1,e2,-,q0,-,-,-,q4,q5,-⟩:=h2.obj hx1 hxl;cases e1;obtain rfl:y=y':=Ω
    refine⟨h2.row.cell (j:=1) rfl,h2.row.cell (j:=2) rfl,by rw[<-hx];exact h2.slot hm,q4,q5.cell (YGR hn),h2.row.lt,h2.sl.lt,q0,q5.lt⟩⟩
   have hyI:((y+1:Nat):Int)-1=(y:Int):=Ω
   have hyl:(y:Int)<(g.L.length:Int):=Ω
   have hnI:(n:Int)<((g.ob (y+1)).w.length:Int):=Ω
   have hwl:(g.ob (y+1)).w.length<=255:=by
    have:=h.ok.len _ (Gph.ob_mem hx1 hxl);omega
   rw[he,HV.o];clear he hx hx1 hxl hv hm hs h hn hy;generalize (g.ob (y+1)).w.getD n 0=v at HC⊢;generalize (g.ob (y+1)).w.length=wl at HC hnI hwl;generalize g.L.length=nl at HC hyl hln;generalize g.S.length=ns at HC hx2 hsn;generalize ((y+1:Nat):Int)=sI at HC hyI;go_enter func19,ntmps19
   go_upto_region 6 with(first
    | (go_at_call 21;refine(HS.o).mono ?_;rintro e w1 ⟨rfl,rfl⟩)
    | (go_at_call 43;refine(HF.o).mono ?_;rintro e w2 ⟨rfl,hg⟩;have HG2:=hid hg;clear hg))
   obtain⟨q1,q2,q3,q4,q5,q6,q7,q8,q9⟩:=HC.o _ HG2.o;go_quiet (fail);go_wp2;go_ret2;exact⟨rfl,HG2.o.drewN _⟩
  ·have hv:g.fdV m i kd=0:=by unfold Gph.fdV;rw[ν he]
   rw[hv];generalize g.fdE m i kd=E at HF he⊢;have e1:(E !=0)=true:=by simpa using he
   clear he hv hm hs h;go_enter func19,ntmps19
   go_wp2_with(first
    | (go_at_call 21;refine(HS.o).mono ?_;rintro e w1 ⟨rfl,rfl⟩)
    | (go_at_call 43;refine(HF.o).mono ?_;rintro e w2 ⟨rfl,hg⟩;have HG2:=hid hg;clear hg))
   go_ret2;exact⟨rfl,HG2.o⟩
 ·rw[ζD]at hs;rw[hs]at HS;have hE:g.fdE a i kd=17:=by unfold Gph.fdE;rw[hs];rfl
  have hV:g.fdV a i kd=0:=by unfold Gph.fdV;rw[hE];rfl
  rw[hE,hV];clear hE hV hs h;go_enter func19,ntmps19;go_wp2_with(go_at_call 21;refine(HS.o).mono ?_;rintro e w1 ⟨rfl,rfl⟩);go_ret2;exact⟨rfl,Gr.refl _⟩
theorem Z1i(h:XW7 w r C g lv sb B)(a i b k:Int):Calls prog 24 #[.pointer (some ⟨r,0,none⟩),.int .i64 a,.int .i64 i,.int .i64 b,.int .i64 k] w λe w'=>e=.returned (.tuple #[.int .i64 (g.orV a i b k),.int .i64 (g.orE a i b k)])/\Gr w w':=by
 have HG1:=hid (Zp8 h a i 2);have HG2:=hid (λ(W:World) (gW:Gr w W)=>Zp8 (h.gr gW) b k 2);have HE:Hid (g.orE a i b k=if g.fdE a i 2=0 then g.fdE b k 2 else g.fdE a i 2):=⟨rfl⟩;have HV:Hid (g.orV a i b k=if g.orE a i b k=0 then (if VUa (g.fdV a i 2) (g.fdV b k 2)then -1 else if VUa (g.fdV b k 2) (g.fdV a i 2)then 1 else 0)else 0):=⟨rfl⟩;generalize g.orV a i b k=V at HV⊢;generalize g.orE a i b k=E at HE HV⊢;generalize g.fdE a i 2=E1 at HG1 HE;generalize g.fdE b k 2=E2 at HG2 HE;generalize g.fdV a i 2=x at HG1 HV;generalize g.fdV b k 2=y at HG2 HV;clear h;by_cases h1:E1=0
 ·have d1:(E1 !=0)=false:=by simp[h1]
  by_cases h2:E2=0
  ·have d2:(E2 !=0)=false:=by simp[h2]
   have HEE:Hid (E=0):=⟨by rw[HE.o,χ h1,h2]⟩;have HB1:=hid (λW=>Xyj x y W);have HB2:=hid (λW=>Xyj y x W);have HVV:Hid (V=if VUa x y then -1 else if VUa y x then 1 else 0):=⟨by rw[HV.o,χ HEE.o]⟩;generalize VUa x y=z1 at HB1 HVV;generalize VUa y x=z2 at HB2 HVV;clear h1 h2 HE HV;cases z1 with
   | true=>
    go_enter func24,ntmps24;go_upto_region 2 with(go_at_call 19;refine(HG1.o).mono ?_;rintro e w1 ⟨rfl,hg⟩;have HGA:=hid hg;clear hg);go_upto_region 5 with(go_at_call 19;refine(HG2.o _ HGA.o).mono ?_;rintro e w2 ⟨rfl,hg⟩;have HGB:=hid (HGA.o.trans hg);clear hg);go_wp2_with(go_at_call 45;refine(HB1.o _).mono ?_;rintro e w3 ⟨rfl,rfl⟩);go_ret2;exact⟨by rw[HEE.o,HVV.o] <;> rfl,HGB.o⟩
   | false=>
    cases z2
    all_goals
     go_enter func24,ntmps24;go_upto_region 2 with(go_at_call 19;refine(HG1.o).mono ?_;rintro e w1 ⟨rfl,hg⟩;have HGA:=hid hg;clear hg);go_upto_region 5 with(go_at_call 19;refine(HG2.o _ HGA.o).mono ?_;rintro e w2 ⟨rfl,hg⟩;have HGB:=hid (HGA.o.trans hg);clear hg);go_upto_region 9 with(go_at_call 45;refine(HB1.o _).mono ?_;rintro e w3 ⟨rfl,rfl⟩);go_wp2_with(go_at_call 45;refine(HB2.o _).mono ?_;rintro e w3 ⟨rfl,rfl⟩);go_ret2;exact⟨by rw[HEE.o,HVV.o] <;> rfl,HGB.o⟩
  ·have d2:(E2 !=0)=true:=by simpa using h2
   have HEE:Hid (E=E2):=⟨by rw[HE.o,χ h1]⟩;have HVV:Hid (V=0):=⟨by rw[HV.o,ν (by rw[HEE.o];exact h2)]⟩;clear h1 h2 HE HV;go_enter func24,ntmps24;go_upto_region 2 with(go_at_call 19;refine(HG1.o).mono ?_;rintro e w1 ⟨rfl,hg⟩;have HGA:=hid hg;clear hg);go_upto_region 5 with(go_at_call 19;refine(HG2.o _ HGA.o).mono ?_;rintro e w2 ⟨rfl,hg⟩;have HGB:=hid (HGA.o.trans hg);clear hg);go_wp2;go_ret2;exact⟨by rw[HEE.o,HVV.o] <;> rfl,HGB.o⟩
 ·have d1:(E1 !=0)=true:=by simpa using h1
  have HEE:Hid (E=E1):=⟨by rw[HE.o,ν h1]⟩;have HVV:Hid (V=0):=⟨by rw[HV.o,ν (by rw[HEE.o];exact h1)]⟩;clear h1 HE HV HG2;go_enter func24,ntmps24;go_wp2_with(go_at_call 19;refine(HG1.o).mono ?_;rintro e w1 ⟨rfl,hg⟩;have HGA:=hid hg;clear hg);go_ret2;exact⟨by rw[HEE.o,HVV.o] <;> rfl,HGA.o⟩
end
end
end
section
section
open Go.RowKit Word
section
variable {w w':World} {r C:Nat} {g:Gph} {lv:Value} {sb:Nat} {B:Nat->Nat} {S:Nat->Prop}
theorem XW7.put(h:XW7 w r C g lv sb B){x i y:Nat}(h1:1<=x)(h2:x<=g.L.length)(hy:i<(g.ob x).p->y<=g.L.length)(hb:y<18446744073709551616):XW7 (w.setCell ⟨B (x-1),i,none⟩ (.int .u64 (y:Nat))) r C (g.put x i y) lv sb B:=by
 have hl:(g.put x i y).L.length=g.L.length:=ζf;have hob:=g.ob_getD h1;have hx:=h.wr (x-1) Ω;rw[<-hob]at hx;have t:XF4 (λk=>k=B (x-1)) w (w.setCell ⟨B (x-1),i,none⟩ (.int .u64 (y:Nat))):=(XF4.refl (λk=>k=B (x-1)) w).setCell (a:=⟨B (x-1),i,none⟩) (λ_=>rfl) _;have n1:r≠B (x-1):=YnK h.row hx (by decide) rfl rfl;have n2:sb≠B (x-1):=YnK h.sl hx (by decide) rfl rfl;refine⟨h.row.touch t n1,?_,h.sl.touch t n2,λj hj=>?_,λa b ha hb=>h.inj a b (by rw[<-hl];exact ha) (by rw[<-hl];exact hb),by rw[hl];exact h.len,h.sn,h.cb,h.ok.put h1 h2 hy,λo ho z hz=>?_⟩
 ·rw[hl]
  show (w.setCell _ _).ownsRow 0 _ 4 lv g.L.length (YHl B (g.L.set (x-1) ((g.ob x).put i y)) 0)
  have e:YHl B (g.L.set (x-1) ((g.ob x).put i y)) 0=YHl B g.L 0:=VkU B _ g.L 0 (x-1) (by rw[<-hob];rfl) (by rw[<-hob];rfl) (by rw[<-hob];rfl) (by rw[<-hob];exact(ζf).symm);rw[e];exact Zs2 h.own t (λk hk=>YnK h.own hx (by decide) hk rfl)
 ·rw[hl]at hj
  show Rec (w.setCell _ _) (B j) _ (QYW ((g.L.set (x-1) ((g.ob x).put i y)).getD j obD).w)
  by_cases e:j=x-1
  ·subst e;rw[θ,List.getElem?_set_self hj]
   show Rec _ _ _ (QYW ((g.ob x).w.set i y))
   have:=hx.set i (.int .u64 (y:Nat));unfold QYW at this⊢;rw[ζ8];exact this
  ·rw[θ,List.getElem?_set_ne (λh=>e h.symm),<-θ];exact(h.wr j hj).touch t (λhh=>e (h.inj _ _ hj Ω hh))
 ·rcases ζl ho with h3|h3
  ·exact h.wd o h3 z hz
  ·rw[h3]at hz;have hz:z∈(g.ob x).w.set i y:=hz;rcases ζl hz with h4|h4
   ·exact h.wd _ (Gph.ob_mem h1 h2) z h4
   ·rw[h4];exact hb
theorem X1n{g:Gph}{a:Nat}{x n:Nat}{kd:Int}{y:Nat}(he:g.fdE a n kd=0)(hx:g.S.getD a 0=x):g.wrG a n kd y=g.put x n y:=by
 unfold Gph.wrG;rw[χ he];unfold Gph.setFd Gph.at;rw[ξk,ξk,hx]
def X19(w:World)(S:Nat->Prop)(r C:Nat)(g':Gph)(v:Value)(e:Ending)(w':World):Prop:=e=.returned v/\XF4 S w w'/\ZH3 w' S r C g'
theorem XDY(hA:ZH3 w S r C g)(a i kd:Int){y:Nat}(hb:y<18446744073709551616)(hy:kd=1->y<=g.L.length):Calls prog 20 #[.pointer (some ⟨r,0,none⟩),.int .i64 a,.int .i64 i,.int .i64 kd,.int .u64 y] w (X19 w S r C (g.wrG a i kd y) (.int .i64 (g.fdE a i kd))):=by
 obtain⟨lv,sb,B,h,s1,s2,s3,s4⟩:=hA;have HG:=hid (Zp8 h a i kd);have HS:=hid (ζp s1 (ζp s2 (ζp s3 s4)));by_cases he:g.fdE a i kd=0
 ·have hs:g.sl a=true:=by
   unfold Gph.fdE at he;cases hs:g.sl a with
   | true=>rfl
   | false=>rw[hs]at he;cases he
  obtain⟨m,rfl,hm⟩:=J9p hs;obtain⟨x,n,hx,hx1,hxl,rfl,hn,-,hkk⟩:=Zwn h hm he;have HGE:=hid (X1n (y:=y) he hx);rw[he]at HG⊢;have hx2:(m:Int)<(g.S.length:Int):=Ω
  have hsn:=h.sn;have hln:=h.len;obtain⟨lb,c,z,rfl,rfl,hz,-⟩:=h.obj hx1 hxl
  have hyp:n<(g.ob (z+1)).p->y<=g.L.length:=λhnp=>hy (by
   rw[<-hkk];have hl:=h.ok.len _ (Gph.ob_mem hx1 hxl);unfold Yoq GOb.hdr;dsimp only;unfold Z3o
   rw[χ (JJj hl.2),χ (by dsimp only;omega),χ Ω])
  have HP:=hid (λ(W:World) (gW:Gr w W)=>(h.gr gW).put (y:=y) hx1 hxl hyp hb);have HT:=hid (λ(W:World) (gW:Gr w W)=>(show XF4 S w (W.setCell ⟨B z,n,none⟩ (.int .u64 (y:Nat)))from(gW.touch S).setCell (λ_=>s4 z hz) _))
  have HC:Hid (∀W,Gr w W->W.cell? ⟨r,1,none⟩=some (.slice (some ⟨lb,0,none⟩) g.L.length c)/\W.cell? ⟨r,2,none⟩=some (.slice (some ⟨sb,0,none⟩) g.S.length g.S.length)/\W.cell? ⟨sb,m,none⟩=some (.int .i64 ((z+1:Nat):Int))/\W.cell? ⟨lb,z*4+3,none⟩=some (.slice (some ⟨B z,0,none⟩) (g.ob (z+1)).w.length (g.ob (z+1)).w.length)/\W.cell? ⟨B z,n,none⟩=some (.int .u64 ((g.ob (z+1)).w.getD n 0:Nat))/\W.frozen? ⟨B z,n,none⟩=false):=⟨λW gW=>by
   have h2:=h.gr gW;obtain⟨lb',c',z',e1,e2,-,-,-,-,-,q4,q5,-⟩:=h2.obj hx1 hxl;cases e1;obtain rfl:z=z':=Ω
   exact⟨h2.row.cell (j:=1) rfl,h2.row.cell (j:=2) rfl,by rw[<-hx];exact h2.slot hm,q4,q5.cell (YGR hn),q5.free _⟩⟩
  have hzI:((z+1:Nat):Int)-1=(z:Int):=Ω
  have hzl:(z:Int)<(g.L.length:Int):=Ω
  have hnI:(n:Int)<((g.ob (z+1)).w.length:Int):=Ω
  have hwl:(g.ob (z+1)).w.length<=255:=by
   have:=h.ok.len _ (Gph.ob_mem hx1 hxl);omega
  have HF:Hid (∀W,Gr w W->X19 w S r C (g.put (z+1) n y) (.int .i64 0) (.returned (.int .i64 0)) (W.setCell ⟨B z,n,none⟩ (.int .u64 (y:Nat)))):=⟨λW gW=>⟨rfl,HT.o W gW,_,sb,B,HP.o W gW,HS.o.1,HS.o.2.1,HS.o.2.2.1,λj hj=>HS.o.2.2.2 j (by rw[show (g.put (z+1) n y).L.length=g.L.length from ζf]at hj;exact hj)⟩⟩;rw[HGE.o];generalize g.fdV m n kd=v0 at HG;clear he hx hx1 hxl hm hs h hn hz hkk hyp hy s1 s2 s3 s4 HS HP HT HGE hb;generalize g.put (z+1) n y=g2 at HF⊢;generalize (g.ob (z+1)).w.getD n 0=v at HC;generalize (g.ob (z+1)).w.length=wl at HC hnI hwl;generalize g.L.length=nl at HC hzl hln;generalize g.S.length=ns at HC hx2 hsn;generalize ((z+1:Nat):Int)=sI at HC hzI;go_enter func20,ntmps20;go_upto_region 3 with(go_at_call 19;refine(HG.o).mono ?_;rintro e w1 ⟨rfl,hg⟩;have HG1:=hid hg;clear hg);obtain⟨-,-,-,-,j1,j2⟩:=HC.o _ HG1.o;obtain⟨Sx,hSx⟩:∃Sx:World->Prop,Sx=λW'=>Gr w W':=⟨_,rfl⟩;have y1:∀p:ZJV Sx,p.w.cell? ⟨r,1,none⟩=some (.slice (some ⟨lb,0,none⟩) nl c):=λp=>by have h:=ZJV.get hSx p;exact(HC.o _ h).1
  have y2:∀p:ZJV Sx,p.w.cell? ⟨r,2,none⟩=some (.slice (some ⟨sb,0,none⟩) ns ns):=λp=>by have h:=ZJV.get hSx p;exact(HC.o _ h).2.1
  have y3:∀p:ZJV Sx,p.w.cell? ⟨sb,m,none⟩=some (.int .i64 sI):=λp=>by have h:=ZJV.get hSx p;exact(HC.o _ h).2.2.1
  have y4:∀p:ZJV Sx,p.w.cell? ⟨lb,z*4+3,none⟩=some (.slice (some ⟨B z,0,none⟩) wl wl):=λp=>by have h:=ZJV.get hSx p;exact(HC.o _ h).2.2.2.1
  have y5:∀p:ZJV Sx,p.w.cell? ⟨B z,n,none⟩=some (.int .u64 (v:Nat)):=λp=>by have h:=ZJV.get hSx p;exact(HC.o _ h).2.2.2.2.1
  have y6:∀p:ZJV Sx,p.w.frozen? ⟨B z,n,none⟩=false:=λp=>by have h:=ZJV.get hSx p;exact(HC.o _ h).2.2.2.2.2
  have HS:Hid (∀W',Gr w W'->Sx W'):=⟨λW' h=>by rw[hSx];exact h⟩;have hS0:=HS.o _ (HG1.o.drew);have inst:Inhabited (ZJV Sx):=⟨⟨_,hS0⟩⟩;clear hSx;refine Vv2 Sx 18 [([0,1,2,3,4,5,6,7,8,9,10,11,12,13,14,15,16,17],18)] [] (by kernel_rfl) (by kernel_rfl) hS0 ?_;refine XGW ?_
  try simp only[XZy,ξ,ζ]
  repeat(go_big_quiet_step (fail))
  refine φ ?_;go_wp2;refine⟨.inl trivial,?_⟩;refine Z9U ?_;refine φ ?_;refine δ ?_;clear y1 y2 y3 y4 y5 y6 hS0 inst;clear HS Sx;go_wp2;go_ret;exact HF.o _ HG1.o.drew
 ·have hG:g.wrG a i kd y=g:=by unfold Gph.wrG;rw[ν he]
  rw[hG];generalize g.fdE a i kd=E at HG he⊢;generalize g.fdV a i kd=v0 at HG;have e1:(E==0)=false:=by rw[σ];exact he
  have HF:Hid (∀W,Gr w W->X19 w S r C g (.int .i64 E) (.returned (.int .i64 E)) W):=⟨λW gW=>⟨rfl,gW.touch S,_,sb,B,h.gr gW,s1,s2,s3,s4⟩⟩;clear he hG h s1 s2 s3 s4 HS;go_enter func20,ntmps20;go_wp2_with(go_at_call 19;refine(HG.o).mono ?_;rintro e w1 ⟨rfl,hg⟩;have HG1:=hid hg;clear hg);go_ret;exact HF.o _ HG1.o
end
end
end
section
section
open Go.RowKit Word
theorem X23(l xs:List Nat)(x:Nat):Jt4 l (xs++[x])=if x≠0/\¬x∈Jt4 l xs then Jt4 l xs++[x]else Jt4 l xs:=by
 rw[JH2,ZSK,Xja]
structure Zjt(g:Gph)(T:List Nat)(i:Nat):Prop where
 ok:OkL T
 inn:InL g.L.length T
 run:∃f,YtH g.pts f T i=g.all/\g.L.length+1<=f+i
theorem Zjt.start{g:Gph}(h:g.Ok):Zjt g (Jt4 [] g.S) 0:=⟨Y3O _ YVO,Qg6 (λx hx=>absurd hx (by simp)) h.st,⟨g.L.length+1,rfl,by omega⟩⟩
theorem Zjt.step{g:Gph}(h:g.Ok){T:List Nat}{i:Nat}(hM:Zjt g T i)(hi:i<T.length):Zjt g (Jt4 T (g.pts (T.getD i 0))) (i+1):=by
 obtain⟨h1,h2,f,h3,h4⟩:=hM;have hl:=h2.len h1;have hx:=h2 _ (QmW hi);refine⟨Y3O _ h1,Qg6 h2 (λy hy=>h.pts_le hy),?_⟩;obtain⟨f',rfl⟩:∃f',f=f' + 1:=⟨f-1,by omega⟩;refine⟨f',?_,by omega⟩;rw[<-h3]
 show _=(if i<T.length then YtH g.pts f' (Jt4 T (g.pts (T.getD i 0))) (i+1)else T)
 rw[χ hi]
theorem Zjt.done{g:Gph}{T:List Nat}{i:Nat}(hM:Zjt g T i)(hi:T.length<=i):T=g.all:=by
 obtain⟨-,-,f,h3,-⟩:=hM;rw[<-h3];cases f with
 | zero=>rfl
 | succ f=>
  show T=(if i<T.length then _ else T)
  rw[ν Ω]
def szs(g:Gph)(T:List Nat):Nat:=(T.map λx=>(g.ob x).size).sum
theorem JRX(g:Gph)(T:List Nat)(x:Nat):szs g (T++[x])=szs g T+(g.ob x).size:=by simp[szs]
theorem XW7.keep{w w':World}{r C:Nat}{g:Gph}{lv:Value}{sb:Nat}{B:Nat->Nat}(h:XW7 w r C g lv sb B)(t:XF4 (λi=>w.heap.size<=i) w w'):XW7 w' r C g lv sb B:=
 h.touch t (by have:=h.row.lt;omega) (by have:=h.sl.lt;omega) (λk hk=>by have:=(Vvr h.own hk).2;omega) (λi hi=>by have:=(h.wr i hi).lt;omega)
structure YKb(w0 w:World)(vL:Value)(N:Nat)(T:List Nat):Prop where
 own:w.ownsRow w0.heap.size 3 1 vL N (ZKn T)
 len:N=T.length
theorem YKb.gr{w0 w w':World}{vL:Value}{N:Nat}{T:List Nat}(h:YKb w0 w vL N T)(t:Gr w w'):YKb w0 w' vL N T:=⟨Y9I h.own t,h.len⟩
theorem YKb.at{w0 w:World}{A:Option Addr}{N c:Nat}{T:List Nat}(h:YKb w0 w (.slice A N c) N T):JZ4 w A T:=V0H h.own h.len
def JHZ(w:World)(g:Gph)(e:Ending)(w':World):Prop:=∃A c,e=.returned (.tuple #[.slice A g.all.length c,.int .i64 (g.words:Nat)])/\Gr w w'/\w'.ownsRow w.heap.size 3 1 (.slice A g.all.length c) g.all.length (ZKn g.all)
section
variable {w w':World} {r C:Nat} {g:Gph} {lv:Value} {sb:Nat} {B:Nat->Nat} {S:Nat->Prop}
theorem Yzm(h:XW7 w r C g lv sb B):Calls prog 10 #[.pointer (some ⟨r,0,none⟩)] w (JHZ w g):=by
 have H:=hid h;obtain⟨ii,hii,hi0,hi1,hi2⟩:=info_parts YWy;have hsn:=h.sn;have hln:=h.len;obtain⟨R,hR⟩:∃R,R=g.S.length:=⟨_,rfl⟩;have HRL:=hid hR;rw[<-hR]at hsn
 have HC:Hid (∀W,XF4 (λi=>w.heap.size<=i) w W->W.cell? ⟨r,1,none⟩=some lv/\W.cell? ⟨r,2,none⟩=some (.slice (some ⟨sb,0,none⟩) R R)/\r<W.heap.size/\sb<W.heap.size):=⟨λW t=>by
  have h2:=h.keep t
  exact⟨h2.row.cell (j:=1) rfl,by rw[hR];exact h2.row.cell (j:=2) rfl,h2.row.lt,h2.sl.lt⟩⟩
 have HSL:Hid (∀W,XF4 (λi=>w.heap.size<=i) w W->∀j,j<R->W.cell? ⟨sb,j,none⟩=some (.int .i64 (g.S.getD j 0:Nat))):=⟨λW t j hj=>(h.keep t).slot (by rw[<-hR];exact hj)⟩;have HSO:Hid (∀j,j<R->g.S.getD j 0<=1000):=⟨λj hj=>by have:=h.sto (a:=j) (by rw[<-hR];exact hj);omega⟩;clear h hR;go_enter func10,ntmps10;go_wp2_with(fail)
 go_loopw [4,5] (λs4 s5 wr=>∃(j N:Nat) (T:List Nat) (vL:Value),j<=R/\N<=64/\N<=j/\Hid (YKb w wr vL N T)/\Hid (T=Jt4 [] (g.S.take j))/\Hid (XF4 (λi=>w.heap.size<=i) w wr)/\s4=vL/\s5=.int .i64 j) (λ_ s5 _=>R-(intOf s5).toNat)
 case atStart=>exact⟨0,0,[],_,ζb _,ζb _,ζe _,⟨⟨Vm9 _ _ _ _,rfl⟩⟩,⟨rfl⟩,⟨XF4.refl _ _⟩,rfl,rfl⟩
 case round=>
  obtain⟨j,N,T,vL,hj,hNb,hNj,HO,HP,HT,rfl,rfl⟩:=hrel;obtain⟨TA,tc,rfl,hc1,hc2⟩:=ZfN HO.o.own;unfold maxLen at hc2;obtain⟨-,c2,lr,ls⟩:=HC.o _ HT.o;by_cases hlast:j<R
  ·have e0:=HSL.o _ HT.o j hlast;have hjl:j<g.S.length:=by rw[<-HRL.o];exact hlast
   have HTK:Hid (Jt4 [] (g.S.take (j+1))=if g.S.getD j 0≠0/\¬g.S.getD j 0∈T then T++[g.S.getD j 0]else T):=⟨by
    rw[ζg hjl,X23,<-HP.o,θ,μ hjl]
    rfl⟩
   have hyb:=HSO.o j hlast;obtain⟨y,hy⟩:∃y,y=g.S.getD j 0:=⟨_,rfl⟩;rw[<-hy]at e0 HTK hyb;have HJ:=hid hlast;have hjI:(j:Int)<(R:Int):=Ω
   have HNJ:=hid hNj;have HNT:=hid HO.o.len;clear hy hlast hj hNj hjl;by_cases hy0:y=0
   ·subst hy0;have HT2:Hid (Jt4 [] (g.S.take (j+1))=T):=⟨by rw[HTK.o,ν (λh=>h.1 rfl)]⟩;clear HTK;go_wp2;go_round
    case rel=>exact⟨j+1,N,T,_,HJ.o,hNb,by have:=HNJ.o;omega,HO,⟨HT2.o.symm⟩,HT,rfl,by go_num⟩
    case measure=>have:=HJ.o;simp[intOf];omega
   ·have d0:((y:Int) !=0)=true:=by rw[bne_iff_ne];omega
    have HY:=hid hy0;have HI:=hid (λW (gg:Gr wr W)=>Vr9 (c:=tc) (HO.o.gr gg).at (by rw[<-HNT.o];omega) y);rw[<-HNT.o]at HI;clear hy0;by_cases hm:y∈T
    ·rw[υ hm]at HI;have HT2:Hid (Jt4 [] (g.S.take (j+1))=T):=⟨by rw[HTK.o,ν (λh=>h.2 hm)]⟩;clear hm HTK;go_wp2_with(go_at_call 26;refine(HI.o _ (Gr.refl _)).mono ?_;rintro e w1 ⟨rfl,rfl⟩);go_round
     case rel=>exact⟨j+1,N,T,_,HJ.o,hNb,by have:=HNJ.o;omega,HO,⟨HT2.o.symm⟩,HT,rfl,by go_num⟩
     case measure=>have:=HJ.o;simp[intOf];omega
    ·rw[π hm]at HI;have HT2:Hid (Jt4 [] (g.S.take (j+1))=T++[y]):=⟨by rw[HTK.o,χ ⟨HY.o,hm⟩]⟩;have HRB:=hid hsn;clear hm HTK
     go_wp2_with(first
      | (go_at_call 26;refine(HI.o _ (Gr.refl _)).mono ?_;rintro e w1 ⟨rfl,rfl⟩)
      | (at_builtin;refine wpList_append_lies _ rfl _ _ 41 rfl w.heap.size 3 ii _ 1 8 underlying41 hii hi0 hi1 hi2 rfl (by decide) (.slice TA N tc) N (ZKn T) rfl (HO.o.own.alloc _) ⟨wr.heap.size,0,none⟩ 1 1 [.int .i64 y] rfl rfl (β (cs:=#[.int .i64 y]) (t:=3) (fr:=(0,0)) (heap_alloc_new wr (.cells #[.int .i64 y] 3))) (by simp[Value.oneCell']) Ω (by unfold maxLen;omega) Ω (by have:=HT.o.size;rw[τ];omega) (wr.heap.size+1) (by simp) ?_;intro g3 c3 w3 hown3 hgrow3 hat3 hlt3;have t3:XF4 (λk=>(Value.slice TA N tc).ownBlock=some k) wr w3:=(((Gr.refl _).alloc _).touch _).trans (VxQ hgrow3 _ (λk e _=>e));have HT3:=hid t3;have HO3:=hid hown3;clear hown3 hgrow3 hat3 hlt3 t3))
     go_round
     case rel=>
      refine⟨j+1,N+1,T++[y],.slice (some ⟨g3,0,none⟩) (N+1) c3,HJ.o,by have:=HNJ.o;have:=HJ.o;have:=HRB.o;omega,by have:=HNJ.o;omega,⟨⟨?_,by rw[ζi,<-HNT.o];rfl⟩⟩,⟨HT2.o.symm⟩,⟨HT.o.trans (HT3.o.mono (λi _ h=>(Vvr HO.o.own h).1))⟩,rfl,by go_num⟩;unfold ZKn;rw[ζw];exact HO3.o
     case measure=>have:=HJ.o;simp[intOf];omega
  ·have hjR:j=R:=Ω
   have hjI:¬(j:Int)<(R:Int):=Ω
   have HM:Hid (Zjt g T 0):=⟨by
    have:=Zjt.start H.o.ok;rw[HP.o,hjR,HRL.o,ζS]
    exact this⟩
   clear hlast hj HP hc1 hc2 hjR hNj;go_wp2_with(fail)
   go_loopw [4,6,7] (λs4 s6 s7 wr=>∃(i N n:Nat) (T:List Nat) (vL:Value),i<=N/\N<=1000/\n<=256*i/\Hid (YKb w wr vL N T)/\Hid (Zjt g T i)/\Hid (n=szs g (T.take i))/\Hid (XF4 (λi=>w.heap.size<=i) w wr)/\s4=vL/\s6=.int .i64 n/\s7=.int .i64 i) (λ_ _ s7 _=>1001-(intOf s7).toNat)
   case atStart=>exact⟨0,N,0,T,_,ζb _,by omega,by omega,HO,HM,⟨rfl⟩,HT,rfl,rfl,rfl⟩
   case round=>
    clear HO HT HM c2 lr ls;obtain⟨i,N,n,T,vL,hiN,hN1,hn,HO,HM,HN,HT,rfl,rfl,rfl⟩:=hrel;obtain⟨TA,tc,rfl,hc1,hc2⟩:=ZfN HO.o.own;unfold maxLen at hc2;have HNT:=hid HO.o.len;by_cases hlast:i<N
    ·have hiT:i<T.length:=by rw[<-HNT.o];exact hlast
     obtain⟨b,tc',ea,-,-,-,hbl⟩:=YTP HO.o.own Ω;simp only[Value.slice.injEq]at ea;obtain⟨rfl,-,rfl⟩:=ea;have k0:=XAn HO.o.own (Ypr hiT);have hx:=HM.o.inn _ (QmW hiT);have HST:=hid (HM.o.step H.o.ok hiT)
     have HTK:Hid (T.take (i+1)=T.take i++[T.getD i 0]):=⟨by
      rw[ζg hiT,θ,μ hiT]
      rfl⟩
     obtain⟨x,hxe⟩:∃x,x=T.getD i 0:=⟨_,rfl⟩;rw[<-hxe]at k0 hx HST HTK;clear hxe;obtain⟨hx1,hx2⟩:=hx;have h2:=H.o.keep HT.o;obtain⟨lb,c,y,rfl,rfl,hy,hlb,q0,q1,q2,q3,q4,hwl,hws⟩:=h2.obj hx1 hx2
     have HUB:Hid (∀k,k<=(g.ob (y+1)).p->(Jt4 T ((g.ob (y+1)).w.take k)).length<=1000/\OkL (Jt4 T ((g.ob (y+1)).w.take k))/\InL g.L.length (Jt4 T ((g.ob (y+1)).w.take k))):=⟨λk hk=>by
      have m1:=Y3O ((g.ob (y+1)).w.take k) HM.o.ok;have m2:InL g.L.length (Jt4 T ((g.ob (y+1)).w.take k)):=Qg6 HM.o.inn (λz hz=>H.o.ok.pts_le (x:=y+1) (List.take_subset_take_left _ hk hz))
      exact⟨γ (m2.len m1) (by have:=H.o.len;omega),m1,m2⟩⟩
     have HRW:Hid (∀W,XF4 (λi=>w.heap.size<=i) w W->∀k,k<(g.ob (y+1)).w.length->W.cell? ⟨B y,k,none⟩=some (.int .u64 ((g.ob (y+1)).w.getD k 0:Nat))/\B y<W.heap.size):=⟨λW t k hk=>by
      obtain⟨lb',c',y',e1,e2,-,-,-,-,-,-,q5,-⟩:=(H.o.keep t).obj hx1 hx2;obtain rfl:y=y':=Ω
      exact⟨q5.cell (YGR hk),q5.lt⟩⟩
     have HZB:Hid (∀k,k<(g.ob (y+1)).p->(g.ob (y+1)).w.getD k 0<=1000):=⟨λk hk=>by
      have hm:(g.ob (y+1)).w.getD k 0∈g.pts (y+1):=by
       unfold Gph.pts;rw[θ,μ Ω,ξb];exact ξn.2 ⟨k,by omega,rfl⟩
      have:=H.o.ok.pts_le hm;have:=H.o.len
      omega⟩
     have HPT:Hid (g.pts (y+1)=(g.ob (y+1)).w.take (g.ob (y+1)).p):=⟨rfl⟩;have HSZ:=hid (λW=>QTR hws W);have hhn:Z3o ⟨(g.ob (y+1)).p,(g.ob (y+1)).f,(g.ob (y+1)).k⟩=1+((g.ob (y+1)).p:Int)+(g.ob (y+1)).f+(g.ob (y+1)).k:=χ (JJj hws);rw[hhn]at HSZ;have HOS:Hid ((g.ob (y+1)).size=1+(g.ob (y+1)).p+(g.ob (y+1)).f+(g.ob (y+1)).k):=⟨rfl⟩;have hyI:((y+1:Nat):Int)-1=(y:Int):=Ω
     have hyl:(y:Int)<(g.L.length:Int):=Ω
     have HOZ:Hid (∃o:Nat,(g.ob (y+1)).size=o/\o=1+(g.ob (y+1)).p+(g.ob (y+1)).f+(g.ob (y+1)).k):=⟨_,rfl,rfl⟩;generalize (g.ob (y+1)).w=ww at q3 HUB HRW HZB HPT hwl;generalize (g.ob (y+1)).p=pp at q0 HUB HZB HPT hwl hws HSZ HOZ;generalize (g.ob (y+1)).f=ff at q1 hwl hws HSZ HOZ;generalize (g.ob (y+1)).k=kk at q2 hwl hws HSZ HOZ;have hiI:(i:Int)<(N:Int):=Ω
     have HX1:=hid (ζp hx1 hx2);have HLA:=hid hlast;have hwl2:ww.length<=255:=Ω
     have HWL:=hid hwl;have hgb:=HT.o.size;have HZW:Hid (w.heap.size<=wr.heap.size):=⟨hgb⟩;clear hx1 hx2 hlast hiT hwl hc1 hc2 hy HOS hhn;generalize hlw:ww.length=wl at q3 hwl2 HWL;have HLW:=hid hlw;clear hlw;have HCC:Hid (∀W,Gr wr W->W.cell? ⟨r,1,none⟩=some (.slice (some ⟨lb,0,none⟩) g.L.length c)/\W.cell? ⟨b,i,none⟩=some (.int .i64 ((y+1:Nat):Int))/\W.cell? ⟨lb,y*4,none⟩=some (.int .i64 pp)/\W.cell? ⟨lb,y*4+1,none⟩=some (.int .i64 ff)/\W.cell? ⟨lb,y*4+2,none⟩=some (.int .i64 kk)/\W.cell? ⟨lb,y*4+3,none⟩=some (.slice (some ⟨B y,0,none⟩) wl wl)):=⟨λW gW=>⟨(gW.cell h2.row.lt 1).trans (h2.row.cell (j:=1) rfl),(gW.cell hbl i).trans k0,(gW.cell hlb _).trans q0,(gW.cell hlb _).trans q1,(gW.cell hlb _).trans q2,(gW.cell hlb _).trans q3⟩⟩;generalize hsI:((y+1:Nat):Int)=sI at HCC hyI k0;clear hsI k0 q0 q1 q2 q3 h2 hbl hlb q4;generalize hnl:g.L.length=nl at HCC hyl hln;clear hnl;have hzr:=Rec.new wr.drew 74 [.int .i64 0,.int .i64 0,.int .i64 0,.slice none 0 0];have hzg:Gr wr (wr.drew.alloc (.cells #[.int .i64 0,.int .i64 0,.int .i64 0,.slice none 0 0] 74)):=(Gr.refl wr).drew.alloc _;have z0:=hzr.cell (j:=0) rfl;have z1:=hzr.cell (j:=1) rfl;have z2:=hzr.cell (j:=2) rfl;have z3:=hzr.cell (j:=3) rfl;have zf:=hzr.free;have HZR:=hid hzr;have HZG:=hid hzg;clear hzr hzg;go_upto_region 11 with(fail);obtain⟨Sx,hSx⟩:∃Sx:World->Prop,Sx=λW'=>Gr wr W':=⟨_,rfl⟩;have y1:∀p:ZJV Sx,p.w.cell? ⟨r,1,none⟩=some (.slice (some ⟨lb,0,none⟩) nl c):=λp=>by have h:=ZJV.get hSx p;exact(HCC.o _ h).1
     have y2:∀p:ZJV Sx,p.w.cell? ⟨b,i,none⟩=some (.int .i64 sI):=λp=>by have h:=ZJV.get hSx p;exact(HCC.o _ h).2.1
     have y3:∀p:ZJV Sx,p.w.cell? ⟨lb,y*4,none⟩=some (.int .i64 pp):=λp=>by have h:=ZJV.get hSx p;exact(HCC.o _ h).2.2.1
     have y4:∀p:ZJV Sx,p.w.cell? ⟨lb,y*4+1,none⟩=some (.int .i64 ff):=λp=>by have h:=ZJV.get hSx p;exact(HCC.o _ h).2.2.2.1
     have y5:∀p:ZJV Sx,p.w.cell? ⟨lb,y*4+2,none⟩=some (.int .i64 kk):=λp=>by have h:=ZJV.get hSx p;exact(HCC.o _ h).2.2.2.2.1
     have y6:∀p:ZJV Sx,p.w.cell? ⟨lb,y*4+3,none⟩=some (.slice (some ⟨B y,0,none⟩) wl wl):=λp=>by have h:=ZJV.get hSx p;exact(HCC.o _ h).2.2.2.2.2
     have HS:Hid (∀W',Gr wr W'->Sx W'):=⟨λW' h=>by rw[hSx];exact h⟩;have hS0:=HS.o _ ((Gr.refl wr).drew);have inst:Inhabited (ZJV Sx):=⟨⟨_,hS0⟩⟩;clear hSx;refine Vv2 Sx 12 [([0,1,2,3,4,5,6,7,8,9,10],11),([],12)] [] (by kernel_rfl) (by kernel_rfl) hS0 ?_;refine XGW ?_
     try simp only[XZy,ξ,ζ]
     repeat(go_big_quiet_step (fail))
     refine φ ?_;go_wp2_with((fail));refine⟨.inr (ZJV.of (HS.o _ ((Gr.refl wr).drew.alloc _))),?_⟩;refine XGW ?_
     try simp only[XZy,ξ,ζ]
     repeat(go_big_quiet_step (fail))
     refine φ ?_;go_wp2;refine⟨.inl trivial,?_⟩;refine Z9U ?_;refine φ ?_;refine δ ?_;clear y1 y2 y3 y4 y5 y6 hS0 inst;clear HS Sx;clear z0 z1 z2 z3 zf HZR HZG;have hrx:Rec (wr.alloc (.cells #[.int .i64 pp,.int .i64 ff,.int .i64 kk,.slice (some ⟨B y,0,none⟩) wl wl] 74)).drew wr.heap.size 74 [.int .i64 pp,.int .i64 ff,.int .i64 kk,.slice (some ⟨B y,0,none⟩) wl wl]:=(Rec.new wr 74 [.int .i64 pp,.int .i64 ff,.int .i64 kk,.slice (some ⟨B y,0,none⟩) wl wl]).gr (Gr.refl _).drew;have hgx:Gr wr (wr.alloc (.cells #[.int .i64 pp,.int .i64 ff,.int .i64 kk,.slice (some ⟨B y,0,none⟩) wl wl] 74)).drew:=((Gr.refl wr).alloc _).drew;obtain⟨wz,hwz⟩:∃wz,wz=(wr.alloc (.cells #[.int .i64 pp,.int .i64 ff,.int .i64 kk,.slice (some ⟨B y,0,none⟩) wl wl] 74)).drew:=⟨_,rfl⟩;rw[<-hwz]at hrx hgx⊢;obtain⟨ob,hob⟩:∃ob,ob=wr.heap.size:=⟨_,rfl⟩;rw[<-hob]at hrx⊢;have HOB:Hid (w.heap.size<=ob):=⟨by rw[hob];exact HZW.o⟩;have HTZ:Hid (XF4 (λi=>w.heap.size<=i) w wz):=⟨HT.o.trans (hgx.touch _)⟩;have HOZ3:=hid (HO.o.gr hgx);have HRX:=hid hrx;have v0:=hrx.cell (j:=0) rfl;have v1:=hrx.cell (j:=1) rfl;have v2:=hrx.cell (j:=2) rfl;have vl:=hrx.lt;have hnb:n<=256000:=Ω
     have HNB:=hid hn;have HNI:=hid hiN;have HN1:=hid hN1;clear hwz hob hrx hgx HO HT HCC hn hiN hgb;go_upto_region 14 with(go_at_call 27;refine(HSZ.o _).mono ?_;rintro e w5 ⟨rfl,hg⟩;have HTY:=hid (HTZ.o.trans (hg.touch _));have HOY:=hid (HOZ3.o.gr hg);have HRY:=hid (HRX.o.gr hg);clear hg);clear v0 v1 v2 vl
     go_loopw [4,9] (λs4 s9 wr=>∃(j M:Nat) (U:List Nat) (vU:Value),j<=pp/\M<=1000/\Hid (YKb w wr vU M U)/\Hid (U=Jt4 T (ww.take j))/\Hid (XF4 (λi=>w.heap.size<=i) w wr)/\Hid (Rec wr ob 74 [.int .i64 pp,.int .i64 ff,.int .i64 kk,.slice (some ⟨B y,0,none⟩) wl wl])/\s4=vU/\s9=.int .i64 j) (λ_ s9 _=>pp-(intOf s9).toNat)
     case atStart=>exact⟨0,N,T,_,ζb _,HN1.o,HOY,⟨rfl⟩,HTY,HRY,rfl,rfl⟩
     case round=>
      clear HOZ3 HRX HTZ HOY HRY HTY;obtain⟨j,M,U,vU,hj,hM,HO4,HU,HT4,HR4,rfl,rfl⟩:=hrel;obtain⟨UA,uc,rfl,hc1,hc2⟩:=ZfN HO4.o.own;unfold maxLen at hc2;have v0:=HR4.o.cell (j:=0) rfl;have v3:=HR4.o.cell (j:=3) rfl;have vl:=HR4.o.lt;by_cases hjp:j<pp
      ·have hjw:j<wl:=by have:=HWL.o;omega
       obtain⟨e0,hBl⟩:=HRW.o _ HT4.o j (by rw[HLW.o];exact hjw);have hzb:=HZB.o j hjp;have hjpI:(j:Int)<(pp:Int):=Ω
       have hjwI:(j:Int)<(wl:Int):=Ω
       have HMU:=hid HO4.o.len
       have HTK4:Hid (Jt4 T (ww.take (j+1))=if ww.getD j 0≠0/\¬ww.getD j 0∈U then U++[ww.getD j 0]else U):=⟨by
        rw[ζg (by rw[HLW.o];exact hjw),X23,<-HU.o,θ,μ (by rw[HLW.o];exact hjw)]
        rfl⟩
       have HLB:=hid (HUB.o (j+1) hjp).1;obtain⟨zz,hzz⟩:∃zz,zz=ww.getD j 0:=⟨_,rfl⟩;rw[<-hzz]at e0 hzb HTK4;have HJP:=hid hjp;clear hzz hjp hj hjw;by_cases hz0:zz=0
       ·subst hz0;have HU2:Hid (Jt4 T (ww.take (j+1))=U):=⟨by rw[HTK4.o,ν (λh=>h.1 rfl)]⟩;clear HTK4;go_wp2;go_round
        case rel=>exact⟨j+1,M,U,_,HJP.o,hM,HO4,⟨HU2.o.symm⟩,HT4,HR4,rfl,by go_num⟩
        case measure=>have:=HJP.o;simp[intOf];omega
       ·have d0:((zz:Int) !=0)=true:=by rw[bne_iff_ne];omega
        have HI4:=hid (λW (gg:Gr wr W)=>Vr9 (c:=uc) (HO4.o.gr gg).at (by rw[<-HMU.o];omega) zz);rw[<-HMU.o]at HI4;by_cases hm:zz∈U
        ·rw[υ hm]at HI4;have HU2:Hid (Jt4 T (ww.take (j+1))=U):=⟨by rw[HTK4.o,ν (λh=>h.2 hm)]⟩;clear hm HTK4 hz0;go_wp2_with(go_at_call 26;refine(HI4.o _ (Gr.refl _)).mono ?_;rintro e w1 ⟨rfl,rfl⟩);go_round
         case rel=>exact⟨j+1,M,U,_,HJP.o,hM,HO4,⟨HU2.o.symm⟩,HT4,HR4,rfl,by go_num⟩
         case measure=>have:=HJP.o;simp[intOf];omega
        ·rw[π hm]at HI4;have HU2:Hid (Jt4 T (ww.take (j+1))=U++[zz]):=⟨by rw[HTK4.o,χ ⟨hz0,hm⟩]⟩
         have HM1:Hid (M+1<=1000):=⟨by
          have:=HLB.o;rw[HU2.o,ζi,<-HMU.o]at this
          exact this⟩
         clear hm HTK4 hz0
         go_wp2_with(first
          | (go_at_call 26;refine(HI4.o _ (Gr.refl _)).mono ?_;rintro e w1 ⟨rfl,rfl⟩)
          | (at_builtin;refine wpList_append_lies _ rfl _ _ 41 rfl w.heap.size 3 ii _ 1 8 underlying41 hii hi0 hi1 hi2 rfl (by decide) (.slice UA M uc) M (ZKn U) rfl (HO4.o.own.alloc _) ⟨wr.heap.size,0,none⟩ 1 1 [.int .i64 zz] rfl rfl (β (cs:=#[.int .i64 zz]) (t:=3) (fr:=(0,0)) (heap_alloc_new wr (.cells #[.int .i64 zz] 3))) (by simp[Value.oneCell']) Ω (by unfold maxLen;omega) Ω (by have:=HT4.o.size;rw[τ];omega) (wr.heap.size+1) (by simp) ?_;intro g3 c3 w3 hown3 hgrow3 hat3 hlt3;have t3:XF4 (λk=>(Value.slice UA M uc).ownBlock=some k) wr w3:=(((Gr.refl _).alloc _).touch _).trans (VxQ hgrow3 _ (λk e _=>e));have HT3:=hid t3;have HO3:=hid hown3;clear hown3 hgrow3 hat3 hlt3 t3))
         go_round
         case rel=>
          refine⟨j+1,M+1,U++[zz],.slice (some ⟨g3,0,none⟩) (M+1) c3,HJP.o,HM1.o,⟨⟨?_,by rw[ζi,<-HMU.o];rfl⟩⟩,⟨HU2.o.symm⟩,⟨HT4.o.trans (HT3.o.mono (λi _ h=>(Vvr HO4.o.own h).1))⟩,⟨HR4.o.touch HT3.o (λe=>YnK HO4.o.own HR4.o (by decide) e rfl rfl)⟩,rfl,by go_num⟩;unfold ZKn;rw[ζw];exact HO3.o
         case measure=>have:=HJP.o;simp[intOf];omega
      ·have hjpI:¬(j:Int)<(pp:Int):=Ω
       have hje:j=pp:=Ω
       have HU2:Hid (U=Jt4 T (g.pts (y+1))):=⟨by rw[HU.o,HPT.o,hje]⟩;have HMU:=hid HO4.o.len
       have HFI:Hid (i+1<=M/\n+(1+pp+ff+kk)<=256*(i+1)/\Zjt g U (i+1)/\n+(1+pp+ff+kk)=szs g (U.take (i+1))):=⟨by
        have h1:=HMU.o;have h2:=HNT.o;have h3:=HLA.o;have h4:=HNB.o;obtain⟨t,ht⟩:=Qxl (g.pts (y+1)) T;obtain⟨oz,ho1,ho2⟩:=HOZ.o;have hst:=HST.o;rw[<-HU2.o]at hst;rw[<-HU2.o]at ht;refine⟨?_,by omega,hst,?_⟩
        ·rw[h1,ht,ζi];omega
        ·rw[ht,List.take_append_of_le_length Ω,HTK.o,JRX,ho1,<-HN.o,ho2]⟩
       clear hjp hj hje hc1 hc2 v3;go_wp2;go_round
       case rel=>exact⟨i+1,M,n+(1+pp+ff+kk),U,_,HFI.o.1,hM,HFI.o.2.1,HO4,⟨HFI.o.2.2.1⟩,⟨HFI.o.2.2.2⟩,HT4,rfl,by go_num,by go_num⟩
       case measure=>have:=HFI.o.1;simp[intOf];omega
    ·have hiI:¬(i:Int)<(N:Int):=Ω
     have hie:i=N:=Ω
     have HA:Hid (T=g.all):=⟨HM.o.done (by rw[<-HNT.o];omega)⟩
     have HW:Hid (n=g.words):=⟨by
      rw[HN.o,ζB (by rw[<-HNT.o];omega),HA.o]
      rfl⟩
     have HLE:Hid (N=g.all.length):=⟨by rw[HNT.o,HA.o]⟩;clear hlast hie hc1 hc2 hiN hn;go_wp2;go_ret2;refine⟨TA,tc,by rw[<-HW.o,<-HLE.o] <;> rfl,(HT.o.mono (T:=λ_=>False) (λk hk e=>by have e:w.heap.size<=k:=e;omega)).gr,?_⟩;rw[<-HLE.o,<-HA.o];exact HO.o.own
end
end
end
section
section
open Go.RowKit Word
theorem JHj(h:Hdr)(w:World):Calls prog 46 #[X79 h] w λe w'=>e=.returned (.bool (JQC h==0))/\Gr w w':=by
 obtain⟨p,f,k⟩:=h;unfold X79
 have HR:Hid ((JQC ⟨p,f,k⟩==0)=(inS p&&inS f&&inS k&&decide (p+f+k<256))):=⟨by
  unfold JQC
  cases (inS p&&inS f&&inS k&&decide (p+f+k<256)) <;> rfl⟩
 generalize (JQC ⟨p,f,k⟩==0)=R at HR⊢;obtain⟨z1,d1⟩:∃z,decide (p<0)=z:=⟨_,rfl⟩;obtain⟨z2,d2⟩:∃z,decide (f<0)=z:=⟨_,rfl⟩;obtain⟨z3,d3⟩:∃z,decide (k<0)=z:=⟨_,rfl⟩;obtain⟨z4,d4⟩:∃z,decide (255<p)=z:=⟨_,rfl⟩;obtain⟨z5,d5⟩:∃z,decide (255<f)=z:=⟨_,rfl⟩;obtain⟨z6,d6⟩:∃z,decide (255<k)=z:=⟨_,rfl⟩
 have hin:∀x:Int,inS x=(!decide (x<0)&&!decide (255<x)):=λx=>by
  unfold inS;rw[ξs];simp;omega
 rw[hin,hin,hin,d1,d2,d3,d4,d5,d6]at HR;have HG:=hid ((Gr.refl w).alloc (.cells #[.int .i64 p,.int .i64 f,.int .i64 k] 31));clear hin;cases z1 with
 | true=>
  have HF:Hid (R=false):=⟨by rw[HR.o];rfl⟩;clear HR d2 d3 d4 d5 d6;go_enter func46,ntmps46;go_wp2;go_ret;exact⟨by rw[HF.o] <;> rfl,HG.o⟩
 | false=>
  cases z2 with
  | true=>
   have HF:Hid (R=false):=⟨by rw[HR.o];cases z4 <;> rfl⟩;clear HR d3 d4 d5 d6;go_enter func46,ntmps46;go_wp2;go_ret;exact⟨by rw[HF.o] <;> rfl,HG.o⟩
  | false=>
   cases z3 with
   | true=>
    have HF:Hid (R=false):=⟨by rw[HR.o];cases z4 <;> cases z5 <;> rfl⟩;clear HR d4 d5 d6;go_enter func46,ntmps46;go_wp2;go_ret;exact⟨by rw[HF.o] <;> rfl,HG.o⟩
   | false=>
    cases z4 with
    | true=>
     have HF:Hid (R=false):=⟨by rw[HR.o];rfl⟩;clear HR d5 d6;go_enter func46,ntmps46;go_wp2;go_ret;exact⟨by rw[HF.o] <;> rfl,HG.o⟩
    | false=>
     cases z5 with
     | true=>
      have HF:Hid (R=false):=⟨by rw[HR.o];rfl⟩;clear HR d6;go_enter func46,ntmps46;go_wp2;go_ret;exact⟨by rw[HF.o] <;> rfl,HG.o⟩
     | false=>
      cases z6 with
      | true=>
       have HF:Hid (R=false):=⟨by rw[HR.o];rfl⟩;clear HR;go_enter func46,ntmps46;go_wp2;go_ret;exact⟨by rw[HF.o] <;> rfl,HG.o⟩
      | false=>
       have HF:Hid (R=decide (p+f+k<=255)):=⟨by rw[HR.o];show decide (p+f+k<256)=_;rw[ζP];omega⟩;have h1:=of_decide_eq_false d1;have h2:=of_decide_eq_false d2;have h3:=of_decide_eq_false d3;have h4:=of_decide_eq_false d4;have h5:=of_decide_eq_false d5;have h6:=of_decide_eq_false d6;clear HR;go_enter func46,ntmps46;go_wp2;go_ret;exact⟨by rw[HF.o] <;> rfl,HG.o⟩
theorem YJT(h:Hdr)(w:World):Calls prog 27 #[X79 h] w λe w'=>e=.returned (.int .i64 (Z3o h))/\Gr w w':=by
 have HM:=hid (λW=>JHj h W);have HG:=hid ((Gr.refl w).alloc (.cells #[.int .i64 h.p,.int .i64 h.f,.int .i64 h.k] 31));have hr:=Rec.new w 31 [.int .i64 h.p,.int .i64 h.f,.int .i64 h.k];by_cases he:JQC h=0
 ·obtain⟨a,b,c,rfl,hs⟩:=XZe he;have hN:Z3o ⟨a,b,c⟩=1+(a:Int)+b+c:=χ he;rw[hN];rw[show (JQC ⟨a,b,c⟩==0)=true by rw[he];rfl]at HM;have HC:=hid (λ(W:World) (g:Gr (w.alloc (.cells #[.int .i64 (a:Int),.int .i64 (b:Int),.int .i64 (c:Int)] 31)) W)=>hr.gr g);unfold X79 at HM⊢;clear he hN hr;go_enter func27,ntmps27;go_upto_region 3 with(go_at_call 46;refine(HM.o _).mono ?_;rintro e w1 ⟨rfl,hg⟩;have HG1:=hid hg;clear hg);have hc:=HC.o _ HG1.o;have c0:=hc.cell (j:=0) rfl;have c1:=hc.cell (j:=1) rfl;have c2:=hc.cell (j:=2) rfl;have cl:=hc.lt;clear hc;go_wp2;go_ret;exact⟨ZzN Ω,HG.o.trans HG1.o⟩
 ·have hN:Z3o h=0:=ν he;rw[hN];rw[show (JQC h==0)=false by rw[σ];exact he]at HM;unfold X79 at HM⊢;clear he hN hr;go_enter func27,ntmps27;go_wp2_with(go_at_call 46;refine(HM.o _).mono ?_;rintro e w1 ⟨rfl,hg⟩;have HG1:=hid hg;clear hg);go_ret;exact⟨rfl,HG.o.trans HG1.o⟩
theorem YSm{w w1:World}{b:Nat}(g:Gr w w1)(hb:w.heap.size<=b){x y z:Value}:Gr w (((w1.setCell ⟨b,0,none⟩ x).setCell ⟨b,1,none⟩ y).setCell ⟨b,2,none⟩ z):=by
 have h1:XF4 (λk=>k=b) w w1:=g.touch _;have h2:=((h1.setCell (a:=⟨b,0,none⟩) (λ_=>rfl) x).setCell (a:=⟨b,1,none⟩) (λ_=>rfl) y).setCell (a:=⟨b,2,none⟩) (λ_=>rfl) z;exact(h2.mono (λk hk h=>by have h:k=b:=h;omega)).gr
section
variable {w w':World} {r C:Nat} {g:Gph} {lv:Value} {sb:Nat} {B:Nat->Nat} {S:Nat->Prop}
theorem YXt(h:XW7 w r C g lv sb B)(a:Int):Calls prog 22 #[.pointer (some ⟨r,0,none⟩),.int .i64 a] w λe w'=>e=.returned (.tuple #[X79 (g.shH a),.int .i64 (g.shE a)])/\Gr w w':=by
 have HS:=hid (λ(W:World) (gW:Gr w W)=>J8q (h.gr gW) a a);rw[ξK]at HS;have HZ:Hid (Rec (w.alloc (.cells #[.int .i64 0,.int .i64 0,.int .i64 0] 31)) w.heap.size 31 [.int .i64 0,.int .i64 0,.int .i64 0]/\Gr w (w.alloc (.cells #[.int .i64 0,.int .i64 0,.int .i64 0] 31))):=⟨Rec.new w _ _,(Gr.refl w).alloc _⟩;by_cases hs:g.sl a=true
 ·rw[hs]at HS;obtain⟨m,rfl,hm⟩:=J9p hs;have hE:g.shE m=if g.S.getD m 0=0 then 18 else 0:=by unfold Gph.shE;rw[hs,χ rfl];rfl
  have hle:=h.sto hm;have hsn:=h.sn;have hln:=h.len;have hmI:(m:Int)<(g.S.length:Int):=Ω
  have HC:Hid (∀W,Gr w W->W.cell? ⟨r,2,none⟩=some (.slice (some ⟨sb,0,none⟩) g.S.length g.S.length)/\W.cell? ⟨sb,m,none⟩=some (.int .i64 (g.S.getD m 0:Nat))/\r<W.heap.size/\sb<W.heap.size):=⟨λW gW=>⟨(h.gr gW).row.cell (j:=2) rfl,(h.gr gW).slot hm,(h.gr gW).row.lt,(h.gr gW).sl.lt⟩⟩;by_cases h0:g.S.getD m 0=0
  ·have hH:g.shH m=⟨0,0,0⟩:=by unfold Gph.shH;rw[hE,χ h0];rfl
   rw[hH,hE,χ h0];rw[h0]at HC;unfold X79;clear hH hE hle h0 hs hm h;generalize g.S.length=ns at HC hmI hsn;go_enter func22,ntmps22;go_upto_region 3 with(go_at_call 21;refine(HS.o _ HZ.o.2).mono ?_;rintro e w1 ⟨rfl,hw⟩;have HR1:=hid (hw▸HZ.o.1);have HG1:=hid (hw▸HZ.o.2);have k0:=HR1.o.cell (j:=0) rfl;have k1:=HR1.o.cell (j:=1) rfl;have k2:=HR1.o.cell (j:=2) rfl;have kf:=HR1.o.free;have kl:=HR1.o.lt;clear hw);obtain⟨q2,q3,ql,qs⟩:=HC.o _ HG1.o;go_wp2;have R3:=Rec.set (Rec.set (Rec.set HR1.o 0 (.int .i64 0)) 1 (.int .i64 0)) 2 (.int .i64 0);have hl:=JIC _ w.heap.size _ _ _ (R3.cell (j:=0) rfl) (R3.cell (j:=1) rfl) (R3.cell (j:=2) rfl);refine ζt (v:=.tuple #[.agg #[.int .i64 0,.int .i64 0,.int .i64 0],.int .i64 18]) ?_ rfl ⟨rfl,YSm HG1.o (ζe _)⟩;rw[results_cell_tmp rfl];simp[asAddr,Result.andThen,hl]
  ·have h1:1<=g.S.getD m 0:=Ω
   have hH:g.shH m=(g.ob (g.S.getD m 0)).hdr:=by unfold Gph.shH;rw[hE,ν h0];rfl
   rw[hH,hE,ν h0];obtain⟨x,hx⟩:∃x,x=g.S.getD m 0:=⟨_,rfl⟩;rw[<-hx]at HC hle h1⊢;obtain⟨lb,c,y,rfl,rfl,hy,-⟩:=h.obj h1 hle
   have HD:Hid (∀W,Gr w W->W.cell? ⟨r,1,none⟩=some (.slice (some ⟨lb,0,none⟩) g.L.length c)/\W.cell? ⟨lb,y*4,none⟩=some (.int .i64 (g.ob (y+1)).p)/\W.cell? ⟨lb,y*4+1,none⟩=some (.int .i64 (g.ob (y+1)).f)/\W.cell? ⟨lb,y*4+2,none⟩=some (.int .i64 (g.ob (y+1)).k)):=⟨λW gW=>by
    obtain⟨lb',c',y',e1,e2,-,-,k0,k1,k2,-⟩:=(h.gr gW).obj h1 hle;cases e1;obtain rfl:y=y':=Ω
    exact⟨(h.gr gW).row.cell (j:=1) rfl,k0,k1,k2⟩⟩
   have e0:(((y+1:Nat):Int)==0)=false:=by rw[σ];omega
   have hyI:((y+1:Nat):Int)-1=(y:Int):=Ω
   have hyl:(y:Int)<(g.L.length:Int):=Ω
   unfold GOb.hdr X79;dsimp only;generalize (g.ob (y+1)).p=pp at HD⊢;generalize (g.ob (y+1)).f=ff at HD⊢;generalize (g.ob (y+1)).k=kk at HD⊢;generalize ((y+1:Nat):Int)=sI at HC e0 hyI;clear hH hE hle h0 hs hm h hx h1 hy;generalize g.S.length=ns at HC hmI hsn;generalize g.L.length=nl at HD hyl hln;go_enter func22,ntmps22;go_upto_region 3 with(go_at_call 21;refine(HS.o _ HZ.o.2).mono ?_;rintro e w1 ⟨rfl,hw⟩;have HR1:=hid (hw▸HZ.o.1);have HG1:=hid (hw▸HZ.o.2);have k0:=HR1.o.cell (j:=0) rfl;have k1:=HR1.o.cell (j:=1) rfl;have k2:=HR1.o.cell (j:=2) rfl;have kf:=HR1.o.free;have kl:=HR1.o.lt;clear hw);obtain⟨q2,q3,ql,qs⟩:=HC.o _ HG1.o;go_upto_region 5 with(fail);obtain⟨Sx,hSx⟩:∃Sx:World->Prop,Sx=λW'=>Gr w W':=⟨_,rfl⟩;have y1:∀p:ZJV Sx,p.w.cell? ⟨r,1,none⟩=some (.slice (some ⟨lb,0,none⟩) nl c):=λp=>by have h:=ZJV.get hSx p;exact(HD.o _ h).1
   have y2:∀p:ZJV Sx,p.w.cell? ⟨r,2,none⟩=some (.slice (some ⟨sb,0,none⟩) ns ns):=λp=>by have h:=ZJV.get hSx p;exact(HC.o _ h).1
   have y3:∀p:ZJV Sx,p.w.cell? ⟨sb,m,none⟩=some (.int .i64 sI):=λp=>by have h:=ZJV.get hSx p;exact(HC.o _ h).2.1
   have y4:∀p:ZJV Sx,p.w.cell? ⟨lb,y*4,none⟩=some (.int .i64 pp):=λp=>by have h:=ZJV.get hSx p;exact(HD.o _ h).2.1
   have y5:∀p:ZJV Sx,p.w.cell? ⟨lb,y*4+1,none⟩=some (.int .i64 ff):=λp=>by have h:=ZJV.get hSx p;exact(HD.o _ h).2.2.1
   have y6:∀p:ZJV Sx,p.w.cell? ⟨lb,y*4+2,none⟩=some (.int .i64 kk):=λp=>by have h:=ZJV.get hSx p;exact(HD.o _ h).2.2.2
   have HS:Hid (∀W',Gr w W'->Sx W'):=⟨λW' h=>by rw[hSx];exact h⟩;have hS0:=HS.o _ (HG1.o.drew);have inst:Inhabited (ZJV Sx):=⟨⟨_,hS0⟩⟩;clear hSx;refine Vv2 Sx 17 [([0,1,2,3,4,5,6,7,8,9,10,11,12,13,14],15)] [16] (by kernel_rfl) (by kernel_rfl) hS0 ?_;refine XGW ?_
   try simp only[XZy,ξ,ζ]
   repeat(go_big_quiet_step (fail))
   refine φ ?_;go_wp2_with((fail));refine⟨.inr (ZJV.of (HS.o _ (YSm HG1.o.drew (ζe _)))),?_⟩;refine Z9U ?_
   try simp only[XZy,ξ,ζ]
   repeat(go_big_quiet_step (fail))
   refine φ ?_;refine δ ?_;clear y1 y2 y3 y4 y5 y6 hS0 inst;clear HS Sx;go_wp2;have R3:=(Rec.set (Rec.set (Rec.set HR1.o 0 (.int .i64 pp)) 1 (.int .i64 ff)) 2 (.int .i64 kk)).gr (Gr.refl _).drew;have hl:=JIC _ w.heap.size _ _ _ (R3.cell (j:=0) rfl) (R3.cell (j:=1) rfl) (R3.cell (j:=2) rfl);refine ζt (v:=.tuple #[.agg #[.int .i64 pp,.int .i64 ff,.int .i64 kk],.int .i64 0]) ?_ rfl ⟨rfl,(YSm HG1.o (ζe _)).drew⟩;rw[results_cell_tmp rfl];simp[asAddr,Result.andThen,hl]
 ·rw[ζD]at hs;rw[hs]at HS;have hE:g.shE a=17:=by unfold Gph.shE;rw[hs];rfl
  have hH:g.shH a=⟨0,0,0⟩:=by unfold Gph.shH;rw[hE];rfl
  rw[hE,hH];unfold X79;clear hE hH hs h;go_enter func22,ntmps22;go_wp2_with(go_at_call 21;refine(HS.o _ HZ.o.2).mono ?_;rintro e w1 ⟨rfl,hw⟩;have HR1:=hid (hw▸HZ.o.1);have HG1:=hid (hw▸HZ.o.2);have k0:=HR1.o.cell (j:=0) rfl;have k1:=HR1.o.cell (j:=1) rfl;have k2:=HR1.o.cell (j:=2) rfl;have kf:=HR1.o.free;have kl:=HR1.o.lt;clear hw);have R3:=Rec.set (Rec.set (Rec.set HR1.o 0 (.int .i64 0)) 1 (.int .i64 0)) 2 (.int .i64 0);have hl:=JIC _ w.heap.size _ _ _ (R3.cell (j:=0) rfl) (R3.cell (j:=1) rfl) (R3.cell (j:=2) rfl);refine ζt (v:=.tuple #[.agg #[.int .i64 0,.int .i64 0,.int .i64 0],.int .i64 17]) ?_ rfl ⟨rfl,YSm HG1.o (ζe _)⟩;rw[results_cell_tmp rfl];simp[asAddr,Result.andThen,hl]
end
end
end
section
section
open Go.RowKit Word
theorem QOQ{w:World}{r C:Nat}{g:Gph}{lv:Value}{sb:Nat}{B:Nat->Nat}(h:XW7 w r C g lv sb B){a:Int}(he:g.shE a=0):∃m x:Nat,a=m/\m<g.S.length/\g.S.getD m 0=x/\1<=x/\x<=g.L.length/\g.shH a=(g.ob x).hdr/\g.smV a=QRR (g.ob x).fls:=by
 have hs:g.sl a=true:=by
  unfold Gph.shE at he;cases hs:g.sl a with
  | true=>rfl
  | false=>rw[hs]at he;cases he
 obtain⟨m,rfl,hm⟩:=J9p hs;have hE:g.shE m=if g.S.getD m 0=0 then 18 else 0:=by unfold Gph.shE;rw[hs,χ rfl];rfl
 have h0:¬g.S.getD m 0=0:=λh0=>by rw[hE,χ h0]at he;cases he
 refine⟨m,_,rfl,hm,rfl,by omega,h.sto hm,?_,?_⟩
 ·unfold Gph.shH;rw[χ he];rfl
 ·unfold Gph.smV;rw[χ he];rfl
section
variable {w w':World} {r C:Nat} {g:Gph} {lv:Value} {sb:Nat} {B:Nat->Nat} {S:Nat->Prop}
theorem XGp(h:XW7 w r C g lv sb B)(a:Int):Calls prog 23 #[.pointer (some ⟨r,0,none⟩),.int .i64 a] w λe w'=>e=.returned (.tuple #[.int .u64 (g.smV a:Nat),.int .i64 (g.shE a)])/\Gr w w':=by
 have HSH:=hid (YXt h a);by_cases he:g.shE a=0
 ·obtain⟨m,x,rfl,hm,hx,hx1,hxl,hH,hV⟩:=QOQ h he;rw[hV,he];rw[hH,he]at HSH;obtain⟨lb,c,y,rfl,rfl,hy,-,-,-,-,-,-,hwl,hws⟩:=h.obj hx1 hxl
  have HC:Hid (∀W,Gr w W->W.cell? ⟨r,1,none⟩=some (.slice (some ⟨lb,0,none⟩) g.L.length c)/\W.cell? ⟨r,2,none⟩=some (.slice (some ⟨sb,0,none⟩) g.S.length g.S.length)/\W.cell? ⟨sb,m,none⟩=some (.int .i64 ((y+1:Nat):Int))/\W.cell? ⟨lb,y*4,none⟩=some (.int .i64 (g.ob (y+1)).p)/\W.cell? ⟨lb,y*4+1,none⟩=some (.int .i64 (g.ob (y+1)).f)/\W.cell? ⟨lb,y*4+2,none⟩=some (.int .i64 (g.ob (y+1)).k)/\W.cell? ⟨lb,y*4+3,none⟩=some (.slice (some ⟨B y,0,none⟩) (g.ob (y+1)).w.length (g.ob (y+1)).w.length)):=⟨λW gW=>by
   have h2:=h.gr gW;obtain⟨lb',c',y',e1,e2,-,-,k0,k1,k2,k3,-⟩:=h2.obj hx1 hxl;cases e1;obtain rfl:y=y':=Ω
   exact⟨h2.row.cell (j:=1) rfl,h2.row.cell (j:=2) rfl,by rw[<-hx];exact h2.slot hm,k0,k1,k2,k3⟩⟩
  have hlen:(g.ob (y+1)).fls.length=(g.ob (y+1)).f:=by
   unfold GOb.fls;rw[ζk,ζs];omega
  have HU:Hid (∀W,Gr w W->Y10 W (some ⟨B y,(g.ob (y+1)).p,none⟩) (g.ob (y+1)).fls):=⟨λW gW i hi=>by
   obtain⟨lb',c',y',e1,e2,-,-,-,-,-,-,q5,-⟩:=(h.gr gW).obj hx1 hxl;obtain rfl:y=y':=Ω
   refine⟨_,_,rfl,q5.lt,?_⟩
   have e:(g.ob (y+1)).fls.getD i 0=(g.ob (y+1)).w.getD ((g.ob (y+1)).p+i) 0:=by
    unfold GOb.fls at hi⊢;rw[ζk]at hi;rw[θ,ξp Ω,ζ0,<-θ]
   rw[e]
   exact q5.cell (YGR (by rw[hlen]at hi;omega))⟩
  have HWH:=hid (λ(W:World) (gW:Gr w W) (cc:Nat)=>ZzZ (c:=cc) (HU.o W gW) (by rw[hlen];omega) (λz hz=>h.wd _ (Gph.ob_mem hx1 hxl) z (ξR (ζI (by unfold GOb.fls at hz;exact hz)))));have HWI:=hid (λ(hz:(g.ob (y+1)).f=0) (W:World) (cc:Nat)=>ZzZ (w:=W) (A:=some ⟨B y,0,none⟩) (c:=cc) (l:=(g.ob (y+1)).fls) (λi hi=>by rw[hlen,hz]at hi;exact absurd hi (ξf _)) (by rw[hlen];omega) (λz hz=>h.wd _ (Gph.ob_mem hx1 hxl) z (ξR (ζI (by unfold GOb.fls at hz;exact hz)))));rw[hlen]at HWH HWI;have hx2:(m:Int)<(g.S.length:Int):=Ω
  have hsn:=h.sn;have hln:=h.len;have hyI:((y+1:Nat):Int)-1=(y:Int):=Ω
  have hyl:(y:Int)<(g.L.length:Int):=Ω
  have hw3:=hwl;generalize QRR (g.ob (y+1)).fls=V at HWH HWI⊢;unfold GOb.hdr X79 at HSH;dsimp only at HSH;clear hlen HU hV hH he hx hx1 hxl hm h hy hwl;generalize (g.ob (y+1)).w.length=wl at HC hw3;generalize (g.ob (y+1)).p=pp at HC HWH HSH hws hw3;generalize (g.ob (y+1)).f=ff at HC HWH HWI HSH hws hw3;generalize (g.ob (y+1)).k=kk at HC HSH hws hw3;have b1:pp+ff<=wl:=Ω
  have b2:wl<=255:=Ω
  clear hw3 hws;generalize ((y+1:Nat):Int)=sI at HC hyI;generalize g.S.length=ns at HC hx2 hsn;generalize g.L.length=nl at HC hyl hln;go_enter func23,ntmps23;go_upto_region 2 with(go_at_call 22;refine(HSH.o).mono ?_;rintro e w1 ⟨rfl,hg⟩;have HG1:=hid hg;clear hg);have hr2:Rec (w1.alloc (.cells #[.int .i64 pp,.int .i64 ff,.int .i64 kk] 31)) w1.heap.size 31 [.int .i64 pp,.int .i64 ff,.int .i64 kk]:=Rec.new w1 _ _;have hg2:Gr w (w1.alloc (.cells #[.int .i64 pp,.int .i64 ff,.int .i64 kk] 31)):=HG1.o.alloc _;obtain⟨w2,hw2⟩:∃w2,w2=w1.alloc (.cells #[.int .i64 pp,.int .i64 ff,.int .i64 kk] 31):=⟨_,rfl⟩;rw[<-hw2]at hr2 hg2⊢;obtain⟨hb,hhb⟩:∃hb,hb=w1.heap.size:=⟨_,rfl⟩;rw[<-hhb]at hr2⊢;have HR2:=hid hr2;have HG2:=hid hg2;clear hw2 hhb hr2 hg2 HG1 HSH;go_upto_region 4 with(fail);obtain⟨Sx,hSx⟩:∃Sx:World->Prop,Sx=λW'=>Gr w2 W':=⟨_,rfl⟩;have y1:∀p:ZJV Sx,p.w.cell? ⟨r,1,none⟩=some (.slice (some ⟨lb,0,none⟩) nl c):=λp=>by have h:=ZJV.get hSx p;exact(HC.o _ (HG2.o.trans h)).1
  have y2:∀p:ZJV Sx,p.w.cell? ⟨r,2,none⟩=some (.slice (some ⟨sb,0,none⟩) ns ns):=λp=>by have h:=ZJV.get hSx p;exact(HC.o _ (HG2.o.trans h)).2.1
  have y3:∀p:ZJV Sx,p.w.cell? ⟨sb,m,none⟩=some (.int .i64 sI):=λp=>by have h:=ZJV.get hSx p;exact(HC.o _ (HG2.o.trans h)).2.2.1
  have y4:∀p:ZJV Sx,p.w.cell? ⟨lb,y*4,none⟩=some (.int .i64 pp):=λp=>by have h:=ZJV.get hSx p;exact(HC.o _ (HG2.o.trans h)).2.2.2.1
  have y5:∀p:ZJV Sx,p.w.cell? ⟨lb,y*4+1,none⟩=some (.int .i64 ff):=λp=>by have h:=ZJV.get hSx p;exact(HC.o _ (HG2.o.trans h)).2.2.2.2.1
  have y6:∀p:ZJV Sx,p.w.cell? ⟨lb,y*4+2,none⟩=some (.int .i64 kk):=λp=>by have h:=ZJV.get hSx p;exact(HC.o _ (HG2.o.trans h)).2.2.2.2.2.1
  have y7:∀p:ZJV Sx,p.w.cell? ⟨lb,y*4+3,none⟩=some (.slice (some ⟨B y,0,none⟩) wl wl):=λp=>by have h:=ZJV.get hSx p;exact(HC.o _ (HG2.o.trans h)).2.2.2.2.2.2
  have HS:Hid (∀W',Gr w2 W'->Sx W'):=⟨λW' h=>by rw[hSx];exact h⟩;have hS0:=HS.o _ ((Gr.refl w2).drew);have inst:Inhabited (ZJV Sx):=⟨⟨_,hS0⟩⟩;clear hSx;refine Vv2 Sx 15 [([0,1,2,3,4,5,6,7,8,9,10,11,12,13],14),([],15)] [] (by kernel_rfl) (by kernel_rfl) hS0 ?_;refine XGW ?_
  try simp only[XZy,ξ,ζ]
  repeat(go_big_quiet_step (fail))
  refine φ ?_;go_wp2_with((fail));refine⟨.inr (ZJV.of (HS.o _ ((Gr.refl w2).drew.alloc _))),?_⟩;refine XGW ?_
  try simp only[XZy,ξ,ζ]
  repeat(go_big_quiet_step (fail))
  refine φ ?_;go_wp2;refine⟨.inl trivial,?_⟩;refine Z9U ?_;refine φ ?_;refine δ ?_;clear y1 y2 y3 y4 y5 y6 y7 hS0 inst;clear HS Sx;have hrx:Rec (w2.alloc (.cells #[.int .i64 pp,.int .i64 ff,.int .i64 kk,.slice (some ⟨B y,0,none⟩) wl wl] 74)).drew w2.heap.size 74 [.int .i64 pp,.int .i64 ff,.int .i64 kk,.slice (some ⟨B y,0,none⟩) wl wl]:=(Rec.new w2 _ _).gr (Gr.refl _).drew;have hgx:Gr w2 (w2.alloc (.cells #[.int .i64 pp,.int .i64 ff,.int .i64 kk,.slice (some ⟨B y,0,none⟩) wl wl] 74)).drew:=((Gr.refl w2).alloc _).drew;obtain⟨wz,hwz⟩:∃wz,wz=(w2.alloc (.cells #[.int .i64 pp,.int .i64 ff,.int .i64 kk,.slice (some ⟨B y,0,none⟩) wl wl] 74)).drew:=⟨_,rfl⟩;rw[<-hwz]at hrx hgx⊢;have hr3:=HR2.o.gr hgx;have HG3:=hid (HG2.o.trans hgx);have v3:=hrx.cell (j:=3) rfl;have vl:=hrx.lt;have u0:=hr3.cell (j:=0) rfl;have u1:=hr3.cell (j:=1) rfl;have ul:=hr3.lt;clear hwz hgx hrx hr3;by_cases hwp:wl=pp
  ·have hf0:ff=0:=Ω
   have HWJ:=hid (HWI.o hf0);subst hf0;subst hwp;clear HWI HWH HC HR2;go_wp2_with(fail);have hc:=HWJ.o wz 0;refine hc.mono ?_;rintro e w5 ⟨rfl,hg⟩;have HG5:=hid hg;clear hg hc;go_wp2;go_ret2;exact⟨rfl,HG3.o.trans HG5.o⟩
  ·clear HWI HC HR2;go_wp2_with(fail);have hc:=HWH.o wz HG3.o (wl-pp);refine hc.mono ?_;rintro e w5 ⟨rfl,hg⟩;have HG5:=hid hg;clear hg hc;go_wp2;go_ret2;exact⟨rfl,HG3.o.trans HG5.o⟩
 ·have hV:g.smV a=0:=by unfold Gph.smV;rw[ν he]
  rw[hV];generalize g.shE a=E at he HSH⊢;have e1:(E !=0)=true:=by simpa using he
  unfold X79 at HSH;clear hV he h;go_enter func23,ntmps23;go_wp2_with(go_at_call 22;refine(HSH.o).mono ?_;rintro e w1 ⟨rfl,hg⟩;have HG1:=hid hg;clear hg);go_ret2;exact⟨rfl,HG1.o.alloc _⟩
end
end
end
end Go.Proofs.Ytgmaanehcbnchaa
