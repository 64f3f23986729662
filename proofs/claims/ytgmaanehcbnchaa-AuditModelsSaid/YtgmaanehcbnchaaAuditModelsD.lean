/- Part 4 of what AuditModels leans on: my own lemmas, merged by shake.py. -/
import Derived.Test.YtgmaanehcbnchaaAuditModelsC
import Derived.MapKept
import Derived.LaidEqlPtr
import Derived.Carry
import Derived.RegionTactic
namespace Go.Proofs.Ytgmaanehcbnchaa
open _root_.Go.Proofs.Try
set_option maxHeartbeats 6400000
set_option maxRecDepth 100000
section
section
open Go.RowKit Word
theorem VBt:(prog.info? 74).map (λi=>(i.zero,i.size,i.bytes))=some (some (.agg #[.int .i64 0,.int .i64 0,.int .i64 0,.slice none 0 0]),4,48):=by kernel_rfl
def JIJ(w:World)(S:Nat->Prop)(r C:Nat)(g':Gph)(v:Value)(e:Ending)(w':World):Prop:=e=.returned v/\XF4 S w w'/\ZH3 w' (VVO S w) r C g'
section
variable {w w':World} {r C:Nat} {g:Gph} {lv:Value} {sb:Nat} {B:Nat->Nat} {S:Nat->Prop}
theorem XBA(h:XW7 w r C g lv sb B):g.words<=256000:=by
 have key:∀T:List Nat,(∀x∈T,1<=x/\x<=g.L.length)->szs g T<=256*T.length:=λT=>by
  induction T with
  | nil=>intro _;exact ζe _
  | cons x r ih=>
   intro hT;have h1:=ih (λy hy=>hT y (ζ7 _ hy));have h2:=hT x ξt;have h3:=(h.ok.len _ (Gph.ob_mem h2.1 h2.2)).2;have h4:szs g (x :: r)=(g.ob x).size+szs g r:=by simp[szs]
   have h5:(g.ob x).size=1+(g.ob x).p+(g.ob x).f+(g.ob x).k:=rfl;have h6:(x :: r).length=r.length+1:=rfl;rw[h4,h6];omega
 obtain⟨h1,-,-⟩:=JOE (p:=g.pts) (N:=g.L.length) (rs:=g.S) (λx _ _ y hy=>h.ok.pts_le hy) h.ok.st;have h2:=key g.all h1;have h3:=h1.len (Zeq g.pts g.L.length g.S);have h4:=h.len;have h5:g.words=szs g g.all:=rfl;have h6:g.all.length<=g.L.length:=h3;omega
theorem XW7.add(h:XW7 w r C g lv sb B){m p f k:Nat}(hs:p+f+k<=255)(hl:g.L.length+1<=1000){w4 w5 w7:World}{nb g2 c2:Nat}(g4:Gr w w4)(hnb:w.heap.size<=nb)(hW:Rec w4 nb 32 (List.replicate (p+f+k) (.int .u64 0)))
  (t5:XF4 (λk=>lv.ownBlock=some k) w4 w5) (o5:w5.ownsRow 0 74 4 (.slice (some ⟨g2,0,none⟩) (g.L.length+1) c2) (g.L.length+1) (YHl B g.L 0++obL (GOb.new p f k) nb)) (g7:Gr (w5.setCell ⟨r,1,none⟩ (.slice (some ⟨g2,0,none⟩) (g.L.length+1) c2)) w7):
  XW7 (w7.setCell ⟨sb,m,none⟩ (.int .i64 (g.L.length+1:Nat))) r C (g.add m p f k) (.slice (some ⟨g2,0,none⟩) (g.L.length+1) c2) sb (λi=>if i=g.L.length then nb else B i):=by
 have h4:=h.gr g4;have hr5:=h4.row.touch t5 (λe=>YnK h4.own h4.row (by decide) e rfl rfl);have hs5:=h4.sl.touch t5 (λe=>YnK h4.own h4.sl (by decide) e rfl rfl);have hw5:∀i,i<g.L.length->Rec w5 (B i) 32 (QYW (g.L.getD i obD).w):=λi hi=>(h4.wr i hi).touch t5 (λe=>YnK h4.own (h4.wr i hi) (by decide) e rfl rfl);have hn5:Rec w5 nb 32 (List.replicate (p+f+k) (.int .u64 0)):=hW.touch t5 (λe=>YnK h4.own hW (by decide) e rfl rfl);have t6:XF4 (λq=>q=r) w5 (w5.setCell ⟨r,1,none⟩ (.slice (some ⟨g2,0,none⟩) (g.L.length+1) c2)):=(XF4.refl (λq=>q=r) w5).setCell (a:=⟨r,1,none⟩) (λ_=>rfl) _;have hr6:=(hr5.set 1 (.slice (some ⟨g2,0,none⟩) (g.L.length+1) c2)).gr g7;have hs6:=(hs5.touch t6 (YnK hs5 hr5 (by decide) rfl rfl)).gr g7;have hw6:∀i,i<g.L.length->Rec w7 (B i) 32 (QYW (g.L.getD i obD).w):=λi hi=>((hw5 i hi).touch t6 (YnK (hw5 i hi) hr5 (by decide) rfl rfl)).gr g7;have hn6:=(hn5.touch t6 (YnK hn5 hr5 (by decide) rfl rfl)).gr g7;have o6:=Y9I (Zs2 o5 t6 (λq hq=>YnK o5 hr5 (by decide) hq rfl)) g7;have t8:XF4 (λq=>q=sb) w7 (w7.setCell ⟨sb,m,none⟩ (.int .i64 (g.L.length+1:Nat))):=(XF4.refl (λq=>q=sb) w7).setCell (a:=⟨sb,m,none⟩) (λ_=>rfl) _;have hlen:(g.add m p f k).L.length=g.L.length+1:=by show (g.L++[GOb.new p f k]).length=_;rw[ζi];rfl
 have hB:YHl (λi=>if i=g.L.length then nb else B i) (g.L++[GOb.new p f k]) 0=YHl B g.L 0++obL (GOb.new p f k) nb:=by
  rw[Zi8,ω,χ rfl];congr 1;exact Xq2 _ _ (λj _ hj=>ν Ω)
 have hget:∀i,i<g.L.length->(g.add m p f k).L.getD i obD=g.L.getD i obD:=λi hi=>by
  show (g.L++[GOb.new p f k]).getD i obD=_
  rw[θ,ζ3 hi,<-θ]
 have hgl:(g.add m p f k).L.getD g.L.length obD=GOb.new p f k:=by
  show (g.L++[GOb.new p f k]).getD g.L.length obD=_
  rw[θ,ξE (ζe _),Nat.sub_self];rfl
 have hBlt:∀i,i<g.L.length->B i≠nb:=λi hi e=>by have:=(h.wr i hi).lt;omega
 refine⟨?_,?_,?_,λi hi=>?_,λi j hi hj e=>?_,by rw[hlen];exact hl,by show (g.S.set _ _).length<=_;rw[ζf];exact h.sn,h.cb,h.ok.add hs,λo ho x hx=>?_⟩
 ·have:=hr6.touch t8 (YnK hr6 hs6 (by decide) rfl rfl)
  show Rec _ _ _ [_,_,.slice _ (g.S.set m (g.L.length+1)).length (g.S.set m (g.L.length+1)).length]
  rw[ζf];exact this
 ·rw[hlen]
  show World.ownsRow _ _ _ _ _ _ (YHl _ (g.L++[GOb.new p f k]) 0)
  rw[hB];exact Zs2 o6 t8 (λq hq=>YnK o6 hs6 (by decide) hq rfl)
 ·have:=hs6.set m (.int .i64 (g.L.length+1:Nat))
  show Rec _ _ _ (ZKn (g.S.set m (g.L.length+1)))
  unfold ZKn at this⊢;rw[ζ8];exact this
 ·rw[hlen]at hi;by_cases e:i=g.L.length
  ·rw[χ e,e,hgl]
   have:QYW (GOb.new p f k).w=List.replicate (p+f+k) (.int .u64 0):=by
    show (List.replicate (p+f+k) 0).map _=_
    rw[ξu];rfl
   rw[this];exact hn6.touch t8 (YnK hn6 hs6 (by decide) rfl rfl)
  ·have hi2:i<g.L.length:=Ω
   rw[ν e,hget i hi2];exact(hw6 i hi2).touch t8 (YnK (hw6 i hi2) hs6 (by decide) rfl rfl)
 ·rw[hlen]at hi hj;by_cases e1:i=g.L.length <;> by_cases e2:j=g.L.length
  ·omega
  ·rw[χ e1,ν e2]at e;exact absurd e.symm (hBlt j Ω)
  ·rw[ν e1,χ e2]at e;exact absurd e (hBlt i Ω)
  ·rw[ν e1,ν e2]at e;exact h.inj i j Ω Ω e
 ·rcases ξg.1 ho with h1|h1
  ·exact h.wd o h1 x hx
  ·rw[ζT.1 h1]at hx;have hx:x∈List.replicate (p+f+k) 0:=hx;rw[(ζC.1 hx).2];decide
theorem Yt7{b n E base:Nat}{xs:List Value}(h:w.ownsRow base E 1 (.slice (some ⟨b,0,none⟩) n n) n xs):Rec w b E xs:=by
 obtain⟨hl,⟨h1,-⟩|⟨g,c,cur,e,-,h3,h4,h5,h6,h7⟩⟩:=h
 ·cases h1
 ·cases e;rw[ξO]at hl h6 h7;subst hl;exact⟨by rw[ξl],.inr ⟨b,1,cur,rfl,ζb _,h3,ζe _,by unfold maxLen;omega,by rw[ξl];exact h6,by rw[ξl];exact h7⟩⟩
theorem XXh(hA:ZH3 w S r C g)(hlen:g.L.length+1<=1000)(a:Int)(x:Hdr):Calls prog 17 #[.pointer (some ⟨r,0,none⟩),.int .i64 a,X79 x] w (JIJ w S r C (g.alG C a x) (.int .i64 (g.alE C a x))):=by
 obtain⟨lv,sb,B,h,s1,s2,s3,s4⟩:=hA;have HS:=hid (λ(W:World) (gW:Gr w W)=>J8q (h.gr gW) a a);rw[ξK]at HS;have HNO:=hid (λ(W:World) (gW:Gr w W)=>(show XF4 S w W/\ZH3 W (VVO S w) r C g from⟨gW.touch S,_,_,_,h.gr gW,.inl s1,.inl s2,λk hk=>.inl (s3 k hk),λi hi=>.inl (s4 i hi)⟩));have HB:=hid ((Gr.refl w).alloc (.cells #[.int .i64 x.p,.int .i64 x.f,.int .i64 x.k] 31));have hrx:=Rec.new w 31 [.int .i64 x.p,.int .i64 x.f,.int .i64 x.k];have HSZ:=hid (λW=>YJT x W);have HRX:=hid hrx;unfold X79 at HSZ⊢;obtain⟨wb,hwb⟩:∃wb,wb=w.alloc (.cells #[.int .i64 x.p,.int .i64 x.f,.int .i64 x.k] 31):=⟨_,rfl⟩;rw[<-hwb]at HB HRX hrx;have HWB:=hid hwb;have k0:=hrx.cell (j:=0) rfl;have k1:=hrx.cell (j:=1) rfl;have k2:=hrx.cell (j:=2) rfl;have kl:=hrx.lt;clear hrx hwb;by_cases hs:g.sl a=true
 ·rw[hs]at HS;by_cases he:JQC x=0
  ·obtain⟨pp,ff,kk,rfl,hpf⟩:=XZe he;have hN:Z3o ⟨pp,ff,kk⟩=((1+pp+ff+kk:Nat):Int):=(χ he).trans (by push_cast;rfl);rw[hN]at HSZ;have HRE:=hid (λ(W:World) (gW:Gr w W)=>Yzm (h.gr gW));unfold JHZ at HRE;have hwd:=XBA h;have hcb:=h.cb;have c0:=hid (λ(W:World) (gW:Gr w W)=>(h.gr gW).row.cell (j:=0) rfl);have clt:=hid (λ(W:World) (gW:Gr w W)=>(h.gr gW).row.lt);obtain⟨nn,hnn⟩:∃nn,nn=1+pp+ff+kk:=⟨_,rfl⟩;rw[<-hnn]at HSZ hN;have hn0:((nn:Int)==0)=false:=by rw[σ];omega
   by_cases hbig:(C:Int)<g.words+Z3o ⟨pp,ff,kk⟩
   ·have hE:g.alE C a ⟨pp,ff,kk⟩=21:=by unfold Gph.alE;rw[hs,χ rfl,ν (by rw[he];decide),χ hbig]
    have hG:g.alG C a ⟨pp,ff,kk⟩=g:=by unfold Gph.alG;rw[hE];rfl
    rw[hE,hG];rw[hN]at hbig;have HF:Hid (∀W,Gr w W->JIJ w S r C g (.int .i64 21) (.returned (.int .i64 21)) W):=⟨λW gW=>⟨rfl,HNO.o W gW⟩⟩;have hnb:nn<=256:=Ω
    have hgt:(C:Int)<(g.words:Int)+(nn:Int):=hbig;generalize g.words=wd' at HRE hwd hgt;generalize g.all.length=al at HRE;clear hE hG he hpf hs hN hbig h s1 s2 s3 s4 hnn HNO;go_enter func17,ntmps17;go_upto_region 1 with(fail);rw[<-HWB.o]
    go_upto_region 6 with(first
     | (go_at_call 21;refine(HS.o _ HB.o).mono ?_;rintro e w1 ⟨rfl,rfl⟩)
     | (go_at_call 27;refine(HSZ.o _).mono ?_;rintro e w2 ⟨rfl,hg⟩;have HG2:=hid (HB.o.trans hg);clear hg))
    go_upto_region 7 with(go_at_call 10;refine(HRE.o _ HG2.o).mono ?_;rintro e w3 ⟨RA,rc,rfl,hg,-⟩;have HG3:=hid (HG2.o.trans hg);clear hg);have q0:=c0.o _ HG3.o;have ql:=clt.o _ HG3.o;go_wp2;go_ret;exact HF.o _ HG3.o
   ·obtain⟨m,rfl,hm⟩:=J9p hs;have hE:g.alE C m ⟨pp,ff,kk⟩=0:=by unfold Gph.alE;rw[hs,χ rfl,ν (by rw[he];decide),ν hbig]
    have hG:g.alG C m ⟨pp,ff,kk⟩=g.add m pp ff kk:=by
     unfold Gph.alG;rw[χ hE];rfl
    rw[hE,hG];rw[hN]at hbig;obtain⟨nw,hnw⟩:∃nw,nw=pp+ff+kk:=⟨_,rfl⟩;have hnwI:(nn:Int)-1=(nw:Int):=Ω
    have hnwb:nw<=255:=Ω
    have hADD:=λ(w4 w5 w7:World) (nb g2 c2:Nat)=>h.add (m:=m) (p:=pp) (f:=ff) (k:=kk) hpf hlen (w4:=w4) (w5:=w5) (w7:=w7) (nb:=nb) (g2:=g2) (c2:=c2);rw[<-hnw]at hADD;have HADD:=hid hADD;have HOWN:=hid (λ(W:World) (gW:Gr w W)=>(h.gr gW).own);have HRW:=hid (λ(W:World) (gW:Gr w W)=>(h.gr gW).row);have HSLR:=hid (λ(W:World) (gW:Gr w W)=>(h.gr gW).sl);have HSS:=hid (ζp s1 (ζp s2 (ζp s3 s4)));have HLT:=hid (ζp h.row.lt (ζp h.sl.lt (λq (hq:lv.ownBlock=some q)=>(Vvr h.own hq).2)));have HNE:=hid (λe:lv.ownBlock=some r=>YnK h.own h.row (by decide) e rfl rfl);have HNE2:=hid (λe:lv.ownBlock=some sb=>YnK h.own h.sl (by decide) e rfl rfl);have HNE3:Hid (sb≠r):=⟨YnK h.sl h.row (by decide) rfl rfl⟩;have hmI:(m:Int)<(g.S.length:Int):=Ω
    have hsn:=h.sn;have hln:=h.len;have HM:=hid hm;have hnb:nn<=256:=Ω
    have hgt:¬(C:Int)<(g.words:Int)+(nn:Int):=hbig;obtain⟨iu,hiu,hu0,hu1,hu2⟩:=info_parts ZiX;obtain⟨io,hio,ho0,ho1,ho2⟩:=info_parts VBt;have HNW:=hid hnw;generalize g.words=wd' at HRE hwd hgt;generalize g.all.length=al at HRE;obtain⟨N,hNe⟩:∃N,N=g.L.length:=⟨_,rfl⟩;rw[<-hNe]at hln hlen;have HNN:=hid hNe;obtain⟨ns,hns⟩:∃ns,ns=g.S.length:=⟨_,rfl⟩;rw[<-hns]at hmI hsn HRW;have hlen2:N+1<=1000:=hlen;clear hE hG he hpf hs hN hbig h s1 s2 s3 s4 hnn HNO hADD hm hnw hNe hns hlen;go_enter func17,ntmps17;go_upto_region 1 with(fail);rw[<-HWB.o]
    go_upto_region 6 with(first
     | (go_at_call 21;refine(HS.o _ HB.o).mono ?_;rintro e w1 ⟨rfl,rfl⟩)
     | (go_at_call 27;refine(HSZ.o _).mono ?_;rintro e w2 ⟨rfl,hg⟩;have HB2:=hid hg;have HG2:=hid (HB.o.trans hg);clear hg))
    go_upto_region 7 with(go_at_call 10;refine(HRE.o _ HG2.o).mono ?_;rintro e w3 ⟨RA,rc,rfl,hg,-⟩;have HB3:=hid (HB2.o.trans hg);have HG3:=hid (HG2.o.trans hg);clear hg);have q0:=c0.o _ HG3.o;have ql:=clt.o _ HG3.o;go_upto_region 9 with(fail);clear q0 ql k0 k1 k2 kl;have HR3:=hid (HRW.o _ HG3.o);have HX3:=hid (HRX.o.gr HB3.o);obtain⟨Sx,hSx⟩:∃Sx:World->Prop,Sx=λW'=>Rec W' r 57 [.int .i64 C,lv,.slice (some ⟨sb,0,none⟩) ns ns]/\Rec W' w.heap.size 31 [.int .i64 pp,.int .i64 ff,.int .i64 kk]:=⟨_,rfl⟩;have y1:∀p:ZJV Sx,p.w.cell? ⟨r,1,none⟩=some (lv):=λp=>by have h:=ZJV.get hSx p;exact h.1.cell (j:=1) rfl
    have y2:∀p:ZJV Sx,p.w.cell? ⟨w.heap.size,0,none⟩=some (.int .i64 pp):=λp=>by have h:=ZJV.get hSx p;exact h.2.cell (j:=0) rfl
    have y3:∀p:ZJV Sx,p.w.cell? ⟨w.heap.size,1,none⟩=some (.int .i64 ff):=λp=>by have h:=ZJV.get hSx p;exact h.2.cell (j:=1) rfl
    have y4:∀p:ZJV Sx,p.w.cell? ⟨w.heap.size,2,none⟩=some (.int .i64 kk):=λp=>by have h:=ZJV.get hSx p;exact h.2.cell (j:=2) rfl
    have HS:Hid (∀W',Rec W' r 57 [.int .i64 C,lv,.slice (some ⟨sb,0,none⟩) ns ns]/\Rec W' w.heap.size 31 [.int .i64 pp,.int .i64 ff,.int .i64 kk]->Sx W'):=⟨λW' h=>by rw[hSx];exact h⟩;have hS0:=HS.o _ (⟨HR3.o.gr (Gr.refl w3).drew,HX3.o.gr (Gr.refl w3).drew⟩);have inst:Inhabited (ZJV Sx):=⟨⟨_,hS0⟩⟩;clear hSx;refine Vv2 Sx 14 [([0,1,2,3,4,5,6,7],8),([9],10),([],11),([12,13],14)] [] (by kernel_rfl) (by kernel_rfl) hS0 ?_;refine XGW ?_
    try simp only[XZy,ξ,ζ]
    repeat(go_big_quiet_step (fail))
    refine φ ?_;go_wp2_with((at_make;refine wpList_make_full _ rfl _ _ 72 rfl 0 32 iu (.int .u64 0) 1 underlying72 hiu hu0 hu1 .i64 .i64 _ _ nw rfl rfl rfl rfl (by rw[hu2];omega) (by unfold maxLen;omega) (ζb _) ?_;intro w4 hown hgrow;have HOW:=hid hown;have HG4:Hid (Gr w3.drew w4):=⟨(JEA hgrow (λ_=>False) (λk e _=>by cases e)).gr⟩;clear hown hgrow;go_wp2));refine⟨.inr (ZJV.of (HS.o _ (⟨HR3.o.gr ((Gr.refl w3).drew.trans HG4.o),HX3.o.gr ((Gr.refl w3).drew.trans HG4.o)⟩))),?_⟩;have HGA:Hid (Gr w w4):=⟨HG3.o.trans ((Gr.refl w3).drew.trans HG4.o)⟩;simp only[Act.put,ψ,ϑ,κ];refine XGW ?_
    try simp only[XZy,ξ,ζ]
    repeat(go_big_quiet_step (fail))
    refine φ ?_;go_wp2_with((fail));refine⟨.inr (ZJV.of (HS.o _ (⟨HR3.o.gr (((Gr.refl w3).drew.trans HG4.o).alloc _),HX3.o.gr (((Gr.refl w3).drew.trans HG4.o).alloc _)⟩))),?_⟩;refine XGW ?_
    try simp only[XZy,ξ,ζ]
    repeat(go_big_quiet_step (fail))
    refine φ ?_;go_wp2_with((at_builtin;refine wpList_append_lies _ rfl _ _ 55 rfl 0 74 io _ 4 48 underlying55 hio ho0 ho1 ho2 rfl (by decide) lv N (YHl B g.L 0) rfl (by rw[HNN.o];exact HOWN.o _ (HGA.o.alloc _)) ⟨w4.heap.size,0,none⟩ 1 1 [.int .i64 pp,.int .i64 ff,.int .i64 kk,.slice (some ⟨w3.drew.heap.size,0,none⟩) nw nw] rfl rfl (β (cs:=#[.int .i64 pp,.int .i64 ff,.int .i64 kk,.slice (some ⟨w3.drew.heap.size,0,none⟩) nw nw]) (t:=74) (fr:=(0,0)) (heap_alloc_new w4 _)) (by simp[Value.oneCell']) Ω (by unfold maxLen;omega) Ω (ζb _) (w4.heap.size+1) (by simp) ?_;intro g2 c2 w5 hown5 hgrow5 hat5 hlt5;have t5:XF4 (λk=>lv.ownBlock=some k) w4 w5:=(((Gr.refl _).alloc _).touch _).trans (VxQ hgrow5 _ (λk e _=>e));have HT5:=hid t5;have HO5:=hid hown5;have HA5:=hid hat5;have HR5:=hid ((HRW.o _ HGA.o).touch t5 HNE.o);have HS5:=hid ((HSLR.o _ HGA.o).touch t5 HNE2.o);have HX5:Hid (Rec w5 w.heap.size 31 [.int .i64 pp,.int .i64 ff,.int .i64 kk]):=⟨(HX3.o.gr ((Gr.refl w3).drew.trans HG4.o)).touch t5 (λe=>by have:=HLT.o.2.2 _ e;omega)⟩;have z1:=HR5.o.cell (j:=1) rfl;have zf:=HR5.o.free 1;clear hown5 hgrow5 hat5 hlt5 t5));refine⟨.inr (ZJV.of (HS.o _ (⟨HR5.o,HX5.o⟩))),?_⟩;simp only[Act.put,ψ,ϑ,κ];refine XGW ?_
    try simp only[XZy,ξ,ζ]
    repeat(go_big_quiet_step (fail))
    refine φ ?_;go_wp2;refine⟨.inl trivial,?_⟩;refine Z9U ?_;refine φ ?_;refine δ ?_;clear y1 y2 y3 y4 hS0 inst;clear HS Sx;have hr6:=HR5.o.set 1 (.slice (some ⟨g2,0,none⟩) (N+1) c2);have t6:XF4 (λq=>q=r) w5 (w5.setCell ⟨r,1,none⟩ (.slice (some ⟨g2,0,none⟩) (N+1) c2)):=(XF4.refl (λq=>q=r) w5).setCell (a:=⟨r,1,none⟩) (λ_=>rfl) _;have hs6:=HS5.o.touch t6 HNE3.o
    have HOWR:Hid (Rec w4 w3.drew.heap.size 32 (List.replicate nw (.int .u64 0))):=⟨by
     have:=Yt7 HOW.o;rw[show (madeCells (Value.int .u64 0).cells (nw*1)).toList=List.replicate nw (.int .u64 0)by rw[ξO];exact J0U _ _]at this
     exact this⟩
    have HFIN:Hid (∀w7,Gr (w5.setCell ⟨r,1,none⟩ (.slice (some ⟨g2,0,none⟩) (N+1) c2)) w7->JIJ w S r C (g.add m pp ff kk) (.int .i64 0) (.returned (.int .i64 0)) (w7.setCell ⟨sb,m,none⟩ (.int .i64 (N+1:Nat)))):=⟨λw7 g7=>by
     have hz3:w.heap.size<=w3.drew.heap.size:=HG3.o.size;have hz4:=HGA.o.size;have hN:=HNN.o;have ho5:=HO5.o;obtain⟨s1,s2,s3,s4⟩:=HSS.o;have hadd:=HADD.o w4 w5 w7 w3.drew.heap.size g2 c2 HGA.o hz3 HOWR.o HT5.o;rw[<-hN]at hadd
     have hA:=hadd (by
      have e:obL (GOb.new pp ff kk) w3.drew.heap.size=[.int .i64 pp,.int .i64 ff,.int .i64 kk,.slice (some ⟨w3.drew.heap.size,0,none⟩) nw nw]:=by
       unfold obL GOb.new;simp only[ζ1];rw[<-HNW.o]
      rw[e]
      exact ho5) g7
     refine⟨rfl,?_,_,sb,_,hA,.inl s1,.inl s2,λq hq=>?_,λi hi=>?_⟩
     ·exact((((HGA.o.touch S).trans' HT5.o (λq _ h=>s3 q h)).trans' t6 (λq _ h=>by rw[show q=r from h];exact s1)).trans (g7.touch S)).setCell (λ_=>s2) _
     ·cases hq;rcases HA5.o with h|h
      ·exact .inl (s3 _ h)
      ·exact .inr (show w.heap.size<=g2 by omega)
     ·rw[show (g.add m pp ff kk).L.length=g.L.length+1 by show (g.L++[GOb.new pp ff kk]).length=_;rw[ζi];rfl]at hi;by_cases e:i=N
      ·rw[χ e];exact .inr hz3
      ·rw[ν e];exact .inl (s4 i Ω)⟩
    obtain⟨w6,hw6⟩:∃w6,w6=w5.setCell ⟨r,1,none⟩ (.slice (some ⟨g2,0,none⟩) (N+1) c2):=⟨_,rfl⟩;rw[<-hw6]at hr6 hs6 HFIN⊢;have HR6:=hid hr6;have HS6:=hid hs6;have u3:=hs6.cell (Ypr HM.o);have uf:=hs6.free m;clear hw6 t6 hr6 hs6 z1 zf;generalize g.S.getD m 0=sm at u3;go_upto_region 10 with(fail);obtain⟨Sx,hSx⟩:∃Sx:World->Prop,Sx=λW'=>Gr w6 W':=⟨_,rfl⟩;have y1:∀p:ZJV Sx,p.w.cell? ⟨r,1,none⟩=some (.slice (some ⟨g2,0,none⟩) (N+1) c2):=λp=>by have h:=ZJV.get hSx p;exact(HR6.o.gr h).cell (j:=1) rfl
    have y2:∀p:ZJV Sx,p.w.cell? ⟨r,2,none⟩=some (.slice (some ⟨sb,0,none⟩) ns ns):=λp=>by have h:=ZJV.get hSx p;exact(HR6.o.gr h).cell (j:=2) rfl
    have HS:Hid (∀W',Gr w6 W'->Sx W'):=⟨λW' h=>by rw[hSx];exact h⟩;have hS0:=HS.o _ ((Gr.refl w6).drew);have inst:Inhabited (ZJV Sx):=⟨⟨_,hS0⟩⟩;clear hSx;refine Vv2 Sx 11 [([0,1,2,3,4,5,6,7,8,9,10],11)] [] (by kernel_rfl) (by kernel_rfl) hS0 ?_;refine XGW ?_
    try simp only[XZy,ξ,ζ]
    repeat(go_big_quiet_step (fail))
    refine φ ?_;go_wp2;refine⟨.inl trivial,?_⟩;refine Z9U ?_;refine φ ?_;refine δ ?_;clear y1 y2 hS0 inst;clear HS Sx;go_wp2;go_ret;exact HFIN.o _ (Gr.refl w6).drew
  ·have hE:g.alE C a x=15:=by unfold Gph.alE;rw[hs,χ rfl,χ he]
   have hG:g.alG C a x=g:=by unfold Gph.alG;rw[hE];rfl
   rw[hE,hG];rw[show Z3o x=0 from ν he]at HSZ;have HF:Hid (∀W,Gr w W->JIJ w S r C g (.int .i64 15) (.returned (.int .i64 15)) W):=⟨λW gW=>⟨rfl,HNO.o W gW⟩⟩;clear hE hG he hs h s1 s2 s3 s4 HNO hlen;go_enter func17,ntmps17;go_upto_region 1 with(fail);rw[<-HWB.o]
   go_wp2_with(first
    | (go_at_call 21;refine(HS.o _ HB.o).mono ?_;rintro e w1 ⟨rfl,rfl⟩)
    | (go_at_call 27;refine(HSZ.o _).mono ?_;rintro e w2 ⟨rfl,hg⟩;have HG2:=hid (HB.o.trans hg);clear hg))
   go_ret;exact HF.o _ HG2.o
 ·rw[ζD]at hs;rw[hs]at HS;have hE:g.alE C a x=17:=by unfold Gph.alE;rw[hs];rfl
  have hG:g.alG C a x=g:=by unfold Gph.alG;rw[hE];rfl
  rw[hE,hG];have HF:Hid (∀W,Gr w W->JIJ w S r C g (.int .i64 17) (.returned (.int .i64 17)) W):=⟨λW gW=>⟨rfl,HNO.o W gW⟩⟩;clear hE hG hs h s1 s2 s3 s4 HNO hlen;go_enter func17,ntmps17;go_upto_region 1 with(fail);rw[<-HWB.o];go_wp2_with(go_at_call 21;refine(HS.o _ HB.o).mono ?_;rintro e w1 ⟨rfl,rfl⟩);go_ret;exact HF.o _ HB.o
end
end
end
section
section
open Go.RowKit Word
section
variable {w w':World} {r C:Nat} {g:Gph} {lv:Value} {sb:Nat} {B:Nat->Nat} {S:Nat->Prop}
theorem XW7.sset(h:XW7 w r C g lv sb B){m y:Nat}(hy:y<=g.L.length):XW7 (w.setCell ⟨sb,m,none⟩ (.int .i64 (y:Nat))) r C (g.setSl m y) lv sb B:=by
 have t:XF4 (λq=>q=sb) w (w.setCell ⟨sb,m,none⟩ (.int .i64 (y:Nat))):=(XF4.refl (λq=>q=sb) w).setCell (a:=⟨sb,m,none⟩) (λ_=>rfl) _;have hl:(g.setSl m y).S.length=g.S.length:=ζf;refine⟨?_,Zs2 h.own t (λk hk=>YnK h.own h.sl (by decide) hk rfl),?_,λi hi=>(h.wr i hi).touch t (YnK (h.wr i hi) h.sl (by decide) rfl rfl),h.inj,h.len,by rw[hl];exact h.sn,h.cb,⟨h.ok.len,h.ok.pt,λz hz=>?_⟩,h.wd⟩
 ·rw[hl];exact h.row.touch t (YnK h.row h.sl (by decide) rfl rfl)
 ·have:=h.sl.set m (.int .i64 (y:Nat))
  show Rec _ _ _ (ZKn (g.S.set m y))
  unfold ZKn at this⊢;rw[ζ8];exact this
 ·rcases ζl hz with h1|h1
  ·exact h.ok.st z h1
  ·rw[h1];exact hy
def mvE(x:GOp)(g:Gph):Int:=if x.kd=8 then g.two x.a x.b 0 else if x.kd=2 then g.loE x.a x.b x.i else g.stE x.a x.i x.b
def mvG(x:GOp)(g:Gph):Gph:=if x.kd=8 then g.cpG x.a x.b else if x.kd=2 then g.loG x.a x.b x.i else g.stG x.a x.i x.b
theorem Jt3{x:GOp}{g:Gph}(h:(g.sl x.a&&g.sl x.b)=false):mvE x g=17/\mvG x g=g:=by
 unfold mvE mvG Gph.cpG Gph.loG Gph.stG Gph.loE Gph.stE Gph.two;rw[h]
 split
 ·exact⟨rfl,rfl⟩
 ·split <;> exact⟨rfl,rfl⟩
theorem JHz(h:XW7 w r C g lv sb B){a:Nat}(ha:a<g.S.length){i:Int}(he:g.fdE a i 1=0):g.fdV a i 1<=g.L.length:=by
 obtain⟨x,n,hx,hx1,hxl,rfl,hn,hv,hk⟩:=Zwn h ha he;have hl:=h.ok.len _ (Gph.ob_mem hx1 hxl)
 have hnp:n<(g.ob x).p:=by
  unfold Yoq GOb.hdr at hk;dsimp only at hk
  split at hk
  ·split at hk
   ·omega
   ·split at hk <;> cases hk
  ·cases hk
 rw[hv];refine h.ok.pts_le (x:=x) ?_;unfold Gph.pts;rw[θ,μ hn,ξb];exact ξn.2 ⟨n,by omega,rfl⟩
theorem ZH3.sset(hA:ZH3 w S r C g){m y:Nat}(hy:y<=g.L.length):∃sb:Nat,w.cell? ⟨r,2,none⟩=some (.slice (some ⟨sb,0,none⟩) g.S.length g.S.length)/\∀W,Gr w W->Rec W r 57 [.int .i64 C,(W.cell? ⟨r,1,none⟩).getD undef,.slice (some ⟨sb,0,none⟩) g.S.length g.S.length]/\Rec W sb 3 (ZKn g.S)/\JIJ w S r C (g.setSl m y) (.int .i64 0) (.returned (.int .i64 0)) (W.setCell ⟨sb,m,none⟩ (.int .i64 (y:Nat))):=by
 obtain⟨lv,sb,B,h,s1,s2,s3,s4⟩:=hA;refine⟨sb,h.row.cell (j:=2) rfl,λW gW=>?_⟩;have h2:=h.gr gW;have hc:W.cell? ⟨r,1,none⟩=some lv:=h2.row.cell (j:=1) rfl;rw[hc];refine⟨h2.row,h2.sl,rfl,(gW.touch S).setCell (λ_=>s2) _,_,_,_,h2.sset hy,.inl s1,.inl s2,λk hk=>.inl (s3 k hk),λi hi=>.inl (s4 i hi)⟩
def Qol(x:GOp):Array Value:=#[.int .i64 x.kd,.int .i64 x.a,.int .i64 x.b,.int .i64 x.i,.int .i64 x.h.p,.int .i64 x.h.f,.int .i64 x.h.k,.int .u64 (x.wd:Nat),.float .f64 x.fl]
theorem XxK(hA:ZH3 w S r C g)(x:GOp):Calls prog 18 #[.pointer (some ⟨r,0,none⟩),.agg (Qol x)] w (JIJ w S r C (mvG x g) (.int .i64 (mvE x g))):=by
 obtain⟨kd,xa,xb,xi,xh,xw,xf⟩:=x;have HAT:=hid hA;obtain⟨lv,sb,B,h,s1,s2,s3,s4⟩:=hA;have HS1:=hid (λ(W:World) (gW:Gr w W)=>J8q (h.gr gW) xa xa);have HS2:=hid (λ(W:World) (gW:Gr w W)=>J8q (h.gr gW) xb xb);rw[ξK]at HS1 HS2;have HNO:=hid (λ(W:World) (gW:Gr w W)=>(show XF4 S w W/\ZH3 W (VVO S w) r C g from⟨gW.touch S,_,_,_,h.gr gW,.inl s1,.inl s2,λk hk=>.inl (s3 k hk),λi hi=>.inl (s4 i hi)⟩));have HB:=hid ((Gr.refl w).alloc (.cells (Qol ⟨kd,xa,xb,xi,xh,xw,xf⟩) 35));have hrx:Rec (w.alloc (.cells (Qol ⟨kd,xa,xb,xi,xh,xw,xf⟩) 35)) w.heap.size 35 (opL ⟨kd,xa,xb,xi,xh,xw,xf⟩):=Rec.new w 35 (opL ⟨kd,xa,xb,xi,xh,xw,xf⟩);obtain⟨wb,hwb⟩:∃wb,wb=w.alloc (.cells (Qol ⟨kd,xa,xb,xi,xh,xw,xf⟩) 35):=⟨_,rfl⟩;rw[<-hwb]at HB hrx;have HWB:=hid hwb;have HRX:=hid hrx;have k0:=hrx.cell (j:=0) rfl;have k1:=hrx.cell (j:=1) rfl;have k2:=hrx.cell (j:=2) rfl;have k3:=hrx.cell (j:=3) rfl;have kl:=hrx.lt;unfold Qol at HWB⊢;dsimp only at HWB⊢;clear hrx hwb;by_cases hab:(g.sl xa&&g.sl xb)=true
 ·rw[ζd]at hab;obtain⟨ha,hb⟩:=hab;rw[ha]at HS1;rw[hb]at HS2;obtain⟨m,hxa,hm1⟩:=J9p ha;obtain⟨n,hxb,hn1⟩:=J9p hb;have hTW:∀e:Int,g.two xa xb e=e:=λe=>by unfold Gph.two;rw[ha,hb];rfl
  have hsn:=h.sn;have hmI:(m:Int)<(g.S.length:Int):=Ω
  have hnI:(n:Int)<(g.S.length:Int):=Ω
  have hm:=hid (show True from trivial);by_cases h8:kd=8
  ·have hE:mvE ⟨kd,xa,xb,xi,xh,xw,xf⟩ g=0:=by unfold mvE;rw[χ h8,hTW]
   have hG:mvG ⟨kd,xa,xb,xi,xh,xw,xf⟩ g=g.setSl m (g.S.getD n 0):=by
    unfold mvG Gph.cpG;rw[χ h8,ha,hb,hxa,hxb];rfl
   rw[hE,hG];have hy:=h.sto hn1;obtain⟨sb',c2,HSB⟩:=HAT.o.sset (m:=m) hy;have HSB:=hid HSB
   have HC:Hid (∀W,Gr w W->W.cell? ⟨r,2,none⟩=some (.slice (some ⟨sb',0,none⟩) g.S.length g.S.length)/\W.cell? ⟨sb',n,none⟩=some (.int .i64 (g.S.getD n 0:Nat))/\W.cell? ⟨sb',m,none⟩=some (.int .i64 (g.S.getD m 0:Nat))/\W.frozen? ⟨sb',m,none⟩=false/\r<W.heap.size/\sb' < W.heap.size):=⟨λW gW=>by
    obtain⟨q1,q2,-⟩:=HSB.o W gW
    exact⟨q1.cell (j:=2) rfl,q2.cell (Ypr hn1),q2.cell (Ypr hm1),q2.free m,q1.lt,q2.lt⟩⟩
   have HF:=hid (λ(W:World) (gW:Gr w W)=>(HSB.o W gW).2.2);have d8:(kd==8)=true:=by rw[ζu];exact h8
   subst hxa;subst hxb;generalize g.S.getD n 0=y at HC HF;generalize g.S.getD m 0=y0 at HC;generalize g.S.length=ns at HC hmI hnI hsn;generalize g.setSl m y=g2 at HF;clear hE hG hTW h8 ha hb hm1 hn1 hy c2 h s1 s2 s3 s4 HNO HAT HSB;go_enter func18,ntmps18;go_upto_region 1 with(fail);rw[<-HWB.o]
   go_upto_region 4 with(first
    | (go_at_call 21;clear hm;refine(HS1.o _ HB.o).mono ?_;rintro e w1 ⟨rfl,rfl⟩)
    | (go_at_call 21;refine(HS2.o _ HB.o).mono ?_;rintro e w1 ⟨rfl,rfl⟩))
   obtain⟨v1,v2,v3,v4,v5,v6⟩:=HC.o _ HB.o;obtain⟨Sx,hSx⟩:∃Sx:World->Prop,Sx=λW'=>Gr wb W':=⟨_,rfl⟩;have y1:∀p:ZJV Sx,p.w.cell? ⟨r,2,none⟩=some (.slice (some ⟨sb',0,none⟩) ns ns):=λp=>by have h:=ZJV.get hSx p;exact(HC.o _ (HB.o.trans h)).1
   have y2:∀p:ZJV Sx,p.w.cell? ⟨w.heap.size,1,none⟩=some (.int .i64 m):=λp=>by have h:=ZJV.get hSx p;exact(HRX.o.gr h).cell (j:=1) rfl
   have y3:∀p:ZJV Sx,p.w.cell? ⟨w.heap.size,2,none⟩=some (.int .i64 n):=λp=>by have h:=ZJV.get hSx p;exact(HRX.o.gr h).cell (j:=2) rfl
   have y4:∀p:ZJV Sx,p.w.cell? ⟨sb',n,none⟩=some (.int .i64 (y:Nat)):=λp=>by have h:=ZJV.get hSx p;exact(HC.o _ (HB.o.trans h)).2.1
   have HS:Hid (∀W',Gr wb W'->Sx W'):=⟨λW' h=>by rw[hSx];exact h⟩;have hS0:=HS.o _ ((Gr.refl wb).drew);have inst:Inhabited (ZJV Sx):=⟨⟨_,hS0⟩⟩;clear hSx;refine Vv2 Sx 15 [([0,1,2,3,4,5,6,7,8,9,10,11,12,13,14],15)] [] (by kernel_rfl) (by kernel_rfl) hS0 ?_;refine XGW ?_
   try simp only[XZy,ξ,ζ]
   repeat(go_big_quiet_step (fail))
   refine φ ?_;go_wp2;refine⟨.inl trivial,?_⟩;refine Z9U ?_;refine φ ?_;refine δ ?_;clear y1 y2 y3 y4 hS0 inst;clear HS Sx;go_wp2;go_ret;exact HF.o _ HB.o.drew
  ·have d8:(kd==8)=false:=by rw[σ];exact h8
   by_cases h2:kd=2
   ·have d2:(kd==2)=true:=by rw[ζu];exact h2
    have hE:mvE ⟨kd,xa,xb,xi,xh,xw,xf⟩ g=g.fdE xb xi 1:=by unfold mvE;rw[ν h8,χ h2];exact hTW _
    have hG:mvG ⟨kd,xa,xb,xi,xh,xw,xf⟩ g=if g.fdE xb xi 1=0 then g.setSl xa (g.fdV xb xi 1)else g:=by
     unfold mvG Gph.loG;rw[ν h8,χ h2];unfold Gph.loE;rw[hTW]
    rw[hE,hG];have HGT:=hid (λ(W:World) (gW:Gr w W)=>Zp8 (h.gr gW) xb xi 1);subst hxa;by_cases he:g.fdE xb xi 1=0
    ·have hy:g.fdV xb xi 1<=g.L.length:=by rw[hxb]at he⊢;exact JHz h hn1 he
     obtain⟨sb',c2,HSB⟩:=HAT.o.sset (m:=m) hy;have HSB:=hid HSB
     have HC:Hid (∀W,Gr w W->W.cell? ⟨r,2,none⟩=some (.slice (some ⟨sb',0,none⟩) g.S.length g.S.length)/\W.cell? ⟨sb',m,none⟩=some (.int .i64 (g.S.getD m 0:Nat))/\W.frozen? ⟨sb',m,none⟩=false/\r<W.heap.size/\sb' < W.heap.size):=⟨λW gW=>by
      obtain⟨q1,q2,-⟩:=HSB.o W gW
      exact⟨q1.cell (j:=2) rfl,q2.cell (Ypr hm1),q2.free m,q1.lt,q2.lt⟩⟩
     have HF:=hid (λ(W:World) (gW:Gr w W)=>(HSB.o W gW).2.2);have hln:=h.len;have hyb:g.fdV xb xi 1<=1000:=Ω
     rw[χ he,he];rw[he]at HGT;generalize g.fdV xb xi 1=y at HGT HF hyb;generalize g.S.getD m 0=y0 at HC;generalize g.S.length=ns at HC hmI hnI hsn;generalize g.setSl m y=g2 at HF;clear hE hG hTW h8 h2 ha hb hxb hm1 hn1 hy c2 h s1 s2 s3 s4 HNO HAT HSB he hln;go_enter func18,ntmps18;go_upto_region 1 with(fail);rw[<-HWB.o]
     go_upto_region 7 with(first
      | (go_at_call 21;clear hm;refine(HS1.o _ HB.o).mono ?_;rintro e w1 ⟨rfl,rfl⟩)
      | (go_at_call 21;refine(HS2.o _ HB.o).mono ?_;rintro e w1 ⟨rfl,rfl⟩))
     go_upto_region 9 with(go_at_call 19;refine(HGT.o _ HB.o).mono ?_;rintro e w4 ⟨rfl,hg⟩;have HB4:=hid hg;clear hg);obtain⟨v1,v2,v3,v4,v5⟩:=HC.o _ (HB.o.trans HB4.o);clear k0 k1 k2 k3 kl;obtain⟨Sx,hSx⟩:∃Sx:World->Prop,Sx=λW'=>Gr wb W':=⟨_,rfl⟩;have y1:∀p:ZJV Sx,p.w.cell? ⟨r,2,none⟩=some (.slice (some ⟨sb',0,none⟩) ns ns):=λp=>by have h:=ZJV.get hSx p;exact(HC.o _ (HB.o.trans h)).1
     have y2:∀p:ZJV Sx,p.w.cell? ⟨w.heap.size,1,none⟩=some (.int .i64 m):=λp=>by have h:=ZJV.get hSx p;exact(HRX.o.gr h).cell (j:=1) rfl
     have HS:Hid (∀W',Gr wb W'->Sx W'):=⟨λW' h=>by rw[hSx];exact h⟩;have hS0:=HS.o _ (HB4.o.drew);have inst:Inhabited (ZJV Sx):=⟨⟨_,hS0⟩⟩;clear hSx;refine Vv2 Sx 9 [([0,1,2,3,4,5,6,7,8],9)] [] (by kernel_rfl) (by kernel_rfl) hS0 ?_;refine XGW ?_
     try simp only[XZy,ξ,ζ]
     repeat(go_big_quiet_step (fail))
     refine φ ?_;go_wp2;refine⟨.inl trivial,?_⟩;refine Z9U ?_;refine φ ?_;refine δ ?_;clear y1 y2 hS0 inst;clear HS Sx;go_wp2;go_ret;exact HF.o _ (HB.o.trans HB4.o).drew
    ·rw[ν he];have HF:Hid (∀W,Gr w W->JIJ w S r C g (.int .i64 (g.fdE xb xi 1)) (.returned (.int .i64 (g.fdE xb xi 1))) W):=⟨λW gW=>⟨rfl,HNO.o W gW⟩⟩;have d0:(g.fdE xb xi 1==0)=false:=by rw[σ];exact he
     generalize g.fdE xb xi 1=E at HF HGT d0⊢;generalize g.fdV xb xi 1=y at HGT;clear hE hG hTW h8 h2 ha hb hxb hm1 hn1 h s1 s2 s3 s4 HNO HAT he;go_enter func18,ntmps18;go_upto_region 1 with(fail);rw[<-HWB.o]
     go_upto_region 7 with(first
      | (go_at_call 21;clear hm;refine(HS1.o _ HB.o).mono ?_;rintro e w1 ⟨rfl,rfl⟩)
      | (go_at_call 21;refine(HS2.o _ HB.o).mono ?_;rintro e w1 ⟨rfl,rfl⟩))
     go_wp2_with(go_at_call 19;refine(HGT.o _ HB.o).mono ?_;rintro e w4 ⟨rfl,hg⟩;have HB4:=hid hg;clear hg);go_ret;exact HF.o _ (HB.o.trans HB4.o)
   ·have d2:(kd==2)=false:=by rw[σ];exact h2
    have hE:mvE ⟨kd,xa,xb,xi,xh,xw,xf⟩ g=g.fdE xa xi 1:=by unfold mvE;rw[ν h8,ν h2];exact hTW _
    have hG:mvG ⟨kd,xa,xb,xi,xh,xw,xf⟩ g=g.wrG xa xi 1 (g.S.getD n 0):=by
     unfold mvG Gph.stG Gph.wrG;rw[ν h8,ν h2];unfold Gph.stE;rw[hTW];have:g.at xb=g.S.getD n 0:=by rw[hxb];rfl
     rw[this]
    rw[hE,hG];have hy:=h.sto hn1;have hln:=h.len;have HSET:=hid (λ(W:World) (gW:Gr w W)=>XDY (HAT.o.gr gW) xa xi 1 (y:=g.S.getD n 0) Ω (λ_=>hy));have HC:Hid (∀W,Gr w W->W.cell? ⟨r,2,none⟩=some (.slice (some ⟨sb,0,none⟩) g.S.length g.S.length)/\W.cell? ⟨sb,n,none⟩=some (.int .i64 (g.S.getD n 0:Nat))):=⟨λW gW=>⟨(h.gr gW).row.cell (j:=2) rfl,(h.gr gW).slot hn1⟩⟩;have hyb:g.S.getD n 0<=1000:=Ω
    subst hxb;generalize g.S.getD n 0=y at HSET HC hyb⊢;generalize g.wrG xa xi 1 y=g2 at HSET⊢;generalize g.fdE xa xi 1=E at HSET⊢;generalize g.S.length=ns at HC hmI hnI hsn;clear hE hG hTW h8 h2 ha hb hxa hm1 hn1 hy h s1 s2 s3 s4 HNO HAT hln;go_enter func18,ntmps18;go_upto_region 1 with(fail);rw[<-HWB.o]
    go_upto_region 11 with(first
     | (go_at_call 21;clear hm;refine(HS1.o _ HB.o).mono ?_;rintro e w1 ⟨rfl,rfl⟩)
     | (go_at_call 21;refine(HS2.o _ HB.o).mono ?_;rintro e w1 ⟨rfl,rfl⟩))
    clear k0 k1 k2 k3 kl;obtain⟨Sx,hSx⟩:∃Sx:World->Prop,Sx=λW'=>Gr wb W':=⟨_,rfl⟩;have y1:∀p:ZJV Sx,p.w.cell? ⟨w.heap.size,1,none⟩=some (.int .i64 xa):=λp=>by have h:=ZJV.get hSx p;exact(HRX.o.gr h).cell (j:=1) rfl
    have y2:∀p:ZJV Sx,p.w.cell? ⟨w.heap.size,3,none⟩=some (.int .i64 xi):=λp=>by have h:=ZJV.get hSx p;exact(HRX.o.gr h).cell (j:=3) rfl
    have y3:∀p:ZJV Sx,p.w.cell? ⟨r,2,none⟩=some (.slice (some ⟨sb,0,none⟩) ns ns):=λp=>by have h:=ZJV.get hSx p;exact(HC.o _ (HB.o.trans h)).1
    have y4:∀p:ZJV Sx,p.w.cell? ⟨w.heap.size,2,none⟩=some (.int .i64 n):=λp=>by have h:=ZJV.get hSx p;exact(HRX.o.gr h).cell (j:=2) rfl
    have y5:∀p:ZJV Sx,p.w.cell? ⟨sb,n,none⟩=some (.int .i64 (y:Nat)):=λp=>by have h:=ZJV.get hSx p;exact(HC.o _ (HB.o.trans h)).2
    have HS:Hid (∀W',Gr wb W'->Sx W'):=⟨λW' h=>by rw[hSx];exact h⟩;have hS0:=HS.o _ ((Gr.refl wb).drew);have inst:Inhabited (ZJV Sx):=⟨⟨_,hS0⟩⟩;clear hSx;refine Ztp Sx 14 [([0,1,2,3,4,5,6,7,8,9,10,11,12,13],14)] [15] (by kernel_rfl) (by kernel_rfl) hS0 ?_;refine VvO ?_
    try simp only[XZy,ξ,ζ]
    repeat(go_big_quiet_step (fail))
    refine φ ?_;go_wp2_with((go_at_call 20;refine(HSET.o _ HB.o.drew).mono ?_;rintro e w5 ⟨rfl,ht5,hr5⟩;have HT5:=hid ht5;have HR5:=hid hr5;clear ht5 hr5));refine⟨.inl trivial,?_⟩;refine JV4 ?_
    try simp only[XZy,ξ,ζ]
    repeat(go_big_quiet_step (fail))
    refine φ ?_;refine δ ?_;clear y1 y2 y3 y4 y5 hS0 inst;clear HS Sx;go_wp2;go_ret;exact⟨rfl,(HB.o.drew.touch S).trans HT5.o,HR5.o.mono (λ_ h=>.inl h)⟩
 ·rw[ζD]at hab;obtain⟨hE,hG⟩:=Jt3 (x:=⟨kd,xa,xb,xi,xh,xw,xf⟩) hab;rw[hE,hG];have HF:Hid (∀W,Gr w W->JIJ w S r C g (.int .i64 17) (.returned (.int .i64 17)) W):=⟨λW gW=>⟨rfl,HNO.o W gW⟩⟩;clear hE hG h s1 s2 s3 s4 HNO HAT;generalize g.sl xa=z1 at HS1 hab;generalize g.sl xb=z2 at HS2 hab;cases z1 with
  | false=>
   go_enter func18,ntmps18;go_upto_region 1 with(fail);rw[<-HWB.o];go_wp2_with(go_at_call 21;refine(HS1.o _ HB.o).mono ?_;rintro e w1 ⟨rfl,rfl⟩);go_ret;exact HF.o _ HB.o
  | true=>
   have hz2:z2=false:=by simpa using hab
   subst hz2;have hm:=hid (show True from trivial);go_enter func18,ntmps18;go_upto_region 1 with(fail);rw[<-HWB.o]
   go_wp2_with(first
    | (go_at_call 21;clear hm;refine(HS1.o _ HB.o).mono ?_;rintro e w1 ⟨rfl,rfl⟩)
    | (go_at_call 21;refine(HS2.o _ HB.o).mono ?_;rintro e w1 ⟨rfl,rfl⟩))
   go_ret;exact HF.o _ HB.o
end
end
end
section
section
open Go.RowKit Word
def JAk(e:GRe):List Value:=[.int .i64 e.code,.bool e.is,.int .i64 e.n,.int .u64 (e.wd:Nat),.int .i64 e.h.p,.int .i64 e.h.f,.int .i64 e.h.k]
def Xf9(e:GRe):Value:=.agg (JAk e).toArray
def VcR:List Value:=[.int .i64 0,.bool false,.int .i64 0,.int .u64 0,.int .i64 0,.int .i64 0,.int .i64 0]
theorem JUU{W:World}{b:Nat}{e:GRe}(h:Rec W b 37 (JAk e)):(loadVar 37 ⟨b,0,none⟩).run prog W=.ok (Xf9 e) W:=XkM h (by kernel_rfl) (by kernel_rfl)
structure J7S(w:World)(S:Nat->Prop)(r C:Nat)(g':Gph)(re:GRe)(wx:World):Prop where
 q:Rec wx (w.heap.size+2) 37 (JAk {re with code:=0})
 p:Rec wx (w.heap.size+1) 37 VcR
 t:XF4 S w wx
 r:ZH3 wx (VVO S w) r C g'
section
variable {w w':World} {r C:Nat} {g g':Gph} {lv:Value} {sb:Nat} {B:Nat->Nat} {S:Nat->Prop}
theorem ZH3.away{b T:Nat}{xs:List Value}(h:ZH3 w S r C g)(hb:Rec w b T xs)(h1:57≠T)(h2:3≠T)(h3:74≠T)(h4:32≠T)(t:XF4 (λk=>k=b) w w'):ZH3 w' S r C g:=by
 obtain⟨lv,sb,B,h,s1,s2,s3,s4⟩:=h;exact⟨lv,sb,B,h.touch t (YnK h.row hb h1 rfl rfl) (YnK h.sl hb h2 rfl rfl) (λk hk=>YnK h.own hb h3 hk rfl) (λi hi=>YnK (h.wr i hi) hb h4 rfl rfl),s1,s2,s3,s4⟩
theorem ZH3.reply{b j:Nat}{xs:List Value}{v:Value}(h:ZH3 w S r C g)(hb:Rec w b 37 xs):ZH3 (w.setCell ⟨b,j,none⟩ v) S r C g:=h.away hb (by decide) (by decide) (by decide) (by decide) ((XF4.refl (λk=>k=b) w).setCell (a:=⟨b,j,none⟩) (λ_=>rfl) _)
theorem Q3H{w3 w5:World}(g3:Gr w w3)(hp:Rec w3 (w.heap.size+1) 37 VcR)(hq:Rec w3 (w.heap.size+2) 37 VcR)(hA:ZH3 w S r C g)(g5:Gr w3 w5):J7S w S r C g (.no 0) w5:=
 ⟨hq.gr g5,hp.gr g5,(g3.trans g5).touch S,(hA.gr (g3.trans g5)).mono (λ_ h=>.inl h)⟩
theorem JUm{w3 w5:World}(g3:Gr w w3)(hp:Rec w3 (w.heap.size+1) 37 VcR)(hq:Rec w3 (w.heap.size+2) 37 VcR)(ht:XF4 (λk=>S k/\k<w.heap.size) w3 w5)(hr:ZH3 w5 (VVO (λk=>S k/\k<w.heap.size) w3) r C g'):J7S w S r C g' (.no 0) w5:=
 ⟨hq.touch ht (λh=>by have:=h.2;omega),hp.touch ht (λh=>by have:=h.2;omega),(g3.touch S).trans (ht.mono (λ_ _ h=>h.1)),hr.mono (λk h=>h.elim (λh=>.inl h.1) (λh=>.inr (γ g3.size h)))⟩
theorem J7S.sset{re re':GRe}{wx:World}(h:J7S w S r C g re wx)(j:Nat)(v:Value)(hv:(JAk {re with code:=0}).set j v=JAk {re' with code:=0}):J7S w S r C g re' (wx.setCell ⟨w.heap.size+2,j,none⟩ v):=by
 have t:XF4 (λk=>k=w.heap.size+2) wx (wx.setCell ⟨w.heap.size+2,j,none⟩ v):=(XF4.refl (λk=>k=w.heap.size+2) wx).setCell (a:=⟨w.heap.size+2,j,none⟩) (λ_=>rfl) _;refine⟨?_,h.p.touch t Ω,h.t.setCell (λhh=>absurd (show w.heap.size+2<w.heap.size from hh) Ω) _,h.r.reply h.q⟩;have:=h.q.set j v;rw[hv]at this;exact this
theorem J7S.code{re:GRe}{wx:World}{c:Int}(h:J7S w S r C g re wx):J7S w S r C g {re with code:=c} wx:=⟨h.q,h.p,h.t,h.r⟩
theorem JI1(w:World)(x:GOp):∃w3,w3=((w.alloc (.cells (Qol x) 35)).alloc (.cells #[.int .i64 0,.bool false,.int .i64 0,.int .u64 0,.int .i64 0,.int .i64 0,.int .i64 0] 37)).alloc (.cells #[.int .i64 0,.bool false,.int .i64 0,.int .u64 0,.int .i64 0,.int .i64 0,.int .i64 0] 37)/\Gr w w3/\Rec w3 w.heap.size 35 (opL x)/\Rec w3 (w.heap.size+1) 37 VcR/\Rec w3 (w.heap.size+2) 37 VcR:=by
 refine⟨_,rfl,(((Gr.refl w).alloc _).alloc _).alloc _,((Rec.new w 35 (opL x)).gr ((Gr.refl _).alloc _)).gr ((Gr.refl _).alloc _),?_,?_⟩
 ·have:=(Rec.new (w.alloc (.cells (Qol x) 35)) 37 VcR).gr ((Gr.refl _).alloc (.cells #[.int .i64 0,.bool false,.int .i64 0,.int .u64 0,.int .i64 0,.int .i64 0,.int .i64 0] 37));rw[τ]at this;exact this
 ·have:=Rec.new ((w.alloc (.cells (Qol x) 35)).alloc (.cells #[.int .i64 0,.bool false,.int .i64 0,.int .u64 0,.int .i64 0,.int .i64 0,.int .i64 0] 37)) 37 VcR;rw[τ,τ]at this;exact this
theorem VKz(hA:ZH3 w S r C g)(hlen:g.L.length+1<=1000)(x:GOp)(hx:x.Bd):Calls prog 8 #[.pointer (some ⟨r,0,none⟩),.agg (Qol x),.int .u64 x.fl] w (JIJ w S r C (x.doG C g) (Xf9 (x.doR C g))):=by
 obtain⟨kd,xa,xb,xi,⟨hp,hf,hk⟩,xw,xf⟩:=x;obtain⟨w3,hw3,hg3,ho,hp3,hq3⟩:=JI1 w ⟨kd,xa,xb,xi,⟨hp,hf,hk⟩,xw,xf⟩;have HW3:=hid hw3;have HG3:=hid hg3;have HO:=hid ho;have HP:=hid hp3;have HQ:=hid hq3;have HAT0:=hid hA;have HAT:=hid hA.cut;have HX:=hid hx;have k0:=ho.cell (j:=0) rfl;have kl:=ho.lt;obtain⟨g2,hgg⟩:∃g2,g2=GOp.doG C ⟨kd,xa,xb,xi,⟨hp,hf,hk⟩,xw,xf⟩ g:=⟨_,rfl⟩;obtain⟨re,hre⟩:∃re,re=GOp.doR C ⟨kd,xa,xb,xi,⟨hp,hf,hk⟩,xw,xf⟩ g:=⟨_,rfl⟩;have HGG:=hid hgg;have HRE:=hid hre;rw[<-hgg,<-hre];clear hw3 hg3 ho hp3 hq3 hA hx hgg hre;unfold Qol at HW3⊢;dsimp only at HW3 k0⊢;go_enter func8,ntmps8;go_upto_region 3 with(fail);rw[<-HW3.o];clear HW3
 go_upto_block 0 with(fail)
 go_cut [8] (λs8 wx=>s8=.int .i64 re.code/\Hid (J7S w S r C g2 re wx))
 case first=>
  have HGRE:=hid (λ(w5:World) (g5:Gr w3 w5)=>Q3H HG3.o HP.o HQ.o HAT0.o g5);have HDO:=hid (λ(w5:World) (g':Gph) (ht:XF4 (λk=>S k/\k<w.heap.size) w3 w5) (hr:ZH3 w5 (VVO (λk=>S k/\k<w.heap.size) w3) r C g')=>JUm HG3.o HP.o HQ.o ht hr);have HRF:=hid (HAT.o.gr HG3.o);obtain⟨lv,sb,B,hH,-⟩:=HRF.o;have HH:=hid hH;have HGET:=hid (λ(a i kk:Int)=>Zp8 HH.o a i kk);have HSUM:=hid (λ(a:Int)=>XGp HH.o a);have HSHP:=hid (λ(a:Int)=>YXt HH.o a);have HORD:=hid (λ(a i b k:Int)=>Z1i HH.o a i b k);have HREA:=hid (Yzm HH.o);have HWDB:=hid (XBA HH.o);unfold JHZ at HREA;have k1:=HO.o.cell (j:=1) rfl;have k2:=HO.o.cell (j:=2) rfl;have k3:=HO.o.cell (j:=3) rfl;have k4:=HO.o.cell (j:=4) rfl;have k5':=HO.o.cell (j:=5) rfl;have k6:=HO.o.cell (j:=6) rfl;have k7:=HO.o.cell (j:=7) rfl;have k8:=HO.o.cell (j:=8) rfl;clear hH;have hkd:kd=1\/kd=2\/kd=3\/kd=4\/kd=5\/kd=6\/kd=7\/kd=8\/kd=9\/kd=10\/kd=11\/kd=12\/kd=13\/kd=14\/kd=15\/kd=16\/kd=17\/(kd<1\/17<kd):=Ω
  rcases hkd with rfl|rfl|rfl|rfl|rfl|rfl|rfl|rfl|rfl|rfl|rfl|rfl|rfl|rfl|rfl|rfl|rfl|hno
  ·have hre:re=.no (g.alE C xa ⟨hp,hf,hk⟩):=HRE.o.trans rfl;have hgg:g2=g.alG C xa ⟨hp,hf,hk⟩:=HGG.o.trans rfl;have HC:=hid (XXh (HAT.o.gr HG3.o) hlen xa ⟨hp,hf,hk⟩);unfold X79 at HC;dsimp only at HC;have HRR:=hid hre;have HGQ:=hid hgg;clear hre hgg HRE HGG;go_wp2_with(go_at_call 17;refine HC.o.mono ?_;rintro e w5 ⟨rfl,ht,hr⟩;have HM:=hid (HDO.o _ _ ht hr);clear ht hr)
   go_meet
   case rel=>
    rw[HRR.o,HGQ.o];exact⟨rfl,⟨HM.o.code⟩⟩
  ·have hre:re=.no (g.loE xa xb xi):=HRE.o.trans rfl;have hgg:g2=g.loG xa xb xi:=HGG.o.trans rfl;have HC:=hid (XxK (HAT.o.gr HG3.o) ⟨2,xa,xb,xi,⟨hp,hf,hk⟩,xw,xf⟩);rw[show mvE ⟨2,xa,xb,xi,⟨hp,hf,hk⟩,xw,xf⟩ g=(g.loE xa xb xi)from rfl,show mvG ⟨2,xa,xb,xi,⟨hp,hf,hk⟩,xw,xf⟩ g=g.loG xa xb xi from rfl]at HC;unfold Qol at HC;dsimp only at HC;have HRR:=hid hre;have HGQ:=hid hgg;clear hre hgg HRE HGG;go_wp2_with(go_at_call 18;refine HC.o.mono ?_;rintro e w5 ⟨rfl,ht,hr⟩;have HM:=hid (HDO.o _ _ ht hr);clear ht hr)
   go_meet
   case rel=>
    rw[HRR.o,HGQ.o];exact⟨rfl,⟨HM.o.code⟩⟩
  ·have hre:re=.no (g.stE xa xi xb):=HRE.o.trans rfl;have hgg:g2=g.stG xa xi xb:=HGG.o.trans rfl;have HC:=hid (XxK (HAT.o.gr HG3.o) ⟨3,xa,xb,xi,⟨hp,hf,hk⟩,xw,xf⟩);rw[show mvE ⟨3,xa,xb,xi,⟨hp,hf,hk⟩,xw,xf⟩ g=(g.stE xa xi xb)from rfl,show mvG ⟨3,xa,xb,xi,⟨hp,hf,hk⟩,xw,xf⟩ g=g.stG xa xi xb from rfl]at HC;unfold Qol at HC;dsimp only at HC;have HRR:=hid hre;have HGQ:=hid hgg;clear hre hgg HRE HGG;go_wp2_with(go_at_call 18;refine HC.o.mono ?_;rintro e w5 ⟨rfl,ht,hr⟩;have HM:=hid (HDO.o _ _ ht hr);clear ht hr)
   go_meet
   case rel=>
    rw[HRR.o,HGQ.o];exact⟨rfl,⟨HM.o.code⟩⟩
  ·have hre:re=⟨g.fdE xa xi 3,false,0,g.fdV xa xi 3,⟨0,0,0⟩⟩:=HRE.o.trans rfl;have hgg:g2=g:=HGG.o.trans rfl;have HC:=hid (HGET.o xa xi 3);have HRR:=hid hre;have HGQ:=hid hgg;clear hre hgg HRE HGG;go_wp2_with(go_at_call 19;refine HC.o.mono ?_;rintro e w5 ⟨rfl,hg⟩;have HM:=hid (HGRE.o _ hg);have zc:=HM.o.q.cell (j:=3) rfl;have zf:=HM.o.q.free 3;have zl:=HM.o.q.lt;clear hg)
   go_meet
   case rel=>
    rw[HRR.o,HGQ.o];exact⟨rfl,⟨(HM.o.sset (re':=⟨g.fdE xa xi 3,false,0,g.fdV xa xi 3,⟨0,0,0⟩⟩) 3 (.int .u64 (g.fdV xa xi 3:Nat)) rfl).code⟩⟩
  ·have hre:re=.no (g.fdE xa xi 3):=HRE.o.trans rfl;have hgg:g2=g.wrG xa xi 3 xw:=HGG.o.trans rfl;have HC:=hid (XDY (HAT.o.gr HG3.o) xa xi 3 (y:=xw) HX.o.wd (λh=>absurd h (by decide)));have HRR:=hid hre;have HGQ:=hid hgg;clear hre hgg HRE HGG;go_wp2_with(go_at_call 20;refine HC.o.mono ?_;rintro e w5 ⟨rfl,ht,hr⟩;have HM:=hid (HDO.o _ _ ht (hr.mono (λ_ h=>.inl h)));clear ht hr)
   go_meet
   case rel=>
    rw[HRR.o,HGQ.o];exact⟨rfl,⟨HM.o.code⟩⟩
  ·have hre:re=⟨g.fdE xa xi 2,false,0,g.fdV xa xi 2,⟨0,0,0⟩⟩:=HRE.o.trans rfl;have hgg:g2=g:=HGG.o.trans rfl;have HC:=hid (HGET.o xa xi 2);have HRR:=hid hre;have HGQ:=hid hgg;clear hre hgg HRE HGG;go_wp2_with(go_at_call 19;refine HC.o.mono ?_;rintro e w5 ⟨rfl,hg⟩;have HM:=hid (HGRE.o _ hg);have zc:=HM.o.q.cell (j:=3) rfl;have zf:=HM.o.q.free 3;have zl:=HM.o.q.lt;clear hg)
   go_meet
   case rel=>
    rw[HRR.o,HGQ.o];exact⟨rfl,⟨(HM.o.sset (re':=⟨g.fdE xa xi 2,false,0,g.fdV xa xi 2,⟨0,0,0⟩⟩) 3 (.int .u64 (g.fdV xa xi 2:Nat)) rfl).code⟩⟩
  ·have hre:re=.no (g.fdE xa xi 2):=HRE.o.trans rfl;have hgg:g2=g.wrG xa xi 2 xf:=HGG.o.trans rfl;have HC:=hid (XDY (HAT.o.gr HG3.o) xa xi 2 (y:=xf) HX.o.fl (λh=>absurd h (by decide)));have HRR:=hid hre;have HGQ:=hid hgg;clear hre hgg HRE HGG;go_wp2_with(go_at_call 20;refine HC.o.mono ?_;rintro e w5 ⟨rfl,ht,hr⟩;have HM:=hid (HDO.o _ _ ht (hr.mono (λ_ h=>.inl h)));clear ht hr)
   go_meet
   case rel=>
    rw[HRR.o,HGQ.o];exact⟨rfl,⟨HM.o.code⟩⟩
  ·have hre:re=.no (g.two xa xb 0):=HRE.o.trans rfl;have hgg:g2=g.cpG xa xb:=HGG.o.trans rfl;have HC:=hid (XxK (HAT.o.gr HG3.o) ⟨8,xa,xb,xi,⟨hp,hf,hk⟩,xw,xf⟩);rw[show mvE ⟨8,xa,xb,xi,⟨hp,hf,hk⟩,xw,xf⟩ g=(g.two xa xb 0)from rfl,show mvG ⟨8,xa,xb,xi,⟨hp,hf,hk⟩,xw,xf⟩ g=g.cpG xa xb from rfl]at HC;unfold Qol at HC;dsimp only at HC;have HRR:=hid hre;have HGQ:=hid hgg;clear hre hgg HRE HGG;go_wp2_with(go_at_call 18;refine HC.o.mono ?_;rintro e w5 ⟨rfl,ht,hr⟩;have HM:=hid (HDO.o _ _ ht hr);clear ht hr)
   go_meet
   case rel=>
    rw[HRR.o,HGQ.o];exact⟨rfl,⟨HM.o.code⟩⟩
  ·have hre:re=.no (g.slE xa):=HRE.o.trans rfl;have hgg:g2=g.clG xa:=HGG.o.trans rfl;have HC:=hid (J8q HH.o xa xa);rw[ξK]at HC;by_cases hs:g.sl xa=true
   ·rw[hs]at HC;obtain⟨m,rfl,hm⟩:=J9p hs;have HRR:Hid (re=.no 0):=⟨by rw[hre];unfold Gph.slE;rw[hs];rfl⟩;have HGQ:Hid (g2=g.setSl m 0):=⟨by rw[hgg];unfold Gph.clG;rw[hs];rfl⟩;obtain⟨sb',c2,HSB⟩:=HRF.o.sset (m:=m) (y:=0) (ζb _);have HSB:=hid HSB;have hmI:(m:Int)<(g.S.length:Int):=Ω
    have hsn:=HH.o.sn
    have HCC:Hid (∀W,Gr w3 W->W.cell? ⟨r,2,none⟩=some (.slice (some ⟨sb',0,none⟩) g.S.length g.S.length)/\W.cell? ⟨sb',m,none⟩=some (.int .i64 (g.S.getD m 0:Nat))/\W.frozen? ⟨sb',m,none⟩=false/\r<W.heap.size/\sb' < W.heap.size):=⟨λW gW=>by
     obtain⟨q1,q2,-⟩:=HSB.o W gW
     exact⟨q1.cell (j:=2) rfl,q2.cell (Ypr hm),q2.free m,q1.lt,q2.lt⟩⟩
    have HF:=hid (λ(W:World) (gW:Gr w3 W)=>(HSB.o W gW).2.2);generalize g.S.getD m 0=y0 at HCC;generalize g.S.length=ns at HCC hmI hsn;clear hre hgg HRE HGG hs hm c2;go_upto_region 22 with(go_at_call 21;refine HC.o.mono ?_;rintro e w5 ⟨rfl,rfl⟩);obtain⟨v1,v2,v3,v4,v5⟩:=HCC.o _ (Gr.refl w3);obtain⟨Sx,hSx⟩:∃Sx:World->Prop,Sx=λW'=>Gr w3 W':=⟨_,rfl⟩;have u1:∀p:ZJV Sx,p.w.cell? ⟨r,2,none⟩=some (.slice (some ⟨sb',0,none⟩) ns ns):=λp=>by have h:=ZJV.get hSx p;exact(HCC.o _ h).1
    have u2:∀p:ZJV Sx,p.w.cell? ⟨w.heap.size,1,none⟩=some (.int .i64 m):=λp=>by have h:=ZJV.get hSx p;exact(HO.o.gr h).cell (j:=1) rfl
    have HS:Hid (∀W',Gr w3 W'->Sx W'):=⟨λW' h=>by rw[hSx];exact h⟩;have hS0:=HS.o _ ((Gr.refl w3).drew);have inst:Inhabited (ZJV Sx):=⟨⟨_,hS0⟩⟩;clear hSx;refine Vv2 Sx 7 [([0,1,2,3,4,5,6],7)] [] (by kernel_rfl) (by kernel_rfl) hS0 ?_;refine XGW ?_
    try simp only[XZy,ξ,ζ]
    repeat(go_big_quiet_step (fail))
    refine φ ?_;go_wp2;refine⟨.inl trivial,?_⟩;refine Z9U ?_;refine φ ?_;refine δ ?_;clear u1 u2 hS0 inst;clear HS Sx;go_wp2
    go_meet
    case rel=>
     obtain⟨-,ht,hr⟩:=HF.o _ (Gr.refl w3).drew;rw[HRR.o,HGQ.o];exact⟨rfl,⟨(HDO.o _ _ ht hr).code⟩⟩
   ·rw[ζD]at hs;rw[hs]at HC;have HRR:Hid (re=.no 17):=⟨by rw[hre];unfold Gph.slE;rw[hs];rfl⟩;have HGQ:Hid (g2=g):=⟨by rw[hgg];unfold Gph.clG;rw[hs];rfl⟩;have HM:=hid (HGRE.o _ (Gr.refl _));clear hre hgg HRE HGG hs;go_wp2_with(go_at_call 21;refine HC.o.mono ?_;rintro e w5 ⟨rfl,rfl⟩)
    go_meet
    case rel=>
     rw[HRR.o,HGQ.o];exact⟨rfl,⟨HM.o.code⟩⟩
  ·have hre:re=⟨g.two xa xb 0,g.sl xa&&g.sl xb&&(g.at xa==g.at xb),0,0,⟨0,0,0⟩⟩:=HRE.o.trans rfl;have hgg:g2=g:=HGG.o.trans rfl;have HGQ:=hid hgg;have HC:=hid (J8q HH.o xa xb);by_cases hs:(g.sl xa&&g.sl xb)=true
   ·rw[hs]at HC;have hs2:=hs;rw[ζd]at hs2;obtain⟨m,rfl,hm⟩:=J9p hs2.1;obtain⟨n,rfl,hn⟩:=J9p hs2.2;have HRR:Hid (re=⟨0,g.S.getD m 0==g.S.getD n 0,0,0,⟨0,0,0⟩⟩):=⟨by rw[hre];unfold Gph.two;rw[hs];rfl⟩;have hmI:(m:Int)<(g.S.length:Int):=Ω
    have hnI:(n:Int)<(g.S.length:Int):=Ω
    have hsn:=HH.o.sn;have HCC:Hid (∀W,Gr w3 W->W.cell? ⟨r,2,none⟩=some (.slice (some ⟨sb,0,none⟩) g.S.length g.S.length)/\W.cell? ⟨sb,m,none⟩=some (.int .i64 (g.S.getD m 0:Nat))/\W.cell? ⟨sb,n,none⟩=some (.int .i64 (g.S.getD n 0:Nat))):=⟨λW gW=>⟨(HH.o.gr gW).row.cell (j:=2) rfl,(HH.o.gr gW).slot hm,(HH.o.gr gW).slot hn⟩⟩;have HM:=hid (HGRE.o _ (Gr.refl w3).drew);have zc:=HQ.o.cell (j:=1) rfl;have zf:=HQ.o.free 1;have zl:=HQ.o.lt;generalize g.S.getD m 0=y0 at HCC HRR;generalize g.S.getD n 0=y1 at HCC HRR;generalize g.S.length=ns at HCC hmI hnI hsn;have e1:((y0:Int)==(y1:Int))=(y0==y1):=by rw[ξs,ζu,ζu];omega
    clear hre hgg HRE HGG hs hm hn hs2;go_upto_region 26 with(go_at_call 21;refine HC.o.mono ?_;rintro e w5 ⟨rfl,rfl⟩);obtain⟨Sx,hSx⟩:∃Sx:World->Prop,Sx=λW'=>Gr w3 W':=⟨_,rfl⟩;have u1:∀p:ZJV Sx,p.w.cell? ⟨r,2,none⟩=some (.slice (some ⟨sb,0,none⟩) ns ns):=λp=>by have h:=ZJV.get hSx p;exact(HCC.o _ h).1
    have u2:∀p:ZJV Sx,p.w.cell? ⟨w.heap.size,1,none⟩=some (.int .i64 m):=λp=>by have h:=ZJV.get hSx p;exact(HO.o.gr h).cell (j:=1) rfl
    have u3:∀p:ZJV Sx,p.w.cell? ⟨w.heap.size,2,none⟩=some (.int .i64 n):=λp=>by have h:=ZJV.get hSx p;exact(HO.o.gr h).cell (j:=2) rfl
    have u4:∀p:ZJV Sx,p.w.cell? ⟨sb,m,none⟩=some (.int .i64 (y0:Nat)):=λp=>by have h:=ZJV.get hSx p;exact(HCC.o _ h).2.1
    have u5:∀p:ZJV Sx,p.w.cell? ⟨sb,n,none⟩=some (.int .i64 (y1:Nat)):=λp=>by have h:=ZJV.get hSx p;exact(HCC.o _ h).2.2
    have HS:Hid (∀W',Gr w3 W'->Sx W'):=⟨λW' h=>by rw[hSx];exact h⟩;have hS0:=HS.o _ ((Gr.refl w3).drew);have inst:Inhabited (ZJV Sx):=⟨⟨_,hS0⟩⟩;clear hSx;refine Vv2 Sx 18 [([0,1,2,3,4,5,6,7,8,9,10,11,12,13,14,15,16,17],18)] [] (by kernel_rfl) (by kernel_rfl) hS0 ?_;refine XGW ?_
    try simp only[XZy,ξ,ζ]
    repeat(go_big_quiet_step (fail))
    refine φ ?_;go_wp2;refine⟨.inl trivial,?_⟩;refine Z9U ?_;refine φ ?_;refine δ ?_;clear u1 u2 u3 u4 u5 hS0 inst;clear HS Sx;go_wp2
    go_meet
    case rel=>
     rw[HRR.o,HGQ.o];exact⟨rfl,⟨(HM.o.sset (re':=⟨0,y0==y1,0,0,⟨0,0,0⟩⟩) 1 (.bool (y0==y1)) rfl).code⟩⟩
   ·rw[ζD]at hs;rw[hs]at HC;have HRR:Hid (re=.no 17):=⟨by rw[hre];unfold Gph.two;rw[hs];rfl⟩;have HM:=hid (HGRE.o _ (Gr.refl _));clear hre hgg HRE HGG hs;go_wp2_with(go_at_call 21;refine HC.o.mono ?_;rintro e w5 ⟨rfl,rfl⟩)
    go_meet
    case rel=>
     rw[HRR.o,HGQ.o];exact⟨rfl,⟨HM.o.code⟩⟩
  ·have hre:re=⟨g.shE xa,false,0,0,g.shH xa⟩:=HRE.o.trans rfl;have hgg:g2=g:=HGG.o.trans rfl;have HC:=hid (HSHP.o xa);unfold X79 at HC;have HRR:=hid hre;have HGQ:=hid hgg;clear hre hgg HRE HGG;go_wp2_with(go_at_call 22;refine HC.o.mono ?_;rintro e w5 ⟨rfl,hg⟩;have HM:=hid (HGRE.o _ hg);have zc4:=HM.o.q.cell (j:=4) rfl;have zc5:=HM.o.q.cell (j:=5) rfl;have zc6:=HM.o.q.cell (j:=6) rfl;have zf:=HM.o.q.free;have zl:=HM.o.q.lt;clear hg)
   go_meet
   case rel=>
    rw[HRR.o,HGQ.o];exact⟨rfl,⟨(((HM.o.sset (re':=⟨0,false,0,0,⟨(g.shH xa).p,0,0⟩⟩) 4 (.int .i64 (g.shH xa).p) rfl).sset (re':=⟨0,false,0,0,⟨(g.shH xa).p,(g.shH xa).f,0⟩⟩) 5 (.int .i64 (g.shH xa).f) rfl).sset (re':=⟨0,false,0,0,g.shH xa⟩) 6 (.int .i64 (g.shH xa).k) rfl).code⟩⟩
  ·have hre:re=⟨g.shE xa,false,0,g.smV xa,⟨0,0,0⟩⟩:=HRE.o.trans rfl;have hgg:g2=g:=HGG.o.trans rfl;have HC:=hid (HSUM.o xa);have HRR:=hid hre;have HGQ:=hid hgg;clear hre hgg HRE HGG;go_wp2_with(go_at_call 23;refine HC.o.mono ?_;rintro e w5 ⟨rfl,hg⟩;have HM:=hid (HGRE.o _ hg);have zc:=HM.o.q.cell (j:=3) rfl;have zf:=HM.o.q.free 3;have zl:=HM.o.q.lt;clear hg)
   go_meet
   case rel=>
    rw[HRR.o,HGQ.o];exact⟨rfl,⟨(HM.o.sset (re':=⟨g.shE xa,false,0,g.smV xa,⟨0,0,0⟩⟩) 3 (.int .u64 (g.smV xa:Nat)) rfl).code⟩⟩
  ·have hre:re=⟨g.orE xa xi xb (if xw<256 then xw else -1),false,g.orV xa xi xb (if xw<256 then xw else -1),0,⟨0,0,0⟩⟩:=HRE.o.trans rfl;have hgg:g2=g:=HGG.o.trans rfl;have HRR:=hid hre;have HGQ:=hid hgg;have k5:=HO.o.cell (j:=7) rfl;clear hre hgg HRE HGG;by_cases hw:xw<256
   ·have HRR:Hid (re=⟨g.orE xa xi xb xw,false,g.orV xa xi xb xw,0,⟨0,0,0⟩⟩):=⟨by rw[HRR.o,χ hw]⟩;have HC:=hid (HORD.o xa xi xb xw);have d1:decide ((xw:Int)<=255)=true:=υ Ω;go_wp2_with(go_at_call 24;refine HC.o.mono ?_;rintro e w5 ⟨rfl,hg⟩;have HM:=hid (HGRE.o _ hg);have zc:=HM.o.q.cell (j:=2) rfl;have zf:=HM.o.q.free 2;have zl:=HM.o.q.lt;clear hg)
    go_meet
    case rel=>
     rw[HRR.o,HGQ.o];exact⟨rfl,⟨(HM.o.sset (re':=⟨0,false,g.orV xa xi xb xw,0,⟨0,0,0⟩⟩) 2 (.int .i64 (g.orV xa xi xb xw)) rfl).code⟩⟩
   ·have HRR:Hid (re=⟨g.orE xa xi xb (-1),false,g.orV xa xi xb (-1),0,⟨0,0,0⟩⟩):=⟨by rw[HRR.o,ν hw]⟩;have HC:=hid (HORD.o xa xi xb (-1));have d1:decide ((xw:Int)<=255)=false:=π Ω;clear hw;go_wp2_with(go_at_call 24;refine HC.o.mono ?_;rintro e w5 ⟨rfl,hg⟩;have HM:=hid (HGRE.o _ hg);have zc:=HM.o.q.cell (j:=2) rfl;have zf:=HM.o.q.free 2;have zl:=HM.o.q.lt;clear hg)
    go_meet
    case rel=>
     rw[HRR.o,HGQ.o];exact⟨rfl,⟨(HM.o.sset (re':=⟨0,false,g.orV xa xi xb (-1),0,⟨0,0,0⟩⟩) 2 (.int .i64 (g.orV xa xi xb (-1))) rfl).code⟩⟩
  ·have hre:re=⟨0,false,(g.all.length:Nat),g.words,⟨0,0,0⟩⟩:=HRE.o.trans rfl;have hgg:g2=g:=HGG.o.trans rfl;have HRR:=hid hre;have HGQ:=hid hgg;have HC:=hid HREA.o;have hwb:=HWDB.o;have HAL:=hid (show True from trivial);clear hre hgg HRE HGG;generalize g.words=wd' at HC hwb HRR;generalize g.all.length=al at HC HRR;go_wp2_with(go_at_call 10;refine HC.o.mono ?_;rintro e w5 ⟨RA,rc,rfl,hg,-⟩;have HM:=hid (HGRE.o _ hg);have zc2:=HM.o.q.cell (j:=2) rfl;have zc3:=HM.o.q.cell (j:=3) rfl;have zf:=HM.o.q.free;have zl:=HM.o.q.lt;clear hg)
   go_meet
   case rel=>
    rw[HRR.o,HGQ.o];exact⟨rfl,⟨((HM.o.sset (re':=⟨0,false,(al:Nat),0,⟨0,0,0⟩⟩) 2 (.int .i64 (al:Nat)) rfl).sset (re':=⟨0,false,(al:Nat),wd',⟨0,0,0⟩⟩) 3 (.int .u64 (wd':Nat)) rfl).code⟩⟩
  ·have hre:re=.no 0:=HRE.o.trans rfl;have hgg:g2=g:=HGG.o.trans rfl;have HRR:=hid hre;have HGQ:=hid hgg;have HM:=hid (HGRE.o _ (Gr.refl _));clear hre hgg HRE HGG;go_wp2
   go_meet
   case rel=>
    rw[HRR.o,HGQ.o];exact⟨rfl,⟨HM.o.code⟩⟩
  ·have hre:re=.no 0:=HRE.o.trans rfl;have hgg:g2=g:=HGG.o.trans rfl;have HRR:=hid hre;have HGQ:=hid hgg;have HM:=hid (HGRE.o _ (Gr.refl _));clear hre hgg HRE HGG;go_wp2
   go_meet
   case rel=>
    rw[HRR.o,HGQ.o];exact⟨rfl,⟨HM.o.code⟩⟩
  ·have hre:re=.no 0:=HRE.o.trans rfl;have hgg:g2=g:=HGG.o.trans rfl;have HRR:=hid hre;have HGQ:=hid hgg;have HM:=hid (HGRE.o _ (Gr.refl _));clear hre hgg HRE HGG;go_wp2
   go_meet
   case rel=>
    rw[HRR.o,HGQ.o];exact⟨rfl,⟨HM.o.code⟩⟩
  ·have HRR:Hid (re=.no 24):=⟨by rw[HRE.o];unfold GOp.doR;dsimp only;rw[ν Ω];rw[ν Ω];rw[ν Ω];rw[ν Ω];rw[ν Ω];rw[ν Ω];rw[ν Ω];rw[ν Ω];rw[ν Ω];rw[ν Ω];rw[ν Ω];rw[ν Ω];rw[ν Ω];rw[ν Ω];rw[ν Ω]⟩;have HGQ:Hid (g2=g):=⟨by rw[HGG.o];unfold GOp.doG;dsimp only;rw[ν Ω];rw[ν Ω];rw[ν Ω];rw[ν Ω];rw[ν Ω];rw[ν Ω];rw[ν Ω]⟩;have d1:(kd==1)=false:=by rw[σ];omega
   have d2:(kd==2)=false:=by rw[σ];omega
   have d3:(kd==3)=false:=by rw[σ];omega
   have d4:(kd==4)=false:=by rw[σ];omega
   have d5:(kd==5)=false:=by rw[σ];omega
   have d6:(kd==6)=false:=by rw[σ];omega
   have d7:(kd==7)=false:=by rw[σ];omega
   have d8:(kd==8)=false:=by rw[σ];omega
   have d9:(kd==9)=false:=by rw[σ];omega
   have d10:(kd==10)=false:=by rw[σ];omega
   have d11:(kd==11)=false:=by rw[σ];omega
   have d12:(kd==12)=false:=by rw[σ];omega
   have d13:(kd==13)=false:=by rw[σ];omega
   have d14:(kd==14)=false:=by rw[σ];omega
   have d15:(kd==15)=false:=by rw[σ];omega
   have d16:(kd==16)=false:=by rw[σ];omega
   have d17:(kd==17)=false:=by rw[σ];omega
   have HM:=hid (HGRE.o _ (Gr.refl _));clear HRE HGG hno;go_wp2
   go_meet
   case rel=>
    rw[HRR.o,HGQ.o];exact⟨rfl,⟨HM.o.code⟩⟩
 case rest=>
  obtain⟨rfl,HD⟩:=hcut;have z0:=HD.o.q.cell (j:=0) rfl;have zf:=HD.o.q.free;have zl:=HD.o.q.lt;have HQ2:=hid (HD.o.q.set 0 (.int .i64 re.code));have y0:=HD.o.p.cell (j:=0) rfl;have y1:=HD.o.p.cell (j:=1) rfl;have y2:=HD.o.p.cell (j:=2) rfl;have y3:=HD.o.p.cell (j:=3) rfl;have y4:=HD.o.p.cell (j:=4) rfl;have y5:=HD.o.p.cell (j:=5) rfl;have y6:=HD.o.p.cell (j:=6) rfl;have yf:=HD.o.p.free;have yl:=HD.o.p.lt;have j1:=HD.o.q.cell (j:=1) rfl;have j2:=HD.o.q.cell (j:=2) rfl;have j3:=HD.o.q.cell (j:=3) rfl;have j4:=HD.o.q.cell (j:=4) rfl;have j5:=HD.o.q.cell (j:=5) rfl;have j6:=HD.o.q.cell (j:=6) rfl;clear k0 kl;have HMQ:=hid HD.o;go_wp2;have t1:XF4 (λk=>k=w.heap.size+2) wc (wc.setCell ⟨w.heap.size+2,0,none⟩ (.int .i64 re.code)):=(XF4.refl (λk=>k=w.heap.size+2) wc).setCell (a:=⟨w.heap.size+2,0,none⟩) (λ_=>rfl) _;have rp:=HMQ.o.p.touch t1 Ω;have rr:=HMQ.o.r.reply (j:=0) (v:=.int .i64 re.code) HMQ.o.q;have RR:=((((((rp.set 0 (.int .i64 re.code)).set 1 (.bool re.is)).set 2 (.int .i64 re.n)).set 3 (.int .u64 (re.wd:Nat))).set 4 (.int .i64 re.h.p)).set 5 (.int .i64 re.h.f)).set 6 (.int .i64 re.h.k);have hl:=JUU (e:=re) RR;have QQ:=((((((rr.reply (j:=0) (v:=.int .i64 re.code) rp).reply (j:=1) (v:=.bool re.is) (rp.set 0 _)).reply (j:=2) (v:=.int .i64 re.n) ((rp.set 0 _).set 1 _)).reply (j:=3) (v:=.int .u64 (re.wd:Nat)) (((rp.set 0 _).set 1 _).set 2 _)).reply (j:=4) (v:=.int .i64 re.h.p) ((((rp.set 0 _).set 1 _).set 2 _).set 3 _)).reply (j:=5) (v:=.int .i64 re.h.f) (((((rp.set 0 _).set 1 _).set 2 _).set 3 _).set 4 _)).reply (j:=6) (v:=.int .i64 re.h.k) ((((((rp.set 0 _).set 1 _).set 2 _).set 3 _).set 4 _).set 5 _);have hlt:∀(b j:Nat),w.heap.size<=b->(⟨b,j,none⟩:Addr).block<w.heap.size->S (⟨b,j,none⟩:Addr).block:=λb j h1 h2=>absurd (show b<w.heap.size from h2) Ω;refine ζt (v:=Xf9 re) ?_ rfl ⟨rfl,((((((((HMQ.o.t.setCell (hlt (w.heap.size+2) 0 Ω) _).setCell (hlt (w.heap.size+1) 0 Ω) _).setCell (hlt (w.heap.size+1) 1 Ω) _).setCell (hlt (w.heap.size+1) 2 Ω) _).setCell (hlt (w.heap.size+1) 3 Ω) _).setCell (hlt (w.heap.size+1) 4 Ω) _).setCell (hlt (w.heap.size+1) 5 Ω) _).setCell (hlt (w.heap.size+1) 6 Ω) _),QQ⟩;simp[results,results8,asAddr,hl]
end
end
end
section
section
open Go.RowKit Word
def XaF(F:Nat->Nat)(x:Nat):Value:=if x=0 then .pointer none else .pointer (some ⟨F x,0,none⟩)
def enL(F:Nat->Nat):List Nat->Nat->List MapEntry
 | [],_=>[]
 | x :: r,i=>{key:=.pointer (some ⟨F x,0,none⟩),val:=.int .i64 i,born:=i} :: enL F r (i+1)
theorem YYN(F:Nat->Nat)(y:Nat):∀(l:List Nat) (i:Nat),enL F (l++[y]) i=enL F l i++[{key:=.pointer (some ⟨F y,0,none⟩),val:=.int .i64 (i+l.length:Nat),born:=i+l.length}]
 | [],i=>by simp[enL]
 | x :: r,i=>by
  show _ :: enL F (r++[y]) (i+1)=_ :: (enL F r (i+1)++_)
  rw[YYN F y r (i+1),show i+1+r.length=i+(x :: r).length by simp;omega]
def QSJ(w:World)(b:Nat)(F:Nat->Nat)(l:List Nat):Prop:=w.heap[b]?=some (.map (enL F l 0).toArray l.length)
structure YJ4(w:World)(F:Nat->Nat)(N:Nat):Prop where
 cs:∀x,1<=x->x<=N->∃ca,w.heap[F x]?=some (.cells ca 81 (0,0))
 inj:∀x y,1<=x->x<=N->1<=y->y<=N->F x=F y->x=y
section
variable {w w':World} {b N:Nat} {F:Nat->Nat} {l:List Nat}
theorem JYk:prog.underlying 79=some (.pointer 81):=by kernel_rfl
theorem YLv(hT:YJ4 w F N){x y:Nat}(hx:1<=x/\x<=N)(hy:1<=y/\y<=N):(Op.equal 79 (.pointer (some ⟨F y,0,none⟩)) (.pointer (some ⟨F x,0,none⟩))).run prog w=.ok (decide (y=x)) w:=by
 have hte:∃j,prog.info? 81=some j/\j.size=5:=by
  have:(prog.info? 81).map (·.size)=some 5:=by kernel_rfl
  cases h:prog.info? 81 with
  | none=>rw[h]at this;cases this
  | some j=>rw[h]at this;exact⟨j,rfl,by simpa using this⟩
 obtain⟨j,hte,hsz⟩:=hte;by_cases e:y=x
 ·subst e;rw[υ rfl]
  have h:∀d:Nat,(Op.equalIn (d+1) 79 (.pointer (some ⟨F y,0,none⟩)) (.pointer (some ⟨F y,0,none⟩))).run prog w=.ok true w:=λd=>by
   simp[Op.equalIn,run_underlying JYk,sizeOf,typeInfo,hte,run_sameAddr_same]
  exact h 9999
 ·rw[π e];obtain⟨ca,ha⟩:=hT.cs y hy.1 hy.2;obtain⟨cb,hb⟩:=hT.cs x hx.1 hx.2;have hne:(⟨F y,0,none⟩:Addr)≠⟨F x,0,none⟩:=λh=>e (hT.inj y x hy.1 hy.2 hx.1 hx.2 (by injection h))
  have h:∀d:Nat,(Op.equalIn (d+1) 79 (.pointer (some ⟨F y,0,none⟩)) (.pointer (some ⟨F x,0,none⟩))).run prog w=.ok false w:=λd=>by
   simp[Op.equalIn,run_underlying JYk,sizeOf,typeInfo,hte,hsz,run_sameAddr_other w hne ha hb]
  exact h 9999
theorem VHw(a:Addr):(Op.equal 79 (.pointer none) (.pointer (some a))).run prog w=.ok false w:=by
 have h:∀d:Nat,(Op.equalIn (d+1) 79 (.pointer none) (.pointer (some a))).run prog w=.ok false w:=λd=>by
  simp[Op.equalIn,run_underlying JYk]
 exact h 9999
theorem JCR:∀(l:List Nat) (i j:Nat),(Instr.findAsking 79 (.pointer none) (enL F l j) i).run prog w=.ok none w
 | [],_,_=>rfl
 | x :: r,i,j=>by
  show (Instr.findAsking _ _ (_ :: enL F r (j+1)) i).run _ _=_
  unfold Instr.findAsking;simp only[Sem.run_bind,VHw,Result.andThen];exact JCR r (i+1) (j+1)
theorem YHb(hT:YJ4 w F N){y:Nat}(hy:1<=y/\y<=N):∀(l:List Nat) (i:Nat),(∀x∈l,1<=x/\x<=N)->(Instr.findAsking 79 (.pointer (some ⟨F y,0,none⟩)) (enL F l i) i).run prog w=.ok (if y∈l then some (i+l.idxOf y,.int .i64 (i+l.idxOf y:Nat))else none) w
 | [],_,_=>rfl
 | x :: r,i,hl=>by
  show (Instr.findAsking _ _ (_ :: enL F r (i+1)) i).run _ _=_
  unfold Instr.findAsking;simp only[Sem.run_bind,YLv hT (hl x ξt) hy,Result.andThen];by_cases e:y=x
  ·subst e;simp
  ·rw[π e];have:=YHb hT hy r (i+1) (λz hz=>hl z (ζ7 _ hz));simp only[Bool.false_eq_true,if_false];rw[this];have e2:(x :: r).idxOf y=r.idxOf y+1:=by rw[List.idxOf_cons,show (x==y)=false from σ.2 (λh=>e h.symm)];rfl
   by_cases hm:y∈r
   ·rw[χ hm,χ (ζ7 _ hm),e2,show i+1+r.idxOf y=i+(r.idxOf y+1)by omega]
   ·rw[ν hm,ν (λh=>by rcases ξi.1 h with h|h;exact e h;exact hm h)]
theorem JYI(q:Option Addr)(es:List Nat)(r:Option (Nat×Value))(h:(Instr.findAsking 79 (.pointer q) (enL F es 0) 0).run prog w=.ok r w):(Instr.findKey 79 (.pointer q) (enL F es 0)).run prog w=.ok r w:=by
 unfold Instr.findKey;simp only[Sem.run_bind,run_underlying JYk,Result.andThen];cases es with
 | nil=>
  have:r=none:=by
   have h2:(Instr.findAsking 79 (.pointer q) (enL F [] 0) 0).run prog w=.ok none w:=rfl;rw[h2]at h;injection h with h;exact h.symm
  subst this;rfl
 | cons x r'=>exact h
theorem XmI(e:Bool)(q:Option Addr):(Instr.checkKey e 10000 79 (.pointer q)).run prog w=.ok () w:=by
 have h:∀d:Nat,(Instr.checkKey e (d+1) 79 (.pointer q)).run prog w=.ok () w:=λd=>by
  unfold Instr.checkKey;simp only[Sem.run_bind,run_underlying JYk,Result.andThen];rfl
 exact h 9999
theorem JEG:prog.underlying 76=some (.map 79 3):=by kernel_rfl
theorem VyY(hM:QSJ w b F l)(hT:YJ4 w F N)(hl:∀x∈l,1<=x/\x<=N){y:Nat}(hy:y<=N):(Instr.lookup 76 (.map (some b)) (XaF F y) true).run prog w=.ok (.tuple #[.int .i64 (if y≠0/\y∈l then l.idxOf y else 0:Nat),.bool (decide (y≠0/\y∈l))]) w:=by
 have hz:(zeroValue 3).run prog w=.ok (.int .i64 0) w:=by kernel_rfl
 unfold XaF;by_cases h0:y=0
 ·subst h0;have hk:=JYI (w:=w) (F:=F) none l none (JCR l 0 0);rw[χ rfl,ν (λh=>h.1 rfl),π (λh=>h.1 rfl)];simp[Instr.lookup,run_underlying JEG,MapKept.run_getObj_map hM,XmI,hk,hz,Result.andThen]
 ·have hk:=JYI (w:=w) (F:=F) _ l _ (YHb hT ⟨by omega,hy⟩ l 0 hl);rw[ν h0];by_cases hm:y∈l
  ·rw[χ hm,ω]at hk;rw[χ ⟨h0,hm⟩,υ ⟨h0,hm⟩];simp[Instr.lookup,run_underlying JEG,MapKept.run_getObj_map hM,XmI,hk,Result.andThen]
  ·rw[ν hm]at hk;rw[ν (λh=>hm h.2),π (λh=>hm h.2)];simp[Instr.lookup,run_underlying JEG,MapKept.run_getObj_map hM,XmI,hk,hz,Result.andThen]
theorem YXP(hM:QSJ w b F l)(hT:YJ4 w F N)(hl:∀x∈l,1<=x/\x<=N){y:Nat}(hy:1<=y/\y<=N)(hm:¬y∈l):∃w',(Instr.mapUpdate 76 (.map (some b)) (.pointer (some ⟨F y,0,none⟩)) (.int .i64 l.length)).run prog w=.ok () w'/\QSJ w' b F (l++[y])/\XF4 (λk=>k=b) w w':=by
 have hk:=JYI (w:=w) (F:=F) _ l _ (YHb hT hy l 0 hl);rw[ν hm]at hk;refine⟨{w with heap:=w.heap.setIfInBounds b (.map ((enL F l 0).toArray.push {key:=.pointer (some ⟨F y,0,none⟩),val:=.int .i64 l.length,born:=l.length}) (l.length+1))},?_,?_,?_⟩
 ·simp[Instr.mapUpdate,run_underlying JEG,MapKept.run_getObj_map hM,XmI,hk,MapKept.run_setObj_map _ hM,Result.andThen]
 ·unfold QSJ;rw[(MapKept.heap_set hM).1,YYN,ω,ζi];simp
 ·refine⟨rfl,rfl,rfl,by simp,λk hk hne=>?_⟩;exact(MapKept.heap_set hM).2 k hne
theorem QSJ.touch{S:Nat->Prop}(h:QSJ w b F l)(t:XF4 S w w')(hS:¬S b):QSJ w' b F l:=(t.block b (ζF.1 h).1 hS).trans h
theorem QSJ.gr(h:QSJ w b F l)(g:Gr w w'):QSJ w' b F l:=(g.block (ζF.1 h).1).trans h
theorem QSJ.lt(h:QSJ w b F l):b<w.heap.size:=(ζF.1 h).1
end
end
end
section
section
open Go.RowKit Word
def thL(o:GOb)(t w:Nat):List Value:=[.int .i64 o.p,.int .i64 o.f,.int .i64 o.k,.slice (some ⟨t,0,none⟩) o.p o.p,.slice (some ⟨w,0,none⟩) (o.f+o.k:Nat) (o.f+o.k:Nat)]
def JYL(F:Nat->Nat)(l:List Nat):List Value:=l.map (XaF F)
theorem YK2{F:Nat->Nat}{l:List Nat}{i:Nat}(h:i<l.length):(JYL F l)[i]?=some (XaF F (l.getD i 0)):=by
 unfold JYL;rw[ζr,θ,μ h];rfl
structure J8T(w:World)(m C:Nat)(g:Gph)(sb:Nat)(F T W:Nat->Nat):Prop where
 row:Rec w m 54 [.int .i64 C,.slice (some ⟨sb,0,none⟩) g.S.length g.S.length]
 sl:Rec w sb 79 (JYL F g.S)
 th:∀x,1<=x->x<=g.L.length->Rec w (F x) 81 (thL (g.ob x) (T x) (W x))
 ps:∀x,1<=x->x<=g.L.length->Rec w (T x) 79 (JYL F (g.pts x))
 wo:∀x,1<=x->x<=g.L.length->Rec w (W x) 32 (QYW ((g.ob x).w.drop (g.ob x).p))
 injF:∀x y,1<=x->x<=g.L.length->1<=y->y<=g.L.length->F x=F y->x=y
 injT:∀x y,1<=x->x<=g.L.length->1<=y->y<=g.L.length->T x=T y->x=y
 injW:∀x y,1<=x->x<=g.L.length->1<=y->y<=g.L.length->W x=W y->x=y
 ts:∀x,1<=x->x<=g.L.length->T x≠sb
 len:g.L.length<=1000
 sn:g.S.length<=64
 cb:C<=1073741824
 ok:g.Ok
 wd:∀o∈g.L,∀x∈o.w,x<18446744073709551616
def Xli(w:World)(S:Nat->Prop)(m C:Nat)(g:Gph):Prop:=∃sb F T W,J8T w m C g sb F T W/\S m/\S sb/\∀x,1<=x->x<=g.L.length->S (F x)/\S (T x)/\S (W x)
section
variable {w w':World} {m C:Nat} {g:Gph} {sb:Nat} {F T W:Nat->Nat} {S:Nat->Prop}
theorem J8T.touch{X:Nat->Prop}(h:J8T w m C g sb F T W)(t:XF4 X w w')(h1:¬X m)(h2:¬X sb)(h3:∀x,1<=x->x<=g.L.length->¬X (F x)/\¬X (T x)/\¬X (W x)):J8T w' m C g sb F T W:=
 ⟨h.row.touch t h1,h.sl.touch t h2,λx a b=>(h.th x a b).touch t (h3 x a b).1,λx a b=>(h.ps x a b).touch t (h3 x a b).2.1,λx a b=>(h.wo x a b).touch t (h3 x a b).2.2,h.injF,h.injT,h.injW,h.ts,h.len,h.sn,h.cb,h.ok,h.wd⟩
theorem J8T.gr(h:J8T w m C g sb F T W)(t:Gr w w'):J8T w' m C g sb F T W:=h.touch (t.touch (λ_=>False)) (λh=>h) (λh=>h) (λ_ _ _=>⟨λh=>h,λh=>h,λh=>h⟩)
theorem J8T.keep(h:J8T w m C g sb F T W)(t:XF4 (λi=>w.heap.size<=i) w w'):J8T w' m C g sb F T W:=
 h.touch t (by have:=h.row.lt;omega) (by have:=h.sl.lt;omega) (λx a b=>⟨by have:=(h.th x a b).lt;omega,by have:=(h.ps x a b).lt;omega,by have:=(h.wo x a b).lt;omega⟩)
theorem Xli.touch{X:Nat->Prop}(h:Xli w S m C g)(t:XF4 X w w')(hS:∀k,k<w.heap.size->S k->¬X k):Xli w' S m C g:=by
 obtain⟨sb,F,T,W,h,s1,s2,s3⟩:=h;exact⟨sb,F,T,W,h.touch t (hS _ h.row.lt s1) (hS _ h.sl.lt s2) (λx a b=>⟨hS _ (h.th x a b).lt (s3 x a b).1,hS _ (h.ps x a b).lt (s3 x a b).2.1,hS _ (h.wo x a b).lt (s3 x a b).2.2⟩),s1,s2,s3⟩
theorem Xli.gr(h:Xli w S m C g)(t:Gr w w'):Xli w' S m C g:=h.touch (t.touch (λ_=>False)) (λ_ _ _ h=>h)
theorem Xli.cut(h:Xli w S m C g):Xli w (λk=>S k/\k<w.heap.size) m C g:=by
 obtain⟨sb,F,T,W,h,s1,s2,s3⟩:=h;exact⟨sb,F,T,W,h,⟨s1,h.row.lt⟩,⟨s2,h.sl.lt⟩,λx a b=>⟨⟨(s3 x a b).1,(h.th x a b).lt⟩,⟨(s3 x a b).2.1,(h.ps x a b).lt⟩,⟨(s3 x a b).2.2,(h.wo x a b).lt⟩⟩⟩
theorem Xli.mono{S':Nat->Prop}(h:Xli w S m C g)(hS:∀k,S k->S' k):Xli w S' m C g:=by
 obtain⟨sb,F,T,W,h,s1,s2,s3⟩:=h;exact⟨sb,F,T,W,h,hS _ s1,hS _ s2,λx a b=>⟨hS _ (s3 x a b).1,hS _ (s3 x a b).2.1,hS _ (s3 x a b).2.2⟩⟩
theorem J8T.things(h:J8T w m C g sb F T W):YJ4 w F g.L.length:=by
 refine⟨λx a b=>?_,h.injF⟩;obtain⟨cs,hb⟩:=QiW (h.th x a b) rfl;exact⟨cs,hb⟩
theorem J8T.sto(h:J8T w m C g sb F T W){a:Nat}(ha:a<g.S.length):g.S.getD a 0<=g.L.length:=by
 refine h.ok.st _ ?_;rw[θ,μ ha];exact ζo ha
theorem J8T.slot(h:J8T w m C g sb F T W){a:Nat}(ha:a<g.S.length):w.cell? ⟨sb,a,none⟩=some (XaF F (g.S.getD a 0)):=h.sl.cell (YK2 ha)
theorem J8T.wl(h:J8T w m C g sb F T W){x:Nat}(h1:1<=x)(h2:x<=g.L.length):(g.ob x).w.length=(g.ob x).p+(g.ob x).f+(g.ob x).k/\(g.ob x).p+(g.ob x).f+(g.ob x).k<=255:=h.ok.len _ (Gph.ob_mem h1 h2)
def VfC(g:Gph)(l:List Int):Bool:=l.all g.sl
theorem Q2A(h:J8T w m C g sb F T W){A:Option Addr}{c:Nat}{l:List Int}(hA:Vu4 w A l)(hl:l.length<=2):Calls prog 35 #[.pointer (some ⟨m,0,none⟩),.slice A l.length c] w λe w'=>e=.returned (.bool (VfC g l))/\w=w':=by
 have c1:=h.row.cell (j:=1) rfl;have hlt:=h.row.lt;have HA:=hid hA;have hsn:=h.sn;obtain⟨N,hN⟩:∃N,N=l.length:=⟨_,rfl⟩;have HN:=hid hN;rw[<-hN]at hl⊢;have HSL:Hid (∀x:Int,g.sl x=(decide (0<=x)&&decide (x<(g.S.length:Int)))):=⟨λx=>rfl⟩;generalize g.S.length=ns at c1 hsn HSL;clear hA hN h;go_enter func35,ntmps35;go_wp2
 go_loop [9] (λs9=>∃i:Nat,i<=N/\s9=.int .i64 i/\Hid (∀j (hj:j<l.length),j<i->g.sl l[j]=true)) (λs9=>N-(intOf s9).toNat)
 case atStart=>exact⟨0,ζb _,rfl,⟨λj _ hj=>absurd hj (ξf _)⟩⟩
 case round=>
  obtain⟨i,hi,rfl,HF⟩:=hrel;by_cases hlast:i<N
  ·have hiI:(i:Int)<(N:Int):=Ω
   have hil:i<l.length:=by rw[<-HN.o];exact hlast
   obtain⟨b,o,rfl,hb,hc⟩:=HA.o i hil;have HSX:=hid (HSL.o l[i])
   have HAL:Hid (∀z,g.sl l[i]=z->(z=false->VfC g l=false)/\(z=true->∀j (hj:j<l.length),j<i+1->g.sl l[j]=true)):=⟨λz hz=>⟨λh0=>by
    subst h0;unfold VfC;rw[Bool.eq_false_iff];intro hh;rw[ζZ]at hh;have:=hh _ (ζo hil);rw[hz]at this;exact Bool.noConfusion this,λh0 j hj hji=>by
    rcases ζj j i with h1|h1
    ·exact HF.o j hj h1
    ·obtain rfl:j=i:=Ω
     rw[hz,h0]⟩⟩
   obtain⟨x,hx⟩:∃x,x=l[i]:=⟨_,rfl⟩;rw[<-hx]at hc HSX HAL;have HII:=hid hlast;clear hx hlast hil hi;obtain⟨z1,d1⟩:∃z,decide ((0:Int)<=x)=z:=⟨_,rfl⟩;obtain⟨z2,d2⟩:∃z,decide (x<(ns:Int))=z:=⟨_,rfl⟩;rw[d1,d2]at HSX;have e1:decide (x<0)=!z1:=by rw[<-d1];by_cases h:x<0 <;> simp[h] <;> omega
   have e2:decide ((ns:Int)<=x)=!z2:=by rw[<-d2];by_cases h:(ns:Int)<=x <;> simp[h] <;> omega
   cases z1 with
   | false=>
    have HR:Hid (VfC g l=false):=⟨(HAL.o _ HSX.o).1 rfl⟩;clear d1 d2 e2 HAL HSX;go_wp2;go_ret;exact⟨by rw[HR.o] <;> rfl,rfl⟩
   | true=>
    cases z2 with
    | false=>
     have HR:Hid (VfC g l=false):=⟨(HAL.o _ HSX.o).1 rfl⟩;clear d1 d2 HAL HSX;go_wp2;go_ret;exact⟨by rw[HR.o] <;> rfl,rfl⟩
    | true=>
     have HR:=hid ((HAL.o _ HSX.o).2 rfl);clear d1 d2 HAL HSX;go_wp2;go_round
     case rel=>exact⟨i+1,HII.o,by go_num,HR⟩
     case measure=>have:=HII.o;simp[intOf];omega
  ·have hiI:¬(i:Int)<(N:Int):=Ω
   have HR:Hid (VfC g l=true):=⟨by
    unfold VfC;rw[ζZ];intro x hx;obtain⟨j,hj,e⟩:=ξA.1 hx;rw[<-e]
    exact HF.o j hj (by have:=HN.o;omega)⟩
   clear hlast;go_wp2;go_ret;exact⟨by rw[HR.o] <;> rfl,rfl⟩
end
end
end
section
section
open Go.RowKit Word
section
variable {w w':World} {m C:Nat} {g:Gph} {sb:Nat} {F T W:Nat->Nat} {S:Nat->Prop}
theorem XCv(g:Gph)(a:Int):VfC g [a]=g.sl a:=by simp[VfC]
theorem QUr(g:Gph)(a b:Int):VfC g [a,b]=(g.sl a&&g.sl b):=by simp[VfC]
theorem X7N(h:J8T w m C g sb F T W)(a:Int):Calls prog 35 #[.pointer (some ⟨m,0,none⟩),.slice (some ⟨w.heap.size,0,none⟩) 1 1] (w.alloc (.cells #[.int .i64 a] 3)) λe w'=>e=.returned (.bool (g.sl a))/\(w.alloc (.cells #[.int .i64 a] 3))=w':=by
 have hr:=Rec.new w 3 [.int .i64 a]
 have:=Q2A (h.gr ((Gr.refl w).alloc (.cells #[.int .i64 a] 3))) (A:=some ⟨w.heap.size,0,none⟩) (c:=1) (l:=[a]) (λi hi=>⟨_,0,rfl,hr.lt,by
  have hi:i<1:=hi;obtain rfl:i=0:=Ω
  exact hr.cell (j:=0) rfl⟩) (by simp)
 rw[XCv]at this;exact this
theorem VTZ(h:J8T w m C g sb F T W)(a b:Int):Calls prog 35 #[.pointer (some ⟨m,0,none⟩),.slice (some ⟨w.heap.size,0,none⟩) 2 2] (w.alloc (.cells #[.int .i64 a,.int .i64 b] 3)) λe w'=>e=.returned (.bool (g.sl a&&g.sl b))/\(w.alloc (.cells #[.int .i64 a,.int .i64 b] 3))=w':=by
 have hr:=Rec.new w 3 [.int .i64 a,.int .i64 b]
 have:=Q2A (h.gr ((Gr.refl w).alloc (.cells #[.int .i64 a,.int .i64 b] 3))) (A:=some ⟨w.heap.size,0,none⟩) (c:=2) (l:=[a,b]) (λi hi=>⟨_,0,rfl,hr.lt,by
  have hi:i<2:=hi;rcases(by omega:i=0\/i=1)with rfl|rfl
  ·exact hr.cell (j:=0) rfl
  ·exact hr.cell (j:=1) rfl⟩) (by simp)
 rw[QUr]at this;exact this
theorem Zn9(h:J8T w m C g sb F T W){a:Nat}(ha:a<g.S.length){i kd:Int}(he:g.fdE a i kd=0):∃x n:Nat,g.S.getD a 0=x/\1<=x/\x<=g.L.length/\i=n/\n<(g.ob x).w.length/\g.fdV a i kd=(g.ob x).w.getD n 0/\Yoq (g.ob x).hdr i=kd:=by
 have he2:=he;rw[ZPL ha]at he;have hle:=h.sto ha
 split at he
 ·cases he
 ·rename_i h0
  split at he
  ·cases he
  ·rename_i hk
   split at he
   ·rename_i hk2;have h1:1<=g.S.getD a 0:=Ω
    have hl:=h.wl h1 hle;obtain⟨n,hn1,hn2⟩:=JQI hl.2 hk;refine⟨_,n,rfl,h1,hle,hn1,by rw[hl.1];exact hn2,?_,hk2⟩;unfold Gph.fdV;rw[χ he2,hn1];rfl
   ·cases he
def V9Z(g:Gph)(F:Nat->Nat)(a i kd:Int):Value:=if g.fdE a i kd=0 then XaF F (g.at a)else .pointer none
theorem VDT(h:J8T w m C g sb F T W)(a i kd:Int):Calls prog 55 #[.pointer (some ⟨m,0,none⟩),.int .i64 a,.int .i64 i,.int .i64 kd] w λe w'=>e=.returned (.tuple #[V9Z g F a i kd,.int .i64 (g.fdE a i kd)])/\Gr w w':=by
 have HI:=hid (X7N h a);have HG:=hid ((Gr.refl w).alloc (.cells #[.int .i64 a] 3));by_cases hs:g.sl a=true
 ·rw[hs]at HI;obtain⟨n,rfl,hn⟩:=J9p hs;have hle:=h.sto hn;have hnI:(n:Int)<(g.S.length:Int):=Ω
  have hsn:=h.sn;have hg:=(Gr.refl w).alloc (.cells #[.int .i64 (n:Int)] 3);have c1:=(h.gr hg).row.cell (j:=1) rfl;have hlt:=(h.gr hg).row.lt;have cs:=(h.gr hg).slot hn;have hsl:=(h.gr hg).sl.lt;have HR:=hid (ZPL hn i kd);have HFV:Hid (V9Z g F n i kd=if g.fdE n i kd=0 then XaF F (g.S.getD n 0)else .pointer none):=⟨rfl⟩;generalize g.fdE n i kd=E at HR HFV⊢;generalize V9Z g F n i kd=V at HFV⊢;obtain⟨s,hse⟩:∃s,s=g.S.getD n 0:=⟨_,rfl⟩;rw[<-hse]at cs hle HR HFV;by_cases h0:s=0
  ·subst h0;have HE:Hid (E=18):=⟨by rw[HR.o,χ rfl]⟩;have HV:Hid (V=.pointer none):=⟨by rw[HFV.o,HE.o];rfl⟩;rw[show XaF F 0=.pointer none from rfl]at cs;generalize g.S.length=ns at c1 hnI hsn;clear HR HFV hs hn hle hse hg h;go_enter func55,ntmps55;go_wp2_with(go_at_call 35;refine(HI.o).mono ?_;rintro e w1 ⟨rfl,rfl⟩);go_ret2;exact⟨by rw[HE.o,HV.o] <;> rfl,HG.o⟩
  ·have h1:1<=s:=Ω
   have hwl:=h.wl h1 hle;have hth:=(h.gr hg).th s h1 hle;have k0:=hth.cell (j:=0) rfl;have k1:=hth.cell (j:=1) rfl;have k2:=hth.cell (j:=2) rfl;have kl:=hth.lt;have HK:=hid (λW'=>VNI hwl.2 i W');have HE:Hid (E=if Yoq ⟨(g.ob s).p,(g.ob s).f,(g.ob s).k⟩ i=0 then 19 else if Yoq ⟨(g.ob s).p,(g.ob s).f,(g.ob s).k⟩ i=kd then 0 else 20):=⟨by rw[HR.o,ν h0];rfl⟩;have hpv:XaF F s=.pointer (some ⟨F s,0,none⟩):=ν h0;rw[hpv]at cs;have HFV:Hid (V=if E=0 then .pointer (some ⟨F s,0,none⟩)else .pointer none):=⟨by rw[HFV.o,hpv]⟩;have HC:Hid (∀w',Gr (w.alloc (.cells #[.int .i64 (n:Int)] 3)) w'->Rec w' (F s) 81 (thL (g.ob s) (T s) (W s))):=⟨λw' gw=>hth.gr gw⟩;unfold X79 at HK;unfold thL at HC;generalize (g.ob s).p=pp at k0 HK HE HC;generalize (g.ob s).f=ff at k1 HK HE HC;generalize (g.ob s).k=kk at k2 HK HE HC;generalize F s=fs at cs k0 k1 k2 kl HFV HC;generalize T s=ts at HC;generalize W s=ws at HC;generalize Yoq ⟨pp,ff,kk⟩ i=kn at HK HE;generalize g.S.length=ns at c1 hnI hsn;clear HR hs hn hle hse hg h h0 h1 hwl hth hpv;by_cases e1:kn=0
   ·have HR:Hid (E=19):=⟨by rw[HE.o,χ e1]⟩;have HV:Hid (V=.pointer none):=⟨by rw[HFV.o,HR.o];rfl⟩;have d1:(kn==0)=true:=by rw[ζu];exact e1
    clear HE HFV e1 HC;go_enter func55,ntmps55
    go_wp2_with(first
     | (go_at_call 35;refine(HI.o).mono ?_;rintro e w1 ⟨rfl,rfl⟩)
     | (go_at_call 69;refine(HK.o _).mono ?_;rintro e w2 ⟨rfl,hg⟩;have HG2:=hid (HG.o.trans hg);clear hg))
    go_ret2;exact⟨by rw[HR.o,HV.o] <;> rfl,HG2.o⟩
   ·have d1:(kn==0)=false:=by rw[σ];exact e1
    by_cases e2:kn=kd
    ·have HR:Hid (E=0):=⟨by rw[HE.o,ν e1,χ e2]⟩;have HV:Hid (V=.pointer (some ⟨fs,0,none⟩)):=⟨by rw[HFV.o,HR.o];rfl⟩;have d2:(kn !=kd)=false:=by simp[e2]
     clear HE HFV e1 e2;go_enter func55,ntmps55
     go_upto_region 8 with(first
      | (go_at_call 35;refine(HI.o).mono ?_;rintro e w1 ⟨rfl,rfl⟩)
      | (go_at_call 69;refine(HK.o _).mono ?_;rintro e w2 ⟨rfl,hg⟩;have HG1:=hid hg;have HG2:=hid (HG.o.trans hg);clear hg))
     have hc:=HC.o _ HG1.o;have q0:=hc.cell (j:=0) rfl;have q1:=hc.cell (j:=1) rfl;have q2:=hc.cell (j:=2) rfl;have ql:=hc.lt;clear hc k0 k1 k2 kl;go_wp2_with(go_at_call 69;refine(HK.o _).mono ?_;rintro e w3 ⟨rfl,hg⟩;have HG3:=hid (HG2.o.trans hg);clear hg);go_ret2;exact⟨by rw[HR.o,HV.o] <;> rfl,HG3.o⟩
    ·have HR:Hid (E=20):=⟨by rw[HE.o,ν e1,ν e2]⟩;have HV:Hid (V=.pointer none):=⟨by rw[HFV.o,HR.o];rfl⟩;have d2:(kn !=kd)=true:=by simp[e2]
     clear HE HFV e1 e2;go_enter func55,ntmps55
     go_upto_region 8 with(first
      | (go_at_call 35;refine(HI.o).mono ?_;rintro e w1 ⟨rfl,rfl⟩)
      | (go_at_call 69;refine(HK.o _).mono ?_;rintro e w2 ⟨rfl,hg⟩;have HG1:=hid hg;have HG2:=hid (HG.o.trans hg);clear hg))
     have hc:=HC.o _ HG1.o;have q0:=hc.cell (j:=0) rfl;have q1:=hc.cell (j:=1) rfl;have q2:=hc.cell (j:=2) rfl;have ql:=hc.lt;clear hc k0 k1 k2 kl;go_wp2_with(go_at_call 69;refine(HK.o _).mono ?_;rintro e w3 ⟨rfl,hg⟩;have HG3:=hid (HG2.o.trans hg);clear hg);go_ret2;exact⟨by rw[HR.o,HV.o] <;> rfl,HG3.o⟩
 ·rw[ζD]at hs;rw[hs]at HI;have hE:g.fdE a i kd=17:=by unfold Gph.fdE;rw[hs];rfl
  have hV:V9Z g F a i kd=.pointer none:=by unfold V9Z;rw[hE];rfl
  rw[hE,hV];clear hE hV hs h;go_enter func55,ntmps55;go_wp2_with(go_at_call 35;refine(HI.o).mono ?_;rintro e w1 ⟨rfl,rfl⟩);go_ret2;exact⟨rfl,HG.o⟩
end
end
end
section
section
open Go.RowKit Word
section
variable {w w':World} {m C:Nat} {g:Gph} {sb:Nat} {F T W:Nat->Nat} {S:Nat->Prop}
theorem XnN{x n y:Nat}(h1:1<=x)(h2:x<=g.L.length)(z t u:Nat):thL ((g.put x n y).ob z) t u=thL (g.ob z) t u:=by
 rw[Gph.put_ob h1 h2];by_cases e:z=x
 ·subst e;rw[χ rfl];rfl
 ·rw[ν e]
theorem QK4{x n y:Nat}:(g.put x n y).L.length=g.L.length:=ζf
theorem XSA{x n y:Nat}(hd:∀o∈g.L,∀z∈o.w,z<18446744073709551616)(h1:1<=x)(h2:x<=g.L.length)(hb:y<18446744073709551616):∀o∈(g.put x n y).L,∀z∈o.w,z<18446744073709551616:=λo ho z hz=>by
 rcases ζl ho with h3|h3
 ·exact hd o h3 z hz
 ·rw[h3]at hz;have hz:z∈(g.ob x).w.set n y:=hz;rcases ζl hz with h4|h4
  ·exact hd _ (Gph.ob_mem h1 h2) z h4
  ·rw[h4];exact hb
theorem J8T.putW(h:J8T w m C g sb F T W){x n y:Nat}(h1:1<=x)(h2:x<=g.L.length)(hn:(g.ob x).p<=n)(hb:y<18446744073709551616):J8T (w.setCell ⟨W x,n-(g.ob x).p,none⟩ (.int .u64 (y:Nat))) m C (g.put x n y) sb F T W:=by
 have hx:=h.wo x h1 h2;have t:XF4 (λk=>k=W x) w (w.setCell ⟨W x,n-(g.ob x).p,none⟩ (.int .u64 (y:Nat))):=(XF4.refl (λk=>k=W x) w).setCell (a:=⟨W x,n-(g.ob x).p,none⟩) (λ_=>rfl) _;have n1:m≠W x:=YnK h.row hx (by decide) rfl rfl;have n2:sb≠W x:=YnK h.sl hx (by decide) rfl rfl;refine⟨h.row.touch t n1,h.sl.touch t n2,λz a b=>?_,λz a b=>?_,λz a b=>?_,λa b=>?_,λa b=>?_,λa b=>?_,λa=>?_,?_,h.sn,h.cb,h.ok.put h1 h2 (λh=>absurd h Ω),XSA h.wd h1 h2 hb⟩
 ·rw[QK4]at b;rw[XnN h1 h2];exact(h.th z a b).touch t (YnK (h.th z a b) hx (by decide) rfl rfl)
 ·rw[QK4]at b
  have:(g.put x n y).pts z=g.pts z:=by
   unfold Gph.pts;rw[Gph.put_ob h1 h2];by_cases e:z=x
   ·subst e;rw[χ rfl];exact List.take_set_of_le hn
   ·rw[ν e]
  rw[this];exact(h.ps z a b).touch t (YnK (h.ps z a b) hx (by decide) rfl rfl)
 ·rw[QK4]at b;rw[Gph.put_ob h1 h2];by_cases e:z=x
  ·subst e;rw[χ rfl]
   show Rec _ _ _ (QYW (((g.ob z).w.set n y).drop (g.ob z).p))
   rw[List.drop_set,ν Ω];have:=hx.set (n-(g.ob z).p) (.int .u64 (y:Nat));unfold QYW at this⊢;rw[ζ8];exact this
  ·rw[ν e];exact(h.wo z a b).touch t (λhh=>e (h.injW _ _ a b h1 h2 hh))
 ·rw[QK4];exact h.injF a b
 ·rw[QK4];exact h.injT a b
 ·rw[QK4];exact h.injW a b
 ·rw[QK4];exact h.ts a
 ·rw[QK4];exact h.len
theorem J8T.putT(h:J8T w m C g sb F T W){x n y:Nat}(h1:1<=x)(h2:x<=g.L.length)(hn:n<(g.ob x).p)(hy:y<=g.L.length):J8T (w.setCell ⟨T x,n,none⟩ (XaF F y)) m C (g.put x n y) sb F T W:=by
 have hx:=h.ps x h1 h2;have hb:y<18446744073709551616:=by have:=h.len;omega
 have t:XF4 (λk=>k=T x) w (w.setCell ⟨T x,n,none⟩ (XaF F y)):=(XF4.refl (λk=>k=T x) w).setCell (a:=⟨T x,n,none⟩) (λ_=>rfl) _;have n1:m≠T x:=YnK h.row hx (by decide) rfl rfl;have n2:sb≠T x:=λe=>h.ts x h1 h2 e.symm;refine⟨h.row.touch t n1,h.sl.touch t n2,λz a b=>?_,λz a b=>?_,λz a b=>?_,λa b=>?_,λa b=>?_,λa b=>?_,λa=>?_,?_,h.sn,h.cb,h.ok.put h1 h2 (λ_=>hy),XSA h.wd h1 h2 hb⟩
 ·rw[QK4]at b;rw[XnN h1 h2];exact(h.th z a b).touch t (YnK (h.th z a b) hx (by decide) rfl rfl)
 ·rw[QK4]at b;unfold Gph.pts;rw[Gph.put_ob h1 h2];by_cases e:z=x
  ·subst e;rw[χ rfl]
   show Rec _ _ _ (JYL F (((g.ob z).w.set n y).take (g.ob z).p))
   rw[List.take_set];have:=hx.set n (XaF F y);unfold JYL at this⊢;rw[ζ8];exact this
  ·rw[ν e];exact(h.ps z a b).touch t (λhh=>e (h.injT _ _ a b h1 h2 hh))
 ·rw[QK4]at b
  have:((g.put x n y).ob z).w.drop ((g.put x n y).ob z).p=(g.ob z).w.drop (g.ob z).p:=by
   rw[Gph.put_ob h1 h2];by_cases e:z=x
   ·subst e;rw[χ rfl]
    show ((g.ob z).w.set n y).drop (g.ob z).p=_
    rw[List.drop_set,χ hn]
   ·rw[ν e]
  rw[this];exact(h.wo z a b).touch t (YnK (h.wo z a b) hx (by decide) rfl rfl)
 ·rw[QK4];exact h.injF a b
 ·rw[QK4];exact h.injT a b
 ·rw[QK4];exact h.injW a b
 ·rw[QK4];exact h.ts a
 ·rw[QK4];exact h.len
theorem ZAR{a i kd:Int}(he:g.fdE a i kd=0):g.sl a=true:=by
 unfold Gph.fdE at he;cases hs:g.sl a with
 | true=>rfl
 | false=>rw[hs]at he;cases he
theorem JLf{p f k:Nat}(hs:p+f+k<=255){n:Nat}{kd:Int}(hk:Yoq ⟨p,f,k⟩ (n:Nat)=kd)(h0:kd≠1):p<=n:=by
 unfold Yoq Z3o at hk;rw[χ (JJj hs)]at hk;dsimp only at hk;apply Classical.byContradiction;intro hh;rw[χ Ω,χ Ω]at hk;exact h0 hk.symm
def XNu(g:Gph)(W:Nat->Nat)(a i kd:Int):Value:=if g.fdE a i kd=0 then .pointer (some ⟨W (g.at a),i.toNat-(g.ob (g.at a)).p,none⟩)else .pointer none
theorem V9z(h:J8T w m C g sb F T W){a i kd:Int}(he:g.fdE a i kd=0)(h1:kd≠1):∃k x n,a=(k:Nat)/\k<g.S.length/\g.S.getD k 0=x/\1<=x/\x<=g.L.length/\i=(n:Nat)/\n<(g.ob x).w.length/\(g.ob x).p<=n/\g.fdV a i kd=(g.ob x).w.getD n 0/\V9Z g F a i kd=.pointer (some ⟨F x,0,none⟩)/\XNu g W a i kd=.pointer (some ⟨W x,n-(g.ob x).p,none⟩):=by
 obtain⟨k,rfl,hk⟩:=J9p (ZAR he);obtain⟨x,n,hx,h1x,h2x,rfl,hn,hv,hkk⟩:=Zn9 h hk he;have hl:=h.wl h1x h2x;refine⟨k,x,n,rfl,hk,hx,h1x,h2x,rfl,hn,JLf hl.2 hkk h1,hv,?_,?_⟩
 ·unfold V9Z;rw[χ he]
  show XaF F (g.S.getD k 0)=_
  rw[hx];exact ν Ω
 ·unfold XNu;rw[χ he]
  show Value.pointer (some ⟨W (g.S.getD k 0),n-(g.ob (g.S.getD k 0)).p,none⟩)=_
  rw[hx]
theorem XUM(h:J8T w m C g sb F T W)(a i kd:Int)(h1:kd≠1):Calls prog 49 #[.pointer (some ⟨m,0,none⟩),.int .i64 a,.int .i64 i,.int .i64 kd] w λe w'=>e=.returned (.tuple #[XNu g W a i kd,.int .i64 (g.fdE a i kd)])/\Gr w w':=by
 have HK:=hid (VDT h a i kd);by_cases he:g.fdE a i kd=0
 ·obtain⟨k,x,n,rfl,hk,hx,h1x,h2x,rfl,hn,hpn,-,hf,hw⟩:=V9z h he h1;rw[he,hf]at HK;rw[he,hw];have hth:=h.th x h1x h2x;have hwl:=h.wl h1x h2x;have HC:Hid (∀w',Gr w w'->Rec w' (F x) 81 (thL (g.ob x) (T x) (W x))):=⟨λw' gw=>hth.gr gw⟩;unfold thL at HC;have hi1:(n:Int)-((g.ob x).p:Int)=((n-(g.ob x).p:Nat):Int):=Ω
  have hi2:((n-(g.ob x).p:Nat):Int)<(((g.ob x).f+(g.ob x).k:Nat):Int):=Ω
  have hi3:(g.ob x).f+(g.ob x).k<=255:=Ω
  generalize (g.ob x).f+(g.ob x).k=wl at HC hi2 hi3;generalize n-(g.ob x).p=q at hi1 hi2⊢;generalize (g.ob x).p=pp at HC hi1;generalize (g.ob x).f=ff at HC;generalize (g.ob x).k=kk at HC;generalize F x=fx at HC HK;generalize T x=tx at HC;generalize W x=wx at HC⊢;clear he hf hw hk hx h1x h2x hn hpn hth hwl h h1;go_enter func49,ntmps49;go_upto_region 4 with(go_at_call 55;refine(HK.o).mono ?_;rintro e w1 ⟨rfl,hg⟩;have HG1:=hid hg;clear hg);have hc:=HC.o _ HG1.o;have q0:=hc.cell (j:=0) rfl;have q4:=hc.cell (j:=4) rfl;have ql:=hc.lt;clear hc;go_quiet (fail);go_wp2;go_ret2;exact⟨rfl,HG1.o.drewN _⟩
 ·have hf:V9Z g F a i kd=.pointer none:=by unfold V9Z;rw[ν he]
  have hw:XNu g W a i kd=.pointer none:=by unfold XNu;rw[ν he]
  rw[hf]at HK;rw[hw];generalize g.fdE a i kd=E at HK he⊢;have e1:(E !=0)=true:=by simp[he]
  clear hf hw he h;go_enter func49,ntmps49;go_wp2_with(go_at_call 55;refine(HK.o).mono ?_;rintro e w1 ⟨rfl,hg⟩;have HG1:=hid hg;clear hg);go_ret2;exact⟨rfl,HG1.o⟩
theorem QH1(h:J8T w m C g sb F T W)(a i kd:Int)(h1:kd≠1):Calls prog 34 #[.pointer (some ⟨m,0,none⟩),.int .i64 a,.int .i64 i,.int .i64 kd] w λe w'=>e=.returned (.tuple #[.int .u64 (g.fdV a i kd:Nat),.int .i64 (g.fdE a i kd)])/\Gr w w':=by
 have HK:=hid (XUM h a i kd h1);by_cases he:g.fdE a i kd=0
 ·obtain⟨k,x,n,rfl,hk,hx,h1x,h2x,rfl,hn,hpn,hv,hf,hw⟩:=V9z h he h1;have hwl:=h.wl h1x h2x;rw[he,hw]at HK;rw[he,hv];have hwo:=h.wo x h1x h2x
  have hj:(QYW ((g.ob x).w.drop (g.ob x).p))[n-(g.ob x).p]?=some (.int .u64 ((g.ob x).w.getD n 0:Nat)):=by
   rw[YGR (by rw[ζs];omega)];rw[θ,ζ0,show (g.ob x).p+(n-(g.ob x).p)=n by omega,<-θ]
  have HC:Hid (∀w',Gr w w'->w'.cell? ⟨W x,n-(g.ob x).p,none⟩=some (.int .u64 ((g.ob x).w.getD n 0:Nat))):=⟨λw' gw=>(hwo.gr gw).cell hj⟩;have HL:Hid (∀w',Gr w w'->W x<w'.heap.size):=⟨λw' gw=>(hwo.gr gw).lt⟩;generalize (g.ob x).w.getD n 0=v at HC⊢;generalize n-(g.ob x).p=q at HC HK;generalize W x=wx at HC HK HL;clear he hf hw hk hx h1x h2x hn hpn hwl h h1 hwo hj hv;go_enter func34,ntmps34;go_upto_region 4 with(go_at_call 49;refine(HK.o).mono ?_;rintro e w1 ⟨rfl,hg⟩;have HG1:=hid hg;clear hg);have hc:=HC.o _ HG1.o;have hl:=HL.o _ HG1.o;go_wp2;go_ret2;exact⟨rfl,HG1.o⟩
 ·have hw:XNu g W a i kd=.pointer none:=by unfold XNu;rw[ν he]
  have hv:g.fdV a i kd=0:=by unfold Gph.fdV;rw[ν he]
  rw[hw]at HK;rw[hv];generalize g.fdE a i kd=E at HK he⊢;have e1:(E !=0)=true:=by simp[he]
  clear hw hv he h;go_enter func34,ntmps34;go_wp2_with(go_at_call 49;refine(HK.o).mono ?_;rintro e w1 ⟨rfl,hg⟩;have HG1:=hid hg;clear hg);go_ret2;exact⟨rfl,HG1.o⟩
def V4X(w:World)(S:Nat->Prop)(m C:Nat)(g':Gph)(v:Value)(e:Ending)(w':World):Prop:=e=.returned v/\XF4 S w w'/\Xli w' S m C g'
theorem Zgk(hA:Xli w S m C g)(a i kd:Int)(h1:kd≠1){y:Nat}(hb:y<18446744073709551616):Calls prog 41 #[.pointer (some ⟨m,0,none⟩),.int .i64 a,.int .i64 i,.int .i64 kd,.int .u64 y] w (V4X w S m C (g.wrG a i kd y) (.int .i64 (g.fdE a i kd))):=by
 obtain⟨sb,F,T,W,h,s1,s2,s3⟩:=hA;have HK:=hid (XUM h a i kd h1);by_cases he:g.fdE a i kd=0
 ·obtain⟨k,x,n,rfl,hk,hx,h1x,h2x,rfl,hn,hpn,hv,hf,hw⟩:=V9z h he h1;have hwl:=h.wl h1x h2x;rw[he,hw]at HK;rw[he,X1n he hx];have hwo:=h.wo x h1x h2x
  have hj:(QYW ((g.ob x).w.drop (g.ob x).p))[n-(g.ob x).p]?=some (.int .u64 ((g.ob x).w.getD n 0:Nat)):=by
   rw[YGR (by rw[ζs];omega)];rw[θ,ζ0,show (g.ob x).p+(n-(g.ob x).p)=n by omega,<-θ]
  have HC:Hid (∀w',Gr w w'->w'.cell? ⟨W x,n-(g.ob x).p,none⟩=some (.int .u64 ((g.ob x).w.getD n 0:Nat))/\w'.frozen? ⟨W x,n-(g.ob x).p,none⟩=false):=⟨λw' gw=>⟨(hwo.gr gw).cell hj,(hwo.gr gw).free _⟩⟩;have HL:Hid (∀w',Gr w w'->W x<w'.heap.size):=⟨λw' gw=>(hwo.gr gw).lt⟩;have HF:Hid (∀V,Gr w V->V4X w S m C (g.put x n y) (.int .i64 0) (.returned (.int .i64 0)) (V.setCell ⟨W x,n-(g.ob x).p,none⟩ (.int .u64 (y:Nat)))):=⟨λV gV=>⟨rfl,(gV.touch S).setCell (λ_=>(s3 x h1x h2x).2.2) _,sb,F,T,W,(h.gr gV).putW h1x h2x hpn hb,s1,s2,λz a b=>by rw[QK4]at b;exact s3 z a b⟩⟩;generalize (g.ob x).w.getD n 0=v at HC;generalize n-(g.ob x).p=q at HC HK HF;generalize W x=wx at HC HK HL HF;generalize g.put x n y=g2 at HF⊢;clear he hf hw hk hx h1x h2x hn hpn hwl h h1 hwo hj hv s1 s2 s3 hb;go_enter func41,ntmps41;go_upto_region 3 with(go_at_call 49;refine(HK.o).mono ?_;rintro e w1 ⟨rfl,hg⟩;have HG1:=hid hg;clear hg);obtain⟨hc,hfr⟩:=HC.o _ HG1.o;have hl:=HL.o _ HG1.o;go_wp2;go_ret;exact HF.o _ HG1.o
 ·have hw:XNu g W a i kd=.pointer none:=by unfold XNu;rw[ν he]
  have hv:g.wrG a i kd y=g:=by unfold Gph.wrG;rw[ν he]
  rw[hw]at HK;rw[hv];have HF:Hid (∀V,Gr w V->Xli V S m C g/\XF4 S w V):=⟨λV gV=>⟨⟨sb,F,T,W,h.gr gV,s1,s2,s3⟩,gV.touch S⟩⟩;generalize g.fdE a i kd=E at HK he⊢;have e1:(E==0)=false:=by simp[he]
  clear hw hv he h s1 s2 s3;go_enter func41,ntmps41;go_wp2_with(go_at_call 49;refine(HK.o).mono ?_;rintro e w1 ⟨rfl,hg⟩;have HG1:=hid hg;clear hg);go_ret;exact⟨rfl,(HF.o _ HG1.o).2,(HF.o _ HG1.o).1⟩
end
end
end
section
section
open Go.RowKit Word
section
variable {w w':World} {m C:Nat} {g:Gph} {sb:Nat} {F T W:Nat->Nat} {S:Nat->Prop}
theorem J8T.sset(h:J8T w m C g sb F T W){k y:Nat}(hy:y<=g.L.length):J8T (w.setCell ⟨sb,k,none⟩ (XaF F y)) m C (g.setSl k y) sb F T W:=by
 have t:XF4 (λq=>q=sb) w (w.setCell ⟨sb,k,none⟩ (XaF F y)):=(XF4.refl (λq=>q=sb) w).setCell (a:=⟨sb,k,none⟩) (λ_=>rfl) _;have hl:(g.setSl k y).S.length=g.S.length:=ζf;refine⟨?_,?_,λz a b=>(h.th z a b).touch t (YnK (h.th z a b) h.sl (by decide) rfl rfl),λz a b=>(h.ps z a b).touch t (h.ts z a b),λz a b=>(h.wo z a b).touch t (YnK (h.wo z a b) h.sl (by decide) rfl rfl),h.injF,h.injT,h.injW,h.ts,h.len,by rw[hl];exact h.sn,h.cb,⟨h.ok.len,h.ok.pt,λz hz=>?_⟩,h.wd⟩
 ·rw[hl];exact h.row.touch t (YnK h.row h.sl (by decide) rfl rfl)
 ·have:=h.sl.set k (XaF F y)
  show Rec _ _ _ (JYL F (g.S.set k y))
  unfold JYL at this⊢;rw[ζ8];exact this
 ·rcases ζl hz with h1|h1
  ·exact h.ok.st z h1
  ·rw[h1];exact hy
def Qn8(g:Gph)(F:Nat->Nat)(a:Int):Value:=if g.shE a=0 then XaF F (g.at a)else .pointer none
theorem ZGQ(h:J8T w m C g sb F T W)(a:Int):Calls prog 36 #[.pointer (some ⟨m,0,none⟩),.int .i64 a] w λe w'=>e=.returned (.tuple #[Qn8 g F a,.int .i64 (g.shE a)])/\Gr w w':=by
 have HI:=hid (X7N h a);have HG:=hid ((Gr.refl w).alloc (.cells #[.int .i64 a] 3));have HV:Hid (Qn8 g F a=if g.shE a=0 then XaF F (g.at a)else .pointer none):=⟨rfl⟩;have HE:Hid (g.shE a=if g.sl a then (if g.at a=0 then 18 else 0)else 17):=⟨rfl⟩;generalize Qn8 g F a=V at HV⊢;by_cases hs:g.sl a=true
 ·rw[hs]at HI HE;obtain⟨n,rfl,hn⟩:=J9p hs;have HE:Hid (g.shE n=if g.S.getD n 0=0 then 18 else 0):=⟨HE.o⟩;have HV:Hid (V=if g.shE n=0 then XaF F (g.S.getD n 0)else .pointer none):=⟨HV.o⟩;generalize g.shE n=E at HE HV⊢;have hnI:(n:Int)<(g.S.length:Int):=Ω
  have hsn:=h.sn;have hg:=(Gr.refl w).alloc (.cells #[.int .i64 (n:Int)] 3);have c1:=(h.gr hg).row.cell (j:=1) rfl;have hlt:=(h.gr hg).row.lt;have cs:=(h.gr hg).slot hn;have hsl:=(h.gr hg).sl.lt;generalize g.S.getD n 0=x at cs HE HV;generalize g.S.length=ns at c1 hnI hsn;clear hs hn hg h;by_cases h0:x=0
  ·subst h0;rw[show XaF F 0=.pointer none from rfl]at cs HV;have HEE:Hid (E=18):=⟨by rw[HE.o,χ rfl]⟩;have HVV:Hid (V=.pointer none):=⟨by rw[HV.o,HEE.o];rfl⟩;clear HE HV;go_enter func36,ntmps36;go_wp2_with(go_at_call 35;refine(HI.o).mono ?_;rintro e w1 ⟨rfl,rfl⟩);go_ret2;exact⟨by rw[HEE.o,HVV.o] <;> rfl,HG.o⟩
  ·rw[show XaF F x=.pointer (some ⟨F x,0,none⟩)from ν h0]at cs HV;have HEE:Hid (E=0):=⟨by rw[HE.o,ν h0]⟩;have HVV:Hid (V=.pointer (some ⟨F x,0,none⟩)):=⟨by rw[HV.o,HEE.o];rfl⟩;generalize F x=fx at cs HVV;clear HE HV h0;go_enter func36,ntmps36;go_wp2_with(go_at_call 35;refine(HI.o).mono ?_;rintro e w1 ⟨rfl,rfl⟩);go_ret2;exact⟨by rw[HEE.o,HVV.o] <;> rfl,HG.o⟩
 ·rw[ζD]at hs;rw[hs]at HI HE;have HEE:Hid (g.shE a=17):=⟨HE.o⟩;have HVV:Hid (V=.pointer none):=⟨by rw[HV.o,HEE.o];rfl⟩;rw[HEE.o];clear HE HV hs h;go_enter func36,ntmps36;go_wp2_with(go_at_call 35;refine(HI.o).mono ?_;rintro e w1 ⟨rfl,rfl⟩);go_ret2;exact⟨by rw[HVV.o] <;> rfl,HG.o⟩
theorem Vz2(hA:Xli w S m C g)(a:Int):Calls prog 42 #[.pointer (some ⟨m,0,none⟩),.int .i64 a] w (V4X w S m C (g.clG a) (.int .i64 (g.slE a))):=by
 obtain⟨sb,F,T,W,h,s1,s2,s3⟩:=hA;have HI:=hid (X7N h a);have HG:=hid ((Gr.refl w).alloc (.cells #[.int .i64 a] 3));by_cases hs:g.sl a=true
 ·have hE:g.slE a=0:=by unfold Gph.slE;rw[χ hs]
  have hC:g.clG a=g.setSl a 0:=by unfold Gph.clG;rw[χ hs]
  rw[hE,hC];rw[hs]at HI;obtain⟨n,rfl,hn⟩:=J9p hs;have hnI:(n:Int)<(g.S.length:Int):=Ω
  have hsn:=h.sn;have hg:=(Gr.refl w).alloc (.cells #[.int .i64 (n:Int)] 3);have c1:=(h.gr hg).row.cell (j:=1) rfl;have hlt:=(h.gr hg).row.lt;have cs:=(h.gr hg).slot hn;have hsl:=(h.gr hg).sl.lt;have hfr:=(h.gr hg).sl.free n;have HF:Hid (V4X w S m C (g.setSl n 0) (.int .i64 0) (.returned (.int .i64 0)) ((w.alloc (.cells #[.int .i64 (n:Int)] 3)).setCell ⟨sb,n,none⟩ (.pointer none))):=⟨rfl,(hg.touch S).setCell (λ_=>s2) _,sb,F,T,W,(h.gr hg).sset (ζb _),s1,s2,λz a b=>s3 z a b⟩;generalize XaF F (g.S.getD n 0)=vx at cs;generalize g.S.length=ns at c1 hnI hsn;generalize g.setSl n 0=g2 at HF⊢;clear hs hn hg h s1 s2 s3 hE hC;go_enter func42,ntmps42;go_wp2_with(go_at_call 35;refine(HI.o).mono ?_;rintro e w1 ⟨rfl,rfl⟩);go_ret;exact HF.o
 ·rw[ζD]at hs;have hE:g.slE a=17:=by unfold Gph.slE;rw[hs];rfl
  have hC:g.clG a=g:=by unfold Gph.clG;rw[hs];rfl
  rw[hs]at HI;rw[hE,hC];have HF:Hid (Xli (w.alloc (.cells #[.int .i64 a] 3)) S m C g/\XF4 S w (w.alloc (.cells #[.int .i64 a] 3))):=⟨⟨sb,F,T,W,h.gr HG.o,s1,s2,s3⟩,HG.o.touch S⟩;clear hs hE hC h s1 s2 s3;go_enter func42,ntmps42;go_wp2_with(go_at_call 35;refine(HI.o).mono ?_;rintro e w1 ⟨rfl,rfl⟩);go_ret;exact⟨rfl,HF.o.2,HF.o.1⟩
end
end
end
section
section
open Go.RowKit Word
theorem QFn(x:Nat):VUa x x=false:=by
 unfold VUa;rw[bne_self_eq_false];by_cases h:sgN<=x <;> simp[h]
theorem XyT{x y:Nat}(h:x≠y)(hb:VUa x y=false):VUa y x=true:=by
 unfold VUa at hb⊢;by_cases h1:sgN<=x <;> by_cases h2:sgN<=y <;> simp[h1,h2]at hb⊢<;> omega
section
variable {w w':World} {m C:Nat} {g:Gph} {sb:Nat} {F T W:Nat->Nat} {S:Nat->Prop}
theorem ZJN(h:J8T w m C g sb F T W)(a i kd:Int):g.fdV a i kd<18446744073709551616:=by
 by_cases he:g.fdE a i kd=0
 ·obtain⟨k,rfl,hk⟩:=J9p (ZAR he);obtain⟨x,n,hx,h1,h2,rfl,hn,hv,-⟩:=Zn9 h hk he;rw[hv,θ,μ hn];exact h.wd _ (Gph.ob_mem h1 h2) _ (ζo hn)
 ·unfold Gph.fdV;rw[ν he];decide
def VjJ(x:Nat):Int:=if x<256 then (x:Int)else -1
def VNF(w:World)(g:Gph)(x:GOp)(e:Ending)(w':World):Prop:=e=.returned (.tuple #[.int .i64 (g.orV x.a x.i x.b (VjJ x.wd)),.int .i64 (g.orE x.a x.i x.b (VjJ x.wd))])/\Gr w w'
theorem Qed(h:J8T w m C g sb F T W)(x:GOp):Calls prog 38 #[.pointer (some ⟨m,0,none⟩),.agg (Qol x)] w (VNF w g x):=by
 obtain⟨kd,xa,xb,xi,xh,xw,xf⟩:=x;have HB:=hid ((Gr.refl w).alloc (.cells (Qol ⟨kd,xa,xb,xi,xh,xw,xf⟩) 35));have hrx:Rec (w.alloc (.cells (Qol ⟨kd,xa,xb,xi,xh,xw,xf⟩) 35)) w.heap.size 35 (opL ⟨kd,xa,xb,xi,xh,xw,xf⟩):=Rec.new w 35 (opL ⟨kd,xa,xb,xi,xh,xw,xf⟩);obtain⟨wb,hwb⟩:∃wb,wb=w.alloc (.cells (Qol ⟨kd,xa,xb,xi,xh,xw,xf⟩) 35):=⟨_,rfl⟩;rw[<-hwb]at HB hrx;have HWB:=hid hwb;have HRX:=hid hrx;have k1:=hrx.cell (j:=1) rfl;have k3:=hrx.cell (j:=3) rfl;have k7:=hrx.cell (j:=7) rfl;have kl:=hrx.lt;unfold Qol at HWB⊢;unfold VNF;dsimp only at HWB⊢;have HK:Hid (VjJ xw=if xw<256 then (xw:Int)else -1):=⟨rfl⟩;obtain⟨kI,hkI⟩:∃kI,kI=VjJ xw:=⟨_,rfl⟩;rw[<-hkI]at HK⊢;have HG1:=hid (QH1 (h.gr HB.o) xa xi 2 (by decide));have HG2:=hid (λ(V:World) (gV:Gr wb V)=>QH1 ((h.gr HB.o).gr gV) xb kI 2 (by decide));have HE:Hid (g.orE xa xi xb kI=if g.fdE xa xi 2=0 then g.fdE xb kI 2 else g.fdE xa xi 2):=⟨rfl⟩;have HV:Hid (g.orV xa xi xb kI=if g.orE xa xi xb kI=0 then (if VUa (g.fdV xa xi 2) (g.fdV xb kI 2)then -1 else if VUa (g.fdV xb kI 2) (g.fdV xa xi 2)then 1 else 0)else 0):=⟨rfl⟩;have hx1:=ZJN h xa xi 2;have hx2:=ZJN h xb kI 2;generalize g.orV xa xi xb kI=V at HV⊢;generalize g.orE xa xi xb kI=E at HE HV⊢;generalize g.fdE xa xi 2=E1 at HG1 HE;generalize g.fdE xb kI 2=E2 at HG2 HE;generalize g.fdV xa xi 2=x at HG1 HV hx1;generalize g.fdV xb kI 2=y at HG2 HV hx2;have HX:=hid (λV=>ZZy x y hx1 hx2 V);clear h hrx hwb hkI hx1 hx2
 obtain⟨z,d0,hz⟩:∃z,decide ((xw:Int)<256)=z/\(z=true->xw<256/\kI=(xw:Int))/\(z=false->kI = -1):=by
  by_cases hw:xw<256
  ·exact⟨true,υ Ω,λ_=>⟨hw,by rw[HK.o,χ hw]⟩,λh=>Bool.noConfusion h⟩
  ·exact⟨false,π Ω,λh=>Bool.noConfusion h,λ_=>by rw[HK.o,ν hw]⟩
 have HZ:=hid hz;clear hz HK;by_cases h1:E1=0
 ·have d1:(E1 !=0)=false:=by simp[h1]
  have HEE:Hid (E=E2):=⟨by rw[HE.o,χ h1]⟩;clear HE;by_cases h2:E2=0
  ·have d2:(E2 !=0)=false:=by simp[h2]
   have HVV:Hid (V=if VUa x y then -1 else if VUa y x then 1 else 0):=⟨by rw[HV.o,χ (HEE.o.trans h2)]⟩;by_cases h3:x=y
   ·subst h3;have HVV:Hid (V=0):=⟨by rw[HVV.o,QFn];rfl⟩;clear h1 h2 HV HX;cases z
    ·have HKI:Hid (kI = -1):=⟨HZ.o.2 rfl⟩;clear HZ;go_enter func38,ntmps38;go_upto_region 1 with(fail);rw[<-HWB.o];go_upto_region 5 with(go_at_call 34;refine(HG1.o).mono ?_;rintro e w1 ⟨rfl,hg⟩;have HGA:=hid hg;clear hg);have k2:=(HRX.o.gr HGA.o).cell (j:=2) rfl;have kl2:=(HRX.o.gr HGA.o).lt;have HC:=HG2.o _ HGA.o;rw[HKI.o]at HC;have HC:=hid HC;clear k1 k3 k7 kl;go_wp2_with(go_at_call 34;refine(HC.o).mono ?_;rintro e w2 ⟨rfl,hg⟩;have HGB:=hid (HGA.o.trans hg);clear hg);go_ret2;exact⟨by rw[HEE.o,HVV.o] <;> rfl,HB.o.trans HGB.o⟩
    ·have hw:=(HZ.o.1 rfl).1;have HKI:Hid (kI=(xw:Int)):=⟨(HZ.o.1 rfl).2⟩;clear HZ;go_enter func38,ntmps38;go_upto_region 1 with(fail);rw[<-HWB.o];go_upto_region 5 with(go_at_call 34;refine(HG1.o).mono ?_;rintro e w1 ⟨rfl,hg⟩;have HGA:=hid hg;clear hg);have k2:=(HRX.o.gr HGA.o).cell (j:=2) rfl;have kl2:=(HRX.o.gr HGA.o).lt;have HC:=HG2.o _ HGA.o;rw[HKI.o]at HC;have HC:=hid HC;clear k1 k3 k7 kl;go_wp2_with(go_at_call 34;refine(HC.o).mono ?_;rintro e w2 ⟨rfl,hg⟩;have HGB:=hid (HGA.o.trans hg);clear hg);go_ret2;exact⟨by rw[HEE.o,HVV.o] <;> rfl,HB.o.trans HGB.o⟩
   ·have HEE:Hid (E=0):=⟨HEE.o.trans h2⟩;have d3:(x==y)=false:=σ.2 h3;have d4:(((x:Nat):Int)==(y:Nat))=false:=by rw[σ];omega
    cases hb:VUa x y with
    | true=>
     have HVV:Hid (V = -1):=⟨by rw[HVV.o,hb];rfl⟩;rw[hb]at HX;clear h1 h2 h3 HV hb;cases z
     ·have HKI:Hid (kI = -1):=⟨HZ.o.2 rfl⟩;clear HZ;go_enter func38,ntmps38;go_upto_region 1 with(fail);rw[<-HWB.o];go_upto_region 5 with(go_at_call 34;refine(HG1.o).mono ?_;rintro e w1 ⟨rfl,hg⟩;have HGA:=hid hg;clear hg);have k2:=(HRX.o.gr HGA.o).cell (j:=2) rfl;have kl2:=(HRX.o.gr HGA.o).lt;have HC:=HG2.o _ HGA.o;rw[HKI.o]at HC;have HC:=hid HC;clear k1 k3 k7 kl;go_upto_region 10 with(go_at_call 34;refine(HC.o).mono ?_;rintro e w2 ⟨rfl,hg⟩;have HGB:=hid (HGA.o.trans hg);clear hg)
      go_wp2_with(first
       | (go_at_call 54;refine(HX.o _).mono ?_;rintro e w5 ⟨rfl,rfl⟩)
       | (go_at_call 52;refine(J1k _ _).mono ?_;rintro e w3 ⟨rfl,rfl⟩))
      go_ret2;exact⟨by rw[HEE.o,HVV.o] <;> rfl,HB.o.trans HGB.o⟩
     ·have hw:=(HZ.o.1 rfl).1;have HKI:Hid (kI=(xw:Int)):=⟨(HZ.o.1 rfl).2⟩;clear HZ;go_enter func38,ntmps38;go_upto_region 1 with(fail);rw[<-HWB.o];go_upto_region 5 with(go_at_call 34;refine(HG1.o).mono ?_;rintro e w1 ⟨rfl,hg⟩;have HGA:=hid hg;clear hg);have k2:=(HRX.o.gr HGA.o).cell (j:=2) rfl;have kl2:=(HRX.o.gr HGA.o).lt;have HC:=HG2.o _ HGA.o;rw[HKI.o]at HC;have HC:=hid HC;clear k1 k3 k7 kl;go_upto_region 10 with(go_at_call 34;refine(HC.o).mono ?_;rintro e w2 ⟨rfl,hg⟩;have HGB:=hid (HGA.o.trans hg);clear hg)
      go_wp2_with(first
       | (go_at_call 54;refine(HX.o _).mono ?_;rintro e w5 ⟨rfl,rfl⟩)
       | (go_at_call 52;refine(J1k _ _).mono ?_;rintro e w3 ⟨rfl,rfl⟩))
      go_ret2;exact⟨by rw[HEE.o,HVV.o] <;> rfl,HB.o.trans HGB.o⟩
    | false=>
     have HVV:Hid (V=1):=⟨by rw[HVV.o,hb,XyT h3 hb];rfl⟩;rw[hb]at HX;clear h1 h2 h3 HV hb;cases z
     ·have HKI:Hid (kI = -1):=⟨HZ.o.2 rfl⟩;clear HZ;go_enter func38,ntmps38;go_upto_region 1 with(fail);rw[<-HWB.o];go_upto_region 5 with(go_at_call 34;refine(HG1.o).mono ?_;rintro e w1 ⟨rfl,hg⟩;have HGA:=hid hg;clear hg);have k2:=(HRX.o.gr HGA.o).cell (j:=2) rfl;have kl2:=(HRX.o.gr HGA.o).lt;have HC:=HG2.o _ HGA.o;rw[HKI.o]at HC;have HC:=hid HC;clear k1 k3 k7 kl;go_upto_region 10 with(go_at_call 34;refine(HC.o).mono ?_;rintro e w2 ⟨rfl,hg⟩;have HGB:=hid (HGA.o.trans hg);clear hg)
      go_wp2_with(first
       | (go_at_call 54;refine(HX.o _).mono ?_;rintro e w5 ⟨rfl,rfl⟩)
       | (go_at_call 52;refine(J1k _ _).mono ?_;rintro e w3 ⟨rfl,rfl⟩))
      go_ret2;exact⟨by rw[HEE.o,HVV.o] <;> rfl,HB.o.trans HGB.o⟩
     ·have hw:=(HZ.o.1 rfl).1;have HKI:Hid (kI=(xw:Int)):=⟨(HZ.o.1 rfl).2⟩;clear HZ;go_enter func38,ntmps38;go_upto_region 1 with(fail);rw[<-HWB.o];go_upto_region 5 with(go_at_call 34;refine(HG1.o).mono ?_;rintro e w1 ⟨rfl,hg⟩;have HGA:=hid hg;clear hg);have k2:=(HRX.o.gr HGA.o).cell (j:=2) rfl;have kl2:=(HRX.o.gr HGA.o).lt;have HC:=HG2.o _ HGA.o;rw[HKI.o]at HC;have HC:=hid HC;clear k1 k3 k7 kl;go_upto_region 10 with(go_at_call 34;refine(HC.o).mono ?_;rintro e w2 ⟨rfl,hg⟩;have HGB:=hid (HGA.o.trans hg);clear hg)
      go_wp2_with(first
       | (go_at_call 54;refine(HX.o _).mono ?_;rintro e w5 ⟨rfl,rfl⟩)
       | (go_at_call 52;refine(J1k _ _).mono ?_;rintro e w3 ⟨rfl,rfl⟩))
      go_ret2;exact⟨by rw[HEE.o,HVV.o] <;> rfl,HB.o.trans HGB.o⟩
  ·have d2:(E2 !=0)=true:=by simpa using h2
   have HVV:Hid (V=0):=⟨by rw[HV.o,ν (by rw[HEE.o];exact h2)]⟩;clear h1 h2 HV HX;cases z
   ·have HKI:Hid (kI = -1):=⟨HZ.o.2 rfl⟩;clear HZ;go_enter func38,ntmps38;go_upto_region 1 with(fail);rw[<-HWB.o];go_upto_region 5 with(go_at_call 34;refine(HG1.o).mono ?_;rintro e w1 ⟨rfl,hg⟩;have HGA:=hid hg;clear hg);have k2:=(HRX.o.gr HGA.o).cell (j:=2) rfl;have kl2:=(HRX.o.gr HGA.o).lt;have HC:=HG2.o _ HGA.o;rw[HKI.o]at HC;have HC:=hid HC;clear k1 k3 k7 kl;go_wp2_with(go_at_call 34;refine(HC.o).mono ?_;rintro e w2 ⟨rfl,hg⟩;have HGB:=hid (HGA.o.trans hg);clear hg);go_ret2;exact⟨by rw[HEE.o,HVV.o] <;> rfl,HB.o.trans HGB.o⟩
   ·have hw:=(HZ.o.1 rfl).1;have HKI:Hid (kI=(xw:Int)):=⟨(HZ.o.1 rfl).2⟩;clear HZ;go_enter func38,ntmps38;go_upto_region 1 with(fail);rw[<-HWB.o];go_upto_region 5 with(go_at_call 34;refine(HG1.o).mono ?_;rintro e w1 ⟨rfl,hg⟩;have HGA:=hid hg;clear hg);have k2:=(HRX.o.gr HGA.o).cell (j:=2) rfl;have kl2:=(HRX.o.gr HGA.o).lt;have HC:=HG2.o _ HGA.o;rw[HKI.o]at HC;have HC:=hid HC;clear k1 k3 k7 kl;go_wp2_with(go_at_call 34;refine(HC.o).mono ?_;rintro e w2 ⟨rfl,hg⟩;have HGB:=hid (HGA.o.trans hg);clear hg);go_ret2;exact⟨by rw[HEE.o,HVV.o] <;> rfl,HB.o.trans HGB.o⟩
 ·have d1:(E1 !=0)=true:=by simpa using h1
  have HEE:Hid (E=E1):=⟨by rw[HE.o,ν h1]⟩;have HVV:Hid (V=0):=⟨by rw[HV.o,ν (by rw[HEE.o];exact h1)]⟩;clear h1 HE HV HG2 HX;cases z
  ·have HKI:Hid (kI = -1):=⟨HZ.o.2 rfl⟩;clear HZ;go_enter func38,ntmps38;go_upto_region 1 with(fail);rw[<-HWB.o];go_upto_region 5 with(go_at_call 34;refine(HG1.o).mono ?_;rintro e w1 ⟨rfl,hg⟩;have HGA:=hid hg;clear hg);clear k1 k3 k7 kl;have HGB:=hid HGA.o;go_wp2;go_ret2;exact⟨by rw[HEE.o,HVV.o] <;> rfl,HB.o.trans HGB.o⟩
  ·have hw:=(HZ.o.1 rfl).1;have HKI:Hid (kI=(xw:Int)):=⟨(HZ.o.1 rfl).2⟩;clear HZ;go_enter func38,ntmps38;go_upto_region 1 with(fail);rw[<-HWB.o];go_upto_region 5 with(go_at_call 34;refine(HG1.o).mono ?_;rintro e w1 ⟨rfl,hg⟩;have HGA:=hid hg;clear hg);clear k1 k3 k7 kl;have HGB:=hid HGA.o;go_wp2;go_ret2;exact⟨by rw[HEE.o,HVV.o] <;> rfl,HB.o.trans HGB.o⟩
end
end
end
section
section
open Go.RowKit Word
section
variable {w w':World} {m C:Nat} {g:Gph} {sb:Nat} {F T W:Nat->Nat} {S:Nat->Prop}
theorem Vli(F:Nat->Nat)(y:Nat):∃p,XaF F y=.pointer p:=by
 unfold XaF
 split <;> exact⟨_,rfl⟩
theorem XBu(h:J8T w m C g sb F T W){a i:Int}(he:g.fdE a i 1=0):∃k x n,a=(k:Nat)/\k<g.S.length/\g.S.getD k 0=x/\1<=x/\x<=g.L.length/\i=(n:Nat)/\n<(g.ob x).p/\n<(g.pts x).length/\g.fdV a i 1=(g.pts x).getD n 0/\V9Z g F a i 1=.pointer (some ⟨F x,0,none⟩)/\g.fdV a i 1<=g.L.length:=by
 obtain⟨k,rfl,hk⟩:=J9p (ZAR he);obtain⟨x,n,hx,h1x,h2x,rfl,hn,hv,hkk⟩:=Zn9 h hk he;have hl:=h.wl h1x h2x
 have hnp:n<(g.ob x).p:=by
  unfold Yoq GOb.hdr at hkk;dsimp only at hkk
  split at hkk
  ·split at hkk
   ·omega
   ·split at hkk <;> cases hkk
  ·cases hkk
 have hpl:n<(g.pts x).length:=by unfold Gph.pts;rw[ζk];omega
 have hv2:g.fdV k n 1=(g.pts x).getD n 0:=by
  rw[hv,θ,θ];unfold Gph.pts;rw[List.getElem?_take,χ hnp]
 refine⟨k,x,n,rfl,hk,hx,h1x,h2x,rfl,hnp,hpl,hv2,?_,?_⟩
 ·unfold V9Z;rw[χ he]
  show XaF F (g.S.getD k 0)=_
  rw[hx];exact ν Ω
 ·rw[hv2,θ,μ hpl];exact h.ok.pts_le (ζo hpl)
theorem XXu(hA:Xli w S m C g)(x:GOp)(hk:x.kd=2\/x.kd=3\/x.kd=8):Calls prog 40 #[.pointer (some ⟨m,0,none⟩),.agg (Qol x)] w (V4X w S m C (mvG x g) (.int .i64 (mvE x g))):=by
 obtain⟨kd,xa,xb,xi,xh,xw,xf⟩:=x;have hk:kd=2\/kd=3\/kd=8:=hk;obtain⟨sb,F,T,W,h,s1,s2,s3⟩:=hA;have HB:=hid ((Gr.refl w).alloc (.cells (Qol ⟨kd,xa,xb,xi,xh,xw,xf⟩) 35));have hrx:Rec (w.alloc (.cells (Qol ⟨kd,xa,xb,xi,xh,xw,xf⟩) 35)) w.heap.size 35 (opL ⟨kd,xa,xb,xi,xh,xw,xf⟩):=Rec.new w 35 (opL ⟨kd,xa,xb,xi,xh,xw,xf⟩);obtain⟨wb,hwb⟩:∃wb,wb=w.alloc (.cells (Qol ⟨kd,xa,xb,xi,xh,xw,xf⟩) 35):=⟨_,rfl⟩;rw[<-hwb]at HB hrx;have HWB:=hid hwb;have HRX:=hid hrx;have k1:=hrx.cell (j:=1) rfl;have k2:=hrx.cell (j:=2) rfl;have kl:=hrx.lt;unfold Qol at HWB⊢;dsimp only at HWB⊢;have HI:=hid (VTZ (h.gr HB.o) xa xb);have HA:=hid ((Gr.refl wb).alloc (.cells #[.int .i64 xa,.int .i64 xb] 3));have HNO:=hid (λ(V:World) (gV:Gr w V)=>(show XF4 S w V/\Xli V S m C g from⟨gV.touch S,sb,F,T,W,h.gr gV,s1,s2,s3⟩));clear hrx hwb;by_cases hab:(g.sl xa&&g.sl xb)=true
 ·rw[hab]at HI;rw[ζd]at hab;obtain⟨ha,hb⟩:=hab;have hTW:∀e:Int,g.two xa xb e=e:=λe=>by unfold Gph.two;rw[ha,hb];rfl
  obtain⟨k,hxa,hk1⟩:=J9p ha;obtain⟨n,hxb,hn1⟩:=J9p hb;have hsn:=h.sn;have hkI:(k:Int)<(g.S.length:Int):=Ω
  have hnI:(n:Int)<(g.S.length:Int):=Ω
  rcases hk with rfl|rfl|rfl
  ·have hE:mvE ⟨2,xa,xb,xi,xh,xw,xf⟩ g=g.fdE xb xi 1:=hTW _
   have hG:mvG ⟨2,xa,xb,xi,xh,xw,xf⟩ g=if g.fdE xb xi 1=0 then g.setSl xa (g.fdV xb xi 1)else g:=by
    show (if g.loE xa xb xi=0 then _ else _)=_
    unfold Gph.loE;rw[hTW]
   rw[hE,hG];have HFI:=hid (λ(V:World) (gV:Gr w V)=>VDT (h.gr gV) xb xi 1);by_cases he:g.fdE xb xi 1=0
   ·obtain⟨k',x,q,-,-,-,h1x,h2x,rfl,hqp,hq,hv,hf,hvl⟩:=XBu h he;rw[χ he,hv];rw[hv]at hvl;rw[he,hf]at HFI;rw[he];have hp2:=(h.wl h1x h2x).2
    have HC:Hid (∀V,Gr w V->V.cell? ⟨m,1,none⟩=some (.slice (some ⟨sb,0,none⟩) g.S.length g.S.length)/\V.cell? ⟨sb,k,none⟩=some (XaF F (g.S.getD k 0))/\V.frozen? ⟨sb,k,none⟩=false/\m<V.heap.size/\sb<V.heap.size/\V.cell? ⟨F x,3,none⟩=some (.slice (some ⟨T x,0,none⟩) (g.ob x).p (g.ob x).p)/\V.cell? ⟨T x,q,none⟩=some (XaF F ((g.pts x).getD q 0))/\F x<V.heap.size/\T x<V.heap.size):=⟨λV gV=>by
     have h2:=h.gr gV
     exact⟨h2.row.cell (j:=1) rfl,h2.slot hk1,h2.sl.free _,h2.row.lt,h2.sl.lt,(h2.th x h1x h2x).cell (j:=3) rfl,(h2.ps x h1x h2x).cell (YK2 hq),(h2.th x h1x h2x).lt,(h2.ps x h1x h2x).lt⟩⟩
    have HF:Hid (∀V,Gr w V->V4X w S m C (g.setSl xa ((g.pts x).getD q 0)) (.int .i64 0) (.returned (.int .i64 0)) (V.setCell ⟨sb,k,none⟩ (XaF F ((g.pts x).getD q 0)))):=⟨λV gV=>⟨rfl,(gV.touch S).setCell (λ_=>s2) _,sb,F,T,W,by rw[hxa];exact(h.gr gV).sset hvl,s1,s2,s3⟩⟩;have hqI:(q:Int)<((g.ob x).p:Int):=Ω
    have hpl:(g.ob x).p<=255:=Ω
    obtain⟨vy,hvy⟩:=Vli F ((g.pts x).getD q 0);rw[hvy]at HC HF;clear hvy;generalize XaF F (g.S.getD k 0)=v0 at HC;generalize g.setSl xa ((g.pts x).getD q 0)=g2 at HF⊢;generalize g.S.length=ns at HC hkI hnI hsn;generalize (g.ob x).p=pp at HC hqI hpl;generalize F x=fx at HC HFI;generalize T x=tx at HC;subst hxa;clear hxb hE hG hTW ha hb hk1 hn1 h1x h2x hq hv hf hvl he h s1 s2 s3 HNO hp2 hqp;go_enter func40,ntmps40;go_upto_region 1 with(fail);rw[<-HWB.o];go_upto_region 3 with(go_at_call 35;refine(HI.o).mono ?_;rintro e w1 ⟨rfl,hw1⟩;have HA1:Hid (Gr wb w1):=⟨hw1▸HA.o⟩;clear hw1);have k0:=(HRX.o.gr HA1.o).cell (j:=0) rfl;have k2:=(HRX.o.gr HA1.o).cell (j:=2) rfl;have k3:=(HRX.o.gr HA1.o).cell (j:=3) rfl;have kl2:=(HRX.o.gr HA1.o).lt;go_upto_region 7 with(go_at_call 55;refine(HFI.o _ (HB.o.trans HA1.o)).mono ?_;rintro e w3 ⟨rfl,hg⟩;have HA3:=hid (HA1.o.trans hg);clear hg);obtain⟨v1,v2,v3,v4,v5,v6,v7,v8,v9⟩:=HC.o _ (HB.o.trans HA3.o);clear k0 k1 k2 k3 kl kl2;have kl3:=(HRX.o.gr HA3.o).lt;obtain⟨Sx,hSx⟩:∃Sx:World->Prop,Sx=λW'=>Gr wb W':=⟨_,rfl⟩;have y1:∀p:ZJV Sx,p.w.cell? ⟨m,1,none⟩=some (.slice (some ⟨sb,0,none⟩) ns ns):=λp=>by have h:=ZJV.get hSx p;exact(HC.o _ (HB.o.trans h)).1
    have y2:∀p:ZJV Sx,p.w.cell? ⟨w.heap.size,1,none⟩=some (.int .i64 k):=λp=>by have h:=ZJV.get hSx p;exact(HRX.o.gr h).cell (j:=1) rfl
    have y3:∀p:ZJV Sx,p.w.cell? ⟨fx,3,none⟩=some (.slice (some ⟨tx,0,none⟩) pp pp):=λp=>by have h:=ZJV.get hSx p;exact(HC.o _ (HB.o.trans h)).2.2.2.2.2.1
    have y4:∀p:ZJV Sx,p.w.cell? ⟨w.heap.size,3,none⟩=some (.int .i64 q):=λp=>by have h:=ZJV.get hSx p;exact(HRX.o.gr h).cell (j:=3) rfl
    have y5:∀p:ZJV Sx,p.w.cell? ⟨tx,q,none⟩=some (.pointer vy):=λp=>by have h:=ZJV.get hSx p;exact(HC.o _ (HB.o.trans h)).2.2.2.2.2.2.1
    have HS:Hid (∀W',Gr wb W'->Sx W'):=⟨λW' h=>by rw[hSx];exact h⟩;have hS0:=HS.o _ (HA3.o.drew);have inst:Inhabited (ZJV Sx):=⟨⟨_,hS0⟩⟩;clear hSx;refine Vv2 Sx 15 [([0,1,2,3,4,5,6,7,8,9,10,11,12,13,14],15)] [] (by kernel_rfl) (by kernel_rfl) hS0 ?_;refine XGW ?_
    try simp only[XZy,ξ,ζ]
    repeat(go_big_quiet_step (fail))
    refine φ ?_;go_wp2;refine⟨.inl trivial,?_⟩;refine Z9U ?_;refine φ ?_;refine δ ?_;clear y1 y2 y3 y4 y5 hS0 inst;clear HS Sx;go_wp2;go_ret;exact HF.o _ (HB.o.trans HA3.o).drew
   ·rw[ν he];generalize g.fdE xb xi 1=E at HFI he⊢;generalize V9Z g F xb xi 1=V at HFI;have d1:(E==0)=false:=by rw[σ];exact he
    clear hE hG hTW ha hb hk1 hn1 hxa hxb he h s1 s2 s3;go_enter func40,ntmps40;go_upto_region 1 with(fail);rw[<-HWB.o];go_upto_region 3 with(go_at_call 35;refine(HI.o).mono ?_;rintro e w1 ⟨rfl,hw1⟩;have HA1:Hid (Gr wb w1):=⟨hw1▸HA.o⟩;clear hw1);have k0:=(HRX.o.gr HA1.o).cell (j:=0) rfl;have k2:=(HRX.o.gr HA1.o).cell (j:=2) rfl;have k3:=(HRX.o.gr HA1.o).cell (j:=3) rfl;have kl2:=(HRX.o.gr HA1.o).lt;go_wp2_with(go_at_call 55;refine(HFI.o _ (HB.o.trans HA1.o)).mono ?_;rintro e w3 ⟨rfl,hg⟩;have HA3:=hid (HA1.o.trans hg);clear hg);go_ret;exact⟨rfl,HNO.o _ (HB.o.trans HA3.o)⟩
  ·have hE:mvE ⟨3,xa,xb,xi,xh,xw,xf⟩ g=g.fdE xa xi 1:=hTW _
   have hG:mvG ⟨3,xa,xb,xi,xh,xw,xf⟩ g=if g.fdE xa xi 1=0 then g.setFd xa xi (g.at xb)else g:=by
    show (if g.stE xa xi xb=0 then _ else _)=_
    unfold Gph.stE;rw[hTW]
   rw[hE,hG];have HFI:=hid (λ(V:World) (gV:Gr w V)=>VDT (h.gr gV) xa xi 1);by_cases he:g.fdE xa xi 1=0
   ·obtain⟨k',x,q,hk',-,hx,h1x,h2x,rfl,hqp,hq,hv,hf,hvl⟩:=XBu h he
    have hsf:g.setFd xa q (g.at xb)=g.put x q (g.S.getD n 0):=by
     unfold Gph.setFd Gph.at;rw[hk',hxb,ξk,ξk,ξk,hx]
    rw[χ he,hsf];rw[he,hf]at HFI;rw[he];have hp2:=(h.wl h1x h2x).2;have hy:=h.sto hn1
    have HC:Hid (∀V,Gr w V->V.cell? ⟨m,1,none⟩=some (.slice (some ⟨sb,0,none⟩) g.S.length g.S.length)/\V.cell? ⟨sb,n,none⟩=some (XaF F (g.S.getD n 0))/\V.frozen? ⟨T x,q,none⟩=false/\m<V.heap.size/\sb<V.heap.size/\V.cell? ⟨F x,3,none⟩=some (.slice (some ⟨T x,0,none⟩) (g.ob x).p (g.ob x).p)/\V.cell? ⟨T x,q,none⟩=some (XaF F ((g.pts x).getD q 0))/\F x<V.heap.size/\T x<V.heap.size):=⟨λV gV=>by
     have h2:=h.gr gV
     exact⟨h2.row.cell (j:=1) rfl,h2.slot hn1,(h2.ps x h1x h2x).free _,h2.row.lt,h2.sl.lt,(h2.th x h1x h2x).cell (j:=3) rfl,(h2.ps x h1x h2x).cell (YK2 hq),(h2.th x h1x h2x).lt,(h2.ps x h1x h2x).lt⟩⟩
    have HF:Hid (∀V,Gr w V->V4X w S m C (g.put x q (g.S.getD n 0)) (.int .i64 0) (.returned (.int .i64 0)) (V.setCell ⟨T x,q,none⟩ (XaF F (g.S.getD n 0)))):=⟨λV gV=>⟨rfl,(gV.touch S).setCell (λ_=>(s3 x h1x h2x).2.1) _,sb,F,T,W,(h.gr gV).putT h1x h2x hqp hy,s1,s2,λz a b=>by rw[QK4]at b;exact s3 z a b⟩⟩;have hqI:(q:Int)<((g.ob x).p:Int):=Ω
    have hpl:(g.ob x).p<=255:=Ω
    generalize XaF F ((g.pts x).getD q 0)=v0 at HC;obtain⟨vy,hvy⟩:=Vli F (g.S.getD n 0);rw[hvy]at HC HF;clear hvy;generalize g.put x q (g.S.getD n 0)=g2 at HF⊢;generalize g.S.length=ns at HC hkI hnI hsn;generalize (g.ob x).p=pp at HC hqI hpl;generalize F x=fx at HC HFI;generalize T x=tx at HC HF;subst hxb;clear hE hG hTW ha hb hk1 hn1 h1x h2x hq hv hf hvl he h s1 s2 s3 HNO hp2 hqp hsf hk' hx hy hxa;go_enter func40,ntmps40;go_upto_region 1 with(fail);rw[<-HWB.o];go_upto_region 3 with(go_at_call 35;refine(HI.o).mono ?_;rintro e w1 ⟨rfl,hw1⟩;have HA1:Hid (Gr wb w1):=⟨hw1▸HA.o⟩;clear hw1);have k0:=(HRX.o.gr HA1.o).cell (j:=0) rfl;have k1:=(HRX.o.gr HA1.o).cell (j:=1) rfl;have k3:=(HRX.o.gr HA1.o).cell (j:=3) rfl;have kl2:=(HRX.o.gr HA1.o).lt;go_upto_region 12 with(go_at_call 55;refine(HFI.o _ (HB.o.trans HA1.o)).mono ?_;rintro e w3 ⟨rfl,hg⟩;have HA3:=hid (HA1.o.trans hg);clear hg);obtain⟨v1,v2,v3,v4,v5,v6,v7,v8,v9⟩:=HC.o _ (HB.o.trans HA3.o);clear k0 k1 k2 k3 kl kl2;have kl3:=(HRX.o.gr HA3.o).lt;obtain⟨Sx,hSx⟩:∃Sx:World->Prop,Sx=λW'=>Gr wb W':=⟨_,rfl⟩;have y1:∀p:ZJV Sx,p.w.cell? ⟨m,1,none⟩=some (.slice (some ⟨sb,0,none⟩) ns ns):=λp=>by have h:=ZJV.get hSx p;exact(HC.o _ (HB.o.trans h)).1
    have y2:∀p:ZJV Sx,p.w.cell? ⟨w.heap.size,2,none⟩=some (.int .i64 n):=λp=>by have h:=ZJV.get hSx p;exact(HRX.o.gr h).cell (j:=2) rfl
    have y3:∀p:ZJV Sx,p.w.cell? ⟨fx,3,none⟩=some (.slice (some ⟨tx,0,none⟩) pp pp):=λp=>by have h:=ZJV.get hSx p;exact(HC.o _ (HB.o.trans h)).2.2.2.2.2.1
    have y4:∀p:ZJV Sx,p.w.cell? ⟨w.heap.size,3,none⟩=some (.int .i64 q):=λp=>by have h:=ZJV.get hSx p;exact(HRX.o.gr h).cell (j:=3) rfl
    have y5:∀p:ZJV Sx,p.w.cell? ⟨sb,n,none⟩=some (.pointer vy):=λp=>by have h:=ZJV.get hSx p;exact(HC.o _ (HB.o.trans h)).2.1
    have HS:Hid (∀W',Gr wb W'->Sx W'):=⟨λW' h=>by rw[hSx];exact h⟩;have hS0:=HS.o _ (HA3.o.drew);have inst:Inhabited (ZJV Sx):=⟨⟨_,hS0⟩⟩;clear hSx;refine Vv2 Sx 15 [([0,1,2,3,4,5,6,7,8,9,10,11,12,13,14],15)] [] (by kernel_rfl) (by kernel_rfl) hS0 ?_;refine XGW ?_
    try simp only[XZy,ξ,ζ]
    repeat(go_big_quiet_step (fail))
    refine φ ?_;go_wp2;refine⟨.inl trivial,?_⟩;refine Z9U ?_;refine φ ?_;refine δ ?_;clear y1 y2 y3 y4 y5 hS0 inst;clear HS Sx;go_wp2;go_ret;exact HF.o _ (HB.o.trans HA3.o).drew
   ·rw[ν he];generalize g.fdE xa xi 1=E at HFI he⊢;generalize V9Z g F xa xi 1=V at HFI;have d1:(E==0)=false:=by rw[σ];exact he
    clear hE hG hTW ha hb hk1 hn1 hxa hxb he h s1 s2 s3;go_enter func40,ntmps40;go_upto_region 1 with(fail);rw[<-HWB.o];go_upto_region 3 with(go_at_call 35;refine(HI.o).mono ?_;rintro e w1 ⟨rfl,hw1⟩;have HA1:Hid (Gr wb w1):=⟨hw1▸HA.o⟩;clear hw1);have k0:=(HRX.o.gr HA1.o).cell (j:=0) rfl;have k1:=(HRX.o.gr HA1.o).cell (j:=1) rfl;have k3:=(HRX.o.gr HA1.o).cell (j:=3) rfl;have kl2:=(HRX.o.gr HA1.o).lt;go_wp2_with(go_at_call 55;refine(HFI.o _ (HB.o.trans HA1.o)).mono ?_;rintro e w3 ⟨rfl,hg⟩;have HA3:=hid (HA1.o.trans hg);clear hg);go_ret;exact⟨rfl,HNO.o _ (HB.o.trans HA3.o)⟩
  ·have hE:mvE ⟨8,xa,xb,xi,xh,xw,xf⟩ g=0:=hTW _
   have hG:mvG ⟨8,xa,xb,xi,xh,xw,xf⟩ g=g.setSl xa (g.S.getD n 0):=by
    show g.cpG xa xb=_
    unfold Gph.cpG;rw[ha,hb,hxb];rfl
   rw[hE,hG];have hy:=h.sto hn1
   have HC:Hid (∀V,Gr w V->V.cell? ⟨m,1,none⟩=some (.slice (some ⟨sb,0,none⟩) g.S.length g.S.length)/\V.cell? ⟨sb,n,none⟩=some (XaF F (g.S.getD n 0))/\V.cell? ⟨sb,k,none⟩=some (XaF F (g.S.getD k 0))/\V.frozen? ⟨sb,k,none⟩=false/\m<V.heap.size/\sb<V.heap.size):=⟨λV gV=>by
    have h2:=h.gr gV
    exact⟨h2.row.cell (j:=1) rfl,h2.slot hn1,h2.slot hk1,h2.sl.free _,h2.row.lt,h2.sl.lt⟩⟩
   have HF:Hid (∀V,Gr w V->V4X w S m C (g.setSl xa (g.S.getD n 0)) (.int .i64 0) (.returned (.int .i64 0)) (V.setCell ⟨sb,k,none⟩ (XaF F (g.S.getD n 0)))):=⟨λV gV=>⟨rfl,(gV.touch S).setCell (λ_=>s2) _,sb,F,T,W,by rw[hxa];exact(h.gr gV).sset hy,s1,s2,s3⟩⟩;obtain⟨vy,hvy⟩:=Vli F (g.S.getD n 0);rw[hvy]at HC HF;clear hvy;generalize XaF F (g.S.getD k 0)=v0 at HC;generalize g.setSl xa (g.S.getD n 0)=g2 at HF⊢;generalize g.S.length=ns at HC hkI hnI hsn;subst hxa;subst hxb;clear hE hG hTW ha hb hk1 hn1 hy h s1 s2 s3 HNO;go_enter func40,ntmps40;go_upto_region 1 with(fail);rw[<-HWB.o];go_upto_region 3 with(go_at_call 35;refine(HI.o).mono ?_;rintro e w1 ⟨rfl,hw1⟩;have HA1:Hid (Gr wb w1):=⟨hw1▸HA.o⟩;clear hw1);have k0:=(HRX.o.gr HA1.o).cell (j:=0) rfl;have kl2:=(HRX.o.gr HA1.o).lt;go_upto_region 14 with(fail);obtain⟨v1,v2,v3,v4,v5,v6⟩:=HC.o _ (HB.o.trans HA1.o);clear k0 k1 k2 kl;obtain⟨Sx,hSx⟩:∃Sx:World->Prop,Sx=λW'=>Gr wb W':=⟨_,rfl⟩;have y1:∀p:ZJV Sx,p.w.cell? ⟨m,1,none⟩=some (.slice (some ⟨sb,0,none⟩) ns ns):=λp=>by have h:=ZJV.get hSx p;exact(HC.o _ (HB.o.trans h)).1
   have y2:∀p:ZJV Sx,p.w.cell? ⟨w.heap.size,1,none⟩=some (.int .i64 k):=λp=>by have h:=ZJV.get hSx p;exact(HRX.o.gr h).cell (j:=1) rfl
   have y3:∀p:ZJV Sx,p.w.cell? ⟨w.heap.size,2,none⟩=some (.int .i64 n):=λp=>by have h:=ZJV.get hSx p;exact(HRX.o.gr h).cell (j:=2) rfl
   have y4:∀p:ZJV Sx,p.w.cell? ⟨sb,n,none⟩=some (.pointer vy):=λp=>by have h:=ZJV.get hSx p;exact(HC.o _ (HB.o.trans h)).2.1
   have HS:Hid (∀W',Gr wb W'->Sx W'):=⟨λW' h=>by rw[hSx];exact h⟩;have hS0:=HS.o _ (HA1.o.drew);have inst:Inhabited (ZJV Sx):=⟨⟨_,hS0⟩⟩;clear hSx;refine Vv2 Sx 15 [([0,1,2,3,4,5,6,7,8,9,10,11,12,13,14],15)] [] (by kernel_rfl) (by kernel_rfl) hS0 ?_;refine XGW ?_
   try simp only[XZy,ξ,ζ]
   repeat(go_big_quiet_step (fail))
   refine φ ?_;go_wp2;refine⟨.inl trivial,?_⟩;refine Z9U ?_;refine φ ?_;refine δ ?_;clear y1 y2 y3 y4 hS0 inst;clear HS Sx;go_wp2;go_ret;exact HF.o _ (HB.o.trans HA1.o).drew
 ·rw[ζD]at hab;obtain⟨hE,hG⟩:=Jt3 (x:=⟨kd,xa,xb,xi,xh,xw,xf⟩) hab;rw[hE,hG];rw[hab]at HI;clear hE hG hab hk h s1 s2 s3;go_enter func40,ntmps40;go_upto_region 1 with(fail);rw[<-HWB.o];go_wp2_with(go_at_call 35;refine(HI.o).mono ?_;rintro e w1 ⟨rfl,hw1⟩;have HA1:Hid (Gr wb w1):=⟨hw1▸HA.o⟩;clear hw1);go_ret;exact⟨rfl,HNO.o _ (HB.o.trans HA1.o)⟩
end
end
end
section
section
open Go.RowKit Word
section
variable {w w':World} {m C:Nat} {g:Gph} {sb:Nat} {F T W:Nat->Nat} {S:Nat->Prop}
theorem Zkv(h:J8T w m C g sb F T W){a:Int}(he:g.shE a=0):∃k x:Nat,a=k/\k<g.S.length/\g.S.getD k 0=x/\1<=x/\x<=g.L.length/\g.shH a=(g.ob x).hdr/\g.smV a=QRR (g.ob x).fls/\Qn8 g F a=.pointer (some ⟨F x,0,none⟩):=by
 have hs:g.sl a=true:=by
  unfold Gph.shE at he;cases hs:g.sl a with
  | true=>rfl
  | false=>rw[hs]at he;cases he
 obtain⟨k,rfl,hk⟩:=J9p hs;have hE:g.shE k=if g.S.getD k 0=0 then 18 else 0:=by unfold Gph.shE;rw[hs,χ rfl];rfl
 have h0:¬g.S.getD k 0=0:=λh0=>by rw[hE,χ h0]at he;cases he
 refine⟨k,_,rfl,hk,rfl,by omega,h.sto hk,?_,?_,?_⟩
 ·unfold Gph.shH;rw[χ he];rfl
 ·unfold Gph.smV;rw[χ he];rfl
 ·unfold Qn8;rw[χ he];exact ν h0
theorem JLO(h:J8T w m C g sb F T W)(a:Int):Calls prog 37 #[.pointer (some ⟨m,0,none⟩),.int .i64 a] w λe w'=>e=.returned (.tuple #[.int .u64 (g.smV a:Nat),.int .i64 (g.shE a)])/\Gr w w':=by
 have HSH:=hid (ZGQ h a);by_cases he:g.shE a=0
 ·obtain⟨k,x,rfl,-,-,h1x,h2x,-,hV,hP⟩:=Zkv h he;rw[hV,he];rw[hP,he]at HSH;have hwl:=h.wl h1x h2x;obtain⟨l,hl⟩:∃l,l=(g.ob x).fls:=⟨_,rfl⟩
  have hll:l.length=(g.ob x).f:=by
   rw[hl];unfold GOb.fls;rw[ζk,ζs];omega
  have HL:=hid hll
  have hmw:∀z∈l,z∈(g.ob x).w:=λz hz=>by
   rw[hl]at hz;unfold GOb.fls at hz;exact ξR (ζI hz)
  have HB:Hid (∀j,j<l.length->l.getD j 0<18446744073709551616):=⟨λj hj=>by
   rw[θ,μ hj]
   exact h.wd _ (Gph.ob_mem h1x h2x) _ (hmw _ (ζo hj))⟩
  have HC:Hid (∀V,Gr w V->Rec V (F x) 81 (thL (g.ob x) (T x) (W x))):=⟨λV gV=>(h.gr gV).th x h1x h2x⟩
  have HW:Hid (∀V,XF4 (λi=>w.heap.size<=i) w V->W x<V.heap.size/\∀j,j<(g.ob x).f->V.cell? ⟨W x,j,none⟩=some (.int .u64 (l.getD j 0:Nat))):=⟨λV tV=>⟨((h.keep tV).wo x h1x h2x).lt,λj hj=>by
   have:=((h.keep tV).wo x h1x h2x).cell (j:=j) (YGR (by rw[ζs];omega));rw[this,hl];unfold GOb.fls
   rw[θ,θ,List.getElem?_take,χ hj]⟩⟩
  unfold thL at HC;rw[<-hl];have b1:(g.ob x).f<=(g.ob x).f+(g.ob x).k:=Ω
  have b2:(g.ob x).f+(g.ob x).k<=255:=Ω
  clear hV hP he h1x h2x hwl hl hll hmw h;generalize (g.ob x).f+(g.ob x).k=wl at HC b1 b2;generalize (g.ob x).p=pp at HC;generalize (g.ob x).f=ff at HC HL HW b1;generalize (g.ob x).k=kk at HC;generalize F x=fx at HC HSH;generalize T x=tx at HC;generalize W x=wx at HC HW;have b1I:(ff:Int)<=(wl:Int):=Ω
  go_enter func37,ntmps37;go_upto_region 4 with(go_at_call 36;refine(HSH.o).mono ?_;rintro e w1 ⟨rfl,hg⟩;have HG1:=hid hg;clear hg);have HN:=hid (QFq w1);obtain⟨q,hq⟩:∃q,q=w1.heap.size:=⟨_,rfl⟩;have HQ:Hid (w.heap.size<=q):=⟨by rw[hq];exact HG1.o.size⟩;rw[<-hq]at HN;clear hq HSH;go_upto_region 5 with(go_at_call 50;refine HN.o.mono ?_;rintro e w3 ⟨rfl,hg3,hs3⟩);have HG3:=hid (HG1.o.trans hg3);have HS3:=hid hs3;have hc:=HC.o _ HG3.o;have q0:=hc.cell (j:=0) rfl;have q1:=hc.cell (j:=1) rfl;have q4:=hc.cell (j:=4) rfl;have ql:=hc.lt;clear hc hg3 hs3 HC HN;go_quiet (fail);have HT4:Hid (XF4 (λi=>w.heap.size<=i) w (w3.drewN nq)):=⟨(HG3.o.drewN _).touch _⟩;have HS4:Hid (Qnw (w3.drewN nq) q smZ):=⟨HS3.o.gr ((Gr.refl _).drewN _)⟩;obtain⟨w4,hw4⟩:∃w4,w4=w3.drewN nq:=⟨_,rfl⟩;rw[<-hw4]at HT4 HS4⊢;clear hw4 q0 q1 q4 ql HG3 HS3;go_wp2
  go_loopw [32] (λs32 wr=>∃j:Nat,j<=ff/\s32=.int .i64 j/\Hid (XF4 (λi=>w.heap.size<=i) w wr)/\Hid (∃sm,Qnw wr q sm/\YA5 (l.take j) sm)) (λs32 _=>ff-(intOf s32).toNat)
  case atStart=>exact⟨0,ζb _,rfl,HT4,⟨smZ,HS4.o,YA5.zero⟩⟩
  case round=>
   clear HT4 HS4;obtain⟨j,hj,rfl,HT4,HS4⟩:=hrel;by_cases hjf:j<ff
   ·have hjI:(j:Int)<ff:=Ω
    obtain⟨wl1,wl2⟩:=HW.o _ HT4.o;have wc:=wl2 j hjf;have hjl:j<l.length:=by rw[HL.o];exact hjf
    have hbb:=HB.o j hjl
    have HTK:Hid (l.take (j+1)=l.take j++[l.getD j 0]):=⟨by
     rw[ζg hjl,θ,μ hjl]
     rfl⟩
    generalize l.getD j 0=b at wc hbb HTK;have HAD:Hid (Calls prog 51 #[.pointer (some ⟨q,0,none⟩),.float .f64 b] wr λe w'=>e=.returned (.tuple #[])/\QRH wr q (l.take j++[b]) w'):=⟨by obtain⟨sm,a1,a2⟩:=HS4.o;exact XQS a1 a2 (by rw[ζk,HL.o];omega) hbb⟩;have HJF:=hid hjf;clear wl2 hj hjf hjl hbb HW HB HS4
    go_wp2_with(first
     | (go_at_call 52;refine(J1k _ _).mono ?_;rintro e w5 ⟨rfl,rfl⟩)
     | (go_at_call 51;refine HAD.o.mono ?_;rintro e w6 ⟨rfl,ht6,hs6⟩;have HT6:=hid ht6;have HS6:=hid hs6;clear ht6 hs6))
    go_round
    case rel=>
     refine⟨j+1,HJF.o,by go_num,⟨HT4.o.trans (HT6.o.mono (λk _ hk=>by rw[hk];exact HQ.o))⟩,⟨?_⟩⟩;rw[HTK.o];exact HS6.o
    case measure=>have:=HJF.o;simp[intOf];omega
   ·have hjI:¬(j:Int)<ff:=Ω
    obtain⟨sm,hs1,hs2⟩:=HS4.o;have hlt:l.take j=l:=ζB (by rw[HL.o];omega);rw[hlt]at hs2;have HWH:=hid (ZFj hs1 hs2 (by rw[HL.o];omega));clear hs1 hs2 hlt hj HS4 HW HB hjf
    go_wp2_with(first
     | (go_at_call 53;refine(HWH.o).mono ?_;rintro e w5 ⟨rfl,hg⟩;have HG5:=hid hg;clear hg)
     | (go_at_call 9;refine(ZYt _ _).mono ?_;rintro e w6 ⟨rfl,rfl⟩))
    go_ret2;exact⟨rfl,(HT4.o.mono (λk hk h=>by have h:w.heap.size<=k:=h;omega)).gr.trans HG5.o⟩
 ·have hV:g.smV a=0:=by unfold Gph.smV;rw[ν he]
  have hP:Qn8 g F a=.pointer none:=by unfold Qn8;rw[ν he]
  rw[hV];rw[hP]at HSH;generalize g.shE a=E at HSH he⊢;have d0:(E !=0)=true:=by simpa using he
  clear he h hV hP;go_enter func37,ntmps37;go_wp2_with(go_at_call 36;refine(HSH.o).mono ?_;rintro e w1 ⟨rfl,hg⟩;have HG1:=hid hg;clear hg);go_ret2;exact⟨rfl,HG1.o⟩
end
end
end
section
section
open Go.RowKit Word
theorem V30:(prog.info? 79).map (λi=>(i.zero,i.size,i.bytes))=some (some (.pointer none),1,8):=by kernel_rfl
structure VVu(b0:Nat)(w:World)(q1 q2 mb:Nat)(F:Nat->Nat)(T:List Nat)(N:Nat):Prop where
 mp:Rec w q1 76 [.map (some mb)]
 od:∃vL,Rec w q2 52 [vL]/\w.ownsRow b0 79 1 vL T.length (JYL F T)
 pm:QSJ w mb F T
 th:YJ4 w F N
 lo:b0<=q1/\b0<=q2/\b0<=mb
 fb:∀x,1<=x->x<=N->F x<b0
 ok:OkL T
 inn:InL N T
section
variable {w w':World} {b0 q1 q2 mb N:Nat} {F:Nat->Nat} {T l:List Nat}
theorem YJ4.keep(h:YJ4 w F N)(hF:∀x,1<=x->x<=N->F x<b0)(t:XF4 (λi=>b0<=i) w w'):YJ4 w' F N:=
 ⟨λx a b=>by
  obtain⟨ca,hc⟩:=h.cs x a b
  exact⟨ca,(t.block (F x) (ζF.1 hc).1 (by have:=hF x a b;omega)).trans hc⟩,h.inj⟩
theorem QaY{T0 n:Nat}{q b s:Nat}{v:Value}{xs:List Value}(h:QSJ w mb F T)(ho:w.ownsRow b T0 s v n xs)(hq:v.ownBlock=some q):q≠mb:=λe=>by
 obtain⟨cs,hc⟩:=QiW ho hq;subst e;unfold QSJ at h;rw[h]at hc;cases hc
theorem YTm{pb:Nat}(R:VVu b0 w q1 q2 mb F T N)(hN:N<=1000)(hp:Rec w pb 79 (JYL F l))(hpb:pb<b0)(hl:∀y∈l,y<=N)(hll:l.length<=255):Calls prog 47 #[.slice (some ⟨pb,0,none⟩) l.length l.length,.pointer (some ⟨q1,0,none⟩),.pointer (some ⟨q2,0,none⟩)] w λe w'=>e=.returned (.tuple #[])/\XF4 (λi=>b0<=i) w w'/\VVu b0 w' q1 q2 mb F (Jt4 T l) N:=by
 obtain⟨ii,hii,hi0,hi1,hi2⟩:=info_parts V30;obtain⟨K,hK⟩:∃K,K=l.length:=⟨_,rfl⟩;have HK:=hid hK;rw[<-hK]at hll⊢;have HR:=hid R;have HO:=hid (ζp R.ok R.inn);have HP:=hid hp;have HPB:=hid hpb;have HL:=hid hl;clear R hp hl hK;go_enter func47,ntmps47;go_wp2
 go_loopw [10] (λs10 wr=>∃j:Nat,j<=K/\s10=.int .i64 j/\Hid (XF4 (λi=>b0<=i) w wr)/\Hid (VVu b0 wr q1 q2 mb F (Jt4 T (l.take j)) N)) (λs10 _=>K-(intOf s10).toNat)
 case atStart=>exact⟨0,ζb _,rfl,⟨XF4.refl _ _⟩,HR⟩
 case round=>
  clear HR;obtain⟨j,hj,rfl,HT,HR⟩:=hrel;by_cases hjK:j<K
  ·have hjI:(j:Int)<K:=Ω
   have hjl:j<l.length:=by rw[<-HK.o];exact hjK
   have hp2:=HP.o.touch HT.o (by have:=HPB.o;omega);have e0:=hp2.cell (YK2 (F:=F) hjl);have el:=hp2.lt
   have HTK:Hid (Jt4 T (l.take (j+1))=if l.getD j 0≠0/\¬l.getD j 0∈Jt4 T (l.take j)then Jt4 T (l.take j)++[l.getD j 0]else Jt4 T (l.take j)):=⟨by
    rw[ζg hjl,X23,θ,μ hjl]
    rfl⟩
   have HTI:Hid (OkL (Jt4 T (l.take (j+1)))/\InL N (Jt4 T (l.take (j+1)))):=⟨Y3O _ HO.o.1,Qg6 HO.o.2 (λz hz=>HL.o z (ζI hz))⟩
   have hyN:l.getD j 0<=N:=by
    rw[θ,μ hjl];exact HL.o _ (ζo hjl)
   obtain⟨T2,hT2e⟩:∃T2,T2=Jt4 T (l.take (j+1)):=⟨_,rfl⟩;have HTE:=hid hT2e;rw[<-hT2e]at HTK HTI;clear hT2e;generalize Jt4 T (l.take j)=T1 at HTK HR;generalize l.getD j 0=y at e0 HTK hyN;have hlk:=VyY HR.o.pm HR.o.th HR.o.inn hyN;have m0:=HR.o.mp.cell (j:=0) rfl;have ml:=HR.o.mp.lt;obtain⟨vL,hq2,hown⟩:=HR.o.od;have HQ2:=hid hq2;obtain⟨TA,tc,rfl,hc1,hc2⟩:=ZfN hown;unfold maxLen at hc2;have hT1:=HR.o.inn.len HR.o.ok;have HOW:=hid hown;have HJ:=hid hjK;clear hown hq2 hj hjK hjl hp2;by_cases hy0:y=0
   ·subst hy0;have HT2:Hid (T2=T1):=⟨by rw[HTK.o,ν (λh=>h.1 rfl)]⟩;rw[ν (λh=>h.1 rfl),π (λh=>h.1 rfl),show XaF F 0=.pointer none from rfl]at hlk;rw[show XaF F 0=.pointer none from rfl]at e0;clear HTK HTI;go_wp2;go_round
    case rel=>exact⟨j+1,HJ.o,by go_num,HT,⟨by rw[<-HTE.o,HT2.o];exact HR.o⟩⟩
    case measure=>have:=HJ.o;simp[intOf];omega
   ·have hpy:XaF F y=.pointer (some ⟨F y,0,none⟩):=ν hy0;rw[hpy]at hlk e0;by_cases hm:y∈T1
    ·have HT2:Hid (T2=T1):=⟨by rw[HTK.o,ν (λh=>h.2 hm)]⟩;rw[υ ⟨hy0,hm⟩]at hlk;clear hpy HTK HTI hm hy0;go_wp2;go_round
     case rel=>exact⟨j+1,HJ.o,by go_num,HT,⟨by rw[<-HTE.o,HT2.o];exact HR.o⟩⟩
     case measure=>have:=HJ.o;simp[intOf];omega
    ·have HT2:Hid (T2=T1++[y]):=⟨by rw[HTK.o,χ ⟨hy0,hm⟩]⟩;rw[π (λh=>hm h.2)]at hlk;obtain⟨w2,hpu,hpm2,ht2⟩:=YXP HR.o.pm HR.o.th HR.o.inn (y:=y) ⟨by omega,hyN⟩ hm;have HT2b:Hid (XF4 (λi=>b0<=i) wr w2):=⟨ht2.mono (λi _ h=>by rw[h];exact HR.o.lo.2.2)⟩;have hq2b:=HQ2.o.touch ht2 (QaY HR.o.pm HQ2.o rfl);have hq1b:=HR.o.mp.touch ht2 (QaY HR.o.pm HR.o.mp rfl);have hob:=Zs2 HOW.o ht2 (λk hk=>QaY HR.o.pm HOW.o hk);have hgb:=ht2.size;have HPM:=hid hpm2;have HQ1B:=hid hq1b;have HQ2B:=hid hq2b;have HOB:=hid hob;have n0:=hq2b.cell (j:=0) rfl;have nl:=hq2b.lt;have HLE:Hid (b0<=wr.heap.size):=⟨by have:=HR.o.lo.1;have:=HR.o.mp.lt;omega⟩;have q0:=HQ2.o.cell (j:=0) rfl;have ql:=HQ2.o.lt;have HY:=hid (ζp hy0 hm);clear ht2 hpm2 hq2b hq1b hob hpy hy0 hm HTK
     go_wp2_with(first
      | (at_builtin;refine wpList_append_lies _ rfl _ _ 52 rfl b0 79 ii _ 1 8 underlying52 hii hi0 hi1 hi2 rfl (by decide) (.slice TA T1.length tc) T1.length (JYL F T1) rfl (HOB.o.alloc _) ⟨w2.heap.size,0,none⟩ 1 1 [.pointer (some ⟨F y,0,none⟩)] rfl rfl (β (cs:=#[.pointer (some ⟨F y,0,none⟩)]) (t:=79) (fr:=(0,0)) (heap_alloc_new w2 (.cells #[.pointer (some ⟨F y,0,none⟩)] 79))) (by simp[Value.oneCell']) Ω (by unfold maxLen;omega) Ω (by have:=HLE.o;rw[τ];omega) (w2.heap.size+1) (by simp) ?_;intro g3 c3 w3 hown3 hgrow3 hat3 hlt3;have t3:XF4 (λk=>(Value.slice TA T1.length tc).ownBlock=some k) w2 w3:=(((Gr.refl _).alloc _).touch _).trans (VxQ hgrow3 _ (λk e _=>e));have HT3:=hid t3;have HO3:=hid hown3;have HQ3:=hid (HQ2B.o.touch t3 (λe=>YnK HOB.o HQ2B.o (by decide) e rfl rfl));have u0:=HQ3.o.cell (j:=0) rfl;have ul:=HQ3.o.lt;have uf:=HQ3.o.free 0;clear hown3 hgrow3 hat3 hlt3 t3))
     go_round
     case rel=>
      have n12:q1≠q2:=YnK HQ1B.o HQ2B.o (by decide) rfl rfl;have tq:XF4 (λk=>k=q2) w3 (w3.setCell ⟨q2,0,none⟩ (.slice (some ⟨g3,0,none⟩) (T1.length+1) c3)):=(XF4.refl (λk=>k=q2) w3).setCell (a:=⟨q2,0,none⟩) (λ_=>rfl) _;have hm3:=HPM.o.touch HT3.o (λe=>QaY HPM.o HOB.o e rfl);have hTT:XF4 (λi=>b0<=i) wr (w3.setCell ⟨q2,0,none⟩ (.slice (some ⟨g3,0,none⟩) (T1.length+1) c3)):=(HT2b.o.trans (HT3.o.mono (λk _ h=>(Vvr HOB.o h).1))).trans (tq.mono (λk _ h=>by rw[h];exact HR.o.lo.2.1))
      have hap:JYL F (T1++[y])=JYL F T1++[.pointer (some ⟨F y,0,none⟩)]:=by
       unfold JYL;rw[ζw]
       show _++[XaF F y]=_
       rw[show XaF F y=.pointer (some ⟨F y,0,none⟩)from ν HY.o.1]
      refine⟨j+1,HJ.o,by go_num,⟨HT.o.trans hTT⟩,⟨?_⟩⟩;rw[<-HTE.o,HT2.o];refine⟨(HQ1B.o.touch HT3.o (λe=>YnK HOB.o HQ1B.o (by decide) e rfl rfl)).touch tq n12,⟨_,HQ3.o.set 0 (.slice (some ⟨g3,0,none⟩) (T1.length+1) c3),?_⟩,hm3.touch tq (λe=>QaY hm3 HQ3.o rfl e.symm),HR.o.th.keep HR.o.fb hTT,HR.o.lo,HR.o.fb,?_,?_⟩
      ·rw[hap,ζi];exact Zs2 HO3.o tq (λk hk e=>YnK HO3.o HQ3.o (by decide) hk rfl e)
      ·rw[<-HT2.o];exact HTI.o.1
      ·rw[<-HT2.o];exact HTI.o.2
     case measure=>have:=HJ.o;simp[intOf];omega
  ·have hjI:¬(j:Int)<K:=Ω
   have hje:j=K:=Ω
   have HF:Hid (VVu b0 wr q1 q2 mb F (Jt4 T l) N):=⟨by
    have:=HR.o;rw[hje,HK.o,ζS]at this
    exact this⟩
   clear hje hjK hj HR;go_wp2
   go_end0
   exact⟨rfl,HT.o,HF.o⟩
end
end
end
end Go.Proofs.Ytgmaanehcbnchaa
