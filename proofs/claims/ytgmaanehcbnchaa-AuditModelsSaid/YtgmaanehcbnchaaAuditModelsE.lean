/- Part 5 of what AuditModels leans on: my own lemmas, merged by shake.py. -/
import Derived.Test.YtgmaanehcbnchaaAuditModelsD
import Derived.Deep.OwnRows
namespace Go.Proofs.Ytgmaanehcbnchaa
open _root_.Go.Proofs.Try
set_option maxHeartbeats 6400000
set_option maxRecDepth 100000
section
section
open Go.RowKit Word
section
variable {w w':World} {m C:Nat} {g:Gph} {sb:Nat} {F T W:Nat->Nat} {S:Nat->Prop}
theorem Jcu(h:g.Ok):g.all.length<=g.L.length:=by
 obtain⟨h1,-,-⟩:=JOE (p:=g.pts) (N:=g.L.length) (rs:=g.S) (λx _ _ y hy=>h.pts_le hy) h.st;exact h1.len (Zeq g.pts g.L.length g.S)
def VkV(w:World)(g:Gph)(F:Nat->Nat)(e:Ending)(w':World):Prop:=∃A c mb,e=.returned (.tuple #[.slice A g.all.length c,.map (some mb)])/\Gr w w'/\w'.ownsRow w.heap.size 79 1 (.slice A g.all.length c) g.all.length (JYL F g.all)/\QSJ w' mb F g.all
theorem J8T.pl(h:J8T w m C g sb F T W){x:Nat}(h1:1<=x)(h2:x<=g.L.length):(g.pts x).length=(g.ob x).p:=by
 have:=h.wl h1 h2;unfold Gph.pts;rw[ζk];omega
theorem XjJ(h:J8T w m C g sb F T W):Calls prog 28 #[.pointer (some ⟨m,0,none⟩)] w (VkV w g F):=by
 have H:=hid h;have hmm:=@run_makeMap prog;have hln:=h.len;have hfb:∀x,1<=x->x<=g.L.length->F x<w.heap.size:=λx a b=>(h.th x a b).lt;clear h;go_enter func28,ntmps28;go_upto_region 4 with(fail);have hG:Gr w (((w.alloc (.cells #[.slice none 0 0] 52)).alloc (.map #[] 0)).alloc (.cells #[.map (some (w.heap.size+1))] 76)):=(((Gr.refl w).alloc _).alloc _).alloc _;have r0:Rec (((w.alloc (.cells #[.slice none 0 0] 52)).alloc (.map #[] 0)).alloc (.cells #[.map (some (w.heap.size+1))] 76)) w.heap.size 52 [.slice none 0 0]:=(Rec.new w 52 [.slice none 0 0]).gr (((Gr.refl _).alloc _).alloc _)
 have r2:Rec (((w.alloc (.cells #[.slice none 0 0] 52)).alloc (.map #[] 0)).alloc (.cells #[.map (some (w.heap.size+1))] 76)) (w.heap.size+2) 76 [.map (some (w.heap.size+1))]:=by
  have:=Rec.new ((w.alloc (.cells #[.slice none 0 0] 52)).alloc (.map #[] 0)) 76 [.map (some (w.heap.size+1))];rw[τ,τ]at this;exact this
 have hb1:(((w.alloc (.cells #[.slice none 0 0] 52)).alloc (.map #[] 0)).alloc (.cells #[.map (some (w.heap.size+1))] 76)).heap[w.heap.size+1]?=some (.map #[] 0):=by
  rw[((Gr.refl ((w.alloc (.cells #[.slice none 0 0] 52)).alloc (.map #[] 0))).alloc _).block (by simp)];have:=(MapKept.heap_alloc (w.alloc (.cells #[.slice none 0 0] 52)) (.map #[] 0)).1;rw[τ]at this;exact this
 obtain⟨W3,hW3⟩:∃W3,W3=(((w.alloc (.cells #[.slice none 0 0] 52)).alloc (.map #[] 0)).alloc (.cells #[.map (some (w.heap.size+1))] 76)):=⟨_,rfl⟩;rw[<-hW3]at hG r0 r2 hb1⊢;have e2:w.heap.size+1+1=w.heap.size+2:=rfl;rw[e2];have h3:=H.o.gr hG;have hM:VVu w.heap.size W3 (w.heap.size+2) w.heap.size (w.heap.size+1) F [] g.L.length:=⟨r2,⟨_,r0,Vm9 _ _ _ _⟩,hb1,h3.things,⟨by omega,by omega,by omega⟩,hfb,YVO,λx hx=>absurd hx (by simp)⟩;have HCL:=hid (YTm hM hln h3.sl H.o.sl.lt h3.ok.st (by have:=h3.sn;omega));have k0:=r0.cell (j:=0) rfl;have k2:=r2.cell (j:=0) rfl;have k1:=h3.row.cell (j:=1) rfl;have kl:=h3.row.lt;have HG:=hid hG;have hok:=hid (Zjt.start H.o.ok);clear hW3 hG r0 r2 hb1 hmm e2 hM h3 hfb;go_wp2_with(go_at_call 47;refine HCL.o.mono ?_;rintro e w1 ⟨rfl,ht1,hm1⟩;have HT1:Hid (XF4 (λi=>w.heap.size<=i) w w1):=⟨(HG.o.touch _).trans ht1⟩;have HM1:=hid hm1;clear ht1 hm1)
 go_loopw [7] (λs7 wr=>∃(i:Nat) (T':List Nat),i<=T'.length/\s7=.int .i64 i/\Hid (Zjt g T' i)/\Hid (VVu w.heap.size wr (w.heap.size+2) w.heap.size (w.heap.size+1) F T' g.L.length)/\Hid (XF4 (λi=>w.heap.size<=i) w wr)) (λs7 _=>1001-(intOf s7).toNat)
 case atStart=>exact⟨0,_,ζb _,rfl,hok,HM1,HT1⟩
 case round=>
  clear HM1 HT1 hok HCL HG k0 k1 k2 kl;obtain⟨i,T',hi,rfl,HL,HM,HT⟩:=hrel;obtain⟨vL,hq2,hown⟩:=HM.o.od;obtain⟨TA,tc,rfl,hc1,hc2⟩:=ZfN hown;unfold maxLen at hc2;have hT1:=HM.o.inn.len HM.o.ok;have k0:=hq2.cell (j:=0) rfl;have kl:=hq2.lt;by_cases hlast:i<T'.length
  ·have hiI:(i:Int)<(T'.length:Int):=Ω
   obtain⟨b,tc',ea,-,-,-,hbl⟩:=YTP hown Ω;simp only[Value.slice.injEq]at ea;obtain⟨rfl,-,rfl⟩:=ea;have e0:=XAn hown (YK2 (F:=F) hlast);obtain⟨hx1,hx2⟩:=HM.o.inn _ (QmW hlast);have HST:=hid (HL.o.step H.o.ok hlast);obtain⟨x,hxe⟩:∃x,x=T'.getD i 0:=⟨_,rfl⟩;rw[<-hxe]at e0 hx1 hx2 HST;rw[show XaF F x=.pointer (some ⟨F x,0,none⟩)from ν Ω]at e0;have h2:=H.o.keep HT.o;have t3:=(h2.th x hx1 hx2).cell (j:=3) rfl;have tl:=(h2.th x hx1 hx2).lt;have HCL:=hid (YTm HM.o hln (h2.ps x hx1 hx2) (H.o.ps x hx1 hx2).lt (λy hy=>h2.ok.pts_le hy) (by rw[h2.pl hx1 hx2];have:=h2.wl hx1 hx2;omega));rw[h2.pl hx1 hx2]at HCL;generalize (g.ob x).p=pp at t3 HCL;have HLA:=hid hlast;have HIN:=hid (ζp (Y3O (g.pts x) HM.o.ok) (Qg6 HM.o.inn (xs:=g.pts x) (λy hy=>H.o.ok.pts_le hy)))
   have HLT:Hid (i+1<=(Jt4 T' (g.pts x)).length):=⟨by
    obtain⟨t,ht⟩:=Qxl (g.pts x) T';rw[ht,ζi];have:=HLA.o
    omega⟩
   clear hlast hx1 hx2 h2 hown hq2 hc1 hxe hi;go_wp2_with(go_at_call 47;refine HCL.o.mono ?_;rintro e w1 ⟨rfl,ht1,hm1⟩;have HT1:Hid (XF4 (λi=>w.heap.size<=i) w w1):=⟨HT.o.trans ht1⟩;have HM1:=hid hm1;clear ht1 hm1);go_round
   case rel=>exact⟨i+1,_,HLT.o,by go_num,HST,HM1,HT1⟩
   case measure=>have:=HLA.o;simp[intOf];omega
  ·have hiI:¬(i:Int)<(T'.length:Int):=Ω
   have hD:=HL.o.done Ω;subst hD;have m0:=HM.o.mp.cell (j:=0) rfl;have ml:=HM.o.mp.lt;have HOW:=hid hown;clear hlast hi hown hq2 hc1 HL;go_wp2;go_quiet (fail);go_wp2;go_ret2;exact⟨_,_,_,rfl,((HT.o.mono (λk hk h=>by have h:w.heap.size<=k:=h;omega)).gr).drewN _,Y9I HOW.o ((Gr.refl _).drewN _),HM.o.pm.gr ((Gr.refl _).drewN _)⟩
theorem Zqc(h:J8T w m C g sb F T W):Calls prog 11 #[.pointer (some ⟨m,0,none⟩)] w λe w'=>e=.returned (.tuple #[.int .i64 (g.all.length:Nat),.int .i64 (g.words:Nat)])/\Gr w w':=by
 have HRE:=hid (XjJ h);have H:=hid h;have hal:g.all.length<=1000:=γ (Jcu h.ok) h.len
 have HIN:Hid (∀i,i<g.all.length->1<=g.all.getD i 0/\g.all.getD i 0<=g.L.length):=⟨λi hi=>by
  exact H.o.ok.rd (H.o.ok.mem_all.1 (QmW hi))⟩
 clear h;go_enter func11,ntmps11;go_wp2_with(go_at_call 28;refine HRE.o.mono ?_;rintro e w1 ⟨TA,tc,mb,rfl,hg1,ho1,-⟩;have HG1:=hid hg1;have HO1:=hid ho1;clear hg1 ho1)
 go_loopw [6,18] (λs6 s18 wr=>∃(i n:Nat),i<=g.all.length/\n<=256*i/\s6=.int .i64 n/\s18=.int .i64 i/\Hid (n=szs g (g.all.take i))/\Hid (Gr w1 wr)) (λ_ s18 _=>1001-(intOf s18).toNat)
 case atStart=>exact⟨0,0,ζb _,ζb _,rfl,rfl,⟨rfl⟩,⟨Gr.refl _⟩⟩
 case round=>
  obtain⟨i,n,hi,hn,rfl,rfl,HN,HG⟩:=hrel;have hown:=Y9I HO1.o HG.o;by_cases hlast:i<g.all.length
  ·have hiI:(i:Int)<(g.all.length:Int):=Ω
   obtain⟨b,tc',ea,-,-,-,hbl⟩:=YTP hown Ω;simp only[Value.slice.injEq]at ea;obtain⟨rfl,-,rfl⟩:=ea;have e0:=XAn hown (YK2 (F:=F) hlast);obtain⟨hx1,hx2⟩:=HIN.o i hlast
   have HTK:Hid (szs g (g.all.take (i+1))=szs g (g.all.take i)+(g.ob (g.all.getD i 0)).size):=⟨by
    rw[ζg hlast,JRX,θ,μ hlast]
    rfl⟩
   obtain⟨x,hxe⟩:∃x,x=g.all.getD i 0:=⟨_,rfl⟩;rw[<-hxe]at e0 hx1 hx2 HTK;rw[show XaF F x=.pointer (some ⟨F x,0,none⟩)from ν Ω]at e0;have h2:=H.o.gr (HG1.o.trans HG.o);have hth:=h2.th x hx1 hx2;have hwl:=(h2.wl hx1 hx2).2;have t0:=hth.cell (j:=0) rfl;have t1:=hth.cell (j:=1) rfl;have t2:=hth.cell (j:=2) rfl;have tl:=hth.lt;have HSZ:=hid (λV=>ZUg ⟨(g.ob x).p,(g.ob x).f,(g.ob x).k⟩ V)
   have hhn:Z3o ⟨(g.ob x).p,(g.ob x).f,(g.ob x).k⟩=(((g.ob x).size:Nat):Int):=by
    unfold Z3o;rw[χ (JJj hwl)];unfold GOb.size;dsimp only;omega
   rw[hhn]at HSZ;have hsz:(g.ob x).size<=256:=by unfold GOb.size;omega
   unfold X79 at HSZ;dsimp only at HSZ;generalize (g.ob x).size=z at HSZ hsz HTK;generalize (g.ob x).p=pp at t0 HSZ;generalize (g.ob x).f=ff at t1 HSZ;generalize (g.ob x).k=kk at t2 HSZ;have HLA:=hid hlast;clear hlast hx1 hx2 h2 hown hxe hi hhn hwl hth;go_wp2_with(go_at_call 29;refine(HSZ.o _).mono ?_;rintro e w2 ⟨rfl,hg2⟩;have HG2:=hid (HG.o.trans hg2);clear hg2);go_round
   case rel=>exact⟨i+1,n+z,HLA.o,by omega,by go_num,by go_num,⟨by rw[HTK.o,<-HN.o]⟩,HG2⟩
   case measure=>have:=HLA.o;simp[intOf];omega
  ·have hiI:¬(i:Int)<(g.all.length:Int):=Ω
   have hNN:Hid (n=g.words):=⟨by rw[HN.o,ζB Ω];rfl⟩;clear hlast hi hown HO1;go_wp2;go_ret2;exact⟨by rw[<-hNN.o] <;> rfl,HG1.o.trans HG.o⟩
end
end
end
section
section
open Go.RowKit Word
section
variable {w w':World} {m C:Nat} {g:Gph} {sb:Nat} {F T W:Nat->Nat} {S:Nat->Prop}
def JR3(w:World)(S:Nat->Prop)(m C:Nat)(g':Gph)(v:Value)(e:Ending)(w':World):Prop:=e=.returned v/\XF4 S w w'/\Xli w' (VVO S w) m C g'
theorem V4X.do{g':Gph}{v:Value}{e:Ending}(h:V4X w S m C g' v e w'):JR3 w S m C g' v e w':=⟨h.1,h.2.1,h.2.2.mono (λ_ h=>.inl h)⟩
def JGk(F:Nat->Nat)(n b:Nat)(i:Nat):Nat:=if i=n+1 then b else F i
theorem JxN{l:List Nat}{n b:Nat}(h:∀y∈l,y<=n):JYL (JGk F n b) l=JYL F l:=by
 unfold JYL;refine List.map_congr_left (λy hy=>?_);unfold XaF JGk;have:=h y hy;rw[ν (show ¬y=n+1 by omega)]
theorem V0z(h:J8T w m C g sb F T W):g.words<=256000:=by
 have key:∀T:List Nat,(∀x∈T,1<=x/\x<=g.L.length)->szs g T<=256*T.length:=λT=>by
  induction T with
  | nil=>intro _;exact ζe _
  | cons x r ih=>
   intro hT;have h1:=ih (λy hy=>hT y (ζ7 _ hy));have h2:=hT x ξt;have h3:=(h.ok.len _ (Gph.ob_mem h2.1 h2.2)).2;have h4:szs g (x :: r)=(g.ob x).size+szs g r:=by simp[szs]
   have h5:(g.ob x).size=1+(g.ob x).p+(g.ob x).f+(g.ob x).k:=rfl;have h6:(x :: r).length=r.length+1:=rfl;rw[h4,h6];omega
 obtain⟨h1,-,-⟩:=JOE (p:=g.pts) (N:=g.L.length) (rs:=g.S) (λx _ _ y hy=>h.ok.pts_le hy) h.ok.st;have h2:=key g.all h1;have h4:=h.len;have h5:g.words=szs g g.all:=rfl;have h6:=Jcu h.ok;omega
theorem J8T.add(h:J8T w m C g sb F T W){k p f q nf nt nw:Nat}(hs:p+f+q<=255)(hl:g.L.length+1<=1000){w7:World}(g7:Gr w w7)
  (hF:Rec w7 nf 81 [.int .i64 p,.int .i64 f,.int .i64 q,.slice (some ⟨nt,0,none⟩) p p,.slice (some ⟨nw,0,none⟩) (f+q:Nat) (f+q:Nat)]) (hT:Rec w7 nt 79 (List.replicate p (.pointer none))) (hW:Rec w7 nw 32 (List.replicate (f+q) (.int .u64 0))) (b1:w.heap.size<=nf) (b2:w.heap.size<=nt) (b3:w.heap.size<=nw):
  J8T (w7.setCell ⟨sb,k,none⟩ (.pointer (some ⟨nf,0,none⟩))) m C (g.add k p f q) sb (JGk F g.L.length nf) (JGk T g.L.length nt) (JGk W g.L.length nw):=by
 have h7:=h.gr g7;have t:XF4 (λk=>k=sb) w7 (w7.setCell ⟨sb,k,none⟩ (.pointer (some ⟨nf,0,none⟩))):=(XF4.refl (λq=>q=sb) w7).setCell (a:=⟨sb,k,none⟩) (λ_=>rfl) _;have hlen:(g.add k p f q).L.length=g.L.length+1:=by show (g.L++[GOb.new p f q]).length=_;rw[ζi];rfl
 have hslen:(g.add k p f q).S.length=g.S.length:=by show (g.S.set _ _).length=_;rw[ζf]
 have hsb:=h.sl.lt
 have hold:∀{P:Nat->Prop},(∀x,1<=x->x<=g.L.length->P x)->P (g.L.length+1)->∀x,1<=x->x<=g.L.length+1->P x:=λho hn x a b=>by
  by_cases e:x=g.L.length+1
  ·rw[e];exact hn
  ·exact ho x a Ω
 have hpo:∀(G:Nat->Nat) (b x:Nat),x<=g.L.length->JGk G g.L.length b x=G x:=λG b x hx=>ν Ω;have hpn:∀(G:Nat->Nat) (b:Nat),JGk G g.L.length b (g.L.length+1)=b:=λG b=>χ rfl
 have hinj:∀(G:Nat->Nat) (b:Nat),(∀x,1<=x->x<=g.L.length->G x≠b)->(∀x y,1<=x->x<=g.L.length->1<=y->y<=g.L.length->G x=G y->x=y)->∀x y,1<=x->x<=g.L.length+1->1<=y->y<=g.L.length+1->JGk G g.L.length b x=JGk G g.L.length b y->x=y:=λG b hne hi x y a1 a2 a3 a4 e=>by
  by_cases e1:x=g.L.length+1 <;> by_cases e2:y=g.L.length+1
  ·omega
  ·rw[e1,hpn,hpo _ _ _ Ω]at e;exact absurd e.symm (hne y a3 Ω)
  ·rw[e2,hpn,hpo _ _ _ Ω]at e;exact absurd e (hne x a1 Ω)
  ·rw[hpo _ _ _ Ω,hpo _ _ _ Ω]at e;exact hi x y a1 Ω a3 Ω e
 refine⟨?_,?_,?_,?_,?_,?_,?_,?_,?_,by rw[hlen];exact hl,by rw[hslen];exact h.sn,h.cb,h.ok.add hs,λo ho x hx=>?_⟩
 ·rw[hslen];exact h7.row.touch t (YnK h7.row h7.sl (by decide) rfl rfl)
 ·have e:JYL (JGk F g.L.length nf) (g.add k p f q).S=(JYL F g.S).set k (.pointer (some ⟨nf,0,none⟩)):=by
   have e1:JYL F g.S=JYL (JGk F g.L.length nf) g.S:=(JxN h.ok.st).symm;rw[e1]
   show List.map _ (g.S.set k (g.L.length+1))=_
   unfold JYL;rw[ζ8];congr 1;unfold XaF;rw[ν Ω,hpn]
  rw[e];exact h7.sl.set k _
 ·rw[hlen];refine hold (λx a b=>?_) ?_
  ·rw[Gph.add_ob x b,hpo _ _ _ b,hpo _ _ _ b,hpo _ _ _ b];exact(h7.th x a b).touch t (YnK (h7.th x a b) h7.sl (by decide) rfl rfl)
  ·rw[Gph.add_new,hpn,hpn,hpn];exact hF.touch t (YnK hF h7.sl (by decide) rfl rfl)
 ·rw[hlen];refine hold (λx a b=>?_) ?_
  ·have e:(g.add k p f q).pts x=g.pts x:=by unfold Gph.pts;rw[Gph.add_ob x b]
   rw[e,hpo _ _ _ b,JxN (λy hy=>h.ok.pts_le hy)];exact(h7.ps x a b).touch t (h7.ts x a b)
  ·have e:JYL (JGk F g.L.length nf) ((g.add k p f q).pts (g.L.length+1))=List.replicate p (.pointer none):=by
    unfold Gph.pts;rw[Gph.add_new]
    show List.map _ ((List.replicate (p+f+q) 0).take p)=_
    rw[List.take_replicate,ξu,ζX Ω];rfl
   rw[e,hpn];exact hT.touch t (λe=>by omega)
 ·rw[hlen];refine hold (λx a b=>?_) ?_
  ·rw[Gph.add_ob x b,hpo _ _ _ b];exact(h7.wo x a b).touch t (YnK (h7.wo x a b) h7.sl (by decide) rfl rfl)
  ·rw[Gph.add_new,hpn]
   have e:QYW ((GOb.new p f q).w.drop (GOb.new p f q).p)=List.replicate (f+q) (.int .u64 0):=by
    show List.map _ ((List.replicate (p+f+q) 0).drop p)=_
    rw[List.drop_replicate,ξu,show p+f+q-p=f+q by omega];rfl
   rw[e];exact hW.touch t (YnK hW h7.sl (by decide) rfl rfl)
 ·rw[hlen];exact hinj F nf (λx a b=>by have:=(h.th x a b).lt;omega) h.injF
 ·rw[hlen];exact hinj T nt (λx a b=>by have:=(h.ps x a b).lt;omega) h.injT
 ·rw[hlen];exact hinj W nw (λx a b=>by have:=(h.wo x a b).lt;omega) h.injW
 ·rw[hlen];refine hold (λx a b=>?_) ?_
  ·rw[hpo _ _ _ b];exact h.ts x a b
  ·rw[hpn];omega
 ·rcases ξg.1 ho with h1|h1
  ·exact h.wd o h1 x hx
  ·rw[ζT.1 h1]at hx;have hx:x∈List.replicate (p+f+q) 0:=hx;rw[(ζC.1 hx).2];decide
end
end
end
section
section
open Go.RowKit Word
section
variable {w w':World} {m C:Nat} {g:Gph} {sb:Nat} {F T W:Nat->Nat} {S:Nat->Prop}
theorem XcB:(prog.info? 32).map (λi=>(i.zero,i.size,i.bytes))=some (some (.int .u64 0),1,8):=by kernel_rfl
theorem JbJ(p:Nat)(hp:p<=255)(w:World):(Instr.makeSlice 52 (.int .i64 p) (.int .i64 p)).run prog w=.ok (.slice (some ⟨w.heap.size,0,none⟩) p p) (w.alloc (.cells (List.replicate p (.pointer none)).toArray 79)):=by
 rw[run_make_row' (P:=prog) 52 79 (.pointer none) 8 underlying52 V30 rfl .i64 .i64 p Ω Ω w,<-J0U,ξU]
theorem Xoa(p:Nat)(hp:p<=255)(w:World):(Instr.makeSlice 72 (.int .i64 p) (.int .i64 p)).run prog w=.ok (.slice (some ⟨w.heap.size,0,none⟩) p p) (w.alloc (.cells (List.replicate p (.int .u64 0)).toArray 32)):=by
 rw[run_make_row' (P:=prog) 72 32 (.int .u64 0) 8 underlying72 XcB rfl .i64 .i64 p Ω Ω w,<-J0U,ξU]
theorem XAU(h:J8T w m C g sb F T W)(s1:S m)(s2:S sb)(s3:∀x,1<=x->x<=g.L.length->S (F x)/\S (T x)/\S (W x)){k p f q nf nt nw:Nat}(hs:p+f+q<=255)(hl:g.L.length+1<=1000){w7:World}(g7:Gr w w7)
  (hF:Rec w7 nf 81 [.int .i64 p,.int .i64 f,.int .i64 q,.slice (some ⟨nt,0,none⟩) p p,.slice (some ⟨nw,0,none⟩) (f+q:Nat) (f+q:Nat)]) (hT:Rec w7 nt 79 (List.replicate p (.pointer none))) (hW:Rec w7 nw 32 (List.replicate (f+q) (.int .u64 0))) (b1:w.heap.size<=nf) (b2:w.heap.size<=nt) (b3:w.heap.size<=nw):
  JR3 w S m C (g.add k p f q) (.int .i64 0) (.returned (.int .i64 0)) (w7.setCell ⟨sb,k,none⟩ (.pointer (some ⟨nf,0,none⟩))).drew:=by
 refine⟨rfl,((g7.touch S).setCell (λ_=>s2) _).drew,sb,_,_,_,(h.add hs hl g7 hF hT hW b1 b2 b3).gr (Gr.refl _).drew,.inl s1,.inl s2,λx a b=>?_⟩;have hlen:(g.add k p f q).L.length=g.L.length+1:=by show (g.L++[GOb.new p f q]).length=_;rw[ζi];rfl
 rw[hlen]at b;by_cases e:x=g.L.length+1
 ·rw[e];unfold JGk;rw[χ rfl,χ rfl,χ rfl];exact⟨.inr b1,.inr b2,.inr b3⟩
 ·unfold JGk;rw[ν e,ν e,ν e];have:=s3 x a Ω;exact⟨.inl this.1,.inl this.2.1,.inl this.2.2⟩
theorem Jvv(hA:Xli w S m C g)(hlen:g.L.length+1<=1000)(a:Int)(x:Hdr):Calls prog 39 #[.pointer (some ⟨m,0,none⟩),.int .i64 a,X79 x] w (JR3 w S m C (g.alG C a x) (.int .i64 (g.alE C a x))):=by
 obtain⟨sb,F,T,W,h,s1,s2,s3⟩:=hA;obtain⟨hp,hf,hk⟩:=x;have HNO:=hid (λ(V:World) (gV:Gr w V)=>(show XF4 S w V/\Xli V (VVO S w) m C g from⟨gV.touch S,sb,F,T,W,h.gr gV,.inl s1,.inl s2,λx a b=>⟨.inl (s3 x a b).1,.inl (s3 x a b).2.1,.inl (s3 x a b).2.2⟩⟩));have HB:=hid ((Gr.refl w).alloc (.cells #[.int .i64 hp,.int .i64 hf,.int .i64 hk] 31));have hrx:=Rec.new w 31 [.int .i64 hp,.int .i64 hf,.int .i64 hk];have HC:=hid (λV=>Jld ⟨hp,hf,hk⟩ V);have HZ:=hid (λV=>ZUg ⟨hp,hf,hk⟩ V);obtain⟨wb,hwb⟩:∃wb,wb=w.alloc (.cells #[.int .i64 hp,.int .i64 hf,.int .i64 hk] 31):=⟨_,rfl⟩;have hrx:Rec wb w.heap.size 31 [.int .i64 hp,.int .i64 hf,.int .i64 hk]:=by rw[hwb];exact hrx
 rw[<-hwb]at HB;have HWB:=hid hwb;have HRX:=hid hrx;have k0:=hrx.cell (j:=0) rfl;have k1:=hrx.cell (j:=1) rfl;have k2:=hrx.cell (j:=2) rfl;have kl:=hrx.lt;have HI:=hid (X7N (h.gr HB.o) a);have HA:=hid ((Gr.refl wb).alloc (.cells #[.int .i64 a] 3));unfold X79 at HC HZ⊢;dsimp only at HC HZ⊢;clear hrx hwb;by_cases hs:g.sl a=true
 ·rw[hs]at HI;by_cases he:JQC ⟨hp,hf,hk⟩=0
  ·obtain⟨pp,ff,kk,e,hpf⟩:=XZe he;obtain⟨rfl,rfl,rfl⟩:hp=(pp:Int)/\hf=(ff:Int)/\hk=(kk:Int):=by injection e with e1 e2 e3;exact⟨e1,e2,e3⟩
   have hN:Z3o ⟨pp,ff,kk⟩=((1+pp+ff+kk:Nat):Int):=(χ he).trans (by push_cast;rfl);rw[he]at HC;rw[hN]at HZ;have HLV:=hid (λ(V:World) (gV:Gr w V)=>Zqc (h.gr gV));have hwd:=V0z h;have hcb:=h.cb;have HM0:=hid (λ(V:World) (gV:Gr w V)=>ζp ((h.gr gV).row.cell (j:=0) rfl) (h.gr gV).row.lt);obtain⟨nn,hnn⟩:∃nn,nn=1+pp+ff+kk:=⟨_,rfl⟩;rw[<-hnn]at HZ hN;have hnb:nn<=256:=Ω
   by_cases hbig:(C:Int)<g.words+Z3o ⟨pp,ff,kk⟩
   ·have hE:g.alE C a ⟨pp,ff,kk⟩=21:=by unfold Gph.alE;rw[hs,χ rfl,ν (by rw[he];decide),χ hbig]
    have hG:g.alG C a ⟨pp,ff,kk⟩=g:=by unfold Gph.alG;rw[hE];rfl
    rw[hE,hG];rw[hN]at hbig;have hgt:(C:Int)-(g.words:Int)<(nn:Int):=Ω
    generalize g.words=wd' at HLV hwd hgt hbig;generalize g.all.length=al at HLV;clear hE hG he hpf hs hN hbig h s1 s2 s3 hnn e;go_enter func39,ntmps39;go_upto_region 1 with(fail);rw[<-HWB.o];go_upto_region 3 with(go_at_call 35;refine(HI.o).mono ?_;rintro e w1 ⟨rfl,hw1⟩;have HA1:Hid (Gr wb w1):=⟨hw1▸HA.o⟩;clear hw1);have k0:=(HRX.o.gr HA1.o).cell (j:=0) rfl;have k1:=(HRX.o.gr HA1.o).cell (j:=1) rfl;have k2:=(HRX.o.gr HA1.o).cell (j:=2) rfl;have kl2:=(HRX.o.gr HA1.o).lt
    go_upto_region 7 with(first
     | (go_at_call 48;refine(HC.o _).mono ?_;rintro e w2 ⟨rfl,hg⟩;have HA2:=hid (HA1.o.trans hg);clear hg)
     | (go_at_call 11;refine(HLV.o _ (HB.o.trans HA2.o)).mono ?_;rintro e w3 ⟨rfl,hg⟩;have HA3:=hid (HA2.o.trans hg);clear hg))
    clear k0 k1 k2 kl kl2;have y0:∀xs n,(grow w3 xs n).cell? ⟨w.heap.size,0,none⟩=some (.int .i64 pp):=λxs n=>(HRX.o.gr (HA3.o.trans (grown w3 xs n))).cell (j:=0) rfl;have y1:∀xs n,(grow w3 xs n).cell? ⟨w.heap.size,1,none⟩=some (.int .i64 ff):=λxs n=>(HRX.o.gr (HA3.o.trans (grown w3 xs n))).cell (j:=1) rfl;have y2:∀xs n,(grow w3 xs n).cell? ⟨w.heap.size,2,none⟩=some (.int .i64 kk):=λxs n=>(HRX.o.gr (HA3.o.trans (grown w3 xs n))).cell (j:=2) rfl;have z0:∀xs n,(grow w3 xs n).cell? ⟨m,0,none⟩=some (.int .i64 C):=λxs n=>(HM0.o _ (HB.o.trans (HA3.o.trans (grown w3 xs n)))).1;refine XAX (by kernel_rfl) (by kernel_rfl) ?_
    repeat(go_big_quiet_step ((go_at_call 29;exact V4y.grown (HZ.o _))))
    refine φ ?_;intro _ hw';obtain⟨⟨xs,nq⟩,hw''⟩:=hw';subst hw'';go_wp2;go_ret;exact⟨rfl,HNO.o _ (HB.o.trans (HA3.o.trans (grown w3 _ _)))⟩
   ·obtain⟨k,rfl,hk1⟩:=J9p hs;have hE:g.alE C k ⟨pp,ff,kk⟩=0:=by unfold Gph.alE;rw[hs,χ rfl,ν (by rw[he];decide),ν hbig]
    have hG:g.alG C k ⟨pp,ff,kk⟩=g.add k pp ff kk:=by
     unfold Gph.alG;rw[χ hE];rfl
    rw[hE,hG];rw[hN]at hbig;have hgt:¬(C:Int)-(g.words:Int)<(nn:Int):=Ω
    have HMD:=hid (λ(nf nt nw:Nat) (V:World)=>XAU h s1 s2 s3 (k:=k) (p:=pp) (f:=ff) (q:=kk) (nf:=nf) (nt:=nt) (nw:=nw) (w7:=V) hpf hlen);have HM1:=hid (λ(V:World) (gV:Gr w V)=>ζp ((h.gr gV).row.cell (j:=1) rfl) (ζp ((h.gr gV).slot hk1) (ζp ((h.gr gV).sl.free k) (h.gr gV).sl.lt)));have hkI:(k:Int)<(g.S.length:Int):=Ω
    have hsn:=h.sn;obtain⟨wl,hwl⟩:∃wl,wl=ff+kk:=⟨_,rfl⟩;have hwlI:(ff:Int)+(kk:Int)=(wl:Int):=Ω
    have hwlb:wl<=255:=Ω
    have hw1:(0:Int)<=(wl:Int):=Ω
    have hw2:(wl:Int)<=9223372036854775807:=Ω
    have hw64:IntKind.i64.wrap (wl:Int)=(wl:Int):=ξF _ Ω;have hmk1:=JbJ pp Ω;have hmk2:=Xoa wl Ω;rw[<-hwl]at HMD;have HMK:=hid (ζp hmk1 hmk2);generalize List.replicate pp (Value.pointer none)=lp at HMD hmk1 HMK;generalize List.replicate wl (Value.int .u64 0)=lw at HMD hmk2 HMK;generalize g.words=wd' at HLV hwd hgt hbig;generalize g.all.length=al at HLV;generalize XaF F (g.S.getD k 0)=v0 at HM1;generalize g.S.length=ns at HM1 hkI hsn;generalize g.add k pp ff kk=g2 at HMD⊢;clear hE hG he hpf hs hN h s1 s2 s3 hnn e HNO hk1 hwl hmk1 hmk2;go_enter func39,ntmps39;go_upto_region 1 with(fail);rw[<-HWB.o];go_upto_region 3 with(go_at_call 35;refine(HI.o).mono ?_;rintro e w1 ⟨rfl,hw1⟩;have HA1:Hid (Gr wb w1):=⟨hw1▸HA.o⟩;clear hw1);have k0:=(HRX.o.gr HA1.o).cell (j:=0) rfl;have k1:=(HRX.o.gr HA1.o).cell (j:=1) rfl;have k2:=(HRX.o.gr HA1.o).cell (j:=2) rfl;have kl2:=(HRX.o.gr HA1.o).lt
    go_upto_region 7 with(first
     | (go_at_call 48;refine(HC.o _).mono ?_;rintro e w2 ⟨rfl,hg⟩;have HA2:=hid (HA1.o.trans hg);clear hg)
     | (go_at_call 11;refine(HLV.o _ (HB.o.trans HA2.o)).mono ?_;rintro e w3 ⟨rfl,hg⟩;have HA3:=hid (HA2.o.trans hg);clear hg))
    clear k0 k1 k2 kl kl2;have y0:∀xs n,(grow w3 xs n).cell? ⟨w.heap.size,0,none⟩=some (.int .i64 pp):=λxs n=>(HRX.o.gr (HA3.o.trans (grown w3 xs n))).cell (j:=0) rfl;have y1:∀xs n,(grow w3 xs n).cell? ⟨w.heap.size,1,none⟩=some (.int .i64 ff):=λxs n=>(HRX.o.gr (HA3.o.trans (grown w3 xs n))).cell (j:=1) rfl;have y2:∀xs n,(grow w3 xs n).cell? ⟨w.heap.size,2,none⟩=some (.int .i64 kk):=λxs n=>(HRX.o.gr (HA3.o.trans (grown w3 xs n))).cell (j:=2) rfl;have z0:∀xs n,(grow w3 xs n).cell? ⟨m,0,none⟩=some (.int .i64 C):=λxs n=>(HM0.o _ (HB.o.trans (HA3.o.trans (grown w3 xs n)))).1;refine XAX (by kernel_rfl) (by kernel_rfl) ?_
    repeat(go_big_quiet_step ((go_at_call 29;exact V4y.grown (HZ.o _))))
    refine φ ?_;intro _ hw';obtain⟨⟨xs,nq⟩,hw''⟩:=hw';subst hw'';have HA4:=hid (HA3.o.trans (grown w3 xs nq));obtain⟨w4,hw4⟩:∃w4,w4=grow w3 xs nq:=⟨_,rfl⟩;rw[<-hw4]at HA4⊢;clear y0 y1 y2 z0 hw4;go_upto_region 9 with(fail);have y0:=(HRX.o.gr HA4.o).cell (j:=0) rfl;have y1:=(HRX.o.gr HA4.o).cell (j:=1) rfl;have y2:=(HRX.o.gr HA4.o).cell (j:=2) rfl;have hl0:=(HRX.o.gr HA4.o).lt;obtain⟨z1,zb,zf,hl2⟩:=HM1.o _ (HB.o.trans HA4.o);have hl1:=(HM0.o _ (HB.o.trans HA4.o)).2;obtain⟨hmk1,hmk2⟩:=HMK.o;have x0:∀o,(w4.alloc o).cell? ⟨w.heap.size,0,none⟩=some (.int .i64 pp):=λo=>(((Gr.refl w4).alloc o).cell hl0 0).trans y0;have x1:∀o,(w4.alloc o).cell? ⟨w.heap.size,1,none⟩=some (.int .i64 ff):=λo=>(((Gr.refl w4).alloc o).cell hl0 1).trans y1;have x2:∀o,(w4.alloc o).cell? ⟨w.heap.size,2,none⟩=some (.int .i64 kk):=λo=>(((Gr.refl w4).alloc o).cell hl0 2).trans y2;have x3:∀o,(w4.alloc o).cell? ⟨m,1,none⟩=some (.slice (some ⟨sb,0,none⟩) ns ns):=λo=>(((Gr.refl w4).alloc o).cell hl1 1).trans z1;have x4:∀o o',((w4.alloc o).alloc o').cell? ⟨m,1,none⟩=some (.slice (some ⟨sb,0,none⟩) ns ns):=λo o'=>((((Gr.refl w4).alloc o).alloc o').cell hl1 1).trans z1;have x5:∀o o' o2,(((w4.alloc o).alloc o').alloc o2).cell? ⟨m,1,none⟩=some (.slice (some ⟨sb,0,none⟩) ns ns):=λo o' o2=>(((((Gr.refl w4).alloc o).alloc o').alloc o2).cell hl1 1).trans z1;have x6:∀o o' o2,(((w4.alloc o).alloc o').alloc o2).cell? ⟨sb,k,none⟩=some v0:=λo o' o2=>(((((Gr.refl w4).alloc o).alloc o').alloc o2).cell hl2 k).trans zb;have x7:∀o o' o2,(((w4.alloc o).alloc o').alloc o2).frozen? ⟨sb,k,none⟩=false:=λo o' o2=>(((((Gr.refl w4).alloc o).alloc o').alloc o2).frozen hl2 k).trans zf
    go_region
    all_goals go_wp2
    all_goals go_ret
    ·have r1:=Rec.new w4 79 lp;have r2:=Rec.new (w4.alloc (.cells lp.toArray 79)) 32 lw;have r3:=Rec.new ((w4.alloc (.cells lp.toArray 79)).alloc (.cells lw.toArray 32)) 81 [.int .i64 pp,.int .i64 ff,.int .i64 kk,.slice (some ⟨w4.heap.size,0,none⟩) pp pp,.slice (some ⟨w4.heap.size+1,0,none⟩) wl wl];rw[τ]at r2;rw[τ,τ]at r3;have hz:w.heap.size<=w4.heap.size:=(HB.o.trans HA4.o).size;exact HMD.o _ _ _ _ ((((HB.o.trans HA4.o).alloc _).alloc _).alloc _) r3 ((r1.gr ((Gr.refl _).alloc _)).gr ((Gr.refl _).alloc _)) (r2.gr ((Gr.refl _).alloc _)) Ω Ω Ω
    ·have r1:=Rec.new w4 32 lw;have r2:=Rec.new (w4.alloc (.cells lw.toArray 32)) 79 lp;have r3:=Rec.new ((w4.alloc (.cells lw.toArray 32)).alloc (.cells lp.toArray 79)) 81 [.int .i64 pp,.int .i64 ff,.int .i64 kk,.slice (some ⟨w4.heap.size+1,0,none⟩) pp pp,.slice (some ⟨w4.heap.size,0,none⟩) wl wl];rw[τ]at r2;rw[τ,τ]at r3;have hz:w.heap.size<=w4.heap.size:=(HB.o.trans HA4.o).size;exact HMD.o _ _ _ _ ((((HB.o.trans HA4.o).alloc _).alloc _).alloc _) r3 (r2.gr ((Gr.refl _).alloc _)) ((r1.gr ((Gr.refl _).alloc _)).gr ((Gr.refl _).alloc _)) Ω Ω Ω
  ·have he2:JQC ⟨hp,hf,hk⟩=15:=(Vhh _).resolve_left he;have hE:g.alE C a ⟨hp,hf,hk⟩=15:=by unfold Gph.alE;rw[hs,χ rfl,χ he]
   have hG:g.alG C a ⟨hp,hf,hk⟩=g:=by unfold Gph.alG;rw[hE];rfl
   rw[hE,hG];rw[he2]at HC;clear hE hG he he2 hs h s1 s2 s3 HZ;go_enter func39,ntmps39;go_upto_region 1 with(fail);rw[<-HWB.o];go_upto_region 3 with(go_at_call 35;refine(HI.o).mono ?_;rintro e w1 ⟨rfl,hw1⟩;have HA1:Hid (Gr wb w1):=⟨hw1▸HA.o⟩;clear hw1);have k0:=(HRX.o.gr HA1.o).cell (j:=0) rfl;have k1:=(HRX.o.gr HA1.o).cell (j:=1) rfl;have k2:=(HRX.o.gr HA1.o).cell (j:=2) rfl;have kl2:=(HRX.o.gr HA1.o).lt;go_wp2_with(go_at_call 48;refine(HC.o _).mono ?_;rintro e w2 ⟨rfl,hg⟩;have HA2:=hid (HA1.o.trans hg);clear hg);go_ret;exact⟨rfl,HNO.o _ (HB.o.trans HA2.o)⟩
 ·rw[ζD]at hs;have hE:g.alE C a ⟨hp,hf,hk⟩=17:=by unfold Gph.alE;rw[hs];rfl
  have hG:g.alG C a ⟨hp,hf,hk⟩=g:=by unfold Gph.alG;rw[hE];rfl
  rw[hE,hG];rw[hs]at HI;clear hE hG hs h s1 s2 s3 HC HZ;go_enter func39,ntmps39;go_upto_region 1 with(fail);rw[<-HWB.o];go_wp2_with(go_at_call 35;refine(HI.o).mono ?_;rintro e w1 ⟨rfl,hw1⟩;have HA1:Hid (Gr wb w1):=⟨hw1▸HA.o⟩;clear hw1);go_ret;exact⟨rfl,HNO.o _ (HB.o.trans HA1.o)⟩
end
end
end
section
section
open Go.RowKit Word
section
variable {w w':World} {m C:Nat} {g:Gph} {sb:Nat} {F T W:Nat->Nat} {S:Nat->Prop}
theorem JR3.back{wb:World}{g':Gph}{v:Value}{e:Ending}(h:JR3 wb S m C g' v e w')(gb:Gr w wb):JR3 w S m C g' v e w':=
 ⟨h.1,(gb.touch S).trans h.2.1,h.2.2.mono (λ_ hk=>hk.elim .inl (λh=>.inr (γ gb.size h)))⟩
theorem Xli.no{g:Gph}(h:Xli w S m C g){V:World}(gV:Gr w V):XF4 S w V/\Xli V (VVO S w) m C g:=⟨gV.touch S,(h.gr gV).mono (λ_ h=>.inl h)⟩
theorem YT5(hA:Xli w S m C g)(hlen:g.L.length+1<=1000)(x:GOp)(hx:x.Bd)(hkk:¬(x.kd=4\/x.kd=6\/(10<=x.kd/\x.kd<=14))):Calls prog 16 #[.pointer (some ⟨m,0,none⟩),.agg (Qol x)] w (JR3 w S m C (x.doG C g) (.int .i64 (x.doR C g).code)):=by
 obtain⟨kd,xa,xb,xi,⟨hp,hf,hk⟩,xw,xf⟩:=x;have HB:=hid ((Gr.refl w).alloc (.cells (Qol ⟨kd,xa,xb,xi,⟨hp,hf,hk⟩,xw,xf⟩) 35));have hrx:Rec (w.alloc (.cells (Qol ⟨kd,xa,xb,xi,⟨hp,hf,hk⟩,xw,xf⟩) 35)) w.heap.size 35 (opL ⟨kd,xa,xb,xi,⟨hp,hf,hk⟩,xw,xf⟩):=Rec.new w 35 (opL ⟨kd,xa,xb,xi,⟨hp,hf,hk⟩,xw,xf⟩);obtain⟨wb,hwb⟩:∃wb,wb=w.alloc (.cells (Qol ⟨kd,xa,xb,xi,⟨hp,hf,hk⟩,xw,xf⟩) 35):=⟨_,rfl⟩;rw[<-hwb]at HB hrx;have HWB:=hid hwb;have HRX:=hid hrx;have k0:=hrx.cell (j:=0) rfl;have k1:=hrx.cell (j:=1) rfl;have k2:=hrx.cell (j:=2) rfl;have k3:=hrx.cell (j:=3) rfl;have k4:=hrx.cell (j:=4) rfl;have k5:=hrx.cell (j:=5) rfl;have k6:=hrx.cell (j:=6) rfl;have k7:=hrx.cell (j:=7) rfl;have k8:=hrx.cell (j:=8) rfl;have kl:=hrx.lt;unfold Qol at HWB⊢;dsimp only at HWB k0 k1 k2 k3 k4 k5 k6 k7 k8 hkk⊢;have HDO:=hid (λ(e:Ending) (g':Gph) (v:Value) (w':World) (h:JR3 wb S m C g' v e w')=>h.back HB.o);have HNO:=hid (λ(V:World) (gV:Gr w V)=>hA.no gV);have HX:=hid hx;clear hrx hwb hx;have hkd:kd=1\/kd=2\/kd=3\/kd=5\/kd=7\/kd=8\/kd=9\/kd=15\/kd=16\/kd=17\/(kd<1\/17<kd):=Ω
 rcases hkd with rfl|rfl|rfl|rfl|rfl|rfl|rfl|rfl|rfl|rfl|hno
 ·have hre:GOp.doR C ⟨1,xa,xb,xi,⟨hp,hf,hk⟩,xw,xf⟩ g=.no (g.alE C xa ⟨hp,hf,hk⟩):=rfl;have hgg:GOp.doG C ⟨1,xa,xb,xi,⟨hp,hf,hk⟩,xw,xf⟩ g=g.alG C xa ⟨hp,hf,hk⟩:=rfl;rw[hre,hgg];have HC:=hid (Jvv (hA.gr HB.o) hlen xa ⟨hp,hf,hk⟩);unfold X79 at HC;dsimp only at HC;clear hre hgg hA;go_enter func16,ntmps16;go_upto_region 1 with(fail);rw[<-HWB.o];go_wp2_with(go_at_call 39;refine HC.o.mono ?_;rintro e w5 hE;have HE:=hid (HDO.o _ _ _ _ hE);clear hE;obtain⟨rfl,-⟩:=HE.o);go_ret;exact HE.o
 ·have hre:GOp.doR C ⟨2,xa,xb,xi,⟨hp,hf,hk⟩,xw,xf⟩ g=.no (g.loE xa xb xi):=rfl;have hgg:GOp.doG C ⟨2,xa,xb,xi,⟨hp,hf,hk⟩,xw,xf⟩ g=g.loG xa xb xi:=rfl;rw[hre,hgg];have HC:=hid (XXu (hA.gr HB.o) ⟨2,xa,xb,xi,⟨hp,hf,hk⟩,xw,xf⟩ (.inl rfl));rw[show mvE ⟨2,xa,xb,xi,⟨hp,hf,hk⟩,xw,xf⟩ g=g.loE xa xb xi from rfl,show mvG ⟨2,xa,xb,xi,⟨hp,hf,hk⟩,xw,xf⟩ g=g.loG xa xb xi from rfl]at HC;unfold Qol at HC;dsimp only at HC;clear hre hgg hA;go_enter func16,ntmps16;go_upto_region 1 with(fail);rw[<-HWB.o];go_wp2_with(go_at_call 40;refine HC.o.mono ?_;rintro e w5 hE;have HE:=hid (HDO.o _ _ _ _ hE.do);clear hE;obtain⟨rfl,-⟩:=HE.o);go_ret;exact HE.o
 ·have hre:GOp.doR C ⟨3,xa,xb,xi,⟨hp,hf,hk⟩,xw,xf⟩ g=.no (g.stE xa xi xb):=rfl;have hgg:GOp.doG C ⟨3,xa,xb,xi,⟨hp,hf,hk⟩,xw,xf⟩ g=g.stG xa xi xb:=rfl;rw[hre,hgg];have HC:=hid (XXu (hA.gr HB.o) ⟨3,xa,xb,xi,⟨hp,hf,hk⟩,xw,xf⟩ (.inr (.inl rfl)));rw[show mvE ⟨3,xa,xb,xi,⟨hp,hf,hk⟩,xw,xf⟩ g=g.stE xa xi xb from rfl,show mvG ⟨3,xa,xb,xi,⟨hp,hf,hk⟩,xw,xf⟩ g=g.stG xa xi xb from rfl]at HC;unfold Qol at HC;dsimp only at HC;clear hre hgg hA;go_enter func16,ntmps16;go_upto_region 1 with(fail);rw[<-HWB.o];go_wp2_with(go_at_call 40;refine HC.o.mono ?_;rintro e w5 hE;have HE:=hid (HDO.o _ _ _ _ hE.do);clear hE;obtain⟨rfl,-⟩:=HE.o);go_ret;exact HE.o
 ·have hre:GOp.doR C ⟨5,xa,xb,xi,⟨hp,hf,hk⟩,xw,xf⟩ g=.no (g.fdE xa xi 3):=rfl;have hgg:GOp.doG C ⟨5,xa,xb,xi,⟨hp,hf,hk⟩,xw,xf⟩ g=g.wrG xa xi 3 xw:=rfl;rw[hre,hgg];have HC:=hid (Zgk (hA.gr HB.o) xa xi 3 (by decide) HX.o.wd);clear hre hgg hA;go_enter func16,ntmps16;go_upto_region 1 with(fail);rw[<-HWB.o];go_wp2_with(go_at_call 41;refine HC.o.mono ?_;rintro e w5 hE;have HE:=hid (HDO.o _ _ _ _ hE.do);clear hE;obtain⟨rfl,-⟩:=HE.o);go_ret;exact HE.o
 ·have hre:GOp.doR C ⟨7,xa,xb,xi,⟨hp,hf,hk⟩,xw,xf⟩ g=.no (g.fdE xa xi 2):=rfl;have hgg:GOp.doG C ⟨7,xa,xb,xi,⟨hp,hf,hk⟩,xw,xf⟩ g=g.wrG xa xi 2 xf:=rfl;rw[hre,hgg];have HC:=hid (λ(V:World) (gV:Gr wb V)=>Zgk (hA.cut.gr (HB.o.trans gV)) xa xi 2 (by decide) HX.o.fl);have HFIN:Hid (∀w5,XF4 (λk=>S k/\k<w.heap.size) wb.drew w5->Xli w5 (λk=>S k/\k<w.heap.size) m C (g.wrG xa xi 2 xf)->JR3 w S m C (g.wrG xa xi 2 xf) (.int .i64 (g.fdE xa xi 2)) (.returned (.int .i64 (g.fdE xa xi 2))) w5):=⟨λw5 ht hm=>⟨rfl,(HB.o.drew.touch S).trans (ht.mono (λ_ _ h=>h.1)),hm.mono (λ_ h=>.inl h.1)⟩⟩;clear hre hgg hA;go_enter func16,ntmps16;go_upto_region 1 with(fail);rw[<-HWB.o];go_upto_region 11 with(fail);clear k0 k1 k2 k3 k4 k5 k6 k7 k8 kl;obtain⟨Sx,hSx⟩:∃Sx:World->Prop,Sx=λW'=>Rec W' w.heap.size 35 (opL ⟨7,xa,xb,xi,⟨hp,hf,hk⟩,xw,xf⟩):=⟨_,rfl⟩;have y1:∀p:ZJV Sx,p.w.cell? ⟨w.heap.size,1,none⟩=some (.int .i64 xa):=λp=>by have h:=ZJV.get hSx p;exact h.cell (j:=1) rfl
  have y3:∀p:ZJV Sx,p.w.cell? ⟨w.heap.size,3,none⟩=some (.int .i64 xi):=λp=>by have h:=ZJV.get hSx p;exact h.cell (j:=3) rfl
  have y8:∀p:ZJV Sx,p.w.cell? ⟨w.heap.size,8,none⟩=some (.float .f64 xf):=λp=>by have h:=ZJV.get hSx p;exact h.cell (j:=8) rfl
  have HS:Hid (∀W',Rec W' w.heap.size 35 (opL ⟨7,xa,xb,xi,⟨hp,hf,hk⟩,xw,xf⟩)->Sx W'):=⟨λW' h=>by rw[hSx];exact h⟩;have hS0:=HS.o _ (HRX.o.gr (Gr.refl wb).drew);have inst:Inhabited (ZJV Sx):=⟨⟨_,hS0⟩⟩;clear hSx;refine Vv2 Sx 10 [([0,1,2,3,4,5,6],7),([],8)] [9] (by kernel_rfl) (by kernel_rfl) hS0 ?_;refine XGW ?_
  try simp only[XZy,ξ,ζ]
  repeat(go_big_quiet_step (fail))
  refine φ ?_;go_wp2_with((go_at_call 9;refine(ZYt _ _).mono ?_;rintro e w4 ⟨rfl,rfl⟩));refine⟨.inr (ZJV.of (HS.o _ (HRX.o.gr (Gr.refl wb).drew))),?_⟩;refine XGW ?_
  try simp only[XZy,ξ,ζ]
  repeat(go_big_quiet_step (fail))
  refine φ ?_;go_wp2_with((go_at_call 41;refine(HC.o _ (Gr.refl wb).drew).mono ?_;rintro e w5 ⟨rfl,ht,hm⟩;have HT5:=hid ht;have HM5:=hid hm;clear ht hm));refine⟨.inr (ZJV.of (HS.o _ ((HRX.o.gr (Gr.refl wb).drew).touch HT5.o (λh=>ξh _ h.2)))),?_⟩;refine Z9U ?_
  try simp only[XZy,ξ,ζ]
  repeat(go_big_quiet_step (fail))
  refine φ ?_;refine δ ?_;clear y1 y3 y8 hS0 inst;clear HS Sx;go_wp2;go_ret;exact HFIN.o _ HT5.o HM5.o
 ·have hre:GOp.doR C ⟨8,xa,xb,xi,⟨hp,hf,hk⟩,xw,xf⟩ g=.no (g.two xa xb 0):=rfl;have hgg:GOp.doG C ⟨8,xa,xb,xi,⟨hp,hf,hk⟩,xw,xf⟩ g=g.cpG xa xb:=rfl;rw[hre,hgg];have HC:=hid (XXu (hA.gr HB.o) ⟨8,xa,xb,xi,⟨hp,hf,hk⟩,xw,xf⟩ (.inr (.inr rfl)));rw[show mvE ⟨8,xa,xb,xi,⟨hp,hf,hk⟩,xw,xf⟩ g=g.two xa xb 0 from rfl,show mvG ⟨8,xa,xb,xi,⟨hp,hf,hk⟩,xw,xf⟩ g=g.cpG xa xb from rfl]at HC;unfold Qol at HC;dsimp only at HC;clear hre hgg hA;go_enter func16,ntmps16;go_upto_region 1 with(fail);rw[<-HWB.o];go_wp2_with(go_at_call 40;refine HC.o.mono ?_;rintro e w5 hE;have HE:=hid (HDO.o _ _ _ _ hE.do);clear hE;obtain⟨rfl,-⟩:=HE.o);go_ret;exact HE.o
 ·have hre:GOp.doR C ⟨9,xa,xb,xi,⟨hp,hf,hk⟩,xw,xf⟩ g=.no (g.slE xa):=rfl;have hgg:GOp.doG C ⟨9,xa,xb,xi,⟨hp,hf,hk⟩,xw,xf⟩ g=g.clG xa:=rfl;rw[hre,hgg];have HC:=hid (Vz2 (hA.gr HB.o) xa);clear hre hgg hA;go_enter func16,ntmps16;go_upto_region 1 with(fail);rw[<-HWB.o];go_wp2_with(go_at_call 42;refine HC.o.mono ?_;rintro e w5 hE;have HE:=hid (HDO.o _ _ _ _ hE.do);clear hE;obtain⟨rfl,-⟩:=HE.o);go_ret;exact HE.o
 ·have hre:GOp.doR C ⟨15,xa,xb,xi,⟨hp,hf,hk⟩,xw,xf⟩ g=.no 0:=rfl;have hgg:GOp.doG C ⟨15,xa,xb,xi,⟨hp,hf,hk⟩,xw,xf⟩ g=g:=rfl;rw[hre,hgg];clear hre hgg hA;go_enter func16,ntmps16;go_upto_region 1 with(fail);rw[<-HWB.o];go_wp2;go_ret;exact⟨rfl,HNO.o _ HB.o⟩
 ·have hre:GOp.doR C ⟨16,xa,xb,xi,⟨hp,hf,hk⟩,xw,xf⟩ g=.no 0:=rfl;have hgg:GOp.doG C ⟨16,xa,xb,xi,⟨hp,hf,hk⟩,xw,xf⟩ g=g:=rfl;rw[hre,hgg];clear hre hgg hA;go_enter func16,ntmps16;go_upto_region 1 with(fail);rw[<-HWB.o];go_wp2;go_ret;exact⟨rfl,HNO.o _ HB.o⟩
 ·have hre:GOp.doR C ⟨17,xa,xb,xi,⟨hp,hf,hk⟩,xw,xf⟩ g=.no 0:=rfl;have hgg:GOp.doG C ⟨17,xa,xb,xi,⟨hp,hf,hk⟩,xw,xf⟩ g=g:=rfl;rw[hre,hgg];clear hre hgg hA;go_enter func16,ntmps16;go_upto_region 1 with(fail);rw[<-HWB.o];go_wp2;go_ret;exact⟨rfl,HNO.o _ HB.o⟩
 ·have hre:GOp.doR C ⟨kd,xa,xb,xi,⟨hp,hf,hk⟩,xw,xf⟩ g=.no 24:=by unfold GOp.doR;dsimp only;rw[ν Ω];rw[ν Ω];rw[ν Ω];rw[ν Ω];rw[ν Ω];rw[ν Ω];rw[ν Ω];rw[ν Ω];rw[ν Ω];rw[ν Ω];rw[ν Ω];rw[ν Ω];rw[ν Ω];rw[ν Ω];rw[ν Ω]
  have hgg:GOp.doG C ⟨kd,xa,xb,xi,⟨hp,hf,hk⟩,xw,xf⟩ g=g:=by unfold GOp.doG;dsimp only;rw[ν Ω];rw[ν Ω];rw[ν Ω];rw[ν Ω];rw[ν Ω];rw[ν Ω];rw[ν Ω]
  rw[hre,hgg];have d1:(kd==1)=false:=by rw[σ];omega
  have d2:(kd==2)=false:=by rw[σ];omega
  have d3:(kd==3)=false:=by rw[σ];omega
  have d5:(kd==5)=false:=by rw[σ];omega
  have d7:(kd==7)=false:=by rw[σ];omega
  have d8:(kd==8)=false:=by rw[σ];omega
  have d9:(kd==9)=false:=by rw[σ];omega
  have d15:(kd==15)=false:=by rw[σ];omega
  have d16:(kd==16)=false:=by rw[σ];omega
  have d17:(kd==17)=false:=by rw[σ];omega
  clear hre hgg hA hno hkk;go_enter func16,ntmps16;go_upto_region 1 with(fail);rw[<-HWB.o];go_wp2;go_ret;exact⟨rfl,HNO.o _ HB.o⟩
end
end
end
section
section
open Go.RowKit Word
theorem ZP0{w w1:World}{b j:Nat}{v:Value}(g:Gr w w1)(hb:w.heap.size<=b):Gr w (w1.setCell ⟨b,j,none⟩ v):=
 (((g.touch (λk=>k=b)).setCell (a:=⟨b,j,none⟩) (λ_=>rfl) v).mono (λk hk h=>by have h:k=b:=h;omega)).gr
structure X9s(w:World)(re:GRe)(wx:World):Prop where
 q:Rec wx (w.heap.size+1) 37 (JAk re)
 g:Gr w wx
theorem X9s.sset{w wx:World}{re re':GRe}(h:X9s w re wx)(j:Nat)(v:Value)(hv:(JAk re).set j v=JAk re'):X9s w re' (wx.setCell ⟨w.heap.size+1,j,none⟩ v):=by
 refine⟨?_,ZP0 h.g Ω⟩;have:=h.q.set j v;rw[hv]at this;exact this
theorem X9s.gr{w wx wy:World}{re:GRe}(h:X9s w re wx)(g:Gr wx wy):X9s w re wy:=⟨h.q.gr g,h.g.trans g⟩
theorem VQT(w:World)(x:GOp):∃w2,w2=(w.alloc (.cells (Qol x) 35)).alloc (.cells #[.int .i64 0,.bool false,.int .i64 0,.int .u64 0,.int .i64 0,.int .i64 0,.int .i64 0] 37)/\Rec w2 w.heap.size 35 (opL x)/\X9s w (.no 0) w2:=by
 refine⟨_,rfl,(Rec.new w 35 (opL x)).gr ((Gr.refl _).alloc _),?_,((Gr.refl w).alloc _).alloc _⟩;have:=Rec.new (w.alloc (.cells (Qol x) 35)) 37 VcR;rw[τ]at this;exact this
theorem X9s.same{w wx:World}{re:GRe}(h:X9s w re wx):X9s w re (((((((wx.setCell ⟨w.heap.size+1,0,none⟩ (.int .i64 re.code)).setCell ⟨w.heap.size+1,1,none⟩ (.bool re.is)).setCell ⟨w.heap.size+1,2,none⟩ (.int .i64 re.n)).setCell ⟨w.heap.size+1,3,none⟩ (.int .u64 (re.wd:Nat))).setCell ⟨w.heap.size+1,4,none⟩ (.int .i64 re.h.p)).setCell ⟨w.heap.size+1,5,none⟩ (.int .i64 re.h.f)).setCell ⟨w.heap.size+1,6,none⟩ (.int .i64 re.h.k)):=
 ((((((h.sset (re':=re) 0 _ rfl).sset (re':=re) 1 _ rfl).sset (re':=re) 2 _ rfl).sset (re':=re) 3 _ rfl).sset (re':=re) 4 _ rfl).sset (re':=re) 5 _ rfl).sset (re':=re) 6 _ rfl
def Z47(w:World)(re:GRe)(b:Bool)(e:Ending)(w':World):Prop:=e=.returned (.tuple #[Xf9 re,.bool b])/\Gr w w'
section
variable {w w':World} {m C:Nat} {g:Gph} {sb:Nat} {F T W:Nat->Nat} {S:Nat->Prop}
theorem ZM4(x:GOp)(hkk:¬(x.kd=4\/x.kd=6\/(10<=x.kd/\x.kd<=14))):Calls prog 15 #[.pointer (some ⟨m,0,none⟩),.agg (Qol x)] w (Z47 w (.no 0) false):=by
 obtain⟨kd,xa,xb,xi,⟨hp,hf,hk⟩,xw,xf⟩:=x;obtain⟨w2,hw2,ho,hq⟩:=VQT w ⟨kd,xa,xb,xi,⟨hp,hf,hk⟩,xw,xf⟩;have HW:=hid hw2;have HM:=hid hq;have k0:=ho.cell (j:=0) rfl;have kl:=ho.lt;have j0:=hq.q.cell (j:=0) rfl;have j1:=hq.q.cell (j:=1) rfl;have j2:=hq.q.cell (j:=2) rfl;have j3:=hq.q.cell (j:=3) rfl;have j4:=hq.q.cell (j:=4) rfl;have j5:=hq.q.cell (j:=5) rfl;have j6:=hq.q.cell (j:=6) rfl;have jf:=hq.q.free;have jl:=hq.q.lt;unfold Qol at HW⊢;dsimp only at HW k0 hkk⊢;have d4:(kd==4)=false:=by rw[σ];omega
 have d6:(kd==6)=false:=by rw[σ];omega
 have d10:(kd==10)=false:=by rw[σ];omega
 have d11:(kd==11)=false:=by rw[σ];omega
 have d12:(kd==12)=false:=by rw[σ];omega
 have d13:(kd==13)=false:=by rw[σ];omega
 have d14:(kd==14)=false:=by rw[σ];omega
 clear ho hq hw2 hkk;go_enter func15,ntmps15;go_upto_region 1 with(fail);rw[<-HW.o];clear HW;go_wp2;have hl:=JUU HM.o.same.q;refine ζt (v:=.tuple #[Xf9 (.no 0),.bool false]) ?_ rfl ⟨rfl,HM.o.same.g⟩;simp[results,results15,asAddr,hl,Result.andThen]
end
end
end
section
section
open Go.RowKit Word
theorem Vwm{w:World}{F:Nat->Nat}{N x y:Nat}(hT:YJ4 w F N)(hx:x<=N)(hy:y<=N):(binOp .eql 79 (XaF F x) (XaF F y)).run prog w=.ok (.bool (decide (x=y))) w:=by
 have h:(Op.equal 79 (XaF F x) (XaF F y)).run prog w=.ok (decide (x=y)) w:=by
  unfold XaF;by_cases h1:x=0 <;> by_cases h2:y=0
  ·rw[χ h1,χ h2,υ Ω]
   have h:∀d:Nat,(Op.equalIn (d+1) 79 (.pointer none) (.pointer none)).run prog w=.ok true w:=λd=>by
    simp[Op.equalIn,run_underlying JYk]
   exact h 9999
  ·rw[χ h1,ν h2,π Ω];exact VHw _
  ·rw[ν h1,χ h2,π Ω]
   have h:∀d:Nat,(Op.equalIn (d+1) 79 (.pointer (some ⟨F x,0,none⟩)) (.pointer none)).run prog w=.ok false w:=λd=>by
    simp[Op.equalIn,run_underlying JYk]
   exact h 9999
  ·rw[ν h1,ν h2];exact YLv hT ⟨by omega,hy⟩ ⟨by omega,hx⟩
 obtain⟨p1,hp1⟩:=Vli F x;obtain⟨p2,hp2⟩:=Vli F y;rw[hp1,hp2]at h⊢;simp only[binOp];simp[h]
section
variable {w w':World} {m C:Nat} {g:Gph} {sb:Nat} {F T W:Nat->Nat} {S:Nat->Prop}
theorem VmY(h:J8T w m C g sb F T W)(x:GOp)(hkk:x.kd=4\/x.kd=6\/x.kd=10\/x.kd=11\/x.kd=12\/x.kd=13\/x.kd=14):Calls prog 15 #[.pointer (some ⟨m,0,none⟩),.agg (Qol x)] w (Z47 w (x.doR C g) true):=by
 obtain⟨kd,xa,xb,xi,⟨hp,hf,hk⟩,xw,xf⟩:=x;obtain⟨w2,hw2,ho,hq⟩:=VQT w ⟨kd,xa,xb,xi,⟨hp,hf,hk⟩,xw,xf⟩;have HW:=hid hw2;have HM:=hid hq;have HO:=hid ho;have H2:=hid (h.gr hq.g);have k0:=ho.cell (j:=0) rfl;have kl:=ho.lt;obtain⟨re,hre⟩:∃re,re=GOp.doR C ⟨kd,xa,xb,xi,⟨hp,hf,hk⟩,xw,xf⟩ g:=⟨_,rfl⟩;have HRE:=hid hre;rw[<-hre];unfold Qol at HW⊢;dsimp only at HW k0 hkk⊢;clear ho hq hw2 h hre;go_enter func15,ntmps15;go_upto_region 1 with(fail);rw[<-HW.o];clear HW
 go_upto_block 0 with(fail)
 go_cut [] (λwx=>Hid (X9s w re wx))
 case first=>
  have k1:=HO.o.cell (j:=1) rfl;have k2:=HO.o.cell (j:=2) rfl;have k3:=HO.o.cell (j:=3) rfl;have k4:=HO.o.cell (j:=4) rfl;have k5:=HO.o.cell (j:=5) rfl;have k6:=HO.o.cell (j:=6) rfl;have k7:=HO.o.cell (j:=7) rfl;have k8:=HO.o.cell (j:=8) rfl;rcases hkk with rfl|rfl|rfl|rfl|rfl|rfl|rfl
  ·have hre:re=⟨g.fdE xa xi 3,false,0,g.fdV xa xi 3,⟨0,0,0⟩⟩:=HRE.o.trans rfl;have HC:=hid (QH1 H2.o xa xi 3 (by decide));have HRR:=hid hre;clear hre HRE;go_wp2_with(go_at_call 34;refine HC.o.mono ?_;rintro e w5 ⟨rfl,hg⟩;have HM5:=hid (HM.o.gr hg);have zc:=HM5.o.q.cell (j:=3) rfl;have z0:=HM5.o.q.cell (j:=0) rfl;have zf:=HM5.o.q.free;have zl:=HM5.o.q.lt;clear hg)
   go_meet
   case rel=>
    rw[HRR.o];exact⟨(HM5.o.sset (re':=⟨0,false,0,g.fdV xa xi 3,⟨0,0,0⟩⟩) 3 (.int .u64 (g.fdV xa xi 3:Nat)) rfl).sset (re':=⟨g.fdE xa xi 3,false,0,g.fdV xa xi 3,⟨0,0,0⟩⟩) 0 _ rfl⟩
  ·have hre:re=⟨g.fdE xa xi 2,false,0,g.fdV xa xi 2,⟨0,0,0⟩⟩:=HRE.o.trans rfl;have HC:=hid (QH1 H2.o xa xi 2 (by decide));have HRR:=hid hre;clear hre HRE;go_wp2_with(go_at_call 34;refine HC.o.mono ?_;rintro e w5 ⟨rfl,hg⟩;have HM5:=hid (HM.o.gr hg);have zc:=HM5.o.q.cell (j:=3) rfl;have z0:=HM5.o.q.cell (j:=0) rfl;have zf:=HM5.o.q.free;have zl:=HM5.o.q.lt;clear hg)
   go_meet
   case rel=>
    rw[HRR.o];exact⟨(HM5.o.sset (re':=⟨0,false,0,g.fdV xa xi 2,⟨0,0,0⟩⟩) 3 (.int .u64 (g.fdV xa xi 2:Nat)) rfl).sset (re':=⟨g.fdE xa xi 2,false,0,g.fdV xa xi 2,⟨0,0,0⟩⟩) 0 _ rfl⟩
  ·have hre:re=⟨g.two xa xb 0,g.sl xa&&g.sl xb&&(g.at xa==g.at xb),0,0,⟨0,0,0⟩⟩:=HRE.o.trans rfl;have HI:=hid (VTZ H2.o xa xb);have HA:=hid ((Gr.refl w2).alloc (.cells #[.int .i64 xa,.int .i64 xb] 3));by_cases hab:(g.sl xa&&g.sl xb)=true
   ·rw[hab]at HI;have hab2:=hab;rw[ζd]at hab;obtain⟨ha,hb⟩:=hab;obtain⟨k,hxa,hk1⟩:=J9p ha;obtain⟨n,hxb,hn1⟩:=J9p hb;have hsn:=H2.o.sn;have hkI:(k:Int)<(g.S.length:Int):=Ω
    have hnI:(n:Int)<(g.S.length:Int):=Ω
    have HRR:Hid (re=⟨0,decide (g.S.getD k 0=g.S.getD n 0),0,0,⟨0,0,0⟩⟩):=⟨by
     rw[hre];have e1:g.two xa xb 0=0:=by unfold Gph.two;rw[hab2];rfl
     have e2:(g.at xa==g.at xb)=decide (g.S.getD k 0=g.S.getD n 0):=by rw[hxa,hxb];rfl
     rw[e1,hab2,e2]
     rfl⟩
    have HEQ:=hid (λ(V:World) (gV:Gr w2 V)=>Vwm (H2.o.gr gV).things (H2.o.sto hk1) (H2.o.sto hn1))
    have HCC:Hid (∀V,Gr w2 V->V.cell? ⟨m,1,none⟩=some (.slice (some ⟨sb,0,none⟩) g.S.length g.S.length)/\V.cell? ⟨sb,k,none⟩=some (XaF F (g.S.getD k 0))/\V.cell? ⟨sb,n,none⟩=some (XaF F (g.S.getD n 0))/\m<V.heap.size/\sb<V.heap.size):=⟨λV gV=>by
     have h2:=H2.o.gr gV
     exact⟨h2.row.cell (j:=1) rfl,h2.slot hk1,h2.slot hn1,h2.row.lt,h2.sl.lt⟩⟩
    generalize decide (g.S.getD k 0=g.S.getD n 0)=z at HRR HEQ;obtain⟨p1,hp1⟩:=Vli F (g.S.getD k 0);obtain⟨p2,hp2⟩:=Vli F (g.S.getD n 0);rw[hp1,hp2]at HEQ
    have HCC:Hid (∀V,Gr w2 V->V.cell? ⟨m,1,none⟩=some (.slice (some ⟨sb,0,none⟩) g.S.length g.S.length)/\V.cell? ⟨sb,k,none⟩=some (.pointer p1)/\V.cell? ⟨sb,n,none⟩=some (.pointer p2)/\m<V.heap.size/\sb<V.heap.size):=⟨λV gV=>by
     have:=HCC.o V gV;rw[hp1,hp2]at this
     exact this⟩
    clear hp1 hp2;generalize g.S.length=ns at HCC hkI hnI hsn;subst hxa;subst hxb;clear hre HRE hab2 ha hb hk1 hn1;go_upto_region 10 with(go_at_call 35;refine(HI.o).mono ?_;rintro e w1 ⟨rfl,hw1⟩;have HA1:Hid (Gr w2 w1):=⟨hw1▸HA.o⟩;clear hw1);have HM1:=hid (HM.o.gr HA1.o.drew);have z1:=HM1.o.q.cell (j:=1) rfl;have zf:=HM1.o.q.free;have zl:=HM1.o.q.lt;obtain⟨v1,v2,v3,v4,v5⟩:=HCC.o _ HA1.o;clear k0 k1 k2 k3 k4 k5 k6 k7 k8 kl;have kl:=(HO.o.gr HA1.o).lt;obtain⟨Sx,hSx⟩:∃Sx:World->Prop,Sx=λW'=>Gr w2 W':=⟨_,rfl⟩;have y1:∀p:ZJV Sx,p.w.cell? ⟨m,1,none⟩=some (.slice (some ⟨sb,0,none⟩) ns ns):=λp=>by have h:=ZJV.get hSx p;exact(HCC.o _ h).1
    have y2:∀p:ZJV Sx,p.w.cell? ⟨w.heap.size,1,none⟩=some (.int .i64 k):=λp=>by have h:=ZJV.get hSx p;exact(HO.o.gr h).cell (j:=1) rfl
    have y3:∀p:ZJV Sx,p.w.cell? ⟨w.heap.size,2,none⟩=some (.int .i64 n):=λp=>by have h:=ZJV.get hSx p;exact(HO.o.gr h).cell (j:=2) rfl
    have y4:∀p:ZJV Sx,p.w.cell? ⟨sb,k,none⟩=some (.pointer p1):=λp=>by have h:=ZJV.get hSx p;exact(HCC.o _ h).2.1
    have y5:∀p:ZJV Sx,p.w.cell? ⟨sb,n,none⟩=some (.pointer p2):=λp=>by have h:=ZJV.get hSx p;exact(HCC.o _ h).2.2.1
    have y6:∀p:ZJV Sx,(binOp .eql 79 (.pointer p1) (.pointer p2)).run prog p.w=.ok (.bool z) p.w:=λp=>by have h:=ZJV.get hSx p;exact HEQ.o _ h
    have HS:Hid (∀W',Gr w2 W'->Sx W'):=⟨λW' h=>by rw[hSx];exact h⟩;have hS0:=HS.o _ (HA1.o.drew);have inst:Inhabited (ZJV Sx):=⟨⟨_,hS0⟩⟩;clear hSx;refine Vv2 Sx 18 [([0,1,2,3,4,5,6,7,8,9,10,11,12,13,14,15,16,17],18)] [] (by kernel_rfl) (by kernel_rfl) hS0 ?_;refine XGW ?_
    try simp only[XZy,ξ,ζ]
    repeat(go_big_quiet_step (fail))
    refine φ ?_;go_wp2;refine⟨.inl trivial,?_⟩;refine Z9U ?_;refine φ ?_;refine δ ?_;clear y1 y2 y3 y4 y5 y6 hS0 inst;clear HS Sx;go_wp2
    go_meet
    case rel=>
     rw[HRR.o];exact⟨HM1.o.sset (re':=⟨0,z,0,0,⟨0,0,0⟩⟩) 1 (.bool z) rfl⟩
   ·rw[ζD]at hab;rw[hab]at HI
    have HRR:Hid (re=.no 17):=⟨by
     rw[hre];have e1:g.two xa xb 0=17:=by unfold Gph.two;rw[hab];rfl
     rw[e1,hab]
     rfl⟩
    clear hre HRE hab;go_wp2_with(go_at_call 35;refine(HI.o).mono ?_;rintro e w1 ⟨rfl,hw1⟩;have HA1:Hid (Gr w2 w1):=⟨hw1▸HA.o⟩;have HM1:=hid (HM.o.gr HA1.o);have z0:=HM1.o.q.cell (j:=0) rfl;have z1:=HM1.o.q.cell (j:=1) rfl;have z2:=HM1.o.q.cell (j:=2) rfl;have z3:=HM1.o.q.cell (j:=3) rfl;have z4:=HM1.o.q.cell (j:=4) rfl;have z5:=HM1.o.q.cell (j:=5) rfl;have z6:=HM1.o.q.cell (j:=6) rfl;have zf:=HM1.o.q.free;have zl:=HM1.o.q.lt;clear hw1)
    have HS:X9s w (.no 17) (((((((w1.setCell ⟨w.heap.size+1,0,none⟩ (.int .i64 17)).setCell ⟨w.heap.size+1,1,none⟩ (.bool false)).setCell ⟨w.heap.size+1,2,none⟩ (.int .i64 0)).setCell ⟨w.heap.size+1,3,none⟩ (.int .u64 0)).setCell ⟨w.heap.size+1,4,none⟩ (.int .i64 0)).setCell ⟨w.heap.size+1,5,none⟩ (.int .i64 0)).setCell ⟨w.heap.size+1,6,none⟩ (.int .i64 0)):=
     ((((((HM1.o.sset (re':=.no 17) 0 _ rfl).sset (re':=.no 17) 1 _ rfl).sset (re':=.no 17) 2 _ rfl).sset (re':=.no 17) 3 _ rfl).sset (re':=.no 17) 4 _ rfl).sset (re':=.no 17) 5 _ rfl).sset (re':=.no 17) 6 _ rfl
    have hl:=JUU HS.q;refine ζt (v:=.tuple #[Xf9 (.no 17),.bool true]) ?_ rfl ⟨by rw[HRR.o],HS.g⟩;simp[results,results15,asAddr,hl,Result.andThen]
  ·have hre:re=⟨g.shE xa,false,0,0,g.shH xa⟩:=HRE.o.trans rfl;have HC:=hid (ZGQ H2.o xa);by_cases he:g.shE xa=0
   ·obtain⟨k,x,-,-,-,h1x,h2x,hH,-,hP⟩:=Zkv H2.o he;rw[hP,he]at HC;have HRR:Hid (re=⟨0,false,0,0,(g.ob x).hdr⟩):=⟨by rw[hre,he,hH]⟩;have HTH:=hid (λ(V:World) (gV:Gr w2 V)=>(H2.o.gr gV).th x h1x h2x);unfold thL at HTH;unfold GOb.hdr at HRR;generalize (g.ob x).p=pp at HTH HRR;generalize (g.ob x).f=ff at HTH HRR;generalize (g.ob x).k=kk at HTH HRR;generalize F x=fx at HTH HC;clear hre HRE he h1x h2x hH hP;go_wp2_with(go_at_call 36;refine HC.o.mono ?_;rintro e w5 ⟨rfl,hg⟩;have HM5:=hid (HM.o.gr hg);have z4:=HM5.o.q.cell (j:=4) rfl;have z5:=HM5.o.q.cell (j:=5) rfl;have z6:=HM5.o.q.cell (j:=6) rfl;have z0:=HM5.o.q.cell (j:=0) rfl;have zf:=HM5.o.q.free;have zl:=HM5.o.q.lt;have HT5:=hid (HTH.o _ hg);have t0:=HT5.o.cell (j:=0) rfl;have t1:=HT5.o.cell (j:=1) rfl;have t2:=HT5.o.cell (j:=2) rfl;have tl:=HT5.o.lt;have NE:Hid (fx≠w.heap.size+1):=⟨YnK HT5.o HM5.o.q (by decide) rfl rfl⟩;have ne:=NE.o;have ne2:¬w.heap.size+1=fx:=λh=>NE.o h.symm;clear hg)
    go_meet
    case rel=>
     rw[HRR.o];exact⟨(((HM5.o.sset (re':=⟨0,false,0,0,⟨0,0,0⟩⟩) 0 _ rfl).sset (re':=⟨0,false,0,0,⟨pp,0,0⟩⟩) 4 _ rfl).sset (re':=⟨0,false,0,0,⟨pp,ff,0⟩⟩) 5 _ rfl).sset (re':=⟨0,false,0,0,⟨pp,ff,kk⟩⟩) 6 _ rfl⟩
   ·have hP:Qn8 g F xa=.pointer none:=by unfold Qn8;rw[ν he]
    have hH:g.shH xa=⟨0,0,0⟩:=by unfold Gph.shH;rw[ν he]
    rw[hP]at HC;have HRR:Hid (re=⟨g.shE xa,false,0,0,⟨0,0,0⟩⟩):=⟨by rw[hre,hH]⟩;generalize g.shE xa=E at HC HRR he;have d1:(E==0)=false:=by rw[σ];exact he
    clear hre HRE he hP hH;go_wp2_with(go_at_call 36;refine HC.o.mono ?_;rintro e w5 ⟨rfl,hg⟩;have HM5:=hid (HM.o.gr hg);have z0:=HM5.o.q.cell (j:=0) rfl;have zf:=HM5.o.q.free;have zl:=HM5.o.q.lt;clear hg)
    go_meet
    case rel=>
     rw[HRR.o];exact⟨HM5.o.sset (re':=⟨E,false,0,0,⟨0,0,0⟩⟩) 0 _ rfl⟩
  ·have hre:re=⟨g.shE xa,false,0,g.smV xa,⟨0,0,0⟩⟩:=HRE.o.trans rfl;have HC:=hid (JLO H2.o xa);have HRR:=hid hre;clear hre HRE;go_wp2_with(go_at_call 37;refine HC.o.mono ?_;rintro e w5 ⟨rfl,hg⟩;have HM5:=hid (HM.o.gr hg);have zc:=HM5.o.q.cell (j:=3) rfl;have z0:=HM5.o.q.cell (j:=0) rfl;have zf:=HM5.o.q.free;have zl:=HM5.o.q.lt;clear hg)
   go_meet
   case rel=>
    rw[HRR.o];exact⟨(HM5.o.sset (re':=⟨0,false,0,g.smV xa,⟨0,0,0⟩⟩) 3 (.int .u64 (g.smV xa:Nat)) rfl).sset (re':=⟨g.shE xa,false,0,g.smV xa,⟨0,0,0⟩⟩) 0 _ rfl⟩
  ·have hre:re=⟨g.orE xa xi xb (VjJ xw),false,g.orV xa xi xb (VjJ xw),0,⟨0,0,0⟩⟩:=HRE.o.trans rfl;have HC:=hid (Qed H2.o ⟨13,xa,xb,xi,⟨hp,hf,hk⟩,xw,xf⟩);unfold Qol at HC;dsimp only at HC;unfold VNF at HC;have HRR:=hid hre;clear hre HRE;go_wp2_with(go_at_call 38;refine HC.o.mono ?_;rintro e w5 ⟨rfl,hg⟩;have HM5:=hid (HM.o.gr hg);have zc:=HM5.o.q.cell (j:=2) rfl;have z0:=HM5.o.q.cell (j:=0) rfl;have zf:=HM5.o.q.free;have zl:=HM5.o.q.lt;clear hg)
   go_meet
   case rel=>
    rw[HRR.o];exact⟨(HM5.o.sset (re':=⟨0,false,g.orV xa xi xb (VjJ xw),0,⟨0,0,0⟩⟩) 2 (.int .i64 (g.orV xa xi xb (VjJ xw))) rfl).sset (re':=⟨g.orE xa xi xb (VjJ xw),false,g.orV xa xi xb (VjJ xw),0,⟨0,0,0⟩⟩) 0 _ rfl⟩
  ·have hre:re=⟨0,false,(g.all.length:Nat),g.words,⟨0,0,0⟩⟩:=HRE.o.trans rfl;have HC:=hid (Zqc H2.o);have hwd:=V0z H2.o;have HRR:=hid hre;clear hre HRE;generalize g.words=wd' at HC hwd HRR;generalize g.all.length=al at HC HRR;go_wp2_with(go_at_call 11;refine HC.o.mono ?_;rintro e w5 ⟨rfl,hg⟩;have HM5:=hid (HM.o.gr hg);have z2:=HM5.o.q.cell (j:=2) rfl;have z3:=HM5.o.q.cell (j:=3) rfl;have zf:=HM5.o.q.free;have zl:=HM5.o.q.lt;clear hg)
   go_meet
   case rel=>
    rw[HRR.o];exact⟨(HM5.o.sset (re':=⟨0,false,(al:Nat),0,⟨0,0,0⟩⟩) 2 (.int .i64 (al:Nat)) rfl).sset (re':=⟨0,false,(al:Nat),wd',⟨0,0,0⟩⟩) 3 (.int .u64 (wd':Nat)) rfl⟩
 case rest=>
  have HD:=hcut;have j0:=HD.o.q.cell (j:=0) rfl;have j1:=HD.o.q.cell (j:=1) rfl;have j2:=HD.o.q.cell (j:=2) rfl;have j3:=HD.o.q.cell (j:=3) rfl;have j4:=HD.o.q.cell (j:=4) rfl;have j5:=HD.o.q.cell (j:=5) rfl;have j6:=HD.o.q.cell (j:=6) rfl;have jf:=HD.o.q.free;have jl:=HD.o.q.lt;clear k0 kl HM;go_wp2;have hl:=JUU HD.o.same.q;refine ζt (v:=.tuple #[Xf9 re,.bool true]) ?_ rfl ⟨rfl,HD.o.same.g⟩;simp[results,results15,asAddr,hl,Result.andThen]
end
end
end
section
section
open Go.RowKit Word
theorem X9s.put{w wx:World}{e:GRe}(h:X9s w e wx)(re:GRe):X9s w re (((((((wx.setCell ⟨w.heap.size+1,0,none⟩ (.int .i64 re.code)).setCell ⟨w.heap.size+1,1,none⟩ (.bool re.is)).setCell ⟨w.heap.size+1,2,none⟩ (.int .i64 re.n)).setCell ⟨w.heap.size+1,3,none⟩ (.int .u64 (re.wd:Nat))).setCell ⟨w.heap.size+1,4,none⟩ (.int .i64 re.h.p)).setCell ⟨w.heap.size+1,5,none⟩ (.int .i64 re.h.f)).setCell ⟨w.heap.size+1,6,none⟩ (.int .i64 re.h.k)):=
 ((((((h.sset (re':=⟨re.code,e.is,e.n,e.wd,e.h⟩) 0 _ rfl).sset (re':=⟨re.code,re.is,e.n,e.wd,e.h⟩) 1 _ rfl).sset (re':=⟨re.code,re.is,re.n,e.wd,e.h⟩) 2 _ rfl).sset (re':=⟨re.code,re.is,re.n,re.wd,e.h⟩) 3 _ rfl).sset (re':=⟨re.code,re.is,re.n,re.wd,⟨re.h.p,e.h.f,e.h.k⟩⟩) 4 _ rfl).sset (re':=⟨re.code,re.is,re.n,re.wd,⟨re.h.p,re.h.f,e.h.k⟩⟩) 5 _ rfl).sset (re':=re) 6 _ rfl
section
variable {w w':World} {m C:Nat} {g:Gph} {sb:Nat} {F T W:Nat->Nat} {S:Nat->Prop}
theorem XbQ{x:GOp}(h:x.kd=4\/x.kd=6\/x.kd=10\/x.kd=11\/x.kd=12\/x.kd=13\/x.kd=14):x.doG C g=g:=by
 unfold GOp.doG;rw[ν Ω,ν Ω,ν Ω,ν Ω,ν Ω,ν Ω,ν Ω]
theorem Jf8{x:GOp}(hno:x.kd<1\/17<x.kd):x.doR C g=.no 24:=by
 unfold GOp.doR;rw[ν Ω,ν Ω,ν Ω,ν Ω,ν Ω,ν Ω,ν Ω,ν Ω,ν Ω,ν Ω,ν Ω,ν Ω,ν Ω,ν Ω,ν Ω]
theorem Y1L{x:GOp}(h:¬(x.kd=4\/x.kd=6\/(10<=x.kd/\x.kd<=14))):x.doR C g=.no (x.doR C g).code:=by
 obtain⟨kd,xa,xb,xi,xh,xw,xf⟩:=x;dsimp only at h;have hkd:kd=1\/kd=2\/kd=3\/kd=5\/kd=7\/kd=8\/kd=9\/kd=15\/kd=16\/kd=17\/(kd<1\/17<kd):=Ω
 rcases hkd with rfl|rfl|rfl|rfl|rfl|rfl|rfl|rfl|rfl|rfl|hno
 all_goals first
  | rfl
  | (rw[Jf8 (x:=⟨kd,xa,xb,xi,xh,xw,xf⟩) hno];rfl)
theorem Xli.away{b E:Nat}{xs:List Value}(h:Xli w S m C g)(hb:Rec w b E xs)(h1:54≠E)(h2:79≠E)(h3:81≠E)(h4:32≠E)(t:XF4 (λk=>k=b) w w'):Xli w' S m C g:=by
 obtain⟨sb,F,T,W,h,s1,s2,s3⟩:=h;exact⟨sb,F,T,W,h.touch t (YnK h.row hb h1 rfl rfl) (YnK h.sl hb h2 rfl rfl) (λx a b=>⟨YnK (h.th x a b) hb h3 rfl rfl,YnK (h.ps x a b) hb h2 rfl rfl,YnK (h.wo x a b) hb h4 rfl rfl⟩),s1,s2,s3⟩
theorem Xli.reply{b j:Nat}{xs:List Value}{v:Value}(h:Xli w S m C g)(hb:Rec w b 37 xs):Xli (w.setCell ⟨b,j,none⟩ v) S m C g:=h.away hb (by decide) (by decide) (by decide) (by decide) ((XF4.refl (λk=>k=b) w).setCell (a:=⟨b,j,none⟩) (λ_=>rfl) _)
theorem XBF(hA:Xli w S m C g)(x:GOp)(hkk:x.kd=4\/x.kd=6\/x.kd=10\/x.kd=11\/x.kd=12\/x.kd=13\/x.kd=14):Calls prog 7 #[.pointer (some ⟨m,0,none⟩),.agg (Qol x)] w (JR3 w S m C (x.doG C g) (Xf9 (x.doR C g))):=by
 rw[XbQ hkk];have HNO:=hid (λ(V:World) (gV:Gr w V)=>hA.no gV);obtain⟨sb,F,T,W,h,-⟩:=hA;obtain⟨w2,hw2,ho,hq⟩:=VQT w x;have HW:=hid hw2;have HM:=hid hq;have HC:=hid (VmY (h.gr hq.g) x hkk);have k0:=ho.cell (j:=0) rfl;have k1:=ho.cell (j:=1) rfl;have k2:=ho.cell (j:=2) rfl;have k3:=ho.cell (j:=3) rfl;have k4:=ho.cell (j:=4) rfl;have k5:=ho.cell (j:=5) rfl;have k6:=ho.cell (j:=6) rfl;have k7:=ho.cell (j:=7) rfl;have k8:=ho.cell (j:=8) rfl;have kl:=ho.lt;generalize x.doR C g=re at HC⊢;unfold Z47 at HC;obtain⟨kd,xa,xb,xi,⟨hp,hf,hk⟩,xw,xf⟩:=x;unfold Qol at HW HC⊢;dsimp only at HW HC k0 k1 k2 k3 k4 k5 k6 k7 k8⊢;unfold Xf9 JAk at HC;clear ho hq hw2 h hkk;go_enter func7,ntmps7;go_upto_region 1 with(fail);rw[<-HW.o];clear HW;go_wp2_with(go_at_call 15;refine HC.o.mono ?_;rintro e w3 ⟨rfl,hg⟩;have HM3:=hid (HM.o.gr hg);have j0:=HM3.o.q.cell (j:=0) rfl;have j1:=HM3.o.q.cell (j:=1) rfl;have j2:=HM3.o.q.cell (j:=2) rfl;have j3:=HM3.o.q.cell (j:=3) rfl;have j4:=HM3.o.q.cell (j:=4) rfl;have j5:=HM3.o.q.cell (j:=5) rfl;have j6:=HM3.o.q.cell (j:=6) rfl;have jf:=HM3.o.q.free;have jl:=HM3.o.q.lt;clear hg);have HS:=HM3.o.put re;have HS2:=HS.gr ((Gr.refl _).alloc (.cells #[.int .i64 re.code,.bool re.is,.int .i64 re.n,.int .u64 (re.wd:Nat),.int .i64 re.h.p,.int .i64 re.h.f,.int .i64 re.h.k] 37));have hl:=JUU HS2.q;refine ζt (v:=Xf9 re) ?_ rfl ⟨rfl,HNO.o _ HS2.g⟩;simp[results,results7,asAddr,hl]
end
end
end
section
section
open Go.RowKit Word
section
variable {w w':World} {m C:Nat} {g:Gph} {sb:Nat} {F T W:Nat->Nat} {S:Nat->Prop}
theorem ZQN(hA:Xli w S m C g)(hlen:g.L.length+1<=1000)(x:GOp)(hx:x.Bd)(hkk:¬(x.kd=4\/x.kd=6\/(10<=x.kd/\x.kd<=14))):Calls prog 7 #[.pointer (some ⟨m,0,none⟩),.agg (Qol x)] w (JR3 w S m C (x.doG C g) (Xf9 (x.doR C g))):=by
 rw[Y1L (C:=C) (g:=g) hkk];have hT:=λ(V:World) (gV:Gr w V)=>YT5 (hA.cut.gr gV) hlen x hx hkk;obtain⟨w2,hw2,ho,hq⟩:=VQT w x;have HW:=hid hw2;have HM:=hid hq;have HO:=hid ho;have hC:=ZM4 (m:=m) (w:=w2) x hkk;generalize (x.doR C g).code=c at hT⊢;generalize x.doG C g=g2 at hT⊢;unfold Z47 at hC;obtain⟨kd,xa,xb,xi,⟨hp,hf,hk⟩,xw,xf⟩:=x;have k0:=ho.cell (j:=0) rfl;have k1:=ho.cell (j:=1) rfl;have k2:=ho.cell (j:=2) rfl;have k3:=ho.cell (j:=3) rfl;have k4:=ho.cell (j:=4) rfl;have k5:=ho.cell (j:=5) rfl;have k6:=ho.cell (j:=6) rfl;have k7:=ho.cell (j:=7) rfl;have k8:=ho.cell (j:=8) rfl;have kl:=ho.lt;unfold Qol at HW hC hT⊢;unfold Xf9 JAk GRe.no at hC;dsimp only at HW hC hT k0 k1 k2 k3 k4 k5 k6 k7 k8⊢;have HC:=hid hC;have HT:=hid hT;clear ho hq hw2 hkk hC hT hA hx;go_enter func7,ntmps7;go_upto_region 1 with(fail);rw[<-HW.o];clear HW;go_upto_region 3 with(fail);go_upto_region 6 with(go_at_call 15;refine HC.o.mono ?_;rintro e w3 ⟨rfl,hg⟩;have HG3:=hid hg;clear hg);obtain⟨w4,hw4⟩:∃w4,w4=w3.alloc (.cells #[.int .i64 0,.bool false,.int .i64 0,.int .u64 0,.int .i64 0,.int .i64 0,.int .i64 0] 37):=⟨_,rfl⟩;have HG4:Hid (Gr w2 w4):=⟨by rw[hw4];exact HG3.o.alloc _⟩;rw[<-hw4];have ho4:=HO.o.gr HG4.o;have k0:=ho4.cell (j:=0) rfl;have k1:=ho4.cell (j:=1) rfl;have k2:=ho4.cell (j:=2) rfl;have k3:=ho4.cell (j:=3) rfl;have k4:=ho4.cell (j:=4) rfl;have k5:=ho4.cell (j:=5) rfl;have k6:=ho4.cell (j:=6) rfl;have k7:=ho4.cell (j:=7) rfl;have k8:=ho4.cell (j:=8) rfl;have kl:=ho4.lt;clear ho4 hw4;have HM4:=hid (HM.o.gr HG4.o);have HT4:=hid (HT.o w4 (HM.o.g.trans HG4.o));go_wp2_with(go_at_call 16;refine HT4.o.mono ?_;rintro e w5 ⟨rfl,ht,hm⟩;have HT5:=hid ht;have HM5:=hid hm;have HQ5:=hid (HM4.o.q.touch ht (λh=>by have:=h.2;omega));have j0:=HQ5.o.cell (j:=0) rfl;have j1:=HQ5.o.cell (j:=1) rfl;have j2:=HQ5.o.cell (j:=2) rfl;have j3:=HQ5.o.cell (j:=3) rfl;have j4:=HQ5.o.cell (j:=4) rfl;have j5:=HQ5.o.cell (j:=5) rfl;have j6:=HQ5.o.cell (j:=6) rfl;have jf:=HQ5.o.free;have jl:=HQ5.o.lt;clear ht hm);have rp:=HQ5.o;have RR:=((((((rp.set 0 (.int .i64 c)).set 1 (.bool false)).set 2 (.int .i64 0)).set 3 (.int .u64 0)).set 4 (.int .i64 0)).set 5 (.int .i64 0)).set 6 (.int .i64 0);have hl:=JUU (e:=.no c) RR;have rr:=HM5.o.mono (S':=VVO S w) (λk hk=>hk.elim (λh=>.inl h.1) (λh=>.inr (γ (HM.o.g.trans HG4.o).size h)));have QQ:=((((((rr.reply (j:=0) (v:=.int .i64 c) rp).reply (j:=1) (v:=.bool false) (rp.set 0 _)).reply (j:=2) (v:=.int .i64 0) ((rp.set 0 _).set 1 _)).reply (j:=3) (v:=.int .u64 0) (((rp.set 0 _).set 1 _).set 2 _)).reply (j:=4) (v:=.int .i64 0) ((((rp.set 0 _).set 1 _).set 2 _).set 3 _)).reply (j:=5) (v:=.int .i64 0) (((((rp.set 0 _).set 1 _).set 2 _).set 3 _).set 4 _)).reply (j:=6) (v:=.int .i64 0) ((((((rp.set 0 _).set 1 _).set 2 _).set 3 _).set 4 _).set 5 _);have t0:XF4 S w w5:=((HM.o.g.trans HG4.o).touch S).trans (HT5.o.mono (λ_ _ h=>h.1));have hlt:∀(b j:Nat),w.heap.size<=b->(⟨b,j,none⟩:Addr).block<w.heap.size->S (⟨b,j,none⟩:Addr).block:=λb j h1 h2=>absurd (show b<w.heap.size from h2) Ω;refine ζt (v:=Xf9 (.no c)) ?_ rfl ⟨rfl,(((((((t0.setCell (hlt (w.heap.size+1) 0 Ω) _).setCell (hlt (w.heap.size+1) 1 Ω) _).setCell (hlt (w.heap.size+1) 2 Ω) _).setCell (hlt (w.heap.size+1) 3 Ω) _).setCell (hlt (w.heap.size+1) 4 Ω) _).setCell (hlt (w.heap.size+1) 5 Ω) _).setCell (hlt (w.heap.size+1) 6 Ω) _),QQ⟩;simp[results,results7,asAddr,hl]
end
end
end
section
section
open Go.RowKit Word
def Gph.nul(n:Nat):Gph:=⟨[],List.replicate n 0⟩
theorem Y40{w:World}{C n:Nat}(hC:C<=1073741824)(hn:n<=64):Xli ((w.alloc (.cells (List.replicate n (.pointer none)).toArray 79)).alloc (.cells #[.int .i64 C,.slice (some ⟨w.heap.size,0,none⟩) n n] 54)) (λk=>w.heap.size<=k) (w.heap.size+1) C (Gph.nul n):=by
 have r1:=(Rec.new w 79 (List.replicate n (.pointer none))).gr ((Gr.refl _).alloc (.cells #[.int .i64 C,.slice (some ⟨w.heap.size,0,none⟩) n n] 54));have r2:=Rec.new (w.alloc (.cells (List.replicate n (.pointer none)).toArray 79)) 54 [.int .i64 C,.slice (some ⟨w.heap.size,0,none⟩) n n];rw[τ]at r2;have hsl:(Gph.nul n).S.length=n:=ζ1;have hno:∀{P:Nat->Prop},∀x,1<=x->x<=(Gph.nul n).L.length->P x:=λx a b=>absurd (show x<=0 from b) Ω;refine⟨w.heap.size,λ_=>0,λ_=>0,λ_=>0,⟨by rw[hsl];exact r2,?_,hno,hno,hno,λx y a b=>absurd (show x<=0 from b) Ω,λx y a b=>absurd (show x<=0 from b) Ω,λx y a b=>absurd (show x<=0 from b) Ω,hno,ζb _,by rw[hsl];exact hn,hC,⟨λo ho=>?_,λo ho=>?_,λy hy=>?_⟩,λo ho=>?_⟩,ζ6 _,ζe _,hno⟩
 ·have e:JYL (λ_=>0) (Gph.nul n).S=List.replicate n (.pointer none):=by
   show List.map _ (List.replicate n 0)=_
   rw[ξu];rfl
  rw[e];exact r1
 ·cases ho
 ·cases ho
 ·rw[(ζC.1 hy).2];exact ζb _
 ·cases ho
theorem Zm8(w:World){C n:Nat}(hC1:1<=C)(hC:C<=1073741824)(hn1:1<=n)(hn:n<=64):Calls prog 4 #[.int .i64 C,.int .i64 n] w λe w'=>e=.returned (.tuple #[.pointer (some ⟨w.heap.size+1,0,none⟩),.int .i64 0])/\Gr w w'/\Xli w' (λk=>w.heap.size<=k) (w.heap.size+1) C (Gph.nul n):=by
 have hmk:=JbJ n Ω;have HN:=hid (Y40 (w:=w) hC hn);have d1:decide ((C:Int)<1)=false:=π Ω;have d2:decide ((n:Int)<1)=false:=π Ω;have d3:decide ((64:Int)<(n:Int))=false:=π Ω;have d4:decide ((C:Int)<=0)=false:=π Ω;have d5:decide ((n:Int)<=0)=false:=π Ω;generalize List.replicate n (Value.pointer none)=lp at hmk HN;clear hC1 hC hn1 hn;go_enter func4,ntmps4;go_wp2;go_ret2;exact⟨rfl,((Gr.refl w).alloc _).alloc _,HN.o⟩
end
end
section
section
open Go.RowKit Word
theorem Yzh(w:World){C n:Int}(h:C<1\/n<1\/64<n):Calls prog 4 #[.int .i64 C,.int .i64 n] w λe w'=>e=.returned (.tuple #[.pointer none,.int .i64 5])/\Gr w w':=by
 by_cases h1:C<1
 ·have d1:decide (C<1)=true:=υ h1;clear h;go_enter func4,ntmps4;go_wp2;go_ret2;exact⟨rfl,Gr.refl _⟩
 ·by_cases h2:n<1
  ·clear h;go_enter func4,ntmps4;go_wp2;go_ret2;exact⟨rfl,Gr.refl _⟩
  ·have h3:64<n:=Ω
   clear h;go_enter func4,ntmps4;go_wp2;go_ret2;exact⟨rfl,Gr.refl _⟩
theorem JTC:(prog.info? 3).map (λi=>(i.zero,i.size,i.bytes))=some (some (.int .i64 0),1,8):=by kernel_rfl
theorem YKR(p:Nat)(hp:p<=255)(w:World):(Instr.makeSlice 41 (.int .i64 p) (.int .i64 p)).run prog w=.ok (.slice (some ⟨w.heap.size,0,none⟩) p p) (w.alloc (.cells (List.replicate p (.int .i64 0)).toArray 3)):=by
 rw[run_make_row' (P:=prog) 41 3 (.int .i64 0) 8 underlying41 JTC rfl .i64 .i64 p Ω Ω w,<-J0U,ξU]
theorem Zvg{w:World}{C n:Nat}(hC:C<=1073741824)(hn:n<=64):ZH3 ((w.alloc (.cells (List.replicate n (.int .i64 0)).toArray 3)).alloc (.cells #[.int .i64 C,.slice none 0 0,.slice (some ⟨w.heap.size,0,none⟩) n n] 57)) (λk=>w.heap.size<=k) (w.heap.size+1) C (Gph.nul n):=by
 have r1:=(Rec.new w 3 (List.replicate n (.int .i64 0))).gr ((Gr.refl _).alloc (.cells #[.int .i64 C,.slice none 0 0,.slice (some ⟨w.heap.size,0,none⟩) n n] 57));have r2:=Rec.new (w.alloc (.cells (List.replicate n (.int .i64 0)).toArray 3)) 57 [.int .i64 C,.slice none 0 0,.slice (some ⟨w.heap.size,0,none⟩) n n];rw[τ]at r2;have hsl:(Gph.nul n).S.length=n:=ζ1;refine⟨.slice none 0 0,w.heap.size,λ_=>0,⟨by rw[hsl];exact r2,Vm9 _ _ _ _,?_,λi hi=>absurd (show i<0 from hi) Ω,λi j hi=>absurd (show i<0 from hi) Ω,ζb _,by rw[hsl];exact hn,hC,⟨λo ho=>?_,λo ho=>?_,λy hy=>?_⟩,λo ho=>?_⟩,ζ6 _,ζe _,λk hk=>?_,λi hi=>absurd (show i<0 from hi) Ω⟩
 ·have e:ZKn (Gph.nul n).S=List.replicate n (.int .i64 0):=by
   show List.map _ (List.replicate n 0)=_
   rw[ξu];rfl
  rw[e];exact r1
 ·cases ho
 ·cases ho
 ·rw[(ζC.1 hy).2];exact ζb _
 ·cases ho
 ·cases hk
theorem ZlM(w:World){C n:Nat}(hC:C<=1073741824)(hn:n<=64):Calls prog 6 #[.int .i64 C,.int .i64 n] w λe w'=>e=.returned (.pointer (some ⟨w.heap.size+1,0,none⟩))/\Gr w w'/\ZH3 w' (λk=>w.heap.size<=k) (w.heap.size+1) C (Gph.nul n):=by
 have hmk:=YKR n Ω;have HN:=hid (Zvg (w:=w) hC hn);generalize List.replicate n (Value.int .i64 0)=lp at hmk HN;clear hC hn;go_enter func6,ntmps6;go_wp2;go_ret;exact⟨rfl,((Gr.refl w).alloc _).alloc _,HN.o⟩
end
end
section
section
open Go.RowKit Word
def plL(al:List Nat)(y:Nat):Int:=if y≠0/\y∈al then (al.idxOf y:Nat)else -1
def plV(al l:List Nat):List Value:=l.map λy=>.int .i64 (plL al y)
def VTq(w:World)(al l:List Nat)(e:Ending)(w':World):Prop:=∃A c,e=.returned (.slice A l.length c)/\Gr w w'/\w'.ownsRow w.heap.size 3 1 (.slice A l.length c) l.length (plV al l)
section
variable {w w':World} {q1 mb N:Nat} {F:Nat->Nat} {al l:List Nat}
theorem Qb7{pb:Nat}(hq:Rec w q1 76 [.map (some mb)])(hM:QSJ w mb F al)(hT:YJ4 w F N)(hal:∀x∈al,1<=x/\x<=N)(hp:Rec w pb 79 (JYL F l))(hl:∀y∈l,y<=N)(hll:l.length<=255):Calls prog 32 #[.slice (some ⟨pb,0,none⟩) l.length l.length,.pointer (some ⟨q1,0,none⟩)] w (VTq w al l):=by
 obtain⟨ii,hii,hi0,hi1,hi2⟩:=info_parts JTC;obtain⟨K,hK⟩:∃K,K=l.length:=⟨_,rfl⟩;have HK:=hid hK;have HQ:=hid hq;have HM:=hid hM;have HT:=hid hT;have HAL:=hid hal;have HP:=hid hp;have HL:=hid hl
 have hFb:∀x,1<=x->x<=N->F x<w.heap.size:=λx a b=>by
  obtain⟨ca,hc⟩:=hT.cs x a b;exact(ζF.1 hc).1
 have HFB:=hid hFb;unfold VTq;rw[<-hK]at hll⊢;clear hq hM hT hal hp hl hK hFb;go_enter func32,ntmps32;go_wp2
 go_loopw [4,11] (λs4 s11 wr=>∃(j:Nat) (vL:Value),j<=K/\s4=vL/\s11=.int .i64 j/\Hid (XF4 (λi=>w.heap.size<=i) w wr)/\Hid (wr.ownsRow w.heap.size 3 1 vL j (plV al (l.take j)))) (λ_ s11 _=>K-(intOf s11).toNat)
 case atStart=>exact⟨0,_,ζb _,rfl,rfl,⟨XF4.refl _ _⟩,⟨Vm9 _ _ _ _⟩⟩
 case round=>
  obtain⟨j,vL,hj,rfl,rfl,HG,HO⟩:=hrel;obtain⟨TA,tc,rfl,hc1,hc2⟩:=ZfN HO.o;unfold maxLen at hc2;have gg:Gr w wr:=(HG.o.mono (λk hk h=>by have h:w.heap.size<=k:=h;omega)).gr;by_cases hjK:j<K
  ·have hjI:(j:Int)<K:=Ω
   have hjl:j<l.length:=by rw[<-HK.o];exact hjK
   have hp2:=HP.o.gr gg;have e0:=hp2.cell (YK2 (F:=F) hjl);have el:=hp2.lt
   have hyN:l.getD j 0<=N:=by
    rw[θ,μ hjl];exact HL.o _ (ζo hjl)
   have HTK:Hid (plV al (l.take (j+1))=plV al (l.take j)++[.int .i64 (plL al (l.getD j 0))]):=⟨by
    unfold plV;rw[ζg hjl,ζw,θ,μ hjl]
    rfl⟩
   have hlk:=VyY (HM.o.gr gg) (HT.o.keep HFB.o HG.o) HAL.o hyN;have m0:=(HQ.o.gr gg).cell (j:=0) rfl;have ml:=(HQ.o.gr gg).lt;have HPL:Hid (∀y,plL al y=if y≠0/\y∈al then (al.idxOf y:Int)else -1):=⟨λy=>rfl⟩;have hpl:=HPL.o (l.getD j 0);obtain⟨p,hpp⟩:=Vli F (l.getD j 0);rw[hpp]at hlk e0;have HLE:Hid (w.heap.size<=wr.heap.size):=⟨HG.o.size⟩;have HOW:=hid HO.o;have HJ:=hid hjK;have hjb:j<=255:=Ω
   generalize plL al (l.getD j 0)=z at HTK hpl;by_cases hm:l.getD j 0≠0/\l.getD j 0∈al
   ·rw[χ hm]at hpl;rw[χ hm,υ hm,<-hpl]at hlk;clear hm hpl hpp hyN hjl hj hjK gg hp2 HPL;go_wp2_with(at_builtin;refine wpList_append_lies _ rfl _ _ 41 rfl w.heap.size 3 ii _ 1 8 underlying41 hii hi0 hi1 hi2 rfl (by decide) (.slice TA j tc) j (plV al (l.take j)) rfl (HOW.o.alloc _) ⟨wr.heap.size,0,none⟩ 1 1 [.int .i64 z] rfl rfl (β (cs:=#[.int .i64 z]) (t:=3) (fr:=(0,0)) (heap_alloc_new wr (.cells #[.int .i64 z] 3))) (by simp[Value.oneCell']) Ω (by unfold maxLen;omega) Ω (by have:=HLE.o;rw[τ];omega) (wr.heap.size+1) (by simp) ?_;intro g3 c3 w3 hown3 hgrow3 hat3 hlt3;have t3:XF4 (λk=>(Value.slice TA j tc).ownBlock=some k) wr w3:=(((Gr.refl _).alloc _).touch _).trans (VxQ hgrow3 _ (λk e _=>e));have HT3:=hid t3;have HO3:=hid hown3;clear hown3 hgrow3 hat3 hlt3 t3);go_round
    case rel=>exact⟨j+1,.slice (some ⟨g3,0,none⟩) (j+1) c3,HJ.o,rfl,by go_num,⟨HG.o.trans (HT3.o.mono (λk _ h=>(Vvr HOW.o h).1))⟩,⟨by rw[HTK.o];exact HO3.o⟩⟩
    case measure=>have:=HJ.o;simp[intOf];omega
   ·rw[ν hm]at hpl;rw[ν hm,π hm]at hlk;have HZ:=hid hpl;clear hm hpl hpp hyN hjl hj hjK gg hp2 HPL;go_wp2_with(at_builtin;refine wpList_append_lies _ rfl _ _ 41 rfl w.heap.size 3 ii _ 1 8 underlying41 hii hi0 hi1 hi2 rfl (by decide) (.slice TA j tc) j (plV al (l.take j)) rfl (HOW.o.alloc _) ⟨wr.heap.size,0,none⟩ 1 1 [.int .i64 (-1)] rfl rfl (β (cs:=#[.int .i64 (-1)]) (t:=3) (fr:=(0,0)) (heap_alloc_new wr (.cells #[.int .i64 (-1)] 3))) (by simp[Value.oneCell']) Ω (by unfold maxLen;omega) Ω (by have:=HLE.o;rw[τ];omega) (wr.heap.size+1) (by simp) ?_;intro g3 c3 w3 hown3 hgrow3 hat3 hlt3;have t3:XF4 (λk=>(Value.slice TA j tc).ownBlock=some k) wr w3:=(((Gr.refl _).alloc _).touch _).trans (VxQ hgrow3 _ (λk e _=>e));have HT3:=hid t3;have HO3:=hid hown3;clear hown3 hgrow3 hat3 hlt3 t3);go_round
    case rel=>exact⟨j+1,.slice (some ⟨g3,0,none⟩) (j+1) c3,HJ.o,rfl,by go_num,⟨HG.o.trans (HT3.o.mono (λk _ h=>(Vvr HOW.o h).1))⟩,⟨by rw[HTK.o,HZ.o];exact HO3.o⟩⟩
    case measure=>have:=HJ.o;simp[intOf];omega
  ·have hjI:¬(j:Int)<K:=Ω
   obtain rfl:j=K:=Ω
   have hF:=HO.o;rw[HK.o,ζS,<-HK.o]at hF;have HF:=hid hF;have HGG:=hid gg;clear hF gg hjK hj;go_wp2;go_ret;exact⟨_,_,rfl,HGG.o,HF.o⟩
end
end
end
section
section
open Go.RowKit Word
section
variable {w:World}
theorem JvE{A B:Option Addr}{c d:Nat}{l:List Int}(hA:Vu4 w A l)(hB:Vu4 w B l)(hl:l.length<=1000):Calls prog 30 #[.slice A l.length c,.slice B l.length d] w λe w'=>e=.returned (.bool true)/\Gr w w':=by
 obtain⟨N,hN⟩:∃N,N=l.length:=⟨_,rfl⟩;have HN:=hid hN;have HA:=hid hA;have HB:=hid hB;rw[<-hN]at hl⊢;clear hA hB hN;go_enter func30,ntmps30;go_wp2
 go_loopw [5] (λs5 wr=>∃i:Nat,i<=N/\s5=.int .i64 i/\Hid (Gr w wr)) (λs5 _=>N-(intOf s5).toNat)
 case atStart=>exact⟨0,ζb _,rfl,⟨Gr.refl _⟩⟩
 case round=>
  obtain⟨i,hi,rfl,HG⟩:=hrel;by_cases hlast:i<N
  ·have hiI:(i:Int)<(N:Int):=Ω
   have hil:i<l.length:=by rw[<-HN.o];exact hlast
   obtain⟨b1,o1,rfl,hb1,hc1⟩:=HA.o i hil;obtain⟨b2,o2,rfl,hb2,hc2⟩:=HB.o i hil;have c1:=(HG.o.cell hb1 (o1+i)).trans hc1;have c2:=(HG.o.cell hb2 (o2+i)).trans hc2;have l1:b1<wr.heap.size:=ζa hb1 HG.o.size;have l2:b2<wr.heap.size:=ζa hb2 HG.o.size;generalize l[i]=x at c1 c2;have HI:=hid hlast;clear hlast hil hb1 hb2 hc1 hc2 hi;go_upto_region 6 with(fail);go_quiet (fail);have HG2:=hid (HG.o.drewN nq);go_wp2;go_round
   case rel=>exact⟨i+1,HI.o,by go_num,HG2⟩
   case measure=>have:=HI.o;simp[intOf];omega
  ·have hiI:¬(i:Int)<(N:Int):=Ω
   clear hlast hi;go_wp2;go_ret;exact⟨rfl,HG.o⟩
theorem QUC{A B:Option Addr}{c d:Nat}{l:List Nat}(hA:Y10 w A l)(hB:Y10 w B l)(hl:l.length<=1000):Calls prog 31 #[.slice A l.length c,.slice B l.length d] w λe w'=>e=.returned (.bool true)/\Gr w w':=by
 obtain⟨N,hN⟩:∃N,N=l.length:=⟨_,rfl⟩;have HN:=hid hN;have HA:=hid hA;have HB:=hid hB;rw[<-hN]at hl⊢;clear hA hB hN;go_enter func31,ntmps31;go_wp2
 go_loopw [5] (λs5 wr=>∃i:Nat,i<=N/\s5=.int .i64 i/\Hid (Gr w wr)) (λs5 _=>N-(intOf s5).toNat)
 case atStart=>exact⟨0,ζb _,rfl,⟨Gr.refl _⟩⟩
 case round=>
  obtain⟨i,hi,rfl,HG⟩:=hrel;by_cases hlast:i<N
  ·have hiI:(i:Int)<(N:Int):=Ω
   have hil:i<l.length:=by rw[<-HN.o];exact hlast
   obtain⟨b1,o1,rfl,hb1,hc1⟩:=HA.o i hil;obtain⟨b2,o2,rfl,hb2,hc2⟩:=HB.o i hil;have c1:=(HG.o.cell hb1 (o1+i)).trans hc1;have c2:=(HG.o.cell hb2 (o2+i)).trans hc2;have l1:b1<wr.heap.size:=ζa hb1 HG.o.size;have l2:b2<wr.heap.size:=ζa hb2 HG.o.size;generalize l.getD i 0=x at c1 c2;have HI:=hid hlast;clear hlast hil hb1 hb2 hc1 hc2 hi;go_upto_region 6 with(fail);go_quiet (fail);have HG2:=hid (HG.o.drewN nq);go_wp2;go_round
   case rel=>exact⟨i+1,HI.o,by go_num,HG2⟩
   case measure=>have:=HI.o;simp[intOf];omega
  ·have hiI:¬(i:Int)<(N:Int):=Ω
   clear hlast hi;go_wp2;go_ret;exact⟨rfl,HG.o⟩
end
end
end
section
section
open Go.RowKit Word
structure JB5 where
 p:List Int
 f:List Nat
 k:List Nat
def Gph.slD(g:Gph):List Int:=g.S.map (plL g.all)
def Gph.ndD(g:Gph)(x:Nat):JB5:=⟨(g.pts x).map (plL g.all),(g.ob x).fls,(g.ob x).w.drop ((g.ob x).p+(g.ob x).f)⟩
def Gph.ndsD(g:Gph):List JB5:=g.all.map g.ndD
def XlB:JB5:=⟨[],[],[]⟩
def J8s(w:World)(b o:Nat)(d:JB5):Prop:=∃(A1 A2 A3:Option Addr) (c1 c2 c3:Nat),w.cell? ⟨b,o,none⟩=some (.slice A1 d.p.length c1)/\w.cell? ⟨b,o+1,none⟩=some (.slice A2 d.f.length c2)/\w.cell? ⟨b,o+2,none⟩=some (.slice A3 d.k.length c3)/\Vu4 w A1 d.p/\Y10 w A2 d.f/\Y10 w A3 d.k
def Xst(w:World)(A:Option Addr)(l:List JB5):Prop:=∀i,i<l.length->∃b o,A=some ⟨b,o,none⟩/\b<w.heap.size/\J8s w b (o+i*3) (l.getD i XlB)
def QHE(w:World)(v:Value)(s:List Int)(l:List JB5):Prop:=∃A B c d,v=.agg #[.slice A s.length c,.slice B l.length d]/\Vu4 w A s/\Xst w B l
section
variable {w w':World}
theorem QQI{A:Option Addr}{l:List Int}(h:Vu4 w A l)(g:Gr w w'):Vu4 w' A l:=λi hi=>by
 obtain⟨b,o,e,hb,hc⟩:=h i hi;exact⟨b,o,e,ζa hb g.size,(g.cell hb _).trans hc⟩
theorem X1c{A:Option Addr}{l:List Nat}(h:Y10 w A l)(g:Gr w w'):Y10 w' A l:=λi hi=>by
 obtain⟨b,o,e,hb,hc⟩:=h i hi;exact⟨b,o,e,ζa hb g.size,(g.cell hb _).trans hc⟩
theorem J8s.gr{b o:Nat}{d:JB5}(h:J8s w b o d)(hb:b<w.heap.size)(g:Gr w w'):J8s w' b o d:=by
 obtain⟨A1,A2,A3,c1,c2,c3,h1,h2,h3,h4,h5,h6⟩:=h;exact⟨A1,A2,A3,c1,c2,c3,(g.cell hb _).trans h1,(g.cell hb _).trans h2,(g.cell hb _).trans h3,QQI h4 g,X1c h5 g,X1c h6 g⟩
theorem Xst.gr{A:Option Addr}{l:List JB5}(h:Xst w A l)(g:Gr w w'):Xst w' A l:=λi hi=>by
 obtain⟨b,o,e,hb,hc⟩:=h i hi;exact⟨b,o,e,ζa hb g.size,hc.gr hb g⟩
theorem QHE.gr{v:Value}{s:List Int}{l:List JB5}(h:QHE w v s l)(g:Gr w w'):QHE w' v s l:=by
 obtain⟨A,B,c,d,e,h1,h2⟩:=h;exact⟨A,B,c,d,e,QQI h1 g,h2.gr g⟩
end
end
end
section
section
open Go.RowKit Word
section
variable {w w':World}
theorem QfM{v1 v2:Value}{s:List Int}{l:List JB5}(h1:QHE w v1 s l)(h2:QHE w v2 s l)(hs:s.length<=1000)(hl:l.length<=1000)(hn:∀d∈l,d.p.length<=1000/\d.f.length<=1000/\d.k.length<=1000):Calls prog 12 #[v1,v2] w λe w'=>e=.returned (.bool true)/\Gr w w':=by
 obtain⟨A1,B1,c1,d1,rfl,hA1,hB1⟩:=h1;obtain⟨A2,B2,c2,d2,rfl,hA2,hB2⟩:=h2;obtain⟨K,hK⟩:∃K,K=l.length:=⟨_,rfl⟩;have HK:=hid hK;have HI:=hid (λ(V:World) (gV:Gr w V)=>JvE (c:=c1) (d:=c2) (QQI hA1 gV) (QQI hA2 gV) hs);have HB1:=hid hB1;have HB2:=hid hB2;have HN:=hid hn;rw[<-hK]at hl⊢;generalize s.length=sn at HI hs;have r1:=(Rec.new w 49 [.slice A1 sn c1,.slice B1 K d1]).gr ((Gr.refl _).alloc (.cells #[.slice A2 sn c2,.slice B2 K d2] 49));have r2:=Rec.new (w.alloc (.cells #[.slice A1 sn c1,.slice B1 K d1] 49)) 49 [.slice A2 sn c2,.slice B2 K d2];rw[τ]at r2;have hg:Gr w ((w.alloc (.cells #[.slice A1 sn c1,.slice B1 K d1] 49)).alloc (.cells #[.slice A2 sn c2,.slice B2 K d2] 49)):=((Gr.refl w).alloc _).alloc _;obtain⟨w2,hw2⟩:∃w2,w2=(w.alloc (.cells #[.slice A1 sn c1,.slice B1 K d1] 49)).alloc (.cells #[.slice A2 sn c2,.slice B2 K d2] 49):=⟨_,rfl⟩;rw[<-hw2]at hg;have r1:Rec w2 w.heap.size 49 [.slice A1 sn c1,.slice B1 K d1]:=by rw[hw2];exact r1
 have r2:Rec w2 (w.heap.size+1) 49 [.slice A2 sn c2,.slice B2 K d2]:=by rw[hw2];exact r2
 have HW:=hid hw2;have HG:=hid hg;have HR1:=hid r1;have HR2:=hid r2;have a0:=r1.cell (j:=0) rfl;have a1:=r1.cell (j:=1) rfl;have b0:=r2.cell (j:=0) rfl;have b1:=r2.cell (j:=1) rfl;have al:=r1.lt;have bl:=r2.lt;clear hA1 hB1 hA2 hB2 hn hK hg hw2 r1 r2;go_enter func12,ntmps12;go_upto_region 1 with(fail);rw[<-HW.o];clear HW;go_upto_region 3 with(go_at_call 30;refine(HI.o _ HG.o).mono ?_;rintro e w3 ⟨rfl,hg⟩;have HG3:=hid hg;have a1':=(HR1.o.gr hg).cell (j:=1) rfl;have b1':=(HR2.o.gr hg).cell (j:=1) rfl;have al':=(HR1.o.gr hg).lt;have bl':=(HR2.o.gr hg).lt;clear hg);go_wp2
 go_loopw [5] (λs5 wr=>∃i:Nat,i<=K/\s5=.int .i64 i/\Hid (Gr w2 wr)) (λs5 _=>K-(intOf s5).toNat)
 case atStart=>exact⟨0,ζb _,rfl,HG3⟩
 case round=>
  clear HG3 a0 a1 b0 b1 al bl a1' b1' al' bl';obtain⟨i,hi,rfl,HG4⟩:=hrel;have q1:=HR1.o.gr HG4.o;have q2:=HR2.o.gr HG4.o;have a1:=q1.cell (j:=1) rfl;have b1:=q2.cell (j:=1) rfl;have al:=q1.lt;have bl:=q2.lt;clear q1 q2;by_cases hlast:i<K
  ·have hiI:(i:Int)<(K:Int):=Ω
   have hil:i<l.length:=by rw[<-HK.o];exact hlast
   have gg:=HG.o.trans HG4.o;obtain⟨p1,o1,rfl,hp1,M1,M2,M3,m1,m2,m3,x1,x2,x3,x4,x5,x6⟩:=(HB1.o.gr gg) i hil;obtain⟨p2,o2,rfl,hp2,N1,N2,N3,n1,n2,n3,y1,y2,y3,y4,y5,y6⟩:=(HB2.o.gr gg) i hil
   have hnn:(l.getD i XlB).p.length<=1000/\(l.getD i XlB).f.length<=1000/\(l.getD i XlB).k.length<=1000:=by
    rw[θ,μ hil];exact HN.o _ (ζo hil)
   have I1:=hid (λ(V:World) (gV:Gr wr V)=>JvE (c:=m1) (d:=n1) (QQI x4 gV) (QQI y4 gV) hnn.1);have I2:=hid (λ(V:World) (gV:Gr wr V)=>QUC (c:=m2) (d:=n2) (X1c x5 gV) (X1c y5 gV) hnn.2.1);have I3:=hid (λ(V:World) (gV:Gr wr V)=>QUC (c:=m3) (d:=n3) (X1c x6 gV) (X1c y6 gV) hnn.2.2);have HII:=hid hlast;generalize (l.getD i XlB).p.length=u1 at x1 y1 I1;generalize (l.getD i XlB).f.length=u2 at x2 y2 I2;generalize (l.getD i XlB).k.length=u3 at x3 y3 I3;clear x4 x5 x6 y4 y5 y6 hnn gg hil hlast hi;go_upto_region 8 with(fail);have n1':=(Rec.new wr 84 [.slice M1 u1 m1,.slice M2 u2 m2,.slice M3 u3 m3]).gr ((Gr.refl _).alloc (.cells #[.slice N1 u1 n1,.slice N2 u2 n2,.slice N3 u3 n3] 84));have n2':=Rec.new (wr.alloc (.cells #[.slice M1 u1 m1,.slice M2 u2 m2,.slice M3 u3 m3] 84)) 84 [.slice N1 u1 n1,.slice N2 u2 n2,.slice N3 u3 n3];rw[τ]at n2';have g5:Gr wr ((wr.alloc (.cells #[.slice M1 u1 m1,.slice M2 u2 m2,.slice M3 u3 m3] 84)).alloc (.cells #[.slice N1 u1 n1,.slice N2 u2 n2,.slice N3 u3 n3] 84)):=((Gr.refl wr).alloc _).alloc _;obtain⟨w5,hw5⟩:∃w5,w5=(wr.alloc (.cells #[.slice M1 u1 m1,.slice M2 u2 m2,.slice M3 u3 m3] 84)).alloc (.cells #[.slice N1 u1 n1,.slice N2 u2 n2,.slice N3 u3 n3] 84):=⟨_,rfl⟩;have n1':Rec w5 wr.heap.size 84 [.slice M1 u1 m1,.slice M2 u2 m2,.slice M3 u3 m3]:=by rw[hw5];exact n1'
   have n2':Rec w5 (wr.heap.size+1) 84 [.slice N1 u1 n1,.slice N2 u2 n2,.slice N3 u3 n3]:=by rw[hw5];exact n2'
   rw[<-hw5]at g5⊢;have G5:=hid g5;have Q1:=hid n1';have Q2:=hid n2';have z0:=n1'.cell (j:=0) rfl;have t0:=n2'.cell (j:=0) rfl;have zl:=n1'.lt;have tl:=n2'.lt;clear hw5 g5 n1' n2' x1 x2 x3 y1 y2 y3 hp1 hp2 a1 b1 al bl
   go_wp2_with(first
    | (go_at_call 30;refine(I1.o _ G5.o).mono ?_;rintro e w6 ⟨rfl,hg⟩;have G6:=hid hg;have z1:=(Q1.o.gr hg).cell (j:=1) rfl;have t1:=(Q2.o.gr hg).cell (j:=1) rfl;have zl6:=(Q1.o.gr hg).lt;have tl6:=(Q2.o.gr hg).lt;clear hg)
    | (go_at_call 31;refine(I2.o _ (G5.o.trans G6.o)).mono ?_;rintro e w7 ⟨rfl,hg⟩;have G7:=hid (G6.o.trans hg);have z2:=(Q1.o.gr G7.o).cell (j:=2) rfl;have t2:=(Q2.o.gr G7.o).cell (j:=2) rfl;have zl7:=(Q1.o.gr G7.o).lt;have tl7:=(Q2.o.gr G7.o).lt;clear hg I2)
    | (go_at_call 31;refine(I3.o _ (G5.o.trans G7.o)).mono ?_;rintro e w8 ⟨rfl,hg⟩;have G8:=hid (G7.o.trans hg);clear hg))
   go_round
   case rel=>exact⟨i+1,HII.o,by go_num,⟨HG4.o.trans (G5.o.trans G8.o)⟩⟩
   case measure=>have:=HII.o;simp[intOf];omega
  ·have hiI:¬(i:Int)<(K:Int):=Ω
   clear hlast hi;go_wp2;go_ret;exact⟨rfl,HG.o.trans HG4.o⟩
end
end
end
section
section
open Go.RowKit Word
theorem JeA:∀(l:List Nat) (y i:Nat),i<l.length->l.getD i 0=y->(∀j,j<i->l.getD j 0≠y)->l.idxOf y=i
 | [],_,_,h,_,_=>absurd h (by simp)
 | x :: r,y,0,_,h,_=>by
  have h:x=y:=h;rw[h,List.idxOf_cons_self]
 | x :: r,y,i+1,hi,h,hn=>by
  have hx:x≠y:=hn 0 (Nat.succ_pos _);rw[List.idxOf_cons,show (x==y)=false from σ.2 hx]
  show r.idxOf y+1=i+1
  rw[JeA r y i (by simpa using hi) h (λj hj=>hn (j+1) (Nat.succ_lt_succ hj))]
section
variable {w:World}
theorem Zag{A:Option Addr}{c:Nat}{l:List Nat}(hA:JZ4 w A l)(hl:l.length<=1000)(h0:¬0∈l)(y:Nat):Calls prog 33 #[.slice A l.length c,.int .i64 y] w λe w'=>e=.returned (.int .i64 (plL l y))/\w=w':=by
 obtain⟨N,hN⟩:∃N,N=l.length:=⟨_,rfl⟩;have HN:=hid hN;have HA:=hid hA
 have HYES:Hid (∀i,i<N->l.getD i 0=y->(∀j,j<i->l.getD j 0≠y)->plL l y=i):=⟨λi hi h1 h2=>by
  have hm:y∈l:=by rw[<-h1];exact QmW (by rw[<-hN];exact hi)
  unfold plL
  rw[χ ⟨λh=>h0 (h▸hm),hm⟩,JeA l y i (by rw[<-hN];exact hi) h1 h2]⟩
 have HNOT:Hid ((∀j,j<N->l.getD j 0≠y)->plL l y = -1):=⟨λh=>by
  unfold plL;rw[ν];rintro⟨-,hm⟩;obtain⟨j,hj,e⟩:=ξA.1 hm
  exact h j (by rw[hN];exact hj) (by rw[θ,μ hj];exact e)⟩
 generalize plL l y=V at HYES HNOT⊢;rw[<-hN]at hl⊢;clear hA hN h0;go_enter func33,ntmps33;go_wp2
 go_loop [5] (λs5=>∃i:Nat,i<=N/\s5=.int .i64 i/\Hid (∀j,j<i->l.getD j 0≠y)) (λs5=>N-(intOf s5).toNat)
 case atStart=>exact⟨0,ζb _,rfl,⟨λj hj=>absurd hj (ξf _)⟩⟩
 case round=>
  obtain⟨i,hi,rfl,HF⟩:=hrel;by_cases hlast:i<N
  ·have hiI:(i:Int)<(N:Int):=Ω
   obtain⟨b,o,rfl,hb,hc⟩:=HA.o i (by rw[<-HN.o];exact hlast);by_cases hy:l.getD i 0=y
   ·have HV:Hid (V=i):=⟨HYES.o i hlast hy HF.o⟩;have d1:(((l.getD i 0:Nat):Int)==(y:Int))=true:=by rw[ζu];omega
    generalize l.getD i 0=x at hc d1;clear hy hlast hi;go_wp2;go_ret;exact⟨by rw[HV.o] <;> rfl,rfl⟩
   ·have HF2:Hid (∀j,j<i+1->l.getD j 0≠y):=⟨λj hj=>by
     rcases ζj j i with h|h
     ·exact HF.o j h
     ·obtain rfl:j=i:=Ω
      exact hy⟩
    have d1:(((l.getD i 0:Nat):Int)==(y:Int))=false:=by rw[σ];omega
    generalize l.getD i 0=x at hc d1;have HI:=hid hlast;clear hy hlast hi;go_wp2;go_round
    case rel=>exact⟨i+1,HI.o,by go_num,HF2⟩
    case measure=>have:=HI.o;simp[intOf];omega
  ·have hiI:¬(i:Int)<(N:Int):=Ω
   have HV:Hid (V = -1):=⟨HNOT.o (λj hj=>HF.o j Ω)⟩;clear hlast hi;go_wp2;go_ret;exact⟨by rw[HV.o] <;> rfl,rfl⟩
end
end
end
section
section
open Go.RowKit Word
theorem JaM:(prog.info? 84).map (λi=>(i.zero,i.size,i.bytes))=some (some (.agg #[.slice none 0 0,.slice none 0 0,.slice none 0 0]),3,72):=by kernel_rfl
def XlA(l:List Int):List Value:=l.map λx:Int=>Value.int .i64 x
theorem Qy5(al l:List Nat):plV al l=XlA (l.map (plL al)):=by
 unfold plV XlA;rw[List.map_map];rfl
theorem X8Z{l:List Int}{i:Nat}(h:i<l.length):(XlA l)[i]?=some (.int .i64 l[i]):=by
 unfold XlA;rw[ζr,μ h];rfl
structure ZEV(w:World)(b:Nat)(v1 v2 v3:Value)(d:JB5):Prop where
 o1:w.ownsRow b 3 1 v1 d.p.length (XlA d.p)
 o2:w.ownsRow b 32 1 v2 d.f.length (QYW d.f)
 o3:w.ownsRow b 32 1 v3 d.k.length (QYW d.k)
def nvC(v:Value×Value×Value):List Value:=[v.1,v.2.1,v.2.2]
def VIG(w:World)(b:Nat)(vN:Value)(l:List JB5):Prop:=∃vs:List (Value×Value×Value),vs.length=l.length/\w.ownsRow b 84 3 vN l.length (vs.flatMap nvC)/\∀i (h:i<l.length),∃v,vs[i]?=some v/\ZEV w 0 v.1 v.2.1 v.2.2 l[i]
theorem fm3:∀(vs:List (Value×Value×Value)) (i:Nat) (v:Value×Value×Value),vs[i]?=some v->(vs.flatMap nvC)[i*3]?=some v.1/\(vs.flatMap nvC)[i*3+1]?=some v.2.1/\(vs.flatMap nvC)[i*3+2]?=some v.2.2
 | [],_,_,h=>by simp at h
 | x :: r,0,v,h=>by
  obtain rfl:x=v:=by simpa using h
  exact⟨rfl,rfl,rfl⟩
 | x :: r,i+1,v,h=>by
  have:=fm3 r i v (by simpa using h);have e:(x :: r).flatMap nvC=x.1 :: x.2.1 :: x.2.2 :: r.flatMap nvC:=rfl;rw[e,show (i+1)*3=i*3+1+1+1 by omega];simpa using this
section
variable {w w':World} {T:Nat->Prop}
def Jp3(w:World)(T:Nat->Prop)(E:Nat->Prop):Prop:=∀k,T k->k<w.heap.size->∃t,¬E t/\∃cur,w.heap[k]?=some (.cells cur t (0,0))
theorem Xpk{E:Nat->Prop}{base t size:Nat}{v:Value}{n:Nat}{xs:List Value}(h:w.ownsRow base t size v n xs)(tt:XF4 T w w')(hT:Jp3 w T E)(hE:E t):w'.ownsRow base t size v n xs:=Zs2 h tt (λg hg hTg=>by
 obtain⟨t2,hn,cur,e⟩:=hT g hTg (Vvr h hg).2;obtain⟨cur2,e2⟩:=QiW h hg;rw[e]at e2;cases e2
 exact hn hE)
theorem ZEV.other{E:Nat->Prop}{b:Nat}{v1 v2 v3:Value}{d:JB5}(h:ZEV w b v1 v2 v3 d)(t:XF4 T w w')(hT:Jp3 w T E)(h1:E 3)(h2:E 32):ZEV w' b v1 v2 v3 d:=⟨Xpk h.o1 t hT h1,Xpk h.o2 t hT h2,Xpk h.o3 t hT h2⟩
theorem ZEV.gr{b:Nat}{v1 v2 v3:Value}{d:JB5}(h:ZEV w b v1 v2 v3 d)(g:Gr w w'):ZEV w' b v1 v2 v3 d:=⟨Y9I h.o1 g,Y9I h.o2 g,Y9I h.o3 g⟩
theorem VIG.other{E:Nat->Prop}{b:Nat}{vN:Value}{l:List JB5}(h:VIG w b vN l)(t:XF4 T w w')(hT:Jp3 w T E)(h1:E 3)(h2:E 32)(h3:E 84):VIG w' b vN l:=by
 obtain⟨vs,hl,ho,hn⟩:=h;refine⟨vs,hl,Xpk ho t hT h3,λi hi=>?_⟩;obtain⟨v,e,hv⟩:=hn i hi;exact⟨v,e,hv.other t hT h1 h2⟩
theorem VIG.gr{b:Nat}{vN:Value}{l:List JB5}(h:VIG w b vN l)(g:Gr w w'):VIG w' b vN l:=by
 obtain⟨vs,hl,ho,hn⟩:=h;refine⟨vs,hl,Y9I ho g,λi hi=>?_⟩;obtain⟨v,e,hv⟩:=hn i hi;exact⟨v,e,hv.gr g⟩
theorem VIG.nil(w:World)(b:Nat):VIG w b (.slice none 0 0) []:=⟨[],rfl,Vm9 _ _ _ _,λi hi=>absurd hi (by simp)⟩
theorem VIG.shape{b:Nat}{vN:Value}{l:List JB5}(h:VIG w b vN l):∃A c,vN=.slice A l.length c/\l.length<=c/\c<=maxLen:=by
 obtain⟨vs,hl,ho,-⟩:=h;exact ZfN ho
theorem VIG.snoc{b b':Nat}{vN' v1 v2 v3:Value}{l:List JB5}{d:JB5}{vs:List (Value×Value×Value)}(hl:vs.length=l.length)(hn:∀i (h:i<l.length),∃v,vs[i]?=some v/\ZEV w 0 v.1 v.2.1 v.2.2 l[i])(ho:w.ownsRow b' 84 3 vN' (l.length+1) (vs.flatMap nvC++[v1,v2,v3]))(hd:ZEV w b v1 v2 v3 d):VIG w b' vN' (l++[d]):=by
 refine⟨vs++[(v1,v2,v3)],by simp[hl],?_,λi hi=>?_⟩
 ·rw[ζi,List.flatMap_append];exact ho
 ·rw[ζi]at hi;by_cases e:i<l.length
  ·obtain⟨v,e1,e2⟩:=hn i e;refine⟨v,by rw[ζ3 Ω];exact e1,?_⟩;rw[ζ9 e];exact e2
  ·have e:i=l.length:=by simp at hi;omega
   subst e;refine⟨(v1,v2,v3),by rw[<-hl];simp,?_⟩;have:(l++[d])[l.length]'(by simp)=d:=by simp
   rw[this];exact⟨XZg hd.o1,XZg hd.o2,XZg hd.o3⟩
theorem YUk{base:Nat}{A:Option Addr}{c n:Nat}{l:List Int}(h:w.ownsRow base 3 1 (.slice A n c) n (XlA l))(hn:n=l.length):Vu4 w A l:=λi hi=>by
 subst hn;obtain⟨g,c,e,-,-,-,hlb⟩:=YTP h Ω;cases e;exact⟨g,0,rfl,hlb,by rw[ω];exact XAn h (X8Z hi)⟩
theorem Yjb{base:Nat}{A:Option Addr}{c n:Nat}{l:List Nat}(h:w.ownsRow base 32 1 (.slice A n c) n (QYW l))(hn:n=l.length):Y10 w A l:=λi hi=>by
 subst hn;obtain⟨g,c,e,-,-,-,hlb⟩:=YTP h Ω;cases e;exact⟨g,0,rfl,hlb,by rw[ω];exact XAn h (YGR hi)⟩
theorem VIG.at{A:Option Addr}{b c n:Nat}{l:List JB5}(h:VIG w b (.slice A n c) l):Xst w A l:=by
 obtain⟨vs,hl,ho,hn⟩:=h;intro i hi;obtain⟨A',c',e,-,-⟩:=ZfN ho;cases e;obtain⟨g,c',e,-,-,-,hlb⟩:=YTP ho Ω;cases e;obtain⟨⟨v1,v2,v3⟩,hv,hd⟩:=hn i hi;obtain⟨k0,k1,k2⟩:=fm3 vs i _ hv;obtain⟨A1,c1,e1,-⟩:=ZfN hd.o1;obtain⟨A2,c2,e2,-⟩:=ZfN hd.o2;obtain⟨A3,c3,e3,-⟩:=ZfN hd.o3;dsimp only at e1 e2 e3 k0 k1 k2;subst e1 e2 e3;have hgd:l.getD i XlB=l[i]:=by rw[θ,μ hi];rfl
 refine⟨g,0,rfl,hlb,?_⟩;rw[hgd,ω];exact⟨A1,A2,A3,c1,c2,c3,XAn ho k0,XAn ho k1,XAn ho k2,YUk hd.o1 rfl,Yjb hd.o2 rfl,Yjb hd.o3 rfl⟩
end
def ndK(al ww:List Nat)(p f k:Nat):JB5:=⟨((ww.take p).take k).map (plL al),((ww.drop p).take f).take (k-p),(ww.drop (p+f)).take (k-(p+f))⟩
theorem ZUa(l:List Nat){k:Nat}(h:k<l.length):l.take (k+1)=l.take k++[l.getD k 0]:=by
 rw[ζg h,θ,μ h];rfl
theorem QrH(al ww:List Nat)(p f:Nat):ndK al ww p f 0=⟨[],[],[]⟩:=by unfold ndK;simp
theorem Yg9{al ww:List Nat}{p f k:Nat}(h:k<p)(hw:k<ww.length):ndK al ww p f (k+1)=⟨(ndK al ww p f k).p++[plL al (ww.getD k 0)],(ndK al ww p f k).f,(ndK al ww p f k).k⟩:=by
 unfold ndK;simp only[JB5.mk.injEq];refine⟨?_,by rw[show k+1-p=k-p by omega],by rw[show k+1-(p+f)=k-(p+f)by omega]⟩;rw[ζW,ζW,ζX Ω,ζX Ω,ZUa ww hw,ζw];rfl
theorem XW6{al ww:List Nat}{p f k:Nat}(h1:p<=k)(h:k<p+f)(hw:k<ww.length):ndK al ww p f (k+1)=⟨(ndK al ww p f k).p,(ndK al ww p f k).f++[ww.getD k 0],(ndK al ww p f k).k⟩:=by
 unfold ndK;simp only[JB5.mk.injEq];refine⟨?_,?_,by rw[show k+1-(p+f)=k-(p+f)by omega]⟩
 ·rw[ζW,ζW,ζQ Ω,ζQ Ω]
 ·have e:ww.getD k 0=((ww.drop p).take f).getD (k-p) 0:=by
   rw[θ,θ,ξp Ω,ζ0,show p+(k-p)=k by omega]
  rw[e,show k+1-p=(k-p)+1 by omega,ZUa _ (by rw[ζk,ζs];omega)]
theorem ZZl{al ww:List Nat}{p f k:Nat}(h1:p+f<=k)(hw:k<ww.length):ndK al ww p f (k+1)=⟨(ndK al ww p f k).p,(ndK al ww p f k).f,(ndK al ww p f k).k++[ww.getD k 0]⟩:=by
 unfold ndK;simp only[JB5.mk.injEq];refine⟨?_,?_,?_⟩
 ·rw[ζW,ζW,ζQ Ω,ζQ Ω]
 ·rw[ζW,ζW,ζQ Ω,ζQ Ω]
 ·have e:ww.getD k 0=(ww.drop (p+f)).getD (k-(p+f)) 0:=by
   rw[θ,θ,ζ0,show p+f+(k-(p+f))=k by omega]
  rw[e,show k+1-(p+f)=(k-(p+f))+1 by omega,ZUa _ (by rw[ζs];omega)]
theorem Xjo(g:Gph)(x:Nat)(hw:(g.ob x).w.length=(g.ob x).p+(g.ob x).f+(g.ob x).k):ndK g.all (g.ob x).w (g.ob x).p (g.ob x).f (g.ob x).w.length=g.ndD x:=by
 unfold ndK Gph.ndD Gph.pts GOb.fls;simp only[JB5.mk.injEq];refine⟨?_,?_,?_⟩
 ·rw[ζW,ζQ Ω]
 ·rw[ζW,ζQ Ω]
 ·rw[ζB];rw[ζs];omega
theorem ZBn(al ww:List Nat)(p f k:Nat):(ndK al ww p f k).p.length<=k/\(ndK al ww p f k).f.length<=k/\(ndK al ww p f k).k.length<=k:=by
 unfold ndK;dsimp only;refine⟨?_,?_,?_⟩
 ·rw[ζc,ζk];omega
 ·rw[ζk];omega
 ·rw[ζk];omega
end
end
section
section
open Go.RowKit Word
def QdY(w:World)(g:Gph)(e:Ending)(w':World):Prop:=∃v,e=.returned v/\Gr w w'/\QHE w' v g.slD g.ndsD
section
variable {w wa w5:World} {b nb j:Nat} {u v1 v2 v3 v':Value} {d:JB5} {xs:List Value}
theorem Vzf(w5:World)(nb j:Nat)(u:Value):XF4 (λk=>k=nb) w5 (w5.setCell ⟨nb,j,none⟩ u):=(XF4.refl (λk=>k=nb) w5).setCell (a:=⟨nb,j,none⟩) (λ_=>rfl) u
theorem ZEV.push1{z:Int}(h:ZEV w b v1 v2 v3 d)(t:XF4 (λk=>v1.ownBlock=some k) w w5)(hq:Rec w5 nb 84 xs)(ho:w5.ownsRow b 3 1 v' (d.p.length+1) (XlA d.p++[.int .i64 z])):ZEV (w5.setCell ⟨nb,j,none⟩ u) b v' v2 v3 ⟨d.p++[z],d.f,d.k⟩:=by
 have h2:=Zs2 h.o2 t (λg hg e=>YnK h.o1 h.o2 (by decide) e hg rfl);have h3:=Zs2 h.o3 t (λg hg e=>YnK h.o1 h.o3 (by decide) e hg rfl);refine⟨?_,VDR h2 u (λg hg=>YnK h2 hq (by decide) hg rfl),VDR h3 u (λg hg=>YnK h3 hq (by decide) hg rfl)⟩;have:=VDR (j:=j) ho u (λg hg=>YnK ho hq (by decide) hg rfl)
 show World.ownsRow _ b _ 1 v' (d.p++[z]).length (XlA (d.p++[z]))
 unfold XlA;rw[ζi,ζw];exact this
theorem ZEV.push2{z:Nat}(h:ZEV w b v1 v2 v3 d)(hne:∀k,v2.ownBlock=some k->v3.ownBlock≠some k)(t:XF4 (λk=>v2.ownBlock=some k) w w5)(hq:Rec w5 nb 84 xs)(ho:w5.ownsRow b 32 1 v' (d.f.length+1) (QYW d.f++[.int .u64 z])):ZEV (w5.setCell ⟨nb,j,none⟩ u) b v1 v' v3 ⟨d.p,d.f++[z],d.k⟩:=by
 have h1:=Zs2 h.o1 t (λg hg e=>YnK h.o1 h.o2 (by decide) hg e rfl);have h3:=Zs2 h.o3 t (λg hg e=>hne g e hg);refine⟨VDR h1 u (λg hg=>YnK h1 hq (by decide) hg rfl),?_,VDR h3 u (λg hg=>YnK h3 hq (by decide) hg rfl)⟩;have:=VDR (j:=j) ho u (λg hg=>YnK ho hq (by decide) hg rfl)
 show World.ownsRow _ b _ 1 v' (d.f++[z]).length (QYW (d.f++[z]))
 unfold QYW;rw[ζi,ζw];exact this
theorem ZEV.push3{z:Nat}(h:ZEV w b v1 v2 v3 d)(hne:∀k,v2.ownBlock=some k->v3.ownBlock≠some k)(t:XF4 (λk=>v3.ownBlock=some k) w w5)(hq:Rec w5 nb 84 xs)(ho:w5.ownsRow b 32 1 v' (d.k.length+1) (QYW d.k++[.int .u64 z])):ZEV (w5.setCell ⟨nb,j,none⟩ u) b v1 v2 v' ⟨d.p,d.f,d.k++[z]⟩:=by
 have h1:=Zs2 h.o1 t (λg hg e=>YnK h.o1 h.o3 (by decide) hg e rfl);have h2:=Zs2 h.o2 t (λg hg e=>hne g hg e);refine⟨VDR h1 u (λg hg=>YnK h1 hq (by decide) hg rfl),VDR h2 u (λg hg=>YnK h2 hq (by decide) hg rfl),?_⟩;have:=VDR (j:=j) ho u (λg hg=>YnK ho hq (by decide) hg rfl)
 show World.ownsRow _ b _ 1 v' (d.k++[z]).length (QYW (d.k++[z]))
 unfold QYW;rw[ζi,ζw];exact this
end
section
variable {w w':World} {r C:Nat} {g:Gph} {lv:Value} {sb:Nat} {B:Nat->Nat} {S:Nat->Prop}
theorem Q19(h:XW7 w r C g lv sb B):Calls prog 14 #[.pointer (some ⟨r,0,none⟩)] w (QdY w g):=by
 obtain⟨ii,hii,hi0,hi1,hi2⟩:=info_parts JTC;obtain⟨iu,hiu,hu0,hu1,hu2⟩:=info_parts XcB;obtain⟨io,hio,ho0,ho1,ho2⟩:=info_parts JaM;have H:=hid h;have HOK:=hid (Zeq g.pts g.L.length g.S);have hal:g.all.length<=1000:=γ (Jcu h.ok) h.len;have hG2:Gr w ((w.alloc (.cells #[.slice none 0 0,.slice none 0 0] 49)).alloc (.cells #[.slice none 0 0,.slice none 0 0] 49)):=((Gr.refl w).alloc _).alloc _;have r0:=(Rec.new w 49 [.slice none 0 0,.slice none 0 0]).gr ((Gr.refl _).alloc (.cells #[.slice none 0 0,.slice none 0 0] 49));have r1:=Rec.new (w.alloc (.cells #[.slice none 0 0,.slice none 0 0] 49)) 49 [.slice none 0 0,.slice none 0 0];rw[τ]at r1;have hsz:w.heap.size+2<=((w.alloc (.cells #[.slice none 0 0,.slice none 0 0] 49)).alloc (.cells #[.slice none 0 0,.slice none 0 0] 49)).heap.size:=by simp
 obtain⟨w2,hw2⟩:∃w2,w2=(w.alloc (.cells #[.slice none 0 0,.slice none 0 0] 49)).alloc (.cells #[.slice none 0 0,.slice none 0 0] 49):=⟨_,rfl⟩;rw[<-hw2]at hG2 hsz
 replace r0:Rec w2 w.heap.size 49 [.slice none 0 0,.slice none 0 0]:=by rw[hw2];exact r0
 replace r1:Rec w2 (w.heap.size+1) 49 [.slice none 0 0,.slice none 0 0]:=by rw[hw2];exact r1
 have HRE:=hid (Yzm (h.gr hG2));unfold JHZ at HRE;have HG2:=hid hG2;have HW2:=hid hw2;have HR0:=hid r0;have HR1:=hid r1;have HSZ2:=hid hsz;obtain⟨na,hna⟩:∃na,na=g.all.length:=⟨_,rfl⟩;rw[<-hna]at HRE hal;have HNA:=hid hna;clear h hG2 r0 r1 hsz hw2 hna;go_enter func14,ntmps14;go_upto_region 2 with(fail);rw[<-HW2.o];clear HW2;go_upto_region 3 with(go_at_call 10;refine HRE.o.mono ?_;rintro e w1 ⟨RA,rc,rfl,hg1,ho1⟩;have HG1:=hid hg1;have HO1:=hid ho1;clear hg1 ho1);obtain⟨q,hq⟩:∃q,q=w.heap.size+1:=⟨_,rfl⟩;rw[<-hq]at HR1⊢;have HQ:=hid hq;clear hq HRE;have hsn:=H.o.sn;obtain⟨R,hR⟩:∃R,R=g.S.length:=⟨_,rfl⟩;have HRL:=hid hR;rw[<-hR]at hsn;clear hR;have HLT:Hid (r<w.heap.size/\sb<w.heap.size):=⟨⟨H.o.row.lt,H.o.sl.lt⟩⟩;have HGW:=hid (HG2.o.trans HG1.o);have HR1w:=hid (HR1.o.gr HG1.o);have HQ1:Hid (q<w1.heap.size/\w.heap.size+2<=w2.heap.size/\w2.heap.size<=w1.heap.size):=⟨⟨HR1w.o.lt,HSZ2.o,HG1.o.size⟩⟩
 have HT1:Hid (∀W,XF4 (λk=>k=q\/w1.heap.size<=k) w1 W->XW7 W r C g lv sb B/\W.ownsRow w2.heap.size 3 1 (.slice RA na rc) na (ZKn g.all)):=⟨λW t=>by
  have e:=HQ.o;have e1:=HQ1.o;have h1:=H.o.gr HGW.o;have hgl:=HGW.o.size
  exact⟨h1.touch t (by have:=HLT.o;omega) (by have:=HLT.o;omega) (λk hk=>by have:=(Vvr h1.own hk).2;have:=(Vvr H.o.own hk).2;omega) (λi hi=>by have:=(H.o.wr i hi).lt;omega),Zs2 HO1.o t (λk hk=>by have:=Vvr HO1.o hk;omega)⟩⟩
 have HC:Hid (∀W,XF4 (λk=>k=q\/w1.heap.size<=k) w1 W->W.cell? ⟨r,2,none⟩=some (.slice (some ⟨sb,0,none⟩) R R)/\r<W.heap.size/\sb<W.heap.size):=⟨λW t=>by
  have h2:=(HT1.o W t).1
  exact⟨by rw[HRL.o];exact h2.row.cell (j:=2) rfl,h2.row.lt,h2.sl.lt⟩⟩
 have HPL:Hid (∀W,XF4 (λk=>k=q\/w1.heap.size<=k) w1 W->∀y:Nat,Calls prog 33 #[.slice RA na rc,.int .i64 y] W λe w'=>e=.returned (.int .i64 (plL g.all y))/\Gr W w'):=⟨λW t y=>by
  have:=Zag (c:=rc) (V0H (HT1.o W t).2 HNA.o) (by rw[<-HNA.o];omega) HOK.o.2 y;rw[<-HNA.o]at this
  exact this.mono λe w' h=>⟨h.1,Gr.of_eq h.2⟩⟩
 go_wp2
 go_loopw [6] (λs6 wr=>∃(i:Nat) (vR:Value),i<=R/\s6=.int .i64 i/\Hid (XF4 (λk=>k=q\/w1.heap.size<=k) w1 wr)/\Hid (Rec wr q 49 [vR,.slice none 0 0])/\Hid (wr.ownsRow w1.heap.size 3 1 vR i (plV g.all (g.S.take i)))) (λs6 _=>R-(intOf s6).toNat)
 case atStart=>exact⟨0,_,ζb _,rfl,⟨XF4.refl _ _⟩,HR1w,⟨Vm9 _ _ _ _⟩⟩
 case round=>
  obtain⟨i,vR,hi,rfl,HT,HQR,HO⟩:=hrel;obtain⟨A,rcp,rfl,hc1,hc2⟩:=ZfN HO.o;unfold maxLen at hc2;obtain⟨c2,lr,ls⟩:=HC.o _ HT.o;by_cases hlast:i<R
  ·have hil:i<g.S.length:=by rw[<-HRL.o];exact hlast
   have e0:=(HT1.o _ HT.o).1.slot hil
   have HTK:Hid (plV g.all (g.S.take (i+1))=plV g.all (g.S.take i)++[.int .i64 (plL g.all (g.S.getD i 0))]):=⟨by
    rw[ZUa _ hil];unfold plV;rw[ζw];rfl⟩
   have HP:=hid (λW (gW:Gr wr W)=>HPL.o W (HT.o.trans (gW.touch _)) (g.S.getD i 0));generalize plL g.all (g.S.getD i 0)=z at HTK HP;generalize g.S.getD i 0=y at e0 HP;have hiI:(i:Int)<(R:Int):=Ω
   have HI:=hid hlast;have HX:=hid (λ(W:World) (gW:Gr wr W)=>ζp ((gW.cell lr 2).trans c2) ((gW.cell ls i).trans e0))
   have HY:Hid (∀w3,Gr wr w3->∀w5,XF4 (λk=>(Value.slice A i rcp).ownBlock=some k) w3 w5->w5.cell? ⟨r,2,none⟩=some (.slice (some ⟨sb,0,none⟩) R R)/\w5.cell? ⟨sb,i,none⟩=some (.int .i64 y)):=⟨λw3 g3 w5 t5=>by
    have hb:∀k,k<w.heap.size->¬(Value.slice A i rcp).ownBlock=some k:=λk hk e=>by
     have:=(Vvr HO.o e).1;have:=HQ1.o;omega
    have l1:=ζa lr g3.size;have l2:=ζa ls g3.size
    exact⟨((t5.cell l1 (hb _ HLT.o.1) 2).trans (g3.cell lr 2)).trans c2,((t5.cell l2 (hb _ HLT.o.2) i).trans (g3.cell ls i)).trans e0⟩⟩
   have HLE:Hid (w1.heap.size<=wr.heap.size):=⟨HT.o.size⟩;clear hlast hil hi;go_upto_region 6 with(fail);clear c2 e0 lr ls;obtain⟨Sx,hSx⟩:∃Sx:World->Prop,Sx=λW'=>Rec W' q 49 [.slice A i rcp,.slice none 0 0]/\W'.cell? ⟨r,2,none⟩=some (.slice (some ⟨sb,0,none⟩) R R)/\W'.cell? ⟨sb,i,none⟩=some (.int .i64 y):=⟨_,rfl⟩;have y1:∀p:ZJV Sx,p.w.cell? ⟨q,0,none⟩=some (.slice A i rcp):=λp=>by have h:=ZJV.get hSx p;exact h.1.cell (j:=0) rfl
   have y2:∀p:ZJV Sx,p.w.cell? ⟨r,2,none⟩=some (.slice (some ⟨sb,0,none⟩) R R):=λp=>by have h:=ZJV.get hSx p;exact h.2.1
   have y3:∀p:ZJV Sx,p.w.cell? ⟨sb,i,none⟩=some (.int .i64 y):=λp=>by have h:=ZJV.get hSx p;exact h.2.2
   have HS:Hid (∀W',Rec W' q 49 [.slice A i rcp,.slice none 0 0]/\W'.cell? ⟨r,2,none⟩=some (.slice (some ⟨sb,0,none⟩) R R)/\W'.cell? ⟨sb,i,none⟩=some (.int .i64 y)->Sx W'):=⟨λW' h=>by rw[hSx];exact h⟩;have hS0:=HS.o _ (⟨HQR.o.gr (Gr.refl wr).drew,HX.o _ (Gr.refl wr).drew⟩);have inst:Inhabited (ZJV Sx):=⟨⟨_,hS0⟩⟩;clear hSx;refine Vv2 Sx 14 [([0,1,2,3,4,5,6,7,8,9],10),([],11),([],12),([13],14)] [] (by kernel_rfl) (by kernel_rfl) hS0 ?_;refine XGW ?_
   try simp only[XZy,ξ,ζ]
   repeat(go_big_quiet_step (fail))
   refine φ ?_;go_wp2_with((go_at_call 33;refine(HP.o _ (Gr.refl wr).drew).mono ?_;rintro e w3 ⟨rfl,hg⟩;have HG3:Hid (Gr wr w3):=⟨(Gr.refl wr).drew.trans hg⟩;clear hg));refine⟨.inr (ZJV.of (HS.o _ (⟨HQR.o.gr HG3.o,HX.o _ HG3.o⟩))),?_⟩;refine XGW ?_
   try simp only[XZy,ξ,ζ]
   repeat(go_big_quiet_step (fail))
   refine φ ?_;go_wp2_with((fail));refine⟨.inr (ZJV.of (HS.o _ (⟨HQR.o.gr (HG3.o.alloc _),HX.o _ (HG3.o.alloc _)⟩))),?_⟩
   try simp only[Act.put,ψ,ϑ,κ]
   refine XGW ?_
   try simp only[XZy,ξ,ζ]
   repeat(go_big_quiet_step (fail))
   refine φ ?_;go_wp2_with((at_builtin;refine wpList_append_lies _ rfl _ _ 41 rfl w1.heap.size 3 ii _ 1 8 underlying41 hii hi0 hi1 hi2 rfl (by decide) (.slice A i rcp) i (plV g.all (g.S.take i)) rfl (Y9I HO.o (HG3.o.alloc _)) ⟨w3.heap.size,0,none⟩ 1 1 [.int .i64 z] rfl rfl (β (cs:=#[.int .i64 z]) (t:=3) (fr:=(0,0)) (heap_alloc_new w3 (.cells #[.int .i64 z] 3))) (by simp[Value.oneCell']) Ω (by unfold maxLen;omega) Ω (by have:=HLE.o;have:=HG3.o.size;rw[τ];omega) (w3.heap.size+1) (by simp) ?_;intro g5 c5 w5 hown5 hgrow5 hat5 hlt5;have t5:XF4 (λk=>(Value.slice A i rcp).ownBlock=some k) w3 w5:=(((Gr.refl _).alloc _).touch _).trans (VxQ hgrow5 _ (λk e _=>e));have HT5:=hid t5;have HO5:=hid hown5;have HR5:=hid ((HQR.o.gr HG3.o).touch t5 (λe=>YnK (Y9I HO.o HG3.o) (HQR.o.gr HG3.o) (by decide) e rfl rfl));have z1:=HR5.o.cell (j:=0) rfl;have zf:=HR5.o.free 0;have z2:=HY.o _ HG3.o w5 t5;clear hown5 hgrow5 hat5 hlt5 t5));refine⟨.inr (ZJV.of (HS.o _ (⟨HR5.o,z2⟩))),?_⟩
   try simp only[Act.put,ψ,ϑ,κ]
   refine XGW ?_
   try simp only[XZy,ξ,ζ]
   repeat(go_big_quiet_step (fail))
   refine φ ?_;go_wp2;refine⟨.inl trivial,?_⟩;refine Z9U ?_;refine φ ?_;refine δ ?_;clear y1 y2 y3 hS0 inst;clear HS Sx;have HTW:Hid (XF4 (λk=>k=q\/w1.heap.size<=k) w1 (w5.setCell ⟨q,0,none⟩ (.slice (some ⟨g5,0,none⟩) (i+1) c5))):=⟨(((HT.o.trans (HG3.o.touch _)).trans (HT5.o.mono (λk _ h=>.inr (Vvr HO.o h).1))).trans ((Vzf w5 q 0 _).mono (λk _ h=>.inl h)))⟩;have HRW:Hid (Rec (w5.setCell ⟨q,0,none⟩ (.slice (some ⟨g5,0,none⟩) (i+1) c5)) q 49 [.slice (some ⟨g5,0,none⟩) (i+1) c5,.slice none 0 0]):=⟨HR5.o.set 0 _⟩
   have HOW:Hid ((w5.setCell ⟨q,0,none⟩ (.slice (some ⟨g5,0,none⟩) (i+1) c5)).ownsRow w1.heap.size 3 1 (.slice (some ⟨g5,0,none⟩) (i+1) c5) (i+1) (plV g.all (g.S.take (i+1)))):=⟨by
    rw[HTK.o]
    exact VDR HO5.o _ (λg hg=>YnK HO5.o HR5.o (by decide) hg rfl)⟩
   generalize w5.setCell ⟨q,0,none⟩ (.slice (some ⟨g5,0,none⟩) (i+1) c5)=w6 at HTW HRW HOW⊢;clear z1 zf z2;go_wp2;go_round
   case rel=>exact⟨i+1,_,HI.o,by go_num,HTW,HRW,HOW⟩
   case measure=>have:=HI.o;simp[intOf];omega
  ·have hiI:¬(i:Int)<(R:Int):=Ω
   obtain rfl:i=R:=Ω
   have HOR:Hid (wr.ownsRow w1.heap.size 3 1 (.slice A i rcp) i (plV g.all g.S)):=⟨by
    have:=HO.o;rw[HRL.o,ζS,<-HRL.o]at this
    exact this⟩
   have HT3:=hid HT.o;have HQ3:=hid HQR.o;clear hlast hi HO HT HQR hc1 HC;go_wp2;clear c2 lr ls
   go_loopw [7] (λs7 wr=>∃(n:Nat) (vN:Value),n<=na/\s7=.int .i64 n/\Hid (XF4 (λk=>k=q\/w1.heap.size<=k) w1 wr)/\Hid (Rec wr q 49 [.slice A i rcp,vN])/\Hid (wr.ownsRow w1.heap.size 3 1 (.slice A i rcp) i (plV g.all g.S))/\Hid (VIG wr w1.heap.size vN ((g.all.take n).map g.ndD))) (λs7 _=>na-(intOf s7).toNat)
   case atStart=>exact⟨0,_,ζb _,rfl,HT3,HQ3,HOR,⟨VIG.nil _ _⟩⟩
   case round=>
    clear HT3 HQ3 HOR;obtain⟨n,vN,hn,rfl,HT,HQR,HO,HN⟩:=hrel;by_cases hlast:n<na
    ·have hnT:n<g.all.length:=by rw[<-HNA.o];exact hlast
     have h2:=(HT1.o _ HT.o).1;have ho2:=(HT1.o _ HT.o).2;obtain⟨b,tc',ea,-,-,-,hbl⟩:=YTP ho2 Ω;simp only[Value.slice.injEq]at ea;obtain⟨rfl,-,rfl⟩:=ea;have k0:=XAn ho2 (Ypr hnT);have hx:=H.o.ok.rd (H.o.ok.mem_all.1 (QmW hnT));have HND:Hid ((g.all.take (n+1)).map g.ndD=(g.all.take n).map g.ndD++[g.ndD (g.all.getD n 0)]):=⟨by rw[ZUa _ hnT,ζw];rfl⟩;obtain⟨x,hxe⟩:∃x,x=g.all.getD n 0:=⟨_,rfl⟩;rw[<-hxe]at k0 hx HND;clear hxe;obtain⟨hx1,hx2⟩:=hx;obtain⟨lb,c,j,rfl,rfl,hj,hlb,q0,q1,q2,q3,q4,hwl,hws⟩:=h2.obj hx1 hx2;have HNK:=hid (Xjo g (j+1) hwl)
     have HZB:Hid (∀k,k<(g.ob (j+1)).p->(g.ob (j+1)).w.getD k 0<=1000):=⟨λk hk=>by
      have hm:(g.ob (j+1)).w.getD k 0∈g.pts (j+1):=by
       unfold Gph.pts;rw[θ,μ Ω,ξb];exact ξn.2 ⟨k,by omega,rfl⟩
      have:=H.o.ok.pts_le hm;have:=H.o.len
      omega⟩
     have hyI:((j+1:Nat):Int)-1=(j:Int):=Ω
     have hyl:(j:Int)<(g.L.length:Int):=Ω
     generalize g.ndD (j+1)=nd at HND HNK;generalize (g.ob (j+1)).w=ww at q3 q4 HZB HNK hwl;generalize (g.ob (j+1)).p=pp at q0 HZB HNK hwl hws;generalize (g.ob (j+1)).f=ff at q1 HNK hwl hws;generalize (g.ob (j+1)).k=kk at q2 hwl hws;have hnI:(n:Int)<(na:Int):=Ω
     have HLA:=hid hlast;have hwl2:ww.length<=255:=Ω
     have HWL:=hid hwl;have HBY:Hid (B j<w.heap.size):=⟨(H.o.wr j hj).lt⟩;clear hx1 hx2 hlast hnT hwl hj ho2;generalize hlw:ww.length=wl at q3 hwl2 HWL HNK;have HLW:=hid hlw;clear hlw;have HCC:Hid (∀W,Gr wr W->W.cell? ⟨r,1,none⟩=some (.slice (some ⟨lb,0,none⟩) g.L.length c)/\W.cell? ⟨b,n,none⟩=some (.int .i64 ((j+1:Nat):Int))/\W.cell? ⟨lb,j*4,none⟩=some (.int .i64 pp)/\W.cell? ⟨lb,j*4+1,none⟩=some (.int .i64 ff)/\W.cell? ⟨lb,j*4+2,none⟩=some (.int .i64 kk)/\W.cell? ⟨lb,j*4+3,none⟩=some (.slice (some ⟨B j,0,none⟩) wl wl)):=⟨λW gW=>⟨(gW.cell h2.row.lt 1).trans (h2.row.cell (j:=1) rfl),(gW.cell hbl n).trans k0,(gW.cell hlb _).trans q0,(gW.cell hlb _).trans q1,(gW.cell hlb _).trans q2,(gW.cell hlb _).trans q3⟩⟩;have HQ4:=hid q4;have hln:=H.o.len;generalize hsI:((j+1:Nat):Int)=sI at HCC hyI k0;clear hsI k0 q0 q1 q2 q3 h2 hbl hlb q4;generalize hnl:g.L.length=nl at HCC hyl hln;clear hnl;have hzr:=Rec.new wr.drew 74 [.int .i64 0,.int .i64 0,.int .i64 0,.slice none 0 0];have z0:=hzr.cell (j:=0) rfl;have z1:=hzr.cell (j:=1) rfl;have z2:=hzr.cell (j:=2) rfl;have z3:=hzr.cell (j:=3) rfl;have zf:=hzr.free;clear hzr;go_upto_region 10 with(fail);obtain⟨Sx,hSx⟩:∃Sx:World->Prop,Sx=λW'=>Gr wr W':=⟨_,rfl⟩;have y1:∀p:ZJV Sx,p.w.cell? ⟨r,1,none⟩=some (.slice (some ⟨lb,0,none⟩) nl c):=λp=>by have h:=ZJV.get hSx p;exact(HCC.o _ h).1
     have y2:∀p:ZJV Sx,p.w.cell? ⟨b,n,none⟩=some (.int .i64 sI):=λp=>by have h:=ZJV.get hSx p;exact(HCC.o _ h).2.1
     have y3:∀p:ZJV Sx,p.w.cell? ⟨lb,j*4,none⟩=some (.int .i64 pp):=λp=>by have h:=ZJV.get hSx p;exact(HCC.o _ h).2.2.1
     have y4:∀p:ZJV Sx,p.w.cell? ⟨lb,j*4+1,none⟩=some (.int .i64 ff):=λp=>by have h:=ZJV.get hSx p;exact(HCC.o _ h).2.2.2.1
     have y5:∀p:ZJV Sx,p.w.cell? ⟨lb,j*4+2,none⟩=some (.int .i64 kk):=λp=>by have h:=ZJV.get hSx p;exact(HCC.o _ h).2.2.2.2.1
     have y6:∀p:ZJV Sx,p.w.cell? ⟨lb,j*4+3,none⟩=some (.slice (some ⟨B j,0,none⟩) wl wl):=λp=>by have h:=ZJV.get hSx p;exact(HCC.o _ h).2.2.2.2.2
     have HS:Hid (∀W',Gr wr W'->Sx W'):=⟨λW' h=>by rw[hSx];exact h⟩;have hS0:=HS.o _ ((Gr.refl wr).drew);have inst:Inhabited (ZJV Sx):=⟨⟨_,hS0⟩⟩;clear hSx;refine Vv2 Sx 12 [([0,1,2,3,4,5,6,7,8,9,10],11),([],12)] [] (by kernel_rfl) (by kernel_rfl) hS0 ?_;refine XGW ?_
     try simp only[XZy,ξ,ζ]
     repeat(go_big_quiet_step (fail))
     refine φ ?_;go_wp2_with((fail));refine⟨.inr (ZJV.of (HS.o _ ((Gr.refl wr).drew.alloc _))),?_⟩;refine XGW ?_
     try simp only[XZy,ξ,ζ]
     repeat(go_big_quiet_step (fail))
     refine φ ?_;go_wp2;refine⟨.inl trivial,?_⟩;refine Z9U ?_;refine φ ?_;refine δ ?_;clear y1 y2 y3 y4 y5 y6 hS0 inst;clear HS Sx;clear z0 z1 z2 z3 zf;have hrx:Rec (wr.alloc (.cells #[.int .i64 pp,.int .i64 ff,.int .i64 kk,.slice (some ⟨B j,0,none⟩) wl wl] 74)).drew wr.heap.size 74 [.int .i64 pp,.int .i64 ff,.int .i64 kk,.slice (some ⟨B j,0,none⟩) wl wl]:=(Rec.new wr 74 [.int .i64 pp,.int .i64 ff,.int .i64 kk,.slice (some ⟨B j,0,none⟩) wl wl]).gr (Gr.refl _).drew;have hgx:Gr wr (wr.alloc (.cells #[.int .i64 pp,.int .i64 ff,.int .i64 kk,.slice (some ⟨B j,0,none⟩) wl wl] 74)).drew:=((Gr.refl wr).alloc _).drew;obtain⟨wz,hwz⟩:∃wz,wz=(wr.alloc (.cells #[.int .i64 pp,.int .i64 ff,.int .i64 kk,.slice (some ⟨B j,0,none⟩) wl wl] 74)).drew:=⟨_,rfl⟩;rw[<-hwz]at hrx hgx⊢;obtain⟨ob,hob⟩:∃ob,ob=wr.heap.size:=⟨_,rfl⟩;rw[<-hob]at hrx⊢;have hrn:=Rec.new wz 84 [.slice none 0 0,.slice none 0 0,.slice none 0 0];have hgn:Gr wz (wz.alloc (.cells #[.slice none 0 0,.slice none 0 0,.slice none 0 0] 84)):=(Gr.refl wz).alloc _;obtain⟨nb,hnb⟩:∃nb,nb=wz.heap.size:=⟨_,rfl⟩;rw[<-hnb]at hrn;have HBN:Hid (w1.heap.size<=nb/\ob<nb/\wr.heap.size<=nb):=⟨by have:=HT.o.size;have:=hrx.lt;have:=hgx.size;omega⟩;have HNB:=hid hnb;obtain⟨wo,hwo⟩:∃wo,wo=wz.alloc (.cells #[.slice none 0 0,.slice none 0 0,.slice none 0 0] 84):=⟨_,rfl⟩;have hrn:Rec wo nb 84 [.slice none 0 0,.slice none 0 0,.slice none 0 0]:=by rw[hwo];exact hrn
     have hgo:Gr wr wo:=by rw[hwo];exact hgx.trans hgn
     have hro:Rec wo ob 74 [.int .i64 pp,.int .i64 ff,.int .i64 kk,.slice (some ⟨B j,0,none⟩) wl wl]:=by rw[hwo];exact hrx.gr hgn
     have HRNo:=hid hrn;have HROo:=hid hro;have HGO:=hid hgo;have HTo:=hid (HT.o.trans (hgo.touch _));have HWO:=hid hwo;have HNBo:Hid (nb<wo.heap.size):=⟨hrn.lt⟩
     have HW3:Hid (∀W,XF4 (λk=>k=nb\/wo.heap.size<=k) wo W->Rec W ob 74 [.int .i64 pp,.int .i64 ff,.int .i64 kk,.slice (some ⟨B j,0,none⟩) wl wl]/\XF4 (λk=>k=q\/w1.heap.size<=k) w1 W/\Gr wr W/\B j<W.heap.size/\∀k,k<wl->W.cell? ⟨B j,k,none⟩=some (.int .u64 (ww.getD k 0:Nat))):=⟨λW t=>by
      have e1:=HBN.o;have e2:=HNBo.o;have e3:=HROo.o.lt;have e4:=HQ4.o.gr HGO.o;have e5:=HBY.o;have e6:=HGW.o.size;have e7:=HT.o.size;refine⟨HROo.o.touch t Ω,HTo.o.trans (t.mono (λk hk h=>.inr Ω)),((HGO.o.touch (λ_=>False)).trans' t (λk hk h=>by have e8:=HGO.o.size;omega)).gr,ζa e4.lt t.size,λk hk=>?_⟩
      exact(t.cell e4.lt (by have:=e4.lt;omega) k).trans (e4.cell (YGR (by rw[HLW.o];exact hk)))⟩
     clear hwz hob hrx hgx hrn hgn hgo hro hwo HCC hnb HQ4;go_upto_region 12 with(fail);rw[<-HWO.o,<-HNB.o];clear HWO HNB;go_wp2;have hwlb:=hwl2
     go_loopw [10] (λs10 wr=>∃(k:Nat) (v1 v2 v3:Value),k<=wl/\s10=.int .i64 k/\Hid (XF4 (λj=>j=nb\/wo.heap.size<=j) wo wr)/\Hid (Rec wr nb 84 [v1,v2,v3])/\Hid (ZEV wr wo.heap.size v1 v2 v3 (ndK g.all ww pp ff k))/\Hid (∀j,v2.ownBlock=some j->v3.ownBlock≠some j)) (λs10 _=>wl-(intOf s10).toNat)
     case atStart=>exact⟨0,_,_,_,ζb _,rfl,⟨XF4.refl _ _⟩,HRNo,⟨by rw[QrH];exact⟨Vm9 _ _ _ _,Vm9 _ _ _ _,Vm9 _ _ _ _⟩⟩,⟨λj e=>by cases e⟩⟩
     case round=>
      obtain⟨k,v1,v2,v3,hk,rfl,HTV,HRN,HNO,HNE⟩:=hrel;obtain⟨A1,c1,rfl,hm1,hx1⟩:=ZfN HNO.o.o1;obtain⟨A2,c2,rfl,hm2,hx2⟩:=ZfN HNO.o.o2;obtain⟨A3,c3,rfl,hm3,hx3⟩:=ZfN HNO.o.o3;unfold maxLen at hx1 hx2 hx3;have hkl:=ZBn g.all ww pp ff k;have hro:=(HW3.o _ HTV.o).1;have HLEo:Hid (wo.heap.size<=wr.heap.size):=⟨HTV.o.size⟩;by_cases hkw:k<wl
      ·have hkwI:(k:Int)<(wl:Int):=Ω
       have hkww:k<ww.length:=by rw[HLW.o];exact hkw
       obtain⟨-,HTP,-,hbw,hcw⟩:=HW3.o _ HTV.o;have e0:=hcw k hkw;have HKK:=hid hkw;have HRO:=hid hro;have HX:=hid (λ(W:World) (gW:Gr wr W)=>(gW.cell hbw k).trans e0);have HTPP:=hid HTP
       have hbo:∀{g5:Nat},wo.heap.size<=g5->g5≠B j/\g5≠ob:=λ{g5} hg=>by
        have e2:=HNBo.o;have e1:=HBN.o;have e5:=HBY.o;have e6:=HGW.o.size;have e7:=HQ1.o;omega
       have HBO:=hid @hbo;have HYK:Hid (∀v:Value,(∀g5,v.ownBlock=some g5->wo.heap.size<=g5)->∀w3,Gr wr w3->∀w5,XF4 (λk=>v.ownBlock=some k) w3 w5->Rec w5 ob 74 [.int .i64 pp,.int .i64 ff,.int .i64 kk,.slice (some ⟨B j,0,none⟩) wl wl]/\w5.cell? ⟨B j,k,none⟩=some (.int .u64 (ww.getD k 0:Nat))):=⟨λv hv w3 g3 w5 t5=>⟨(HRO.o.gr g3).touch t5 (λe=>(HBO.o (hv _ e)).2 rfl),(t5.cell (ζa hbw g3.size) (λe=>(HBO.o (hv _ e)).1 rfl) k).trans (HX.o _ g3)⟩⟩;have HY1:=hid (HYK.o _ (λg5 e=>(Vvr HNO.o.o1 e).1));have HY2:=hid (HYK.o _ (λg5 e=>(Vvr HNO.o.o2 e).1));have HY3:=hid (HYK.o _ (λg5 e=>(Vvr HNO.o.o3 e).1));clear HYK hbo hcw;by_cases hkp:k<pp
       ·have hkpI:(k:Int)<(pp:Int):=Ω
        have hzb:=HZB.o k hkp;have HD:=hid (Yg9 (al:=g.all) (f:=ff) hkp hkww);have HP:=hid (λW (gW:Gr wr W)=>HPL.o W (HTPP.o.trans (gW.touch _)) (ww.getD k 0));generalize plL g.all (ww.getD k 0)=z at HD HP;generalize ww.getD k 0=y at e0 HP HX hzb HY1 HY2 HY3;obtain⟨⟨d1,d2,d3⟩,hdd⟩:∃d,d=ndK g.all ww pp ff k:=⟨_,rfl⟩;rw[<-hdd]at hkl HNO HD hm1 hm2 hm3 HRN HY1 HY2 HY3 HNE;dsimp only at hkl HNO HD hm1 hm2 hm3 HRN HY1 HY2 HY3 HNE;obtain⟨hn1,hn2,hn3⟩:=hkl;have HOW1:=hid HNO.o.o1;have HOW2:=hid HNO.o.o2;have HOW3:=hid HNO.o.o3;dsimp only at HOW1 HOW2 HOW3
        have HPS:Hid (∀w3 w5 g5 c5,Gr wr w3->XF4 (λk=>(Value.slice A1 d1.length c1).ownBlock=some k) w3 w5->Rec w5 nb 84 [.slice A1 d1.length c1,.slice A2 d2.length c2,.slice A3 d3.length c3]->w5.ownsRow wo.heap.size 3 1 (.slice (some ⟨g5,0,none⟩) (d1.length+1) c5) (d1.length+1) (XlA d1++[.int .i64 z])->ZEV (w5.setCell ⟨nb,0,none⟩ (.slice (some ⟨g5,0,none⟩) (d1.length+1) c5)) wo.heap.size (.slice (some ⟨g5,0,none⟩) (d1.length+1) c5) (.slice A2 d2.length c2) (.slice A3 d3.length c3) (ndK g.all ww pp ff (k+1))):=⟨λw3 w5 g5 c5 g3 t5 hr5 ho5=>by
         rw[HD.o]
         exact(HNO.o.gr g3).push1 t5 hr5 ho5⟩
        generalize d1.length=n1 at HRN HPS hn1 HY1 HOW1 hm1;generalize d2.length=n2 at HRN HPS hn2 HY2 HOW2 hm2 HNE;generalize d3.length=n3 at HRN HPS hn3 HY3 HOW3 hm3 HNE;clear HNO hdd hkww;have o0:=hro.cell (j:=0) rfl;have o1:=hro.cell (j:=1) rfl;have o3:=hro.cell (j:=3) rfl;have ol:=hro.lt;clear hkp hkw hk hbw hro HTP;go_upto_region 16 with(fail);clear o0 o1 o3 ol;obtain⟨Sx,hSx⟩:∃Sx:World->Prop,Sx=λW'=>Rec W' nb 84 [.slice A1 n1 c1,.slice A2 n2 c2,.slice A3 n3 c3]/\Rec W' ob 74 [.int .i64 pp,.int .i64 ff,.int .i64 kk,.slice (some ⟨B j,0,none⟩) wl wl]/\W'.cell? ⟨B j,k,none⟩=some (.int .u64 y):=⟨_,rfl⟩;have y1:∀p:ZJV Sx,p.w.cell? ⟨nb,0,none⟩=some (.slice A1 n1 c1):=λp=>by have h:=ZJV.get hSx p;exact h.1.cell (j:=0) rfl
        have y2:∀p:ZJV Sx,p.w.cell? ⟨ob,3,none⟩=some (.slice (some ⟨B j,0,none⟩) wl wl):=λp=>by have h:=ZJV.get hSx p;exact h.2.1.cell (j:=3) rfl
        have y3:∀p:ZJV Sx,p.w.cell? ⟨B j,k,none⟩=some (.int .u64 y):=λp=>by have h:=ZJV.get hSx p;exact h.2.2
        have HS:Hid (∀W',Rec W' nb 84 [.slice A1 n1 c1,.slice A2 n2 c2,.slice A3 n3 c3]/\Rec W' ob 74 [.int .i64 pp,.int .i64 ff,.int .i64 kk,.slice (some ⟨B j,0,none⟩) wl wl]/\W'.cell? ⟨B j,k,none⟩=some (.int .u64 y)->Sx W'):=⟨λW' h=>by rw[hSx];exact h⟩;have hS0:=HS.o _ (⟨HRN.o.gr (Gr.refl wr).drew,HRO.o.gr (Gr.refl wr).drew,HX.o _ (Gr.refl wr).drew⟩);have inst:Inhabited (ZJV Sx):=⟨⟨_,hS0⟩⟩;clear hSx;refine Vv2 Sx 13 [([0,1,2,3,4,5,6,7,8],9),([],10),([],11),([12],13)] [] (by kernel_rfl) (by kernel_rfl) hS0 ?_;refine XGW ?_
        try simp only[XZy,ξ,ζ]
        repeat(go_big_quiet_step (fail))
        refine φ ?_;go_wp2_with((go_at_call 33;refine(HP.o _ (Gr.refl wr).drew).mono ?_;rintro e w3 ⟨rfl,hg⟩;have HG3:Hid (Gr wr w3):=⟨(Gr.refl wr).drew.trans hg⟩;clear hg));refine⟨.inr (ZJV.of (HS.o _ (⟨HRN.o.gr HG3.o,HRO.o.gr HG3.o,HX.o _ HG3.o⟩))),?_⟩;refine XGW ?_
        try simp only[XZy,ξ,ζ]
        repeat(go_big_quiet_step (fail))
        refine φ ?_;go_wp2_with((fail));refine⟨.inr (ZJV.of (HS.o _ (⟨HRN.o.gr (HG3.o.alloc _),HRO.o.gr (HG3.o.alloc _),HX.o _ (HG3.o.alloc _)⟩))),?_⟩
        try simp only[Act.put,ψ,ϑ,κ]
        refine XGW ?_
        try simp only[XZy,ξ,ζ]
        repeat(go_big_quiet_step (fail))
        refine φ ?_;go_wp2_with((at_builtin;refine wpList_append_lies _ rfl _ _ 41 rfl wo.heap.size 3 ii _ 1 8 underlying41 hii hi0 hi1 hi2 rfl (by decide) (.slice A1 n1 c1) n1 (XlA d1) rfl (Y9I HOW1.o (HG3.o.alloc _)) ⟨w3.heap.size,0,none⟩ 1 1 [.int .i64 z] rfl rfl (β (cs:=#[.int .i64 z]) (t:=3) (fr:=(0,0)) (heap_alloc_new w3 (.cells #[.int .i64 z] 3))) (by simp[Value.oneCell']) Ω (by unfold maxLen;omega) Ω (by have:=HLEo.o;have:=HG3.o.size;rw[τ];omega) (w3.heap.size+1) (by simp) ?_;intro g5 c5 w5 hown5 hgrow5 hat5 hlt5;have t5:XF4 (λk=>(Value.slice A1 n1 c1).ownBlock=some k) w3 w5:=(((Gr.refl _).alloc _).touch _).trans (VxQ hgrow5 _ (λk e _=>e));have HT5:=hid t5;have HO5:=hid hown5;have HA5:=hid hat5;have HR5:=hid ((HRN.o.gr HG3.o).touch t5 (λe=>YnK (Y9I HOW1.o HG3.o) (HRN.o.gr HG3.o) (by decide) e rfl rfl));have z1:=HR5.o.cell (j:=0) rfl;have zf:=HR5.o.free 0;have z2:=HY1.o _ HG3.o w5 t5;clear hown5 hgrow5 hat5 hlt5 t5));refine⟨.inr (ZJV.of (HS.o _ (⟨HR5.o,z2⟩))),?_⟩
        try simp only[Act.put,ψ,ϑ,κ]
        refine XGW ?_
        try simp only[XZy,ξ,ζ]
        repeat(go_big_quiet_step (fail))
        refine φ ?_;go_wp2;refine⟨.inl trivial,?_⟩;refine Z9U ?_;refine φ ?_;refine δ ?_;clear y1 y2 y3 hS0 inst;clear HS Sx;have HTW:Hid (XF4 (λj=>j=nb\/wo.heap.size<=j) wo (w5.setCell ⟨nb,0,none⟩ (.slice (some ⟨g5,0,none⟩) (n1+1) c5))):=⟨(((HTV.o.trans (HG3.o.touch _)).trans (HT5.o.mono (λk _ h=>.inr (Vvr HOW1.o h).1))).trans ((Vzf w5 nb 0 _).mono (λk _ h=>.inl h)))⟩;have HRW:Hid (Rec (w5.setCell ⟨nb,0,none⟩ (.slice (some ⟨g5,0,none⟩) (n1+1) c5)) nb 84 [.slice (some ⟨g5,0,none⟩) (n1+1) c5,.slice A2 n2 c2,.slice A3 n3 c3]):=⟨HR5.o.set 0 _⟩;have HNW:=hid (HPS.o _ _ _ _ HG3.o HT5.o HR5.o HO5.o);have HEW:=hid HNE.o;generalize w5.setCell ⟨nb,0,none⟩ (.slice (some ⟨g5,0,none⟩) (n1+1) c5)=w6 at HTW HRW HNW⊢;clear z1 zf z2;go_wp2;go_round
        case rel=>exact⟨k+1,_,_,_,HKK.o,by go_num,HTW,HRW,HNW,HEW⟩
        case measure=>have:=HKK.o;simp[intOf];omega
       ·have hkpI:¬(k:Int)<(pp:Int):=Ω
        generalize hyy:ww.getD k 0=y at e0 HX HY1 HY2 HY3;by_cases hkf:k<pp+ff
        ·have hkfI:(k:Int)<(pp:Int)+(ff:Int):=Ω
         have HD:=hid (XW6 (al:=g.all) (f:=ff) (ξL hkp) hkf hkww);rw[hyy]at HD;obtain⟨⟨d1,d2,d3⟩,hdd⟩:∃d,d=ndK g.all ww pp ff k:=⟨_,rfl⟩;rw[<-hdd]at hkl HNO HD hm1 hm2 hm3 HRN HY1 HY2 HY3 HNE;dsimp only at hkl HNO HD hm1 hm2 hm3 HRN HY1 HY2 HY3 HNE;obtain⟨hn1,hn2,hn3⟩:=hkl;have HOW1:=hid HNO.o.o1;have HOW2:=hid HNO.o.o2;have HOW3:=hid HNO.o.o3;dsimp only at HOW1 HOW2 HOW3
         have HPS:Hid (∀w3 w5 g5 c5,Gr wr w3->XF4 (λk=>(Value.slice A2 d2.length c2).ownBlock=some k) w3 w5->Rec w5 nb 84 [.slice A1 d1.length c1,.slice A2 d2.length c2,.slice A3 d3.length c3]->w5.ownsRow wo.heap.size 32 1 (.slice (some ⟨g5,0,none⟩) (d2.length+1) c5) (d2.length+1) (QYW d2++[.int .u64 y])->ZEV (w5.setCell ⟨nb,1,none⟩ (.slice (some ⟨g5,0,none⟩) (d2.length+1) c5)) wo.heap.size (.slice A1 d1.length c1) (.slice (some ⟨g5,0,none⟩) (d2.length+1) c5) (.slice A3 d3.length c3) (ndK g.all ww pp ff (k+1))):=⟨λw3 w5 g5 c5 g3 t5 hr5 ho5=>by
          rw[HD.o]
          exact(HNO.o.gr g3).push2 HNE.o t5 hr5 ho5⟩
         generalize d1.length=n1 at HRN HPS hn1 HY1 HOW1 hm1;generalize d2.length=n2 at HRN HPS hn2 HY2 HOW2 hm2 HNE;generalize d3.length=n3 at HRN HPS hn3 HY3 HOW3 hm3 HNE;clear HNO hdd hkww;have o0:=hro.cell (j:=0) rfl;have o1:=hro.cell (j:=1) rfl;have o3:=hro.cell (j:=3) rfl;have ol:=hro.lt;clear hkp hkf hkw hk hbw hro HTP hyy;go_upto_region 18 with(fail);clear o0 o1 o3 ol;obtain⟨Sx,hSx⟩:∃Sx:World->Prop,Sx=λW'=>Rec W' nb 84 [.slice A1 n1 c1,.slice A2 n2 c2,.slice A3 n3 c3]/\Rec W' ob 74 [.int .i64 pp,.int .i64 ff,.int .i64 kk,.slice (some ⟨B j,0,none⟩) wl wl]/\W'.cell? ⟨B j,k,none⟩=some (.int .u64 y):=⟨_,rfl⟩;have y1:∀p:ZJV Sx,p.w.cell? ⟨nb,1,none⟩=some (.slice A2 n2 c2):=λp=>by have h:=ZJV.get hSx p;exact h.1.cell (j:=1) rfl
         have y2:∀p:ZJV Sx,p.w.cell? ⟨ob,3,none⟩=some (.slice (some ⟨B j,0,none⟩) wl wl):=λp=>by have h:=ZJV.get hSx p;exact h.2.1.cell (j:=3) rfl
         have y3:∀p:ZJV Sx,p.w.cell? ⟨B j,k,none⟩=some (.int .u64 y):=λp=>by have h:=ZJV.get hSx p;exact h.2.2
         have HS:Hid (∀W',Rec W' nb 84 [.slice A1 n1 c1,.slice A2 n2 c2,.slice A3 n3 c3]/\Rec W' ob 74 [.int .i64 pp,.int .i64 ff,.int .i64 kk,.slice (some ⟨B j,0,none⟩) wl wl]/\W'.cell? ⟨B j,k,none⟩=some (.int .u64 y)->Sx W'):=⟨λW' h=>by rw[hSx];exact h⟩;have hS0:=HS.o _ (⟨HRN.o.gr (Gr.refl wr).drew,HRO.o.gr (Gr.refl wr).drew,HX.o _ (Gr.refl wr).drew⟩);have inst:Inhabited (ZJV Sx):=⟨⟨_,hS0⟩⟩;clear hSx;refine Vv2 Sx 10 [([0,1,2,3,4,5,6],7),([],8),([9],10)] [] (by kernel_rfl) (by kernel_rfl) hS0 ?_;refine XGW ?_
         try simp only[XZy,ξ,ζ]
         repeat(go_big_quiet_step (fail))
         refine φ ?_;go_wp2_with((fail));refine⟨ZJV.of (HS.o _ (⟨HRN.o.gr ((Gr.refl wr).alloc _).drew,HRO.o.gr ((Gr.refl wr).alloc _).drew,HX.o _ ((Gr.refl wr).alloc _).drew⟩)),?_⟩
         try simp only[Act.put,ψ,ϑ,κ]
         refine XGW ?_
         try simp only[XZy,ξ,ζ]
         repeat(go_big_quiet_step (fail))
         refine φ ?_;go_wp2_with((at_builtin;refine wpList_append_lies _ rfl _ _ 72 rfl wo.heap.size 32 iu _ 1 8 underlying72 hiu hu0 hu1 hu2 rfl (by decide) (.slice A2 n2 c2) n2 (QYW d2) rfl (Y9I HOW2.o ((Gr.refl wr).alloc _).drew) ⟨wr.heap.size,0,none⟩ 1 1 [.int .u64 y] rfl rfl (β (cs:=#[.int .u64 y]) (t:=32) (fr:=(0,0)) (heap_alloc_new wr (.cells #[.int .u64 y] 32))) (by simp[Value.oneCell']) Ω (by unfold maxLen;omega) Ω (by have:=HLEo.o;have e1:=(((Gr.refl wr).alloc (.cells #[.int .u64 y] 32)).drew).size;omega) (wr.heap.size+1) (by simp) ?_;intro g5 c5 w5 hown5 hgrow5 hat5 hlt5;have t5:XF4 (λk=>(Value.slice A2 n2 c2).ownBlock=some k) wr w5:=((((Gr.refl wr).alloc _).drew).touch _).trans (VxQ hgrow5 _ (λk e _=>e));have HT5:=hid t5;have HO5:=hid hown5;have HA5:=hid hat5;have HR5:=hid (HRN.o.touch t5 (λe=>YnK HOW2.o HRN.o (by decide) e rfl rfl));have z1:=HR5.o.cell (j:=1) rfl;have zf:=HR5.o.free 1;have z2:=HY2.o _ (Gr.refl wr) w5 t5;clear hown5 hgrow5 hat5 hlt5 t5));refine⟨.inr (ZJV.of (HS.o _ (⟨HR5.o,z2⟩))),?_⟩
         try simp only[Act.put,ψ,ϑ,κ]
         refine XGW ?_
         try simp only[XZy,ξ,ζ]
         repeat(go_big_quiet_step (fail))
         refine φ ?_;go_wp2;refine⟨.inl trivial,?_⟩;refine Z9U ?_;refine φ ?_;refine δ ?_;clear y1 y2 y3 hS0 inst;clear HS Sx;have HTW:Hid (XF4 (λj=>j=nb\/wo.heap.size<=j) wo (w5.setCell ⟨nb,1,none⟩ (.slice (some ⟨g5,0,none⟩) (n2+1) c5))):=⟨(((HTV.o.trans ((Gr.refl wr).touch _)).trans (HT5.o.mono (λk _ h=>.inr (Vvr HOW2.o h).1))).trans ((Vzf w5 nb 1 _).mono (λk _ h=>.inl h)))⟩;have HRW:Hid (Rec (w5.setCell ⟨nb,1,none⟩ (.slice (some ⟨g5,0,none⟩) (n2+1) c5)) nb 84 [.slice A1 n1 c1,.slice (some ⟨g5,0,none⟩) (n2+1) c5,.slice A3 n3 c3]):=⟨HR5.o.set 1 _⟩;have HNW:=hid (HPS.o _ _ _ _ (Gr.refl wr) HT5.o HR5.o HO5.o)
         have HEW:Hid (∀j,(Value.slice (some ⟨g5,0,none⟩) (n2+1) c5).ownBlock=some j->(Value.slice A3 n3 c3).ownBlock≠some j):=⟨λj e1 e2=>by
          cases e1;rcases HA5.o with h|h
          ·exact HNE.o _ h e2
          ·have:g5<wr.heap.size:=(Vvr HOW3.o e2).2;have:g5=wr.heap.size+1:=h
           omega⟩
         generalize w5.setCell ⟨nb,1,none⟩ (.slice (some ⟨g5,0,none⟩) (n2+1) c5)=w6 at HTW HRW HNW⊢;clear z1 zf z2;go_wp2;go_round
         case rel=>exact⟨k+1,_,_,_,HKK.o,by go_num,HTW,HRW,HNW,HEW⟩
         case measure=>have:=HKK.o;simp[intOf];omega
        ·have hkfI:¬(k:Int)<(pp:Int)+(ff:Int):=Ω
         have HD:=hid (ZZl (al:=g.all) (p:=pp) (f:=ff) (ξL hkf) hkww);rw[hyy]at HD;obtain⟨⟨d1,d2,d3⟩,hdd⟩:∃d,d=ndK g.all ww pp ff k:=⟨_,rfl⟩;rw[<-hdd]at hkl HNO HD hm1 hm2 hm3 HRN HY1 HY2 HY3 HNE;dsimp only at hkl HNO HD hm1 hm2 hm3 HRN HY1 HY2 HY3 HNE;obtain⟨hn1,hn2,hn3⟩:=hkl;have HOW1:=hid HNO.o.o1;have HOW2:=hid HNO.o.o2;have HOW3:=hid HNO.o.o3;dsimp only at HOW1 HOW2 HOW3
         have HPS:Hid (∀w3 w5 g5 c5,Gr wr w3->XF4 (λk=>(Value.slice A3 d3.length c3).ownBlock=some k) w3 w5->Rec w5 nb 84 [.slice A1 d1.length c1,.slice A2 d2.length c2,.slice A3 d3.length c3]->w5.ownsRow wo.heap.size 32 1 (.slice (some ⟨g5,0,none⟩) (d3.length+1) c5) (d3.length+1) (QYW d3++[.int .u64 y])->ZEV (w5.setCell ⟨nb,2,none⟩ (.slice (some ⟨g5,0,none⟩) (d3.length+1) c5)) wo.heap.size (.slice A1 d1.length c1) (.slice A2 d2.length c2) (.slice (some ⟨g5,0,none⟩) (d3.length+1) c5) (ndK g.all ww pp ff (k+1))):=⟨λw3 w5 g5 c5 g3 t5 hr5 ho5=>by
          rw[HD.o]
          exact(HNO.o.gr g3).push3 HNE.o t5 hr5 ho5⟩
         generalize d1.length=n1 at HRN HPS hn1 HY1 HOW1 hm1;generalize d2.length=n2 at HRN HPS hn2 HY2 HOW2 hm2 HNE;generalize d3.length=n3 at HRN HPS hn3 HY3 HOW3 hm3 HNE;clear HNO hdd hkww;have o0:=hro.cell (j:=0) rfl;have o1:=hro.cell (j:=1) rfl;have o3:=hro.cell (j:=3) rfl;have ol:=hro.lt;clear hkp hkf hkw hk hbw hro HTP hyy;go_upto_region 19 with(fail);clear o0 o1 o3 ol;obtain⟨Sx,hSx⟩:∃Sx:World->Prop,Sx=λW'=>Rec W' nb 84 [.slice A1 n1 c1,.slice A2 n2 c2,.slice A3 n3 c3]/\Rec W' ob 74 [.int .i64 pp,.int .i64 ff,.int .i64 kk,.slice (some ⟨B j,0,none⟩) wl wl]/\W'.cell? ⟨B j,k,none⟩=some (.int .u64 y):=⟨_,rfl⟩;have y1:∀p:ZJV Sx,p.w.cell? ⟨nb,2,none⟩=some (.slice A3 n3 c3):=λp=>by have h:=ZJV.get hSx p;exact h.1.cell (j:=2) rfl
         have y2:∀p:ZJV Sx,p.w.cell? ⟨ob,3,none⟩=some (.slice (some ⟨B j,0,none⟩) wl wl):=λp=>by have h:=ZJV.get hSx p;exact h.2.1.cell (j:=3) rfl
         have y3:∀p:ZJV Sx,p.w.cell? ⟨B j,k,none⟩=some (.int .u64 y):=λp=>by have h:=ZJV.get hSx p;exact h.2.2
         have HS:Hid (∀W',Rec W' nb 84 [.slice A1 n1 c1,.slice A2 n2 c2,.slice A3 n3 c3]/\Rec W' ob 74 [.int .i64 pp,.int .i64 ff,.int .i64 kk,.slice (some ⟨B j,0,none⟩) wl wl]/\W'.cell? ⟨B j,k,none⟩=some (.int .u64 y)->Sx W'):=⟨λW' h=>by rw[hSx];exact h⟩;have hS0:=HS.o _ (⟨HRN.o.gr (Gr.refl wr).drew,HRO.o.gr (Gr.refl wr).drew,HX.o _ (Gr.refl wr).drew⟩);have inst:Inhabited (ZJV Sx):=⟨⟨_,hS0⟩⟩;clear hSx;refine Vv2 Sx 10 [([0,1,2,3,4,5,6],7),([],8),([9],10)] [] (by kernel_rfl) (by kernel_rfl) hS0 ?_;refine XGW ?_
         try simp only[XZy,ξ,ζ]
         repeat(go_big_quiet_step (fail))
         refine φ ?_;go_wp2_with((fail));refine⟨ZJV.of (HS.o _ (⟨HRN.o.gr ((Gr.refl wr).alloc _).drew,HRO.o.gr ((Gr.refl wr).alloc _).drew,HX.o _ ((Gr.refl wr).alloc _).drew⟩)),?_⟩
         try simp only[Act.put,ψ,ϑ,κ]
         refine XGW ?_
         try simp only[XZy,ξ,ζ]
         repeat(go_big_quiet_step (fail))
         refine φ ?_;go_wp2_with((at_builtin;refine wpList_append_lies _ rfl _ _ 72 rfl wo.heap.size 32 iu _ 1 8 underlying72 hiu hu0 hu1 hu2 rfl (by decide) (.slice A3 n3 c3) n3 (QYW d3) rfl (Y9I HOW3.o ((Gr.refl wr).alloc _).drew) ⟨wr.heap.size,0,none⟩ 1 1 [.int .u64 y] rfl rfl (β (cs:=#[.int .u64 y]) (t:=32) (fr:=(0,0)) (heap_alloc_new wr (.cells #[.int .u64 y] 32))) (by simp[Value.oneCell']) Ω (by unfold maxLen;omega) Ω (by have:=HLEo.o;have e1:=(((Gr.refl wr).alloc (.cells #[.int .u64 y] 32)).drew).size;omega) (wr.heap.size+1) (by simp) ?_;intro g5 c5 w5 hown5 hgrow5 hat5 hlt5;have t5:XF4 (λk=>(Value.slice A3 n3 c3).ownBlock=some k) wr w5:=((((Gr.refl wr).alloc _).drew).touch _).trans (VxQ hgrow5 _ (λk e _=>e));have HT5:=hid t5;have HO5:=hid hown5;have HA5:=hid hat5;have HR5:=hid (HRN.o.touch t5 (λe=>YnK HOW3.o HRN.o (by decide) e rfl rfl));have z1:=HR5.o.cell (j:=2) rfl;have zf:=HR5.o.free 2;have z2:=HY3.o _ (Gr.refl wr) w5 t5;clear hown5 hgrow5 hat5 hlt5 t5));refine⟨.inr (ZJV.of (HS.o _ (⟨HR5.o,z2⟩))),?_⟩
         try simp only[Act.put,ψ,ϑ,κ]
         refine XGW ?_
         try simp only[XZy,ξ,ζ]
         repeat(go_big_quiet_step (fail))
         refine φ ?_;go_wp2;refine⟨.inl trivial,?_⟩;refine Z9U ?_;refine φ ?_;refine δ ?_;clear y1 y2 y3 hS0 inst;clear HS Sx;have HTW:Hid (XF4 (λj=>j=nb\/wo.heap.size<=j) wo (w5.setCell ⟨nb,2,none⟩ (.slice (some ⟨g5,0,none⟩) (n3+1) c5))):=⟨(((HTV.o.trans ((Gr.refl wr).touch _)).trans (HT5.o.mono (λk _ h=>.inr (Vvr HOW3.o h).1))).trans ((Vzf w5 nb 2 _).mono (λk _ h=>.inl h)))⟩;have HRW:Hid (Rec (w5.setCell ⟨nb,2,none⟩ (.slice (some ⟨g5,0,none⟩) (n3+1) c5)) nb 84 [.slice A1 n1 c1,.slice A2 n2 c2,.slice (some ⟨g5,0,none⟩) (n3+1) c5]):=⟨HR5.o.set 2 _⟩;have HNW:=hid (HPS.o _ _ _ _ (Gr.refl wr) HT5.o HR5.o HO5.o)
         have HEW:Hid (∀j,(Value.slice A2 n2 c2).ownBlock=some j->(Value.slice (some ⟨g5,0,none⟩) (n3+1) c5).ownBlock≠some j):=⟨λj e2 e1=>by
          cases e1;rcases HA5.o with h|h
          ·exact HNE.o _ e2 h
          ·have:g5<wr.heap.size:=(Vvr HOW2.o e2).2;have:g5=wr.heap.size+1:=h
           omega⟩
         generalize w5.setCell ⟨nb,2,none⟩ (.slice (some ⟨g5,0,none⟩) (n3+1) c5)=w6 at HTW HRW HNW⊢;clear z1 zf z2;go_wp2;go_round
         case rel=>exact⟨k+1,_,_,_,HKK.o,by go_num,HTW,HRW,HNW,HEW⟩
         case measure=>have:=HKK.o;simp[intOf];omega
      ·have hkwI:¬(k:Int)<(wl:Int):=Ω
       obtain rfl:k=wl:=Ω
       obtain⟨-,HTP,hgr,-,-⟩:=HW3.o _ HTV.o;rw[HNK.o]at HNO HRN HNE hm1 hm2 hm3;have HG:=hid hgr;have HTPP:=hid HTP;obtain⟨vs,hvl,hvo,hvn⟩:=HN.o.gr hgr
       have hln2:((g.all.take n).map g.ndD).length=n:=by
        have e1:=HNA.o;have e2:=HLA.o;rw[ζc,ζk];omega
       rw[hln2]at hvl hvo;obtain⟨AN,cN,rfl,hcN,hcN2⟩:=ZfN hvo;unfold maxLen at hcN2;have HVO:=hid hvo;have HVN:=hid hvn;have HVL:=hid hvl;have HLN:=hid hln2;have HRQ:=hid (HQR.o.gr hgr);have HRO:=hid (Y9I HO.o hgr);have HNN:=hid HNO.o;have HR3:=hid HRN.o;generalize nd.p.length=n1 at HR3 HNN;generalize nd.f.length=n2 at HR3 HNN;generalize nd.k.length=n3 at HR3 HNN;have qc:=HRQ.o.cell (j:=1) rfl;have ql:=HRQ.o.lt;have x0:=HR3.o.cell (j:=0) rfl;have x1:=HR3.o.cell (j:=1) rfl;have x2:=HR3.o.cell (j:=2) rfl;have xl:=HR3.o.lt;have o3:=hro.cell (j:=3) rfl;have ol:=hro.lt;clear hkw hk HTP hgr hvo hvn hvl hln2 hro hkl hm1 hm2 hm3;go_upto_region 20 with(fail);go_wp2_with(at_builtin;refine wpList_append_lies _ rfl _ _ 47 rfl w1.heap.size 84 io _ 3 72 underlying47 hio ho0 ho1 ho2 rfl (by decide) (.slice AN n cN) n (vs.flatMap nvC) rfl (Y9I HVO.o ((Gr.refl wr).alloc _)) ⟨wr.heap.size,0,none⟩ 1 1 [.slice A1 n1 c1,.slice A2 n2 c2,.slice A3 n3 c3] rfl rfl (β (cs:=#[.slice A1 n1 c1,.slice A2 n2 c2,.slice A3 n3 c3]) (t:=84) (fr:=(0,0)) (heap_alloc_new wr (.cells #[.slice A1 n1 c1,.slice A2 n2 c2,.slice A3 n3 c3] 84))) (by simp[Value.oneCell']) Ω (by unfold maxLen;omega) Ω (by have:=HTPP.o.size;rw[τ];omega) (wr.heap.size+1) (by simp) ?_;intro g5 c5 w5 hown5 hgrow5 hat5 hlt5;have t5:XF4 (λk=>(Value.slice AN n cN).ownBlock=some k) wr w5:=(((Gr.refl _).alloc _).touch _).trans (VxQ hgrow5 _ (λk e _=>e));have HT5:=hid t5;have HO5:=hid hown5;have HR5:=hid (HRQ.o.touch t5 (λe=>YnK HVO.o HRQ.o (by decide) e rfl rfl));have z1:=HR5.o.cell (j:=1) rfl;have zf:=HR5.o.free 1;have zl:=HR5.o.lt;clear hown5 hgrow5 hat5 hlt5 t5);have HTW:Hid (XF4 (λk=>k=q\/w1.heap.size<=k) w1 (w5.setCell ⟨q,1,none⟩ (.slice (some ⟨g5,0,none⟩) (n+1) c5))):=⟨((HTPP.o.trans (HT5.o.mono (λk _ h=>.inr (Vvr HVO.o h).1))).trans ((Vzf w5 q 1 _).mono (λk _ h=>.inl h)))⟩;have HRW:Hid (Rec (w5.setCell ⟨q,1,none⟩ (.slice (some ⟨g5,0,none⟩) (n+1) c5)) q 49 [.slice A i rcp,.slice (some ⟨g5,0,none⟩) (n+1) c5]):=⟨HR5.o.set 1 _⟩
       have HOW:Hid ((w5.setCell ⟨q,1,none⟩ (.slice (some ⟨g5,0,none⟩) (n+1) c5)).ownsRow w1.heap.size 3 1 (.slice A i rcp) i (plV g.all g.S)):=⟨by
        have h5:=Zs2 HRO.o HT5.o (λg hg e=>YnK HRO.o HVO.o (by decide) hg e rfl)
        exact VDR h5 _ (λg hg=>YnK h5 HR5.o (by decide) hg rfl)⟩
       have HNW:Hid (VIG (w5.setCell ⟨q,1,none⟩ (.slice (some ⟨g5,0,none⟩) (n+1) c5)) w1.heap.size (.slice (some ⟨g5,0,none⟩) (n+1) c5) ((g.all.take (n+1)).map g.ndD)):=⟨by
        have hot:Jp3 wr (λk=>(Value.slice AN n cN).ownBlock=some k) (λt=>t≠84):=λk hk _=>by
         obtain⟨cur,e⟩:=QiW HVO.o hk;exact⟨_,λh=>h rfl,cur,e⟩
        have hoq:Jp3 w5 (λk=>k=q) (λt=>t≠49):=λk hk _=>by
         obtain⟨cur,e⟩:=QiW HR5.o rfl;exact⟨_,λh=>h rfl,cur,by rw[show k=q from hk];exact e⟩
        have hln3:=HLN.o
        have hs:=VIG.snoc (w:=w5) (b':=w1.heap.size) (l:=(g.all.take n).map g.ndD) (d:=nd) (by rw[HVL.o,hln3]) (λi hi=>by
         obtain⟨v,e,hv⟩:=HVN.o i hi
         exact⟨v,e,hv.other HT5.o hot (by decide) (by decide)⟩) (by rw[hln3];exact HO5.o) (HNN.o.other HT5.o hot (by decide) (by decide))
        rw[HND.o]
        exact hs.other (Vzf w5 q 1 _) hoq (by decide) (by decide) (by decide)⟩
       generalize w5.setCell ⟨q,1,none⟩ (.slice (some ⟨g5,0,none⟩) (n+1) c5)=w6 at HTW HRW HOW HNW⊢;clear z1 zf zl qc ql x0 x1 x2 xl o3 ol;go_wp2;go_round
       case rel=>exact⟨n+1,_,HLA.o,by go_num,HTW,HRW,HOW,HNW⟩
       case measure=>have:=HLA.o;simp[intOf];omega
    ·have hnI:¬(n:Int)<(na:Int):=Ω
     obtain rfl:n=na:=Ω
     have HNF:Hid (VIG wr w1.heap.size vN g.ndsD):=⟨by
      have:=HN.o;rw[HNA.o,ζS]at this
      exact this⟩
     obtain⟨AN,cN,rfl,-,-⟩:=HNF.o.shape;have hle:g.ndsD.length=n:=by rw[HNA.o];exact ζc ..
     rw[hle]at HNF HQR;have c0:=HQR.o.cell (j:=0) rfl;have c1:=HQR.o.cell (j:=1) rfl;have cl:=HQR.o.lt;have HLE:=hid hle;have HQ0:Hid (Rec wr w.heap.size 49 [.slice none 0 0,.slice none 0 0]):=⟨(HR0.o.gr HG1.o).touch HT.o (by have e1:=HQ.o;have e2:=HQ1.o;omega)⟩;have k0:=HQ0.o.cell (j:=0) rfl;have k1:=HQ0.o.cell (j:=1) rfl;have kf:=HQ0.o.free;have kl:=HQ0.o.lt;clear hlast hn hle HN;go_wp2;obtain⟨wE,hwE⟩:∃wE,wE=(wr.setCell ⟨w.heap.size,0,none⟩ (.slice A i rcp)).setCell ⟨w.heap.size,1,none⟩ (.slice AN n cN):=⟨_,rfl⟩;have hr1:=Rec.set HQ0.o 0 (.slice A i rcp);have hr2:Rec wE w.heap.size 49 [.slice A i rcp,.slice AN n cN]:=by rw[hwE];exact Rec.set hr1 1 (.slice AN n cN)
     have hot:∀W xs,Rec W w.heap.size 49 xs->Jp3 W (λk=>k=w.heap.size) (λt=>t≠49):=λW xs h k hk _=>by
      obtain⟨cur,e⟩:=QiW h rfl;exact⟨_,λh=>h rfl,cur,by rw[show k=w.heap.size from hk];exact e⟩
     have hnE:VIG wE w1.heap.size (.slice AN n cN) g.ndsD:=by
      rw[hwE];exact(HNF.o.other (Vzf wr w.heap.size 0 _) (hot _ _ HQ0.o) (by decide) (by decide) (by decide)).other (Vzf _ w.heap.size 1 _) (hot _ _ hr1) (by decide) (by decide) (by decide)
     have hoE:wE.ownsRow w1.heap.size 3 1 (.slice A i rcp) i (XlA g.slD):=by
      have h1:=VDR (j:=0) HO.o (.slice A i rcp) (λg hg=>YnK HO.o HQ0.o (by decide) hg rfl);have h2:=VDR (j:=1) h1 (.slice AN n cN) (λg hg=>YnK h1 hr1 (by decide) hg rfl);rw[Qy5]at h2;rw[hwE];exact h2
     have hsl:g.slD.length=i:=by rw[HRL.o];exact ζc ..
     have hgE:Gr w wE:=by
      have e1:=HQ.o;have e2:=HGW.o.size;have t1:XF4 (λk=>w.heap.size<=k) w wr:=(HGW.o.touch _).trans (HT.o.mono (λk _ h=>by have h:k=q\/w1.heap.size<=k:=h;omega))
      have t2:XF4 (λk=>w.heap.size<=k) w wE:=by
       rw[hwE];exact(t1.setCell (a:=⟨w.heap.size,0,none⟩) (λ_=>ζe _) _).setCell (a:=⟨w.heap.size,1,none⟩) (λ_=>ζe _) _
      exact(t2.mono (T:=λ_=>False) (λk hk h=>by have h:w.heap.size<=k:=h;omega)).gr
     rw[<-hwE];have hl:=XkM hr2 (by kernel_rfl) (by kernel_rfl);refine ζt (v:=.agg #[.slice A i rcp,.slice AN n cN]) ?_ rfl ⟨_,rfl,hgE,A,AN,rcp,cN,by rw[hsl,HLE.o],YUk hoE hsl.symm,hnE.at⟩;simp[results,results14,asAddr,hl]
end
end
end
end Go.Proofs.Ytgmaanehcbnchaa
