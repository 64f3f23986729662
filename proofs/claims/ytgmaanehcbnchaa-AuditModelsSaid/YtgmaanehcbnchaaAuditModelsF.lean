/- Part 6 of what AuditModels leans on: my own lemmas, merged by shake.py. -/
import Derived.Test.YtgmaanehcbnchaaAuditModelsE
namespace Go.Proofs.Ytgmaanehcbnchaa
open _root_.Go.Proofs.Try
set_option maxHeartbeats 12800000
set_option maxRecDepth 100000
section
section
open Go.RowKit Word
theorem X7T{w:World}{b b' E size:Nat}{v:Value}{n:Nat}{xs:List Value}(h:w.ownsRow b E size v n xs)(hb:b'<=b):w.ownsRow b' E size v n xs:=by
 obtain⟨h1,h2⟩:=h;refine⟨h1,h2.imp id ?_⟩;rintro⟨g,cap,cur,e,hg,r⟩;exact⟨g,cap,cur,e,γ hb hg,r⟩
abbrev Yq6:=Value×Nat×List Value
structure St3(wr W:World)(base:Nat)(a b c:Option Yq6):Prop where
 g:Gr wr W
 bs:base<=wr.heap.size
 oa:∀r,a=some r->W.ownsRow base 3 1 r.1 r.2.1 r.2.2
 ob:∀r,b=some r->W.ownsRow base 32 1 r.1 r.2.1 r.2.2
 oc:∀r,c=some r->W.ownsRow base 32 1 r.1 r.2.1 r.2.2
 nb:∀r,b=some r->∀k,r.1.ownBlock=some k->wr.heap.size<=k
 nc:∀r,c=some r->∀k,r.1.ownBlock=some k->wr.heap.size<=k
 d:∀r s,b=some r->c=some s->∀k,r.1.ownBlock=some k->s.1.ownBlock≠some k
section
variable {wr W W':World} {base:Nat} {a b c:Option Yq6}
theorem St3.start(h:base<=wr.heap.size)(g:Gr wr W):St3 wr W base none none none:=⟨g,h,(λr e=>by cases e),(λr e=>by cases e),(λr e=>by cases e),(λr e=>by cases e),(λr e=>by cases e),(λr s e=>by cases e)⟩
theorem St3.keys{v:Value}{n:Nat}{xs:List Value}(h:St3 wr W base none b c)(g:Gr W W')(ho:W'.ownsRow W.heap.size 3 1 v n xs):St3 wr W' base (some (v,n,xs)) b c:=
 ⟨h.g.trans g,h.bs,λr e=>by cases e;exact X7T ho (γ h.bs h.g.size),λr e=>Y9I (h.ob r e) g,λr e=>Y9I (h.oc r e) g,h.nb,h.nc,h.d⟩
theorem St3.grow(h:St3 wr W base a b c)(g:Gr W W'):St3 wr W' base a b c:=
 ⟨h.g.trans g,h.bs,λr e=>Y9I (h.oa r e) g,λr e=>Y9I (h.ob r e) g,λr e=>Y9I (h.oc r e) g,h.nb,h.nc,h.d⟩
theorem VPz(W:World)(base:Nat)(hb:base<=W.heap.size):(W.alloc (.cells #[] 32)).ownsRow base 32 1 (.slice (some ⟨W.heap.size,0,none⟩) 0 0) 0 []:=World.ownsRow_made W #[] 0 hb (by unfold maxLen;omega) rfl
theorem St3.emptyB(h:St3 wr W base a none c):St3 wr (W.alloc (.cells #[] 32)) base a (some (.slice (some ⟨W.heap.size,0,none⟩) 0 0,0,[])) c:=by
 have h':=h.grow ((Gr.refl W).alloc (.cells #[] 32));refine⟨h'.g,h.bs,h'.oa,λr e=>by cases e;exact VPz W base (γ h.bs h.g.size),h'.oc,λr e k hk=>?_,h.nc,λr s e1 e2 k hk hs=>?_⟩
 ·cases e;cases hk;exact h.g.size
 ·cases e1;cases hk;exact ξh _ (Vvr (h.oc s e2) hs).2
theorem St3.emptyC(h:St3 wr W base a b none):St3 wr (W.alloc (.cells #[] 32)) base a b (some (.slice (some ⟨W.heap.size,0,none⟩) 0 0,0,[])):=by
 have h':=h.grow ((Gr.refl W).alloc (.cells #[] 32));refine⟨h'.g,h.bs,h'.oa,h'.ob,λr e=>by cases e;exact VPz W base (γ h.bs h.g.size),h.nb,λr e k hk=>?_,λr s e1 e2 k hk hs=>?_⟩
 ·cases e;cases hk;exact h.g.size
 ·cases e2;cases hs;exact ξh _ (Vvr (h.ob r e1) hk).2
theorem St3.appB{v v':Value}{n n':Nat}{xs xs':List Value}(h:St3 wr W base a (some (v,n,xs)) c)(ho:W'.ownsRow base 32 1 v' n' xs')(hg:W.grownBy W' v.ownBlock)(hat:v'.ownBlock=v.ownBlock\/v'.ownBlock=some W.heap.size):St3 wr W' base a (some (v',n',xs')) c:=by
 have hv:=h.ob _ rfl;have t:XF4 (λk=>v.ownBlock=some k) W W':=VxQ hg _ (λk e _=>e);have hlow:∀k,v.ownBlock=some k->wr.heap.size<=k:=h.nb _ rfl;have hgr:Gr wr W':=(((h.g.touch (λ_=>False)).trans' t (λk hk e=>absurd (hlow k e) Ω))).gr;refine⟨hgr,h.bs,λr e=>Zs2 (h.oa r e) t (λg hg e2=>YnK (h.oa r e) hv (by decide) hg e2 rfl),λr e=>by cases e;exact ho,λr e=>Zs2 (h.oc r e) t (λg hg e2=>h.d _ _ rfl e g e2 hg),λr e k hk=>?_,h.nc,λr s e1 e2 k hk hs=>?_⟩
 ·cases e;rcases hat with e|e
  ·exact hlow k (e▸hk)
  ·have hk:v'.ownBlock=some k:=hk;rw[e]at hk;cases hk;exact h.g.size
 ·cases e1;rcases hat with e|e
  ·exact h.d _ _ rfl e2 k (e▸hk) hs
  ·have hk:v'.ownBlock=some k:=hk;rw[e]at hk;cases hk;exact ξh _ (Vvr (h.oc s e2) hs).2
theorem St3.appC{v v':Value}{n n':Nat}{xs xs':List Value}(h:St3 wr W base a b (some (v,n,xs)))(ho:W'.ownsRow base 32 1 v' n' xs')(hg:W.grownBy W' v.ownBlock)(hat:v'.ownBlock=v.ownBlock\/v'.ownBlock=some W.heap.size):St3 wr W' base a b (some (v',n',xs')):=by
 have hv:=h.oc _ rfl;have t:XF4 (λk=>v.ownBlock=some k) W W':=VxQ hg _ (λk e _=>e);have hlow:∀k,v.ownBlock=some k->wr.heap.size<=k:=h.nc _ rfl;have hgr:Gr wr W':=(((h.g.touch (λ_=>False)).trans' t (λk hk e=>absurd (hlow k e) Ω))).gr;refine⟨hgr,h.bs,λr e=>Zs2 (h.oa r e) t (λg hg e2=>YnK (h.oa r e) hv (by decide) hg e2 rfl),λr e=>Zs2 (h.ob r e) t (λg hg e2=>h.d _ _ e rfl g hg e2),λr e=>by cases e;exact ho,h.nb,λr e k hk=>?_,λr s e1 e2 k hk hs=>?_⟩
 ·cases e;rcases hat with e|e
  ·exact hlow k (e▸hk)
  ·have hk:v'.ownBlock=some k:=hk;rw[e]at hk;cases hk;exact h.g.size
 ·cases e2;rcases hat with e|e
  ·exact h.d _ _ e1 rfl k hk (e▸hs)
  ·have hs:v'.ownBlock=some k:=hs;rw[e]at hs;cases hs;exact ξh _ (Vvr (h.ob r e1) hk).2
end
end
end
section
section
open Go.RowKit Word
section
variable {w w':World} {m C:Nat} {g:Gph} {sb:Nat} {F T W:Nat->Nat} {S:Nat->Prop}
theorem Xtx(h:J8T w m C g sb F T W):Calls prog 13 #[.pointer (some ⟨m,0,none⟩)] w (QdY w g):=by
 obtain⟨iu,hiu,hu0,hu1,hu2⟩:=info_parts XcB;obtain⟨io,hio,ho0,ho1,ho2⟩:=info_parts JaM;have H:=hid h;have hal:g.all.length<=1000:=γ (Jcu h.ok) h.len;have hG2:Gr w ((w.alloc (.cells #[.slice none 0 0,.slice none 0 0] 49)).alloc (.cells #[.slice none 0 0,.slice none 0 0] 49)):=((Gr.refl w).alloc _).alloc _;have r0:=(Rec.new w 49 [.slice none 0 0,.slice none 0 0]).gr ((Gr.refl _).alloc (.cells #[.slice none 0 0,.slice none 0 0] 49));have r1:=Rec.new (w.alloc (.cells #[.slice none 0 0,.slice none 0 0] 49)) 49 [.slice none 0 0,.slice none 0 0];rw[τ]at r1;have hsz:w.heap.size+2<=((w.alloc (.cells #[.slice none 0 0,.slice none 0 0] 49)).alloc (.cells #[.slice none 0 0,.slice none 0 0] 49)).heap.size:=by simp
 obtain⟨w2,hw2⟩:∃w2,w2=(w.alloc (.cells #[.slice none 0 0,.slice none 0 0] 49)).alloc (.cells #[.slice none 0 0,.slice none 0 0] 49):=⟨_,rfl⟩;rw[<-hw2]at hG2 hsz
 replace r0:Rec w2 w.heap.size 49 [.slice none 0 0,.slice none 0 0]:=by rw[hw2];exact r0
 replace r1:Rec w2 (w.heap.size+1) 49 [.slice none 0 0,.slice none 0 0]:=by rw[hw2];exact r1
 have HRE:=hid (XjJ (h.gr hG2));unfold VkV at HRE;have HG2:=hid hG2;have HW2:=hid hw2;have HR0:=hid r0;have HR1:=hid r1;have HSZ2:=hid hsz;obtain⟨na,hna⟩:∃na,na=g.all.length:=⟨_,rfl⟩;rw[<-hna]at HRE hal;have HNA:=hid hna;clear h hG2 r0 r1 hsz hw2 hna;go_enter func13,ntmps13;go_upto_region 2 with(fail);rw[<-HW2.o];clear HW2;obtain⟨q,hq⟩:∃q,q=w.heap.size+1:=⟨_,rfl⟩;rw[<-hq]at HR1⊢;have HQ:=hid hq;have c0:=HR1.o.cell (j:=0) rfl;have c1:=HR1.o.cell (j:=1) rfl;have cl:=HR1.o.lt;clear hq;go_upto_region 6 with(go_at_call 28;refine HRE.o.mono ?_;rintro e w3 ⟨RA,rc,mb,rfl,hg1,ho1,hp1⟩;have HG3:=hid hg1;have HO3:=hid ho1;have HP3:=hid hp1;clear hg1 ho1 hp1);obtain⟨qm,hqm⟩:∃qm,qm=w3.heap.size:=⟨_,rfl⟩;obtain⟨w1,hw1⟩:∃w1,w1=w3.alloc (.cells #[.map (some mb)] 76):=⟨_,rfl⟩;rw[<-hw1,<-hqm];have hm1:Rec w1 qm 76 [.map (some mb)]:=by rw[hw1,hqm];exact Rec.new w3 76 [.map (some mb)]
 have HG1:Hid (Gr w3 w1):=⟨by rw[hw1];exact(Gr.refl w3).alloc _⟩;have HM1:=hid hm1;have HLT:Hid (m<w.heap.size/\sb<w.heap.size/\∀x,1<=x->x<=g.L.length->F x<w.heap.size/\T x<w.heap.size/\W x<w.heap.size):=⟨⟨H.o.row.lt,H.o.sl.lt,λx a b=>⟨(H.o.th x a b).lt,(H.o.ps x a b).lt,(H.o.wo x a b).lt⟩⟩⟩;have HGW:=hid (HG2.o.trans (HG3.o.trans HG1.o));have HR1w:=hid (HR1.o.gr (HG3.o.trans HG1.o));have HQ1:Hid (q<w2.heap.size/\w.heap.size+2<=w2.heap.size/\w2.heap.size<=w3.heap.size/\w3.heap.size<=w1.heap.size/\w2.heap.size<=qm/\qm<w1.heap.size/\mb<w3.heap.size):=⟨⟨HR1.o.lt,HSZ2.o,HG3.o.size,HG1.o.size,by rw[hqm];exact HG3.o.size,HM1.o.lt,HP3.o.lt⟩⟩
 have hmq:mb≠q:=λe=>by
  obtain⟨cur,e1⟩:=QiW (HR1.o.gr HG3.o) rfl;have e2:w3.heap[mb]?=some (.map (enL F g.all 0).toArray g.all.length):=HP3.o;rw[e]at e2;rw[show w3.heap[q]?=some (.cells cur 49 (0,0))from e1]at e2;cases e2
 have HT1:Hid (∀V,XF4 (λk=>k=q\/w1.heap.size<=k) w1 V->J8T V m C g sb F T W/\V.ownsRow w2.heap.size 79 1 (.slice RA na rc) na (JYL F g.all)/\QSJ V mb F g.all/\Rec V qm 76 [.map (some mb)]):=⟨λV t=>by
  have e:=HQ.o;have e1:=HQ1.o;have h1:=H.o.gr HGW.o;have e2:=HLT.o;have ho:=Y9I HO3.o HG1.o;refine⟨h1.touch t Ω Ω (λx a b=>?_),Zs2 ho t (λk hk=>by have:=Vvr HO3.o hk;omega),(HP3.o.gr HG1.o).touch t Ω,HM1.o.touch t Ω⟩;have:=e2.2.2 x a b
  refine⟨by omega,by omega,by omega⟩⟩
 have HK:Hid (∀V,XF4 (λk=>k=q\/w1.heap.size<=k) w1 V->∀(pb:Nat) (l:List Nat),Rec V pb 79 (JYL F l)->(∀y∈l,y<=g.L.length)->l.length<=255->Calls prog 32 #[.slice (some ⟨pb,0,none⟩) l.length l.length,.pointer (some ⟨qm,0,none⟩)] V (VTq V g.all l)):=⟨λV t pb l hp hl hll=>by
  obtain⟨h1,h2,h3,h4⟩:=HT1.o V t
  exact Qb7 h4 h3 h1.things (λx hx=>H.o.ok.rd (H.o.ok.mem_all.1 hx)) hp hl hll⟩
 have HKS:Hid (∀V,Gr w1 V->Calls prog 32 #[.slice (some ⟨sb,0,none⟩) g.S.length g.S.length,.pointer (some ⟨qm,0,none⟩)] V (VTq V g.all g.S)):=⟨λV gV=>HK.o V (gV.touch _) sb g.S (HT1.o V (gV.touch _)).1.sl H.o.ok.st (by have:=H.o.sn;omega)⟩;unfold VTq at HKS;obtain⟨ns,hns⟩:∃ns,ns=g.S.length:=⟨_,rfl⟩;rw[<-hns]at HKS;have HNS:=hid hns;have hsn:=H.o.sn;rw[<-hns]at hsn;have m1:w1.cell? ⟨m,1,none⟩=some (.slice (some ⟨sb,0,none⟩) ns ns):=by rw[hns];exact(HT1.o w1 (XF4.refl _ _)).1.row.cell (j:=1) rfl
 have ml:m<w1.heap.size:=(HT1.o w1 (XF4.refl _ _)).1.row.lt;clear c0 c1 cl hw1 hqm hm1 hmq hns HRE;go_wp2_with(go_at_call 32;refine(HKS.o _ (Gr.refl w1)).mono ?_;rintro e w5 ⟨KA,kc,rfl,hg,ho⟩;have HG5:=hid hg;have HO5:=hid ho;have HR5:=hid (HR1w.o.gr hg);have z0:=HR5.o.cell (j:=0) rfl;have zf:=HR5.o.free 0;have zl:=HR5.o.lt;clear hg ho);have HT6:Hid (XF4 (λk=>k=q\/w1.heap.size<=k) w1 (w5.setCell ⟨q,0,none⟩ (.slice KA ns kc))):=⟨(HG5.o.touch _).trans ((Vzf w5 q 0 _).mono (λk _ h=>.inl h))⟩;have HR6:Hid (Rec (w5.setCell ⟨q,0,none⟩ (.slice KA ns kc)) q 49 [.slice KA ns kc,.slice none 0 0]):=⟨HR5.o.set 0 _⟩;have HO6:Hid ((w5.setCell ⟨q,0,none⟩ (.slice KA ns kc)).ownsRow w1.heap.size 3 1 (.slice KA ns kc) ns (plV g.all g.S)):=⟨VDR HO5.o _ (λg hg=>YnK HO5.o HR5.o (by decide) hg rfl)⟩;generalize w5.setCell ⟨q,0,none⟩ (.slice KA ns kc)=w6 at HT6 HR6 HO6⊢;clear z0 zf zl m1 ml
 go_loopw [27] (λs27 wr=>∃(n:Nat) (vN:Value),n<=na/\s27=.int .i64 n/\Hid (XF4 (λk=>k=q\/w1.heap.size<=k) w1 wr)/\Hid (Rec wr q 49 [.slice KA ns kc,vN])/\Hid (wr.ownsRow w1.heap.size 3 1 (.slice KA ns kc) ns (plV g.all g.S))/\Hid (VIG wr w1.heap.size vN ((g.all.take n).map g.ndD))) (λs27 _=>na-(intOf s27).toNat)
 case atStart=>exact⟨0,_,ζb _,rfl,HT6,HR6,HO6,⟨VIG.nil _ _⟩⟩
 case round=>
  clear HT6 HR6 HO6;obtain⟨n,vN,hn,rfl,HT,HQR,HO,HN⟩:=hrel;by_cases hlast:n<na
  ·have hnT:n<g.all.length:=by rw[<-HNA.o];exact hlast
   obtain⟨h2,ho2,-,-⟩:=HT1.o _ HT.o;obtain⟨b,tc',ea,-,-,-,hbl⟩:=YTP ho2 Ω;simp only[Value.slice.injEq]at ea;obtain⟨rfl,-,rfl⟩:=ea;have k0:=XAn ho2 (YK2 hnT);have hx:=H.o.ok.rd (H.o.ok.mem_all.1 (QmW hnT));have HND:Hid ((g.all.take (n+1)).map g.ndD=(g.all.take n).map g.ndD++[g.ndD (g.all.getD n 0)]):=⟨by rw[ZUa _ hnT,ζw];rfl⟩;obtain⟨x,hxe⟩:∃x,x=g.all.getD n 0:=⟨_,rfl⟩;rw[<-hxe]at k0 hx HND;clear hxe;obtain⟨hx1,hx2⟩:=hx;rw[show XaF F x=.pointer (some ⟨F x,0,none⟩)from ν Ω]at k0;have hwl:=h2.wl hx1 hx2;have hth:=h2.th x hx1 hx2;have hwo:=h2.wo x hx1 hx2;have hpl:=h2.pl hx1 hx2
   have HKX:Hid (∀V,Gr wr V->Calls prog 32 #[.slice (some ⟨T x,0,none⟩) (g.ob x).p (g.ob x).p,.pointer (some ⟨qm,0,none⟩)] V λe w'=>∃A c,e=.returned (.slice A (g.ob x).p c)/\Gr V w'/\w'.ownsRow V.heap.size 3 1 (.slice A (g.ob x).p c) (g.ob x).p (XlA (g.ndD x).p)):=⟨λV gV=>by
    have hT:=HT.o.trans (gV.touch _);have:=HK.o V hT (T x) (g.pts x) ((HT1.o V hT).1.ps x hx1 hx2) (λy hy=>H.o.ok.pts_le hy) (by rw[hpl];omega);unfold VTq at this;rw[Qy5,hpl]at this
    exact this⟩
   have hND:g.ndD x=⟨(g.pts x).map (plL g.all),(g.ob x).fls,(g.ob x).w.drop ((g.ob x).p+(g.ob x).f)⟩:=rfl
   have HFL:Hid (QYW (g.ndD x).f=QYW (((g.ob x).w.drop (g.ob x).p).take (g.ob x).f)/\(g.ndD x).f.length=(g.ob x).f/\QYW (g.ndD x).k=QYW (((g.ob x).w.drop (g.ob x).p).drop (g.ob x).f)/\(g.ndD x).k.length=(g.ob x).k/\(g.ndD x).p.length=(g.ob x).p):=⟨by
    rw[hND];refine⟨rfl,?_,by rw[List.drop_drop],?_,?_⟩
    ·show (((g.ob x).w.drop (g.ob x).p).take (g.ob x).f).length=_
     rw[ζk,ζs];omega
    ·show ((g.ob x).w.drop _).length=_
     rw[ζs];omega
    ·show ((g.pts x).map _).length=_
     rw[ζc,hpl]⟩
   clear hND hpl;unfold thL at hth;have HTH:=hid hth;have HWR:=hid hwo;generalize g.ndD x=nd at HND HKX HFL;generalize (g.ob x).w=ww at HFL HWR hwl;generalize (g.ob x).p=pp at HKX HFL HTH HWR hwl;generalize (g.ob x).f=ff at HFL HTH hwl;generalize (g.ob x).k=kk at HFL HTH hwl;generalize T x=tx at HKX HTH;generalize W x=wx at HWR HTH;generalize F x=fx at HTH k0;obtain⟨wl,hwe⟩:∃wl,wl=ff+kk:=⟨_,rfl⟩;rw[<-hwe]at HTH;have HWE:=hid hwe;have hwlb:wl<=255:=Ω
   have hfw:ff<=wl:=Ω
   have hf0:(0:Int)<=(ff:Int):=Ω
   have hf1:(ff:Int)<=(wl:Int):=Ω
   have HU:=hid hwl;have HCE:=hid (λ(V:World) (gV:Gr wr V) (j:Nat) (hj:j<(ww.drop pp).length)=>(HWR.o.gr gV).cell (YGR hj));have hln2:((g.all.take n).map g.ndD).length=n:=by rw[ζc,ζk];omega
   obtain⟨vs,hvl,hvo,hvn⟩:=HN.o;rw[hln2]at hvl hvo;obtain⟨AN,cN,rfl,hcN,hcN2⟩:=ZfN hvo;unfold maxLen at hcN2;have HVO:=hid hvo;have HVN:=hid hvn;have HVL:=hid hvl;have HLN:=hid hln2;have hnI:(n:Int)<(na:Int):=Ω
   have HLA:=hid hlast;have HBS:Hid (w1.heap.size<=wr.heap.size):=⟨HT.o.size⟩;have h2l:=hid h2
   have HNEWF:Hid (∀V,Gr wr V->∀j u,(QYW nd.f)[j]?=some u->V.cell? (Addr.add ⟨wx,0,none⟩ j)=some u):=⟨λV gV j u hj=>by
    rw[HFL.o.1]at hj
    have hl:j<ff:=by
     have:=(ζ2.1 hj).1;unfold QYW at this;rw[ζc,ζk]at this;omega
    have e:=HCE.o V gV j (by rw[ζs];omega);rw[show Addr.add ⟨wx,0,none⟩ j=⟨wx,j,none⟩by unfold Addr.add;split <;> simp_all];rw[e,<-hj];unfold QYW;rw[ζr,ξp hl,θ,μ (by rw[ζs];omega)]
    rfl⟩
   have HNEWK:Hid (∀V,Gr wr V->∀j u,(QYW nd.k)[j]?=some u->V.cell? (Addr.add ⟨wx,ff,none⟩ j)=some u):=⟨λV gV j u hj=>by
    rw[HFL.o.2.2.1]at hj
    have hl:ff+j<(ww.drop pp).length:=by
     have:=(ζ2.1 hj).1;unfold QYW at this;rw[ζc,ζs]at this;omega
    have e:=HCE.o V gV (ff+j) hl;rw[show Addr.add ⟨wx,ff,none⟩ j=⟨wx,ff+j,none⟩by unfold Addr.add;split <;> simp_all];rw[e,<-hj];unfold QYW;rw[ζr,ζ0,θ,μ hl]
    rfl⟩
   have HONE:Hid (∀l:List Nat,∀u∈QYW l,u.oneCell'=true):=⟨λl u hu=>by
    unfold QYW at hu;obtain⟨y,-,rfl⟩:=ξD.1 hu
    rfl⟩
   have hlf:=HFL.o.2.1;have hlk:=HFL.o.2.2.2.1;have HLFK:Hid ((QYW nd.f).length=ff*1/\(QYW nd.k).length=kk*1):=⟨by unfold QYW;rw[ζc,ζc,hlf,hlk];omega⟩;have hkb:kk<=255:=Ω
   have hfb:ff<=255:=Ω
   have hnb:n<=1000:=Ω
   have hwk:(wl:Int)-(ff:Int)=(kk:Int):=Ω
   have hwk2:wl-ff=kk:=Ω
   clear hwe hlf hlk hx1 hx2 hlast hnT hwl hth hwo ho2 hvo hvn hvl hln2 h2 hn HWR
   have HEND:Hid (∀V w5 g5 c5 (v1 v2 v3:Value),Gr wr V->XF4 (λk=>(Value.slice AN n cN).ownBlock=some k) V w5->Rec w5 q 49 [.slice KA ns kc,.slice AN n cN]->w5.ownsRow w1.heap.size 84 3 (.slice (some ⟨g5,0,none⟩) (n+1) c5) (n+1) (vs.flatMap nvC++[v1,v2,v3])->ZEV V w1.heap.size v1 v2 v3 nd->VIG (w5.setCell ⟨q,1,none⟩ (.slice (some ⟨g5,0,none⟩) (n+1) c5)) w1.heap.size (.slice (some ⟨g5,0,none⟩) (n+1) c5) ((g.all.take (n+1)).map g.ndD)):=⟨λV w5 g5 c5 v1 v2 v3 gV t5 hr5 ho5 hno=>by
    have hot:Jp3 V (λk=>(Value.slice AN n cN).ownBlock=some k) (λt=>t≠84):=λk hk _=>by
     obtain⟨cur,e⟩:=QiW (Y9I HVO.o gV) hk;exact⟨_,λh=>h rfl,cur,e⟩
    have hoq:Jp3 w5 (λk=>k=q) (λt=>t≠49):=λk hk _=>by
     obtain⟨cur,e⟩:=QiW hr5 rfl;exact⟨_,λh=>h rfl,cur,by rw[show k=q from hk];exact e⟩
    have hln3:=HLN.o
    have hs:=VIG.snoc (w:=w5) (b':=w1.heap.size) (l:=(g.all.take n).map g.ndD) (d:=nd) (by rw[HVL.o,hln3]) (λi hi=>by
     obtain⟨v,e,hv⟩:=HVN.o i hi
     exact⟨v,e,(hv.gr gV).other t5 hot (by decide) (by decide)⟩) (by rw[hln3];exact ho5) (hno.other t5 hot (by decide) (by decide))
    rw[HND.o]
    exact hs.other (Vzf w5 q 1 _) hoq (by decide) (by decide) (by decide)⟩
   by_cases hkz:kk=0
   ·have hfe:ff=wl:=by have:=HWE.o;omega
    have HNEWZ:Hid (∀V:World,∀j u,(QYW nd.k)[j]?=some u->V.cell? (Addr.add ⟨wx,0,none⟩ j)=some u):=⟨λV j u hj=>by
     have:=(ζ2.1 hj).1;rw[HLFK.o.2]at this
     omega⟩
    have HLZ:Hid ((QYW nd.k).length=0*1):=⟨by rw[HLFK.o.2,hkz]⟩;rw[hkz]at HFL;obtain rfl:ff=wl:=hfe;clear hwk hwk2 hkz hfw hf1 hwlb hkb;go_upto_region 10 with(fail);clear k0 hbl;obtain⟨Sx,hSx⟩:∃Sx:World->Prop,Sx=λW'=>Rec W' q 49 [.slice KA ns kc,.slice AN n cN]/\Rec W' fx 81 [.int .i64 pp,.int .i64 ff,.int .i64 kk,.slice (some ⟨tx,0,none⟩) pp pp,.slice (some ⟨wx,0,none⟩) ff ff]:=⟨_,rfl⟩;have y1:∀p':ZJV Sx,p'.w.cell? ⟨q,1,none⟩=some (.slice AN n cN):=λp=>(ZJV.get hSx p).1.cell (j:=1) rfl;have y2:∀p':ZJV Sx,p'.w.cell? ⟨fx,1,none⟩=some (.int .i64 ff):=λp=>(ZJV.get hSx p).2.cell (j:=1) rfl;have y3:∀p':ZJV Sx,p'.w.cell? ⟨fx,3,none⟩=some (.slice (some ⟨tx,0,none⟩) pp pp):=λp=>(ZJV.get hSx p).2.cell (j:=3) rfl;have y4:∀p':ZJV Sx,p'.w.cell? ⟨fx,4,none⟩=some (.slice (some ⟨wx,0,none⟩) ff ff):=λp=>(ZJV.get hSx p).2.cell (j:=4) rfl;have hS0:Sx wr.drew:=by rw[hSx];exact⟨HQR.o.gr (Gr.refl wr).drew,HTH.o.gr (Gr.refl wr).drew⟩
    have HSX:Hid (∀V,Gr wr V->Sx V):=⟨λV gV=>by rw[hSx];exact⟨HQR.o.gr gV,HTH.o.gr gV⟩⟩;have HSY:Hid (∀V,Rec V q 49 [.slice KA ns kc,.slice AN n cN]->Rec V fx 81 [.int .i64 pp,.int .i64 ff,.int .i64 kk,.slice (some ⟨tx,0,none⟩) pp pp,.slice (some ⟨wx,0,none⟩) ff ff]->Sx V):=⟨λV a b=>by rw[hSx];exact⟨a,b⟩⟩;have inst:Inhabited (ZJV Sx):=⟨⟨_,hS0⟩⟩;have HS:=hid (St3.start HBS.o (Gr.refl wr).drew);clear hSx;refine Q67 Sx 36 (.thr [0,1,2,3,4,5,6,9,10,11,12,13,14,15,16,17,18,21,22,23,24,25,26,27,28,29,30] 7 (.two [] 8 (.two [] 19 (.one [] 20 (.one [] 31 (.one [32] 33 (.one [] 34 (.snk [35] 36))))) 20 (.one [] 19 (.one [] 31 (.one [32] 33 (.one [] 34 (.snk [35] 36)))))) 20 (.one [] 8 (.one [] 19 (.one [] 31 (.one [32] 33 (.one [] 34 (.snk [35] 36))))))) 8 (.two [] 7 (.two [] 19 (.one [] 20 (.one [] 31 (.one [32] 33 (.one [] 34 (.snk [35] 36))))) 20 (.one [] 19 (.one [] 31 (.one [32] 33 (.one [] 34 (.snk [35] 36)))))) 20 (.one [] 7 (.one [] 19 (.one [] 31 (.one [32] 33 (.one [] 34 (.snk [35] 36))))))) 20 (.two [] 7 (.one [] 8 (.one [] 19 (.one [] 31 (.one [32] 33 (.one [] 34 (.snk [35] 36)))))) 8 (.one [] 7 (.one [] 19 (.one [] 31 (.one [32] 33 (.one [] 34 (.snk [35] 36)))))))) (by kernel_rfl) (by kernel_rfl) hS0 ?_;clear hS0;generalize wr.drew=V0 at HS⊢;refine X56 ?_
    try simp only[XZy,ξ,ζ]
    try simp only[Act.put,ψ,ϑ,κ]
    repeat(go_big_quiet_step (fail))
    refine φ ⟨?_,?_,?_⟩
    ·refine JYY ?_
     try simp only[XZy,ξ,ζ]
     go_wp2_with(go_at_call 32;refine(HKX.o _ HS.o.g).mono ?_;rintro e V7 ⟨XA,xc,rfl,hg,ho⟩;replace HS:=hid (HS.o.keys hg ho);clear hg ho);refine⟨ZJV.of (HSX.o _ HS.o.g),?_⟩;refine ZY0 ?_
     try simp only[XZy]
     try simp only[Act.put,ψ,ϑ,κ]
     repeat(go_big_quiet_step (fail))
     refine φ ⟨?_,?_⟩
     ·refine JYY ?_
      try simp only[XZy,ξ,ζ]
      go_wp2
      replace HS:=hid HS.o.emptyB
      generalize V7.alloc (.cells #[] 32)=V8 at HS⊢;generalize V7.heap.size=e8 at HS⊢;refine⟨ZJV.of (HSX.o _ HS.o.g),?_⟩;refine ZY0 ?_
      try simp only[XZy]
      try simp only[Act.put,ψ,ϑ,κ]
      repeat(go_big_quiet_step (fail))
      refine φ ⟨?_,?_⟩
      ·refine JYY ?_
       try simp only[XZy,ξ,ζ]
       go_wp2_with(at_builtin;refine wpList_append_own_at _ rfl _ _ 72 rfl w1.heap.size 32 iu _ 1 8 underlying72 hiu hu0 hu1 hu2 rfl (by decide) (.slice (some ⟨e8,0,none⟩) 0 0) 0 [] rfl (HS.o.ob _ rfl) ⟨wx,0,none⟩ ff ff (QYW nd.f) rfl (HLFK.o.1) (HNEWF.o _ HS.o.g) (HONE.o _) (by unfold maxLen;omega) Ω (γ HBS.o HS.o.g.size) ?_;intro v19 V19 hown hgrow hnil hat;rw[ω,η]at hown;obtain⟨B19,c19,rfl,-,-⟩:=ZfN hown;replace HS:=hid (HS.o.appB hown hgrow hat);clear hown hgrow hnil hat);refine⟨ZJV.of (HSX.o _ HS.o.g),?_⟩;refine YnI ?_
       try simp only[XZy]
       try simp only[Act.put,ψ,ϑ,κ]
       repeat(go_big_quiet_step (fail))
       refine φ ?_;refine JYY ?_
       try simp only[XZy,ξ,ζ]
       go_wp2
       replace HS:=hid HS.o.emptyC
       generalize V19.alloc (.cells #[] 32)=V20 at HS⊢;generalize V19.heap.size=e20 at HS⊢;refine⟨ZJV.of (HSX.o _ HS.o.g),?_⟩;refine YnI ?_
       try simp only[XZy]
       try simp only[Act.put,ψ,ϑ,κ]
       repeat(go_big_quiet_step (fail))
       refine φ ?_;refine JYY ?_
       try simp only[XZy,ξ,ζ]
       go_wp2_with(at_builtin;refine wpList_append_own_at _ rfl _ _ 72 rfl w1.heap.size 32 iu _ 1 8 underlying72 hiu hu0 hu1 hu2 rfl (by decide) (.slice (some ⟨e20,0,none⟩) 0 0) 0 [] rfl (HS.o.oc _ rfl) ⟨wx,0,none⟩ 0 0 (QYW nd.k) rfl (HLZ.o) (HNEWZ.o _) (HONE.o _) (by unfold maxLen;omega) Ω (γ HBS.o HS.o.g.size) ?_;intro v31 V31 hown hgrow hnil hat;rw[ω,η]at hown;obtain⟨B31,c31,rfl,-,-⟩:=ZfN hown;replace HS:=hid (HS.o.appC hown hgrow hat);clear hown hgrow hnil hat);refine⟨ZJV.of (HSX.o _ HS.o.g),?_⟩;refine YnI ?_
       try simp only[XZy,ξ,ζ]
       try simp only[Act.put,ψ,ϑ,κ]
       repeat(go_big_quiet_step (fail))
       refine φ ?_;refine JYY ?_
       try simp only[XZy,ξ,ζ]
       have ha:=HS.o.oa _ rfl;have hb:=HS.o.ob _ rfl;have hc:=HS.o.oc _ rfl;dsimp only at ha hb hc
       have HNO:Hid (ZEV V31 w1.heap.size (.slice XA pp xc) (.slice B19 ff c19) (.slice B31 0 c31) nd):=⟨by
        obtain⟨f1,f2,f3,f4,f5⟩:=HFL.o
        exact⟨by rw[f5];exact ha,by rw[f2];exact hb,by rw[f4];exact hc⟩⟩
       have HGV:=hid HS.o.g;clear ha hb hc HS;go_wp2;refine⟨ZJV.of (HSX.o _ (HGV.o.alloc _)),?_⟩;refine YnI ?_
       try simp only[XZy]
       try simp only[Act.put,ψ,ϑ,κ]
       repeat(go_big_quiet_step (fail))
       refine φ ?_;refine JYY ?_
       try simp only[XZy,ξ,ζ]
       go_wp2_with(at_builtin;refine wpList_append_lies _ rfl _ _ 47 rfl w1.heap.size 84 io _ 3 72 underlying47 hio ho0 ho1 ho2 rfl (by decide) (.slice AN n cN) n (vs.flatMap nvC) rfl (Y9I HVO.o (HGV.o.alloc _)) ⟨V31.heap.size,0,none⟩ 1 1 [.slice XA pp xc,.slice B19 ff c19,.slice B31 0 c31] rfl rfl (β (cs:=#[.slice XA pp xc,.slice B19 ff c19,.slice B31 0 c31]) (t:=84) (fr:=(0,0)) (heap_alloc_new V31 (.cells #[.slice XA pp xc,.slice B19 ff c19,.slice B31 0 c31] 84))) (by simp[Value.oneCell']) Ω (by unfold maxLen;omega) Ω (by have:=HBS.o;have:=HGV.o.size;rw[τ];omega) (V31.heap.size+1) (by simp) ?_;intro g5 c5 V34 hown5 hgrow5 hat5 hlt5;have t5:XF4 (λk=>(Value.slice AN n cN).ownBlock=some k) V31 V34:=(((Gr.refl _).alloc _).touch _).trans (VxQ hgrow5 _ (λk e _=>e));have HT5:=hid t5;have HO5:=hid hown5;have HR5:=hid ((HQR.o.gr HGV.o).touch t5 (λe=>YnK HVO.o HQR.o (by decide) e rfl rfl));have HX5:=hid ((HTH.o.gr HGV.o).touch t5 (λe=>YnK HVO.o HTH.o (by decide) e rfl rfl));have z1:=HR5.o.cell (j:=1) rfl;have zf:=HR5.o.free 1;have zl:=HR5.o.lt;clear hown5 hgrow5 hat5 hlt5 t5);refine⟨ZJV.of (HSY.o _ HR5.o HX5.o),?_⟩;refine ZOd ?_
       try simp only[XZy,ξ,ζ]
       try simp only[Act.put,ψ,ϑ,κ]
       repeat(go_big_quiet_step (fail))
       refine φ ?_;clear y1 y2 y3 y4 HSX HSY inst;refine JYY ?_
       try simp only[XZy,ξ,ζ]
       go_wp2;refine δ ?_;have HTW:Hid (XF4 (λk=>k=q\/w1.heap.size<=k) w1 (V34.setCell ⟨q,1,none⟩ (.slice (some ⟨g5,0,none⟩) (n+1) c5))):=⟨((HT.o.trans (HGV.o.touch _)).trans (HT5.o.mono (λk _ h=>.inr (Vvr HVO.o h).1))).trans ((Vzf V34 q 1 _).mono (λk _ h=>.inl h))⟩;have HRW:Hid (Rec (V34.setCell ⟨q,1,none⟩ (.slice (some ⟨g5,0,none⟩) (n+1) c5)) q 49 [.slice KA ns kc,.slice (some ⟨g5,0,none⟩) (n+1) c5]):=⟨HR5.o.set 1 _⟩
       have HOW:Hid ((V34.setCell ⟨q,1,none⟩ (.slice (some ⟨g5,0,none⟩) (n+1) c5)).ownsRow w1.heap.size 3 1 (.slice KA ns kc) ns (plV g.all g.S)):=⟨by
        have h5:=Zs2 (Y9I HO.o HGV.o) HT5.o (λg hg e=>YnK HO.o HVO.o (by decide) hg e rfl)
        exact VDR h5 _ (λg hg=>YnK h5 HR5.o (by decide) hg rfl)⟩
       have HNW:=hid (HEND.o _ _ g5 c5 _ _ _ HGV.o HT5.o HR5.o HO5.o HNO.o);generalize V34.setCell ⟨q,1,none⟩ (.slice (some ⟨g5,0,none⟩) (n+1) c5)=w6 at HTW HRW HOW HNW⊢;clear z1 zf zl;go_wp2;go_round
       case rel=>exact⟨n+1,_,HLA.o,by go_num,HTW,HRW,HOW,HNW⟩
       case measure=>have:=HLA.o;simp[intOf];omega
      ·refine JYY ?_
       try simp only[XZy,ξ,ζ]
       go_wp2
       replace HS:=hid HS.o.emptyC
       generalize V8.alloc (.cells #[] 32)=V20 at HS⊢;generalize V8.heap.size=e20 at HS⊢;refine⟨ZJV.of (HSX.o _ HS.o.g),?_⟩;refine YnI ?_
       try simp only[XZy]
       try simp only[Act.put,ψ,ϑ,κ]
       repeat(go_big_quiet_step (fail))
       refine φ ?_;refine JYY ?_
       try simp only[XZy,ξ,ζ]
       go_wp2_with(at_builtin;refine wpList_append_own_at _ rfl _ _ 72 rfl w1.heap.size 32 iu _ 1 8 underlying72 hiu hu0 hu1 hu2 rfl (by decide) (.slice (some ⟨e8,0,none⟩) 0 0) 0 [] rfl (HS.o.ob _ rfl) ⟨wx,0,none⟩ ff ff (QYW nd.f) rfl (HLFK.o.1) (HNEWF.o _ HS.o.g) (HONE.o _) (by unfold maxLen;omega) Ω (γ HBS.o HS.o.g.size) ?_;intro v19 V19 hown hgrow hnil hat;rw[ω,η]at hown;obtain⟨B19,c19,rfl,-,-⟩:=ZfN hown;replace HS:=hid (HS.o.appB hown hgrow hat);clear hown hgrow hnil hat);refine⟨ZJV.of (HSX.o _ HS.o.g),?_⟩;refine YnI ?_
       try simp only[XZy]
       try simp only[Act.put,ψ,ϑ,κ]
       repeat(go_big_quiet_step (fail))
       refine φ ?_;refine JYY ?_
       try simp only[XZy,ξ,ζ]
       go_wp2_with(at_builtin;refine wpList_append_own_at _ rfl _ _ 72 rfl w1.heap.size 32 iu _ 1 8 underlying72 hiu hu0 hu1 hu2 rfl (by decide) (.slice (some ⟨e20,0,none⟩) 0 0) 0 [] rfl (HS.o.oc _ rfl) ⟨wx,0,none⟩ 0 0 (QYW nd.k) rfl (HLZ.o) (HNEWZ.o _) (HONE.o _) (by unfold maxLen;omega) Ω (γ HBS.o HS.o.g.size) ?_;intro v31 V31 hown hgrow hnil hat;rw[ω,η]at hown;obtain⟨B31,c31,rfl,-,-⟩:=ZfN hown;replace HS:=hid (HS.o.appC hown hgrow hat);clear hown hgrow hnil hat);refine⟨ZJV.of (HSX.o _ HS.o.g),?_⟩;refine YnI ?_
       try simp only[XZy,ξ,ζ]
       try simp only[Act.put,ψ,ϑ,κ]
       repeat(go_big_quiet_step (fail))
       refine φ ?_;refine JYY ?_
       try simp only[XZy,ξ,ζ]
       have ha:=HS.o.oa _ rfl;have hb:=HS.o.ob _ rfl;have hc:=HS.o.oc _ rfl;dsimp only at ha hb hc
       have HNO:Hid (ZEV V31 w1.heap.size (.slice XA pp xc) (.slice B19 ff c19) (.slice B31 0 c31) nd):=⟨by
        obtain⟨f1,f2,f3,f4,f5⟩:=HFL.o
        exact⟨by rw[f5];exact ha,by rw[f2];exact hb,by rw[f4];exact hc⟩⟩
       have HGV:=hid HS.o.g;clear ha hb hc HS;go_wp2;refine⟨ZJV.of (HSX.o _ (HGV.o.alloc _)),?_⟩;refine YnI ?_
       try simp only[XZy]
       try simp only[Act.put,ψ,ϑ,κ]
       repeat(go_big_quiet_step (fail))
       refine φ ?_;refine JYY ?_
       try simp only[XZy,ξ,ζ]
       go_wp2_with(at_builtin;refine wpList_append_lies _ rfl _ _ 47 rfl w1.heap.size 84 io _ 3 72 underlying47 hio ho0 ho1 ho2 rfl (by decide) (.slice AN n cN) n (vs.flatMap nvC) rfl (Y9I HVO.o (HGV.o.alloc _)) ⟨V31.heap.size,0,none⟩ 1 1 [.slice XA pp xc,.slice B19 ff c19,.slice B31 0 c31] rfl rfl (β (cs:=#[.slice XA pp xc,.slice B19 ff c19,.slice B31 0 c31]) (t:=84) (fr:=(0,0)) (heap_alloc_new V31 (.cells #[.slice XA pp xc,.slice B19 ff c19,.slice B31 0 c31] 84))) (by simp[Value.oneCell']) Ω (by unfold maxLen;omega) Ω (by have:=HBS.o;have:=HGV.o.size;rw[τ];omega) (V31.heap.size+1) (by simp) ?_;intro g5 c5 V34 hown5 hgrow5 hat5 hlt5;have t5:XF4 (λk=>(Value.slice AN n cN).ownBlock=some k) V31 V34:=(((Gr.refl _).alloc _).touch _).trans (VxQ hgrow5 _ (λk e _=>e));have HT5:=hid t5;have HO5:=hid hown5;have HR5:=hid ((HQR.o.gr HGV.o).touch t5 (λe=>YnK HVO.o HQR.o (by decide) e rfl rfl));have HX5:=hid ((HTH.o.gr HGV.o).touch t5 (λe=>YnK HVO.o HTH.o (by decide) e rfl rfl));have z1:=HR5.o.cell (j:=1) rfl;have zf:=HR5.o.free 1;have zl:=HR5.o.lt;clear hown5 hgrow5 hat5 hlt5 t5);refine⟨ZJV.of (HSY.o _ HR5.o HX5.o),?_⟩;refine ZOd ?_
       try simp only[XZy,ξ,ζ]
       try simp only[Act.put,ψ,ϑ,κ]
       repeat(go_big_quiet_step (fail))
       refine φ ?_;clear y1 y2 y3 y4 HSX HSY inst;refine JYY ?_
       try simp only[XZy,ξ,ζ]
       go_wp2;refine δ ?_;have HTW:Hid (XF4 (λk=>k=q\/w1.heap.size<=k) w1 (V34.setCell ⟨q,1,none⟩ (.slice (some ⟨g5,0,none⟩) (n+1) c5))):=⟨((HT.o.trans (HGV.o.touch _)).trans (HT5.o.mono (λk _ h=>.inr (Vvr HVO.o h).1))).trans ((Vzf V34 q 1 _).mono (λk _ h=>.inl h))⟩;have HRW:Hid (Rec (V34.setCell ⟨q,1,none⟩ (.slice (some ⟨g5,0,none⟩) (n+1) c5)) q 49 [.slice KA ns kc,.slice (some ⟨g5,0,none⟩) (n+1) c5]):=⟨HR5.o.set 1 _⟩
       have HOW:Hid ((V34.setCell ⟨q,1,none⟩ (.slice (some ⟨g5,0,none⟩) (n+1) c5)).ownsRow w1.heap.size 3 1 (.slice KA ns kc) ns (plV g.all g.S)):=⟨by
        have h5:=Zs2 (Y9I HO.o HGV.o) HT5.o (λg hg e=>YnK HO.o HVO.o (by decide) hg e rfl)
        exact VDR h5 _ (λg hg=>YnK h5 HR5.o (by decide) hg rfl)⟩
       have HNW:=hid (HEND.o _ _ g5 c5 _ _ _ HGV.o HT5.o HR5.o HO5.o HNO.o);generalize V34.setCell ⟨q,1,none⟩ (.slice (some ⟨g5,0,none⟩) (n+1) c5)=w6 at HTW HRW HOW HNW⊢;clear z1 zf zl;go_wp2;go_round
       case rel=>exact⟨n+1,_,HLA.o,by go_num,HTW,HRW,HOW,HNW⟩
       case measure=>have:=HLA.o;simp[intOf];omega
     ·refine JYY ?_
      try simp only[XZy,ξ,ζ]
      go_wp2
      replace HS:=hid HS.o.emptyC
      generalize V7.alloc (.cells #[] 32)=V20 at HS⊢;generalize V7.heap.size=e20 at HS⊢;refine⟨ZJV.of (HSX.o _ HS.o.g),?_⟩;refine YnI ?_
      try simp only[XZy]
      try simp only[Act.put,ψ,ϑ,κ]
      repeat(go_big_quiet_step (fail))
      refine φ ?_;refine JYY ?_
      try simp only[XZy,ξ,ζ]
      go_wp2
      replace HS:=hid HS.o.emptyB
      generalize V20.alloc (.cells #[] 32)=V8 at HS⊢;generalize V20.heap.size=e8 at HS⊢;refine⟨ZJV.of (HSX.o _ HS.o.g),?_⟩;refine YnI ?_
      try simp only[XZy]
      try simp only[Act.put,ψ,ϑ,κ]
      repeat(go_big_quiet_step (fail))
      refine φ ?_;refine JYY ?_
      try simp only[XZy,ξ,ζ]
      go_wp2_with(at_builtin;refine wpList_append_own_at _ rfl _ _ 72 rfl w1.heap.size 32 iu _ 1 8 underlying72 hiu hu0 hu1 hu2 rfl (by decide) (.slice (some ⟨e8,0,none⟩) 0 0) 0 [] rfl (HS.o.ob _ rfl) ⟨wx,0,none⟩ ff ff (QYW nd.f) rfl (HLFK.o.1) (HNEWF.o _ HS.o.g) (HONE.o _) (by unfold maxLen;omega) Ω (γ HBS.o HS.o.g.size) ?_;intro v19 V19 hown hgrow hnil hat;rw[ω,η]at hown;obtain⟨B19,c19,rfl,-,-⟩:=ZfN hown;replace HS:=hid (HS.o.appB hown hgrow hat);clear hown hgrow hnil hat);refine⟨ZJV.of (HSX.o _ HS.o.g),?_⟩;refine YnI ?_
      try simp only[XZy]
      try simp only[Act.put,ψ,ϑ,κ]
      repeat(go_big_quiet_step (fail))
      refine φ ?_;refine JYY ?_
      try simp only[XZy,ξ,ζ]
      go_wp2_with(at_builtin;refine wpList_append_own_at _ rfl _ _ 72 rfl w1.heap.size 32 iu _ 1 8 underlying72 hiu hu0 hu1 hu2 rfl (by decide) (.slice (some ⟨e20,0,none⟩) 0 0) 0 [] rfl (HS.o.oc _ rfl) ⟨wx,0,none⟩ 0 0 (QYW nd.k) rfl (HLZ.o) (HNEWZ.o _) (HONE.o _) (by unfold maxLen;omega) Ω (γ HBS.o HS.o.g.size) ?_;intro v31 V31 hown hgrow hnil hat;rw[ω,η]at hown;obtain⟨B31,c31,rfl,-,-⟩:=ZfN hown;replace HS:=hid (HS.o.appC hown hgrow hat);clear hown hgrow hnil hat);refine⟨ZJV.of (HSX.o _ HS.o.g),?_⟩;refine YnI ?_
      try simp only[XZy,ξ,ζ]
      try simp only[Act.put,ψ,ϑ,κ]
      repeat(go_big_quiet_step (fail))
      refine φ ?_;refine JYY ?_
      try simp only[XZy,ξ,ζ]
      have ha:=HS.o.oa _ rfl;have hb:=HS.o.ob _ rfl;have hc:=HS.o.oc _ rfl;dsimp only at ha hb hc
      have HNO:Hid (ZEV V31 w1.heap.size (.slice XA pp xc) (.slice B19 ff c19) (.slice B31 0 c31) nd):=⟨by
       obtain⟨f1,f2,f3,f4,f5⟩:=HFL.o
       exact⟨by rw[f5];exact ha,by rw[f2];exact hb,by rw[f4];exact hc⟩⟩
      have HGV:=hid HS.o.g;clear ha hb hc HS;go_wp2;refine⟨ZJV.of (HSX.o _ (HGV.o.alloc _)),?_⟩;refine YnI ?_
      try simp only[XZy]
      try simp only[Act.put,ψ,ϑ,κ]
      repeat(go_big_quiet_step (fail))
      refine φ ?_;refine JYY ?_
      try simp only[XZy,ξ,ζ]
      go_wp2_with(at_builtin;refine wpList_append_lies _ rfl _ _ 47 rfl w1.heap.size 84 io _ 3 72 underlying47 hio ho0 ho1 ho2 rfl (by decide) (.slice AN n cN) n (vs.flatMap nvC) rfl (Y9I HVO.o (HGV.o.alloc _)) ⟨V31.heap.size,0,none⟩ 1 1 [.slice XA pp xc,.slice B19 ff c19,.slice B31 0 c31] rfl rfl (β (cs:=#[.slice XA pp xc,.slice B19 ff c19,.slice B31 0 c31]) (t:=84) (fr:=(0,0)) (heap_alloc_new V31 (.cells #[.slice XA pp xc,.slice B19 ff c19,.slice B31 0 c31] 84))) (by simp[Value.oneCell']) Ω (by unfold maxLen;omega) Ω (by have:=HBS.o;have:=HGV.o.size;rw[τ];omega) (V31.heap.size+1) (by simp) ?_;intro g5 c5 V34 hown5 hgrow5 hat5 hlt5;have t5:XF4 (λk=>(Value.slice AN n cN).ownBlock=some k) V31 V34:=(((Gr.refl _).alloc _).touch _).trans (VxQ hgrow5 _ (λk e _=>e));have HT5:=hid t5;have HO5:=hid hown5;have HR5:=hid ((HQR.o.gr HGV.o).touch t5 (λe=>YnK HVO.o HQR.o (by decide) e rfl rfl));have HX5:=hid ((HTH.o.gr HGV.o).touch t5 (λe=>YnK HVO.o HTH.o (by decide) e rfl rfl));have z1:=HR5.o.cell (j:=1) rfl;have zf:=HR5.o.free 1;have zl:=HR5.o.lt;clear hown5 hgrow5 hat5 hlt5 t5);refine⟨ZJV.of (HSY.o _ HR5.o HX5.o),?_⟩;refine ZOd ?_
      try simp only[XZy,ξ,ζ]
      try simp only[Act.put,ψ,ϑ,κ]
      repeat(go_big_quiet_step (fail))
      refine φ ?_;clear y1 y2 y3 y4 HSX HSY inst;refine JYY ?_
      try simp only[XZy,ξ,ζ]
      go_wp2;refine δ ?_;have HTW:Hid (XF4 (λk=>k=q\/w1.heap.size<=k) w1 (V34.setCell ⟨q,1,none⟩ (.slice (some ⟨g5,0,none⟩) (n+1) c5))):=⟨((HT.o.trans (HGV.o.touch _)).trans (HT5.o.mono (λk _ h=>.inr (Vvr HVO.o h).1))).trans ((Vzf V34 q 1 _).mono (λk _ h=>.inl h))⟩;have HRW:Hid (Rec (V34.setCell ⟨q,1,none⟩ (.slice (some ⟨g5,0,none⟩) (n+1) c5)) q 49 [.slice KA ns kc,.slice (some ⟨g5,0,none⟩) (n+1) c5]):=⟨HR5.o.set 1 _⟩
      have HOW:Hid ((V34.setCell ⟨q,1,none⟩ (.slice (some ⟨g5,0,none⟩) (n+1) c5)).ownsRow w1.heap.size 3 1 (.slice KA ns kc) ns (plV g.all g.S)):=⟨by
       have h5:=Zs2 (Y9I HO.o HGV.o) HT5.o (λg hg e=>YnK HO.o HVO.o (by decide) hg e rfl)
       exact VDR h5 _ (λg hg=>YnK h5 HR5.o (by decide) hg rfl)⟩
      have HNW:=hid (HEND.o _ _ g5 c5 _ _ _ HGV.o HT5.o HR5.o HO5.o HNO.o);generalize V34.setCell ⟨q,1,none⟩ (.slice (some ⟨g5,0,none⟩) (n+1) c5)=w6 at HTW HRW HOW HNW⊢;clear z1 zf zl;go_wp2;go_round
      case rel=>exact⟨n+1,_,HLA.o,by go_num,HTW,HRW,HOW,HNW⟩
      case measure=>have:=HLA.o;simp[intOf];omega
    ·refine JYY ?_
     try simp only[XZy,ξ,ζ]
     go_wp2
     replace HS:=hid HS.o.emptyB
     generalize V0.alloc (.cells #[] 32)=V8 at HS⊢;generalize V0.heap.size=e8 at HS⊢;refine⟨ZJV.of (HSX.o _ HS.o.g),?_⟩;refine ZY0 ?_
     try simp only[XZy]
     try simp only[Act.put,ψ,ϑ,κ]
     repeat(go_big_quiet_step (fail))
     refine φ ⟨?_,?_⟩
     ·refine JYY ?_
      try simp only[XZy,ξ,ζ]
      go_wp2_with(go_at_call 32;refine(HKX.o _ HS.o.g).mono ?_;rintro e V7 ⟨XA,xc,rfl,hg,ho⟩;replace HS:=hid (HS.o.keys hg ho);clear hg ho);refine⟨ZJV.of (HSX.o _ HS.o.g),?_⟩;refine ZY0 ?_
      try simp only[XZy]
      try simp only[Act.put,ψ,ϑ,κ]
      repeat(go_big_quiet_step (fail))
      refine φ ⟨?_,?_⟩
      ·refine JYY ?_
       try simp only[XZy,ξ,ζ]
       go_wp2_with(at_builtin;refine wpList_append_own_at _ rfl _ _ 72 rfl w1.heap.size 32 iu _ 1 8 underlying72 hiu hu0 hu1 hu2 rfl (by decide) (.slice (some ⟨e8,0,none⟩) 0 0) 0 [] rfl (HS.o.ob _ rfl) ⟨wx,0,none⟩ ff ff (QYW nd.f) rfl (HLFK.o.1) (HNEWF.o _ HS.o.g) (HONE.o _) (by unfold maxLen;omega) Ω (γ HBS.o HS.o.g.size) ?_;intro v19 V19 hown hgrow hnil hat;rw[ω,η]at hown;obtain⟨B19,c19,rfl,-,-⟩:=ZfN hown;replace HS:=hid (HS.o.appB hown hgrow hat);clear hown hgrow hnil hat);refine⟨ZJV.of (HSX.o _ HS.o.g),?_⟩;refine YnI ?_
       try simp only[XZy]
       try simp only[Act.put,ψ,ϑ,κ]
       repeat(go_big_quiet_step (fail))
       refine φ ?_;refine JYY ?_
       try simp only[XZy,ξ,ζ]
       go_wp2
       replace HS:=hid HS.o.emptyC
       generalize V19.alloc (.cells #[] 32)=V20 at HS⊢;generalize V19.heap.size=e20 at HS⊢;refine⟨ZJV.of (HSX.o _ HS.o.g),?_⟩;refine YnI ?_
       try simp only[XZy]
       try simp only[Act.put,ψ,ϑ,κ]
       repeat(go_big_quiet_step (fail))
       refine φ ?_;refine JYY ?_
       try simp only[XZy,ξ,ζ]
       go_wp2_with(at_builtin;refine wpList_append_own_at _ rfl _ _ 72 rfl w1.heap.size 32 iu _ 1 8 underlying72 hiu hu0 hu1 hu2 rfl (by decide) (.slice (some ⟨e20,0,none⟩) 0 0) 0 [] rfl (HS.o.oc _ rfl) ⟨wx,0,none⟩ 0 0 (QYW nd.k) rfl (HLZ.o) (HNEWZ.o _) (HONE.o _) (by unfold maxLen;omega) Ω (γ HBS.o HS.o.g.size) ?_;intro v31 V31 hown hgrow hnil hat;rw[ω,η]at hown;obtain⟨B31,c31,rfl,-,-⟩:=ZfN hown;replace HS:=hid (HS.o.appC hown hgrow hat);clear hown hgrow hnil hat);refine⟨ZJV.of (HSX.o _ HS.o.g),?_⟩;refine YnI ?_
       try simp only[XZy,ξ,ζ]
       try simp only[Act.put,ψ,ϑ,κ]
       repeat(go_big_quiet_step (fail))
       refine φ ?_;refine JYY ?_
       try simp only[XZy,ξ,ζ]
       have ha:=HS.o.oa _ rfl;have hb:=HS.o.ob _ rfl;have hc:=HS.o.oc _ rfl;dsimp only at ha hb hc
       have HNO:Hid (ZEV V31 w1.heap.size (.slice XA pp xc) (.slice B19 ff c19) (.slice B31 0 c31) nd):=⟨by
        obtain⟨f1,f2,f3,f4,f5⟩:=HFL.o
        exact⟨by rw[f5];exact ha,by rw[f2];exact hb,by rw[f4];exact hc⟩⟩
       have HGV:=hid HS.o.g;clear ha hb hc HS;go_wp2;refine⟨ZJV.of (HSX.o _ (HGV.o.alloc _)),?_⟩;refine YnI ?_
       try simp only[XZy]
       try simp only[Act.put,ψ,ϑ,κ]
       repeat(go_big_quiet_step (fail))
       refine φ ?_;refine JYY ?_
       try simp only[XZy,ξ,ζ]
       go_wp2_with(at_builtin;refine wpList_append_lies _ rfl _ _ 47 rfl w1.heap.size 84 io _ 3 72 underlying47 hio ho0 ho1 ho2 rfl (by decide) (.slice AN n cN) n (vs.flatMap nvC) rfl (Y9I HVO.o (HGV.o.alloc _)) ⟨V31.heap.size,0,none⟩ 1 1 [.slice XA pp xc,.slice B19 ff c19,.slice B31 0 c31] rfl rfl (β (cs:=#[.slice XA pp xc,.slice B19 ff c19,.slice B31 0 c31]) (t:=84) (fr:=(0,0)) (heap_alloc_new V31 (.cells #[.slice XA pp xc,.slice B19 ff c19,.slice B31 0 c31] 84))) (by simp[Value.oneCell']) Ω (by unfold maxLen;omega) Ω (by have:=HBS.o;have:=HGV.o.size;rw[τ];omega) (V31.heap.size+1) (by simp) ?_;intro g5 c5 V34 hown5 hgrow5 hat5 hlt5;have t5:XF4 (λk=>(Value.slice AN n cN).ownBlock=some k) V31 V34:=(((Gr.refl _).alloc _).touch _).trans (VxQ hgrow5 _ (λk e _=>e));have HT5:=hid t5;have HO5:=hid hown5;have HR5:=hid ((HQR.o.gr HGV.o).touch t5 (λe=>YnK HVO.o HQR.o (by decide) e rfl rfl));have HX5:=hid ((HTH.o.gr HGV.o).touch t5 (λe=>YnK HVO.o HTH.o (by decide) e rfl rfl));have z1:=HR5.o.cell (j:=1) rfl;have zf:=HR5.o.free 1;have zl:=HR5.o.lt;clear hown5 hgrow5 hat5 hlt5 t5);refine⟨ZJV.of (HSY.o _ HR5.o HX5.o),?_⟩;refine ZOd ?_
       try simp only[XZy,ξ,ζ]
       try simp only[Act.put,ψ,ϑ,κ]
       repeat(go_big_quiet_step (fail))
       refine φ ?_;clear y1 y2 y3 y4 HSX HSY inst;refine JYY ?_
       try simp only[XZy,ξ,ζ]
       go_wp2;refine δ ?_;have HTW:Hid (XF4 (λk=>k=q\/w1.heap.size<=k) w1 (V34.setCell ⟨q,1,none⟩ (.slice (some ⟨g5,0,none⟩) (n+1) c5))):=⟨((HT.o.trans (HGV.o.touch _)).trans (HT5.o.mono (λk _ h=>.inr (Vvr HVO.o h).1))).trans ((Vzf V34 q 1 _).mono (λk _ h=>.inl h))⟩;have HRW:Hid (Rec (V34.setCell ⟨q,1,none⟩ (.slice (some ⟨g5,0,none⟩) (n+1) c5)) q 49 [.slice KA ns kc,.slice (some ⟨g5,0,none⟩) (n+1) c5]):=⟨HR5.o.set 1 _⟩
       have HOW:Hid ((V34.setCell ⟨q,1,none⟩ (.slice (some ⟨g5,0,none⟩) (n+1) c5)).ownsRow w1.heap.size 3 1 (.slice KA ns kc) ns (plV g.all g.S)):=⟨by
        have h5:=Zs2 (Y9I HO.o HGV.o) HT5.o (λg hg e=>YnK HO.o HVO.o (by decide) hg e rfl)
        exact VDR h5 _ (λg hg=>YnK h5 HR5.o (by decide) hg rfl)⟩
       have HNW:=hid (HEND.o _ _ g5 c5 _ _ _ HGV.o HT5.o HR5.o HO5.o HNO.o);generalize V34.setCell ⟨q,1,none⟩ (.slice (some ⟨g5,0,none⟩) (n+1) c5)=w6 at HTW HRW HOW HNW⊢;clear z1 zf zl;go_wp2;go_round
       case rel=>exact⟨n+1,_,HLA.o,by go_num,HTW,HRW,HOW,HNW⟩
       case measure=>have:=HLA.o;simp[intOf];omega
      ·refine JYY ?_
       try simp only[XZy,ξ,ζ]
       go_wp2
       replace HS:=hid HS.o.emptyC
       generalize V7.alloc (.cells #[] 32)=V20 at HS⊢;generalize V7.heap.size=e20 at HS⊢;refine⟨ZJV.of (HSX.o _ HS.o.g),?_⟩;refine YnI ?_
       try simp only[XZy]
       try simp only[Act.put,ψ,ϑ,κ]
       repeat(go_big_quiet_step (fail))
       refine φ ?_;refine JYY ?_
       try simp only[XZy,ξ,ζ]
       go_wp2_with(at_builtin;refine wpList_append_own_at _ rfl _ _ 72 rfl w1.heap.size 32 iu _ 1 8 underlying72 hiu hu0 hu1 hu2 rfl (by decide) (.slice (some ⟨e8,0,none⟩) 0 0) 0 [] rfl (HS.o.ob _ rfl) ⟨wx,0,none⟩ ff ff (QYW nd.f) rfl (HLFK.o.1) (HNEWF.o _ HS.o.g) (HONE.o _) (by unfold maxLen;omega) Ω (γ HBS.o HS.o.g.size) ?_;intro v19 V19 hown hgrow hnil hat;rw[ω,η]at hown;obtain⟨B19,c19,rfl,-,-⟩:=ZfN hown;replace HS:=hid (HS.o.appB hown hgrow hat);clear hown hgrow hnil hat);refine⟨ZJV.of (HSX.o _ HS.o.g),?_⟩;refine YnI ?_
       try simp only[XZy]
       try simp only[Act.put,ψ,ϑ,κ]
       repeat(go_big_quiet_step (fail))
       refine φ ?_;refine JYY ?_
       try simp only[XZy,ξ,ζ]
       go_wp2_with(at_builtin;refine wpList_append_own_at _ rfl _ _ 72 rfl w1.heap.size 32 iu _ 1 8 underlying72 hiu hu0 hu1 hu2 rfl (by decide) (.slice (some ⟨e20,0,none⟩) 0 0) 0 [] rfl (HS.o.oc _ rfl) ⟨wx,0,none⟩ 0 0 (QYW nd.k) rfl (HLZ.o) (HNEWZ.o _) (HONE.o _) (by unfold maxLen;omega) Ω (γ HBS.o HS.o.g.size) ?_;intro v31 V31 hown hgrow hnil hat;rw[ω,η]at hown;obtain⟨B31,c31,rfl,-,-⟩:=ZfN hown;replace HS:=hid (HS.o.appC hown hgrow hat);clear hown hgrow hnil hat);refine⟨ZJV.of (HSX.o _ HS.o.g),?_⟩;refine YnI ?_
       try simp only[XZy,ξ,ζ]
       try simp only[Act.put,ψ,ϑ,κ]
       repeat(go_big_quiet_step (fail))
       refine φ ?_;refine JYY ?_
       try simp only[XZy,ξ,ζ]
       have ha:=HS.o.oa _ rfl;have hb:=HS.o.ob _ rfl;have hc:=HS.o.oc _ rfl;dsimp only at ha hb hc
       have HNO:Hid (ZEV V31 w1.heap.size (.slice XA pp xc) (.slice B19 ff c19) (.slice B31 0 c31) nd):=⟨by
        obtain⟨f1,f2,f3,f4,f5⟩:=HFL.o
        exact⟨by rw[f5];exact ha,by rw[f2];exact hb,by rw[f4];exact hc⟩⟩
       have HGV:=hid HS.o.g;clear ha hb hc HS;go_wp2;refine⟨ZJV.of (HSX.o _ (HGV.o.alloc _)),?_⟩;refine YnI ?_
       try simp only[XZy]
       try simp only[Act.put,ψ,ϑ,κ]
       repeat(go_big_quiet_step (fail))
       refine φ ?_;refine JYY ?_
       try simp only[XZy,ξ,ζ]
       go_wp2_with(at_builtin;refine wpList_append_lies _ rfl _ _ 47 rfl w1.heap.size 84 io _ 3 72 underlying47 hio ho0 ho1 ho2 rfl (by decide) (.slice AN n cN) n (vs.flatMap nvC) rfl (Y9I HVO.o (HGV.o.alloc _)) ⟨V31.heap.size,0,none⟩ 1 1 [.slice XA pp xc,.slice B19 ff c19,.slice B31 0 c31] rfl rfl (β (cs:=#[.slice XA pp xc,.slice B19 ff c19,.slice B31 0 c31]) (t:=84) (fr:=(0,0)) (heap_alloc_new V31 (.cells #[.slice XA pp xc,.slice B19 ff c19,.slice B31 0 c31] 84))) (by simp[Value.oneCell']) Ω (by unfold maxLen;omega) Ω (by have:=HBS.o;have:=HGV.o.size;rw[τ];omega) (V31.heap.size+1) (by simp) ?_;intro g5 c5 V34 hown5 hgrow5 hat5 hlt5;have t5:XF4 (λk=>(Value.slice AN n cN).ownBlock=some k) V31 V34:=(((Gr.refl _).alloc _).touch _).trans (VxQ hgrow5 _ (λk e _=>e));have HT5:=hid t5;have HO5:=hid hown5;have HR5:=hid ((HQR.o.gr HGV.o).touch t5 (λe=>YnK HVO.o HQR.o (by decide) e rfl rfl));have HX5:=hid ((HTH.o.gr HGV.o).touch t5 (λe=>YnK HVO.o HTH.o (by decide) e rfl rfl));have z1:=HR5.o.cell (j:=1) rfl;have zf:=HR5.o.free 1;have zl:=HR5.o.lt;clear hown5 hgrow5 hat5 hlt5 t5);refine⟨ZJV.of (HSY.o _ HR5.o HX5.o),?_⟩;refine ZOd ?_
       try simp only[XZy,ξ,ζ]
       try simp only[Act.put,ψ,ϑ,κ]
       repeat(go_big_quiet_step (fail))
       refine φ ?_;clear y1 y2 y3 y4 HSX HSY inst;refine JYY ?_
       try simp only[XZy,ξ,ζ]
       go_wp2;refine δ ?_;have HTW:Hid (XF4 (λk=>k=q\/w1.heap.size<=k) w1 (V34.setCell ⟨q,1,none⟩ (.slice (some ⟨g5,0,none⟩) (n+1) c5))):=⟨((HT.o.trans (HGV.o.touch _)).trans (HT5.o.mono (λk _ h=>.inr (Vvr HVO.o h).1))).trans ((Vzf V34 q 1 _).mono (λk _ h=>.inl h))⟩;have HRW:Hid (Rec (V34.setCell ⟨q,1,none⟩ (.slice (some ⟨g5,0,none⟩) (n+1) c5)) q 49 [.slice KA ns kc,.slice (some ⟨g5,0,none⟩) (n+1) c5]):=⟨HR5.o.set 1 _⟩
       have HOW:Hid ((V34.setCell ⟨q,1,none⟩ (.slice (some ⟨g5,0,none⟩) (n+1) c5)).ownsRow w1.heap.size 3 1 (.slice KA ns kc) ns (plV g.all g.S)):=⟨by
        have h5:=Zs2 (Y9I HO.o HGV.o) HT5.o (λg hg e=>YnK HO.o HVO.o (by decide) hg e rfl)
        exact VDR h5 _ (λg hg=>YnK h5 HR5.o (by decide) hg rfl)⟩
       have HNW:=hid (HEND.o _ _ g5 c5 _ _ _ HGV.o HT5.o HR5.o HO5.o HNO.o);generalize V34.setCell ⟨q,1,none⟩ (.slice (some ⟨g5,0,none⟩) (n+1) c5)=w6 at HTW HRW HOW HNW⊢;clear z1 zf zl;go_wp2;go_round
       case rel=>exact⟨n+1,_,HLA.o,by go_num,HTW,HRW,HOW,HNW⟩
       case measure=>have:=HLA.o;simp[intOf];omega
     ·refine JYY ?_
      try simp only[XZy,ξ,ζ]
      go_wp2
      replace HS:=hid HS.o.emptyC
      generalize V8.alloc (.cells #[] 32)=V20 at HS⊢;generalize V8.heap.size=e20 at HS⊢;refine⟨ZJV.of (HSX.o _ HS.o.g),?_⟩;refine YnI ?_
      try simp only[XZy]
      try simp only[Act.put,ψ,ϑ,κ]
      repeat(go_big_quiet_step (fail))
      refine φ ?_;refine JYY ?_
      try simp only[XZy,ξ,ζ]
      go_wp2_with(go_at_call 32;refine(HKX.o _ HS.o.g).mono ?_;rintro e V7 ⟨XA,xc,rfl,hg,ho⟩;replace HS:=hid (HS.o.keys hg ho);clear hg ho);refine⟨ZJV.of (HSX.o _ HS.o.g),?_⟩;refine YnI ?_
      try simp only[XZy]
      try simp only[Act.put,ψ,ϑ,κ]
      repeat(go_big_quiet_step (fail))
      refine φ ?_;refine JYY ?_
      try simp only[XZy,ξ,ζ]
      go_wp2_with(at_builtin;refine wpList_append_own_at _ rfl _ _ 72 rfl w1.heap.size 32 iu _ 1 8 underlying72 hiu hu0 hu1 hu2 rfl (by decide) (.slice (some ⟨e8,0,none⟩) 0 0) 0 [] rfl (HS.o.ob _ rfl) ⟨wx,0,none⟩ ff ff (QYW nd.f) rfl (HLFK.o.1) (HNEWF.o _ HS.o.g) (HONE.o _) (by unfold maxLen;omega) Ω (γ HBS.o HS.o.g.size) ?_;intro v19 V19 hown hgrow hnil hat;rw[ω,η]at hown;obtain⟨B19,c19,rfl,-,-⟩:=ZfN hown;replace HS:=hid (HS.o.appB hown hgrow hat);clear hown hgrow hnil hat);refine⟨ZJV.of (HSX.o _ HS.o.g),?_⟩;refine YnI ?_
      try simp only[XZy]
      try simp only[Act.put,ψ,ϑ,κ]
      repeat(go_big_quiet_step (fail))
      refine φ ?_;refine JYY ?_
      try simp only[XZy,ξ,ζ]
      go_wp2_with(at_builtin;refine wpList_append_own_at _ rfl _ _ 72 rfl w1.heap.size 32 iu _ 1 8 underlying72 hiu hu0 hu1 hu2 rfl (by decide) (.slice (some ⟨e20,0,none⟩) 0 0) 0 [] rfl (HS.o.oc _ rfl) ⟨wx,0,none⟩ 0 0 (QYW nd.k) rfl (HLZ.o) (HNEWZ.o _) (HONE.o _) (by unfold maxLen;omega) Ω (γ HBS.o HS.o.g.size) ?_;intro v31 V31 hown hgrow hnil hat;rw[ω,η]at hown;obtain⟨B31,c31,rfl,-,-⟩:=ZfN hown;replace HS:=hid (HS.o.appC hown hgrow hat);clear hown hgrow hnil hat);refine⟨ZJV.of (HSX.o _ HS.o.g),?_⟩;refine YnI ?_
      try simp only[XZy,ξ,ζ]
      try simp only[Act.put,ψ,ϑ,κ]
      repeat(go_big_quiet_step (fail))
      refine φ ?_;refine JYY ?_
      try simp only[XZy,ξ,ζ]
      have ha:=HS.o.oa _ rfl;have hb:=HS.o.ob _ rfl;have hc:=HS.o.oc _ rfl;dsimp only at ha hb hc
      have HNO:Hid (ZEV V31 w1.heap.size (.slice XA pp xc) (.slice B19 ff c19) (.slice B31 0 c31) nd):=⟨by
       obtain⟨f1,f2,f3,f4,f5⟩:=HFL.o
       exact⟨by rw[f5];exact ha,by rw[f2];exact hb,by rw[f4];exact hc⟩⟩
      have HGV:=hid HS.o.g;clear ha hb hc HS;go_wp2;refine⟨ZJV.of (HSX.o _ (HGV.o.alloc _)),?_⟩;refine YnI ?_
      try simp only[XZy]
      try simp only[Act.put,ψ,ϑ,κ]
      repeat(go_big_quiet_step (fail))
      refine φ ?_;refine JYY ?_
      try simp only[XZy,ξ,ζ]
      go_wp2_with(at_builtin;refine wpList_append_lies _ rfl _ _ 47 rfl w1.heap.size 84 io _ 3 72 underlying47 hio ho0 ho1 ho2 rfl (by decide) (.slice AN n cN) n (vs.flatMap nvC) rfl (Y9I HVO.o (HGV.o.alloc _)) ⟨V31.heap.size,0,none⟩ 1 1 [.slice XA pp xc,.slice B19 ff c19,.slice B31 0 c31] rfl rfl (β (cs:=#[.slice XA pp xc,.slice B19 ff c19,.slice B31 0 c31]) (t:=84) (fr:=(0,0)) (heap_alloc_new V31 (.cells #[.slice XA pp xc,.slice B19 ff c19,.slice B31 0 c31] 84))) (by simp[Value.oneCell']) Ω (by unfold maxLen;omega) Ω (by have:=HBS.o;have:=HGV.o.size;rw[τ];omega) (V31.heap.size+1) (by simp) ?_;intro g5 c5 V34 hown5 hgrow5 hat5 hlt5;have t5:XF4 (λk=>(Value.slice AN n cN).ownBlock=some k) V31 V34:=(((Gr.refl _).alloc _).touch _).trans (VxQ hgrow5 _ (λk e _=>e));have HT5:=hid t5;have HO5:=hid hown5;have HR5:=hid ((HQR.o.gr HGV.o).touch t5 (λe=>YnK HVO.o HQR.o (by decide) e rfl rfl));have HX5:=hid ((HTH.o.gr HGV.o).touch t5 (λe=>YnK HVO.o HTH.o (by decide) e rfl rfl));have z1:=HR5.o.cell (j:=1) rfl;have zf:=HR5.o.free 1;have zl:=HR5.o.lt;clear hown5 hgrow5 hat5 hlt5 t5);refine⟨ZJV.of (HSY.o _ HR5.o HX5.o),?_⟩;refine ZOd ?_
      try simp only[XZy,ξ,ζ]
      try simp only[Act.put,ψ,ϑ,κ]
      repeat(go_big_quiet_step (fail))
      refine φ ?_;clear y1 y2 y3 y4 HSX HSY inst;refine JYY ?_
      try simp only[XZy,ξ,ζ]
      go_wp2;refine δ ?_;have HTW:Hid (XF4 (λk=>k=q\/w1.heap.size<=k) w1 (V34.setCell ⟨q,1,none⟩ (.slice (some ⟨g5,0,none⟩) (n+1) c5))):=⟨((HT.o.trans (HGV.o.touch _)).trans (HT5.o.mono (λk _ h=>.inr (Vvr HVO.o h).1))).trans ((Vzf V34 q 1 _).mono (λk _ h=>.inl h))⟩;have HRW:Hid (Rec (V34.setCell ⟨q,1,none⟩ (.slice (some ⟨g5,0,none⟩) (n+1) c5)) q 49 [.slice KA ns kc,.slice (some ⟨g5,0,none⟩) (n+1) c5]):=⟨HR5.o.set 1 _⟩
      have HOW:Hid ((V34.setCell ⟨q,1,none⟩ (.slice (some ⟨g5,0,none⟩) (n+1) c5)).ownsRow w1.heap.size 3 1 (.slice KA ns kc) ns (plV g.all g.S)):=⟨by
       have h5:=Zs2 (Y9I HO.o HGV.o) HT5.o (λg hg e=>YnK HO.o HVO.o (by decide) hg e rfl)
       exact VDR h5 _ (λg hg=>YnK h5 HR5.o (by decide) hg rfl)⟩
      have HNW:=hid (HEND.o _ _ g5 c5 _ _ _ HGV.o HT5.o HR5.o HO5.o HNO.o);generalize V34.setCell ⟨q,1,none⟩ (.slice (some ⟨g5,0,none⟩) (n+1) c5)=w6 at HTW HRW HOW HNW⊢;clear z1 zf zl;go_wp2;go_round
      case rel=>exact⟨n+1,_,HLA.o,by go_num,HTW,HRW,HOW,HNW⟩
      case measure=>have:=HLA.o;simp[intOf];omega
    ·refine JYY ?_
     try simp only[XZy,ξ,ζ]
     go_wp2
     replace HS:=hid HS.o.emptyC
     generalize V0.alloc (.cells #[] 32)=V20 at HS⊢;generalize V0.heap.size=e20 at HS⊢;refine⟨ZJV.of (HSX.o _ HS.o.g),?_⟩;refine ZY0 ?_
     try simp only[XZy]
     try simp only[Act.put,ψ,ϑ,κ]
     repeat(go_big_quiet_step (fail))
     refine φ ⟨?_,?_⟩
     ·refine JYY ?_
      try simp only[XZy,ξ,ζ]
      go_wp2_with(go_at_call 32;refine(HKX.o _ HS.o.g).mono ?_;rintro e V7 ⟨XA,xc,rfl,hg,ho⟩;replace HS:=hid (HS.o.keys hg ho);clear hg ho);refine⟨ZJV.of (HSX.o _ HS.o.g),?_⟩;refine YnI ?_
      try simp only[XZy]
      try simp only[Act.put,ψ,ϑ,κ]
      repeat(go_big_quiet_step (fail))
      refine φ ?_;refine JYY ?_
      try simp only[XZy,ξ,ζ]
      go_wp2
      replace HS:=hid HS.o.emptyB
      generalize V7.alloc (.cells #[] 32)=V8 at HS⊢;generalize V7.heap.size=e8 at HS⊢;refine⟨ZJV.of (HSX.o _ HS.o.g),?_⟩;refine YnI ?_
      try simp only[XZy]
      try simp only[Act.put,ψ,ϑ,κ]
      repeat(go_big_quiet_step (fail))
      refine φ ?_;refine JYY ?_
      try simp only[XZy,ξ,ζ]
      go_wp2_with(at_builtin;refine wpList_append_own_at _ rfl _ _ 72 rfl w1.heap.size 32 iu _ 1 8 underlying72 hiu hu0 hu1 hu2 rfl (by decide) (.slice (some ⟨e8,0,none⟩) 0 0) 0 [] rfl (HS.o.ob _ rfl) ⟨wx,0,none⟩ ff ff (QYW nd.f) rfl (HLFK.o.1) (HNEWF.o _ HS.o.g) (HONE.o _) (by unfold maxLen;omega) Ω (γ HBS.o HS.o.g.size) ?_;intro v19 V19 hown hgrow hnil hat;rw[ω,η]at hown;obtain⟨B19,c19,rfl,-,-⟩:=ZfN hown;replace HS:=hid (HS.o.appB hown hgrow hat);clear hown hgrow hnil hat);refine⟨ZJV.of (HSX.o _ HS.o.g),?_⟩;refine YnI ?_
      try simp only[XZy]
      try simp only[Act.put,ψ,ϑ,κ]
      repeat(go_big_quiet_step (fail))
      refine φ ?_;refine JYY ?_
      try simp only[XZy,ξ,ζ]
      go_wp2_with(at_builtin;refine wpList_append_own_at _ rfl _ _ 72 rfl w1.heap.size 32 iu _ 1 8 underlying72 hiu hu0 hu1 hu2 rfl (by decide) (.slice (some ⟨e20,0,none⟩) 0 0) 0 [] rfl (HS.o.oc _ rfl) ⟨wx,0,none⟩ 0 0 (QYW nd.k) rfl (HLZ.o) (HNEWZ.o _) (HONE.o _) (by unfold maxLen;omega) Ω (γ HBS.o HS.o.g.size) ?_;intro v31 V31 hown hgrow hnil hat;rw[ω,η]at hown;obtain⟨B31,c31,rfl,-,-⟩:=ZfN hown;replace HS:=hid (HS.o.appC hown hgrow hat);clear hown hgrow hnil hat);refine⟨ZJV.of (HSX.o _ HS.o.g),?_⟩;refine YnI ?_
      try simp only[XZy,ξ,ζ]
      try simp only[Act.put,ψ,ϑ,κ]
      repeat(go_big_quiet_step (fail))
      refine φ ?_;refine JYY ?_
      try simp only[XZy,ξ,ζ]
      have ha:=HS.o.oa _ rfl;have hb:=HS.o.ob _ rfl;have hc:=HS.o.oc _ rfl;dsimp only at ha hb hc
      have HNO:Hid (ZEV V31 w1.heap.size (.slice XA pp xc) (.slice B19 ff c19) (.slice B31 0 c31) nd):=⟨by
       obtain⟨f1,f2,f3,f4,f5⟩:=HFL.o
       exact⟨by rw[f5];exact ha,by rw[f2];exact hb,by rw[f4];exact hc⟩⟩
      have HGV:=hid HS.o.g;clear ha hb hc HS;go_wp2;refine⟨ZJV.of (HSX.o _ (HGV.o.alloc _)),?_⟩;refine YnI ?_
      try simp only[XZy]
      try simp only[Act.put,ψ,ϑ,κ]
      repeat(go_big_quiet_step (fail))
      refine φ ?_;refine JYY ?_
      try simp only[XZy,ξ,ζ]
      go_wp2_with(at_builtin;refine wpList_append_lies _ rfl _ _ 47 rfl w1.heap.size 84 io _ 3 72 underlying47 hio ho0 ho1 ho2 rfl (by decide) (.slice AN n cN) n (vs.flatMap nvC) rfl (Y9I HVO.o (HGV.o.alloc _)) ⟨V31.heap.size,0,none⟩ 1 1 [.slice XA pp xc,.slice B19 ff c19,.slice B31 0 c31] rfl rfl (β (cs:=#[.slice XA pp xc,.slice B19 ff c19,.slice B31 0 c31]) (t:=84) (fr:=(0,0)) (heap_alloc_new V31 (.cells #[.slice XA pp xc,.slice B19 ff c19,.slice B31 0 c31] 84))) (by simp[Value.oneCell']) Ω (by unfold maxLen;omega) Ω (by have:=HBS.o;have:=HGV.o.size;rw[τ];omega) (V31.heap.size+1) (by simp) ?_;intro g5 c5 V34 hown5 hgrow5 hat5 hlt5;have t5:XF4 (λk=>(Value.slice AN n cN).ownBlock=some k) V31 V34:=(((Gr.refl _).alloc _).touch _).trans (VxQ hgrow5 _ (λk e _=>e));have HT5:=hid t5;have HO5:=hid hown5;have HR5:=hid ((HQR.o.gr HGV.o).touch t5 (λe=>YnK HVO.o HQR.o (by decide) e rfl rfl));have HX5:=hid ((HTH.o.gr HGV.o).touch t5 (λe=>YnK HVO.o HTH.o (by decide) e rfl rfl));have z1:=HR5.o.cell (j:=1) rfl;have zf:=HR5.o.free 1;have zl:=HR5.o.lt;clear hown5 hgrow5 hat5 hlt5 t5);refine⟨ZJV.of (HSY.o _ HR5.o HX5.o),?_⟩;refine ZOd ?_
      try simp only[XZy,ξ,ζ]
      try simp only[Act.put,ψ,ϑ,κ]
      repeat(go_big_quiet_step (fail))
      refine φ ?_;clear y1 y2 y3 y4 HSX HSY inst;refine JYY ?_
      try simp only[XZy,ξ,ζ]
      go_wp2;refine δ ?_;have HTW:Hid (XF4 (λk=>k=q\/w1.heap.size<=k) w1 (V34.setCell ⟨q,1,none⟩ (.slice (some ⟨g5,0,none⟩) (n+1) c5))):=⟨((HT.o.trans (HGV.o.touch _)).trans (HT5.o.mono (λk _ h=>.inr (Vvr HVO.o h).1))).trans ((Vzf V34 q 1 _).mono (λk _ h=>.inl h))⟩;have HRW:Hid (Rec (V34.setCell ⟨q,1,none⟩ (.slice (some ⟨g5,0,none⟩) (n+1) c5)) q 49 [.slice KA ns kc,.slice (some ⟨g5,0,none⟩) (n+1) c5]):=⟨HR5.o.set 1 _⟩
      have HOW:Hid ((V34.setCell ⟨q,1,none⟩ (.slice (some ⟨g5,0,none⟩) (n+1) c5)).ownsRow w1.heap.size 3 1 (.slice KA ns kc) ns (plV g.all g.S)):=⟨by
       have h5:=Zs2 (Y9I HO.o HGV.o) HT5.o (λg hg e=>YnK HO.o HVO.o (by decide) hg e rfl)
       exact VDR h5 _ (λg hg=>YnK h5 HR5.o (by decide) hg rfl)⟩
      have HNW:=hid (HEND.o _ _ g5 c5 _ _ _ HGV.o HT5.o HR5.o HO5.o HNO.o);generalize V34.setCell ⟨q,1,none⟩ (.slice (some ⟨g5,0,none⟩) (n+1) c5)=w6 at HTW HRW HOW HNW⊢;clear z1 zf zl;go_wp2;go_round
      case rel=>exact⟨n+1,_,HLA.o,by go_num,HTW,HRW,HOW,HNW⟩
      case measure=>have:=HLA.o;simp[intOf];omega
     ·refine JYY ?_
      try simp only[XZy,ξ,ζ]
      go_wp2
      replace HS:=hid HS.o.emptyB
      generalize V20.alloc (.cells #[] 32)=V8 at HS⊢;generalize V20.heap.size=e8 at HS⊢;refine⟨ZJV.of (HSX.o _ HS.o.g),?_⟩;refine YnI ?_
      try simp only[XZy]
      try simp only[Act.put,ψ,ϑ,κ]
      repeat(go_big_quiet_step (fail))
      refine φ ?_;refine JYY ?_
      try simp only[XZy,ξ,ζ]
      go_wp2_with(go_at_call 32;refine(HKX.o _ HS.o.g).mono ?_;rintro e V7 ⟨XA,xc,rfl,hg,ho⟩;replace HS:=hid (HS.o.keys hg ho);clear hg ho);refine⟨ZJV.of (HSX.o _ HS.o.g),?_⟩;refine YnI ?_
      try simp only[XZy]
      try simp only[Act.put,ψ,ϑ,κ]
      repeat(go_big_quiet_step (fail))
      refine φ ?_;refine JYY ?_
      try simp only[XZy,ξ,ζ]
      go_wp2_with(at_builtin;refine wpList_append_own_at _ rfl _ _ 72 rfl w1.heap.size 32 iu _ 1 8 underlying72 hiu hu0 hu1 hu2 rfl (by decide) (.slice (some ⟨e8,0,none⟩) 0 0) 0 [] rfl (HS.o.ob _ rfl) ⟨wx,0,none⟩ ff ff (QYW nd.f) rfl (HLFK.o.1) (HNEWF.o _ HS.o.g) (HONE.o _) (by unfold maxLen;omega) Ω (γ HBS.o HS.o.g.size) ?_;intro v19 V19 hown hgrow hnil hat;rw[ω,η]at hown;obtain⟨B19,c19,rfl,-,-⟩:=ZfN hown;replace HS:=hid (HS.o.appB hown hgrow hat);clear hown hgrow hnil hat);refine⟨ZJV.of (HSX.o _ HS.o.g),?_⟩;refine YnI ?_
      try simp only[XZy]
      try simp only[Act.put,ψ,ϑ,κ]
      repeat(go_big_quiet_step (fail))
      refine φ ?_;refine JYY ?_
      try simp only[XZy,ξ,ζ]
      go_wp2_with(at_builtin;refine wpList_append_own_at _ rfl _ _ 72 rfl w1.heap.size 32 iu _ 1 8 underlying72 hiu hu0 hu1 hu2 rfl (by decide) (.slice (some ⟨e20,0,none⟩) 0 0) 0 [] rfl (HS.o.oc _ rfl) ⟨wx,0,none⟩ 0 0 (QYW nd.k) rfl (HLZ.o) (HNEWZ.o _) (HONE.o _) (by unfold maxLen;omega) Ω (γ HBS.o HS.o.g.size) ?_;intro v31 V31 hown hgrow hnil hat;rw[ω,η]at hown;obtain⟨B31,c31,rfl,-,-⟩:=ZfN hown;replace HS:=hid (HS.o.appC hown hgrow hat);clear hown hgrow hnil hat);refine⟨ZJV.of (HSX.o _ HS.o.g),?_⟩;refine YnI ?_
      try simp only[XZy,ξ,ζ]
      try simp only[Act.put,ψ,ϑ,κ]
      repeat(go_big_quiet_step (fail))
      refine φ ?_;refine JYY ?_
      try simp only[XZy,ξ,ζ]
      have ha:=HS.o.oa _ rfl;have hb:=HS.o.ob _ rfl;have hc:=HS.o.oc _ rfl;dsimp only at ha hb hc
      have HNO:Hid (ZEV V31 w1.heap.size (.slice XA pp xc) (.slice B19 ff c19) (.slice B31 0 c31) nd):=⟨by
       obtain⟨f1,f2,f3,f4,f5⟩:=HFL.o
       exact⟨by rw[f5];exact ha,by rw[f2];exact hb,by rw[f4];exact hc⟩⟩
      have HGV:=hid HS.o.g;clear ha hb hc HS;go_wp2;refine⟨ZJV.of (HSX.o _ (HGV.o.alloc _)),?_⟩;refine YnI ?_
      try simp only[XZy]
      try simp only[Act.put,ψ,ϑ,κ]
      repeat(go_big_quiet_step (fail))
      refine φ ?_;refine JYY ?_
      try simp only[XZy,ξ,ζ]
      go_wp2_with(at_builtin;refine wpList_append_lies _ rfl _ _ 47 rfl w1.heap.size 84 io _ 3 72 underlying47 hio ho0 ho1 ho2 rfl (by decide) (.slice AN n cN) n (vs.flatMap nvC) rfl (Y9I HVO.o (HGV.o.alloc _)) ⟨V31.heap.size,0,none⟩ 1 1 [.slice XA pp xc,.slice B19 ff c19,.slice B31 0 c31] rfl rfl (β (cs:=#[.slice XA pp xc,.slice B19 ff c19,.slice B31 0 c31]) (t:=84) (fr:=(0,0)) (heap_alloc_new V31 (.cells #[.slice XA pp xc,.slice B19 ff c19,.slice B31 0 c31] 84))) (by simp[Value.oneCell']) Ω (by unfold maxLen;omega) Ω (by have:=HBS.o;have:=HGV.o.size;rw[τ];omega) (V31.heap.size+1) (by simp) ?_;intro g5 c5 V34 hown5 hgrow5 hat5 hlt5;have t5:XF4 (λk=>(Value.slice AN n cN).ownBlock=some k) V31 V34:=(((Gr.refl _).alloc _).touch _).trans (VxQ hgrow5 _ (λk e _=>e));have HT5:=hid t5;have HO5:=hid hown5;have HR5:=hid ((HQR.o.gr HGV.o).touch t5 (λe=>YnK HVO.o HQR.o (by decide) e rfl rfl));have HX5:=hid ((HTH.o.gr HGV.o).touch t5 (λe=>YnK HVO.o HTH.o (by decide) e rfl rfl));have z1:=HR5.o.cell (j:=1) rfl;have zf:=HR5.o.free 1;have zl:=HR5.o.lt;clear hown5 hgrow5 hat5 hlt5 t5);refine⟨ZJV.of (HSY.o _ HR5.o HX5.o),?_⟩;refine ZOd ?_
      try simp only[XZy,ξ,ζ]
      try simp only[Act.put,ψ,ϑ,κ]
      repeat(go_big_quiet_step (fail))
      refine φ ?_;clear y1 y2 y3 y4 HSX HSY inst;refine JYY ?_
      try simp only[XZy,ξ,ζ]
      go_wp2;refine δ ?_;have HTW:Hid (XF4 (λk=>k=q\/w1.heap.size<=k) w1 (V34.setCell ⟨q,1,none⟩ (.slice (some ⟨g5,0,none⟩) (n+1) c5))):=⟨((HT.o.trans (HGV.o.touch _)).trans (HT5.o.mono (λk _ h=>.inr (Vvr HVO.o h).1))).trans ((Vzf V34 q 1 _).mono (λk _ h=>.inl h))⟩;have HRW:Hid (Rec (V34.setCell ⟨q,1,none⟩ (.slice (some ⟨g5,0,none⟩) (n+1) c5)) q 49 [.slice KA ns kc,.slice (some ⟨g5,0,none⟩) (n+1) c5]):=⟨HR5.o.set 1 _⟩
      have HOW:Hid ((V34.setCell ⟨q,1,none⟩ (.slice (some ⟨g5,0,none⟩) (n+1) c5)).ownsRow w1.heap.size 3 1 (.slice KA ns kc) ns (plV g.all g.S)):=⟨by
       have h5:=Zs2 (Y9I HO.o HGV.o) HT5.o (λg hg e=>YnK HO.o HVO.o (by decide) hg e rfl)
       exact VDR h5 _ (λg hg=>YnK h5 HR5.o (by decide) hg rfl)⟩
      have HNW:=hid (HEND.o _ _ g5 c5 _ _ _ HGV.o HT5.o HR5.o HO5.o HNO.o);generalize V34.setCell ⟨q,1,none⟩ (.slice (some ⟨g5,0,none⟩) (n+1) c5)=w6 at HTW HRW HOW HNW⊢;clear z1 zf zl;go_wp2;go_round
      case rel=>exact⟨n+1,_,HLA.o,by go_num,HTW,HRW,HOW,HNW⟩
      case measure=>have:=HLA.o;simp[intOf];omega
   ·have hfe:(ff:Int)<(wl:Int):=by have:=HWE.o;omega
    have hfe2:ff≠wl:=Ω
    have hfe3:wl≠ff:=Ω
    go_upto_region 10 with(fail);clear k0 hbl;obtain⟨Sx,hSx⟩:∃Sx:World->Prop,Sx=λW'=>Rec W' q 49 [.slice KA ns kc,.slice AN n cN]/\Rec W' fx 81 [.int .i64 pp,.int .i64 ff,.int .i64 kk,.slice (some ⟨tx,0,none⟩) pp pp,.slice (some ⟨wx,0,none⟩) wl wl]:=⟨_,rfl⟩;have y1:∀p':ZJV Sx,p'.w.cell? ⟨q,1,none⟩=some (.slice AN n cN):=λp=>(ZJV.get hSx p).1.cell (j:=1) rfl;have y2:∀p':ZJV Sx,p'.w.cell? ⟨fx,1,none⟩=some (.int .i64 ff):=λp=>(ZJV.get hSx p).2.cell (j:=1) rfl;have y3:∀p':ZJV Sx,p'.w.cell? ⟨fx,3,none⟩=some (.slice (some ⟨tx,0,none⟩) pp pp):=λp=>(ZJV.get hSx p).2.cell (j:=3) rfl;have y4:∀p':ZJV Sx,p'.w.cell? ⟨fx,4,none⟩=some (.slice (some ⟨wx,0,none⟩) wl wl):=λp=>(ZJV.get hSx p).2.cell (j:=4) rfl;have hS0:Sx wr.drew:=by rw[hSx];exact⟨HQR.o.gr (Gr.refl wr).drew,HTH.o.gr (Gr.refl wr).drew⟩
    have HSX:Hid (∀V,Gr wr V->Sx V):=⟨λV gV=>by rw[hSx];exact⟨HQR.o.gr gV,HTH.o.gr gV⟩⟩;have HSY:Hid (∀V,Rec V q 49 [.slice KA ns kc,.slice AN n cN]->Rec V fx 81 [.int .i64 pp,.int .i64 ff,.int .i64 kk,.slice (some ⟨tx,0,none⟩) pp pp,.slice (some ⟨wx,0,none⟩) wl wl]->Sx V):=⟨λV a b=>by rw[hSx];exact⟨a,b⟩⟩;have inst:Inhabited (ZJV Sx):=⟨⟨_,hS0⟩⟩;have HS:=hid (St3.start HBS.o (Gr.refl wr).drew);clear hSx;refine Q67 Sx 36 (.thr [0,1,2,3,4,5,6,9,10,11,12,13,14,15,16,17,18,21,22,23,24,25,26,27,28,29,30] 7 (.two [] 8 (.two [] 19 (.one [] 20 (.one [] 31 (.one [32] 33 (.one [] 34 (.snk [35] 36))))) 20 (.one [] 19 (.one [] 31 (.one [32] 33 (.one [] 34 (.snk [35] 36)))))) 20 (.one [] 8 (.one [] 19 (.one [] 31 (.one [32] 33 (.one [] 34 (.snk [35] 36))))))) 8 (.two [] 7 (.two [] 19 (.one [] 20 (.one [] 31 (.one [32] 33 (.one [] 34 (.snk [35] 36))))) 20 (.one [] 19 (.one [] 31 (.one [32] 33 (.one [] 34 (.snk [35] 36)))))) 20 (.one [] 7 (.one [] 19 (.one [] 31 (.one [32] 33 (.one [] 34 (.snk [35] 36))))))) 20 (.two [] 7 (.one [] 8 (.one [] 19 (.one [] 31 (.one [32] 33 (.one [] 34 (.snk [35] 36)))))) 8 (.one [] 7 (.one [] 19 (.one [] 31 (.one [32] 33 (.one [] 34 (.snk [35] 36)))))))) (by kernel_rfl) (by kernel_rfl) hS0 ?_;clear hS0;generalize wr.drew=V0 at HS⊢;refine X56 ?_
    try simp only[XZy,ξ,ζ]
    try simp only[Act.put,ψ,ϑ,κ]
    repeat(go_big_quiet_step (fail))
    refine φ ⟨?_,?_,?_⟩
    ·refine JYY ?_
     try simp only[XZy,ξ,ζ]
     go_wp2_with(go_at_call 32;refine(HKX.o _ HS.o.g).mono ?_;rintro e V7 ⟨XA,xc,rfl,hg,ho⟩;replace HS:=hid (HS.o.keys hg ho);clear hg ho);refine⟨ZJV.of (HSX.o _ HS.o.g),?_⟩;refine ZY0 ?_
     try simp only[XZy]
     try simp only[Act.put,ψ,ϑ,κ]
     repeat(go_big_quiet_step (fail))
     refine φ ⟨?_,?_⟩
     ·refine JYY ?_
      try simp only[XZy,ξ,ζ]
      go_wp2
      replace HS:=hid HS.o.emptyB
      generalize V7.alloc (.cells #[] 32)=V8 at HS⊢;generalize V7.heap.size=e8 at HS⊢;refine⟨ZJV.of (HSX.o _ HS.o.g),?_⟩;refine ZY0 ?_
      try simp only[XZy]
      try simp only[Act.put,ψ,ϑ,κ]
      repeat(go_big_quiet_step (fail))
      refine φ ⟨?_,?_⟩
      ·refine JYY ?_
       try simp only[XZy,ξ,ζ]
       go_wp2_with(at_builtin;refine wpList_append_own_at _ rfl _ _ 72 rfl w1.heap.size 32 iu _ 1 8 underlying72 hiu hu0 hu1 hu2 rfl (by decide) (.slice (some ⟨e8,0,none⟩) 0 0) 0 [] rfl (HS.o.ob _ rfl) ⟨wx,0,none⟩ ff wl (QYW nd.f) rfl (HLFK.o.1) (HNEWF.o _ HS.o.g) (HONE.o _) (by unfold maxLen;omega) Ω (γ HBS.o HS.o.g.size) ?_;intro v19 V19 hown hgrow hnil hat;rw[ω,η]at hown;obtain⟨B19,c19,rfl,-,-⟩:=ZfN hown;replace HS:=hid (HS.o.appB hown hgrow hat);clear hown hgrow hnil hat);refine⟨ZJV.of (HSX.o _ HS.o.g),?_⟩;refine YnI ?_
       try simp only[XZy]
       try simp only[Act.put,ψ,ϑ,κ]
       repeat(go_big_quiet_step (fail))
       refine φ ?_;refine JYY ?_
       try simp only[XZy,ξ,ζ]
       go_wp2
       replace HS:=hid HS.o.emptyC
       generalize V19.alloc (.cells #[] 32)=V20 at HS⊢;generalize V19.heap.size=e20 at HS⊢;refine⟨ZJV.of (HSX.o _ HS.o.g),?_⟩;refine YnI ?_
       try simp only[XZy]
       try simp only[Act.put,ψ,ϑ,κ]
       repeat(go_big_quiet_step (fail))
       refine φ ?_;refine JYY ?_
       try simp only[XZy,ξ,ζ]
       go_wp2_with(at_builtin;refine wpList_append_own_at _ rfl _ _ 72 rfl w1.heap.size 32 iu _ 1 8 underlying72 hiu hu0 hu1 hu2 rfl (by decide) (.slice (some ⟨e20,0,none⟩) 0 0) 0 [] rfl (HS.o.oc _ rfl) ⟨wx,ff,none⟩ kk kk (QYW nd.k) rfl (HLFK.o.2) (HNEWK.o _ HS.o.g) (HONE.o _) (by unfold maxLen;omega) Ω (γ HBS.o HS.o.g.size) ?_;intro v31 V31 hown hgrow hnil hat;rw[ω,η]at hown;obtain⟨B31,c31,rfl,-,-⟩:=ZfN hown;replace HS:=hid (HS.o.appC hown hgrow hat);clear hown hgrow hnil hat);refine⟨ZJV.of (HSX.o _ HS.o.g),?_⟩;refine YnI ?_
       try simp only[XZy,ξ,ζ]
       try simp only[Act.put,ψ,ϑ,κ]
       repeat(go_big_quiet_step (fail))
       refine φ ?_;refine JYY ?_
       try simp only[XZy,ξ,ζ]
       have ha:=HS.o.oa _ rfl;have hb:=HS.o.ob _ rfl;have hc:=HS.o.oc _ rfl;dsimp only at ha hb hc
       have HNO:Hid (ZEV V31 w1.heap.size (.slice XA pp xc) (.slice B19 ff c19) (.slice B31 kk c31) nd):=⟨by
        obtain⟨f1,f2,f3,f4,f5⟩:=HFL.o
        exact⟨by rw[f5];exact ha,by rw[f2];exact hb,by rw[f4];exact hc⟩⟩
       have HGV:=hid HS.o.g;clear ha hb hc HS;go_wp2;refine⟨ZJV.of (HSX.o _ (HGV.o.alloc _)),?_⟩;refine YnI ?_
       try simp only[XZy]
       try simp only[Act.put,ψ,ϑ,κ]
       repeat(go_big_quiet_step (fail))
       refine φ ?_;refine JYY ?_
       try simp only[XZy,ξ,ζ]
       go_wp2_with(at_builtin;refine wpList_append_lies _ rfl _ _ 47 rfl w1.heap.size 84 io _ 3 72 underlying47 hio ho0 ho1 ho2 rfl (by decide) (.slice AN n cN) n (vs.flatMap nvC) rfl (Y9I HVO.o (HGV.o.alloc _)) ⟨V31.heap.size,0,none⟩ 1 1 [.slice XA pp xc,.slice B19 ff c19,.slice B31 kk c31] rfl rfl (β (cs:=#[.slice XA pp xc,.slice B19 ff c19,.slice B31 kk c31]) (t:=84) (fr:=(0,0)) (heap_alloc_new V31 (.cells #[.slice XA pp xc,.slice B19 ff c19,.slice B31 kk c31] 84))) (by simp[Value.oneCell']) Ω (by unfold maxLen;omega) Ω (by have:=HBS.o;have:=HGV.o.size;rw[τ];omega) (V31.heap.size+1) (by simp) ?_;intro g5 c5 V34 hown5 hgrow5 hat5 hlt5;have t5:XF4 (λk=>(Value.slice AN n cN).ownBlock=some k) V31 V34:=(((Gr.refl _).alloc _).touch _).trans (VxQ hgrow5 _ (λk e _=>e));have HT5:=hid t5;have HO5:=hid hown5;have HR5:=hid ((HQR.o.gr HGV.o).touch t5 (λe=>YnK HVO.o HQR.o (by decide) e rfl rfl));have HX5:=hid ((HTH.o.gr HGV.o).touch t5 (λe=>YnK HVO.o HTH.o (by decide) e rfl rfl));have z1:=HR5.o.cell (j:=1) rfl;have zf:=HR5.o.free 1;have zl:=HR5.o.lt;clear hown5 hgrow5 hat5 hlt5 t5);refine⟨ZJV.of (HSY.o _ HR5.o HX5.o),?_⟩;refine ZOd ?_
       try simp only[XZy,ξ,ζ]
       try simp only[Act.put,ψ,ϑ,κ]
       repeat(go_big_quiet_step (fail))
       refine φ ?_;clear y1 y2 y3 y4 HSX HSY inst;refine JYY ?_
       try simp only[XZy,ξ,ζ]
       go_wp2;refine δ ?_;have HTW:Hid (XF4 (λk=>k=q\/w1.heap.size<=k) w1 (V34.setCell ⟨q,1,none⟩ (.slice (some ⟨g5,0,none⟩) (n+1) c5))):=⟨((HT.o.trans (HGV.o.touch _)).trans (HT5.o.mono (λk _ h=>.inr (Vvr HVO.o h).1))).trans ((Vzf V34 q 1 _).mono (λk _ h=>.inl h))⟩;have HRW:Hid (Rec (V34.setCell ⟨q,1,none⟩ (.slice (some ⟨g5,0,none⟩) (n+1) c5)) q 49 [.slice KA ns kc,.slice (some ⟨g5,0,none⟩) (n+1) c5]):=⟨HR5.o.set 1 _⟩
       have HOW:Hid ((V34.setCell ⟨q,1,none⟩ (.slice (some ⟨g5,0,none⟩) (n+1) c5)).ownsRow w1.heap.size 3 1 (.slice KA ns kc) ns (plV g.all g.S)):=⟨by
        have h5:=Zs2 (Y9I HO.o HGV.o) HT5.o (λg hg e=>YnK HO.o HVO.o (by decide) hg e rfl)
        exact VDR h5 _ (λg hg=>YnK h5 HR5.o (by decide) hg rfl)⟩
       have HNW:=hid (HEND.o _ _ g5 c5 _ _ _ HGV.o HT5.o HR5.o HO5.o HNO.o);generalize V34.setCell ⟨q,1,none⟩ (.slice (some ⟨g5,0,none⟩) (n+1) c5)=w6 at HTW HRW HOW HNW⊢;clear z1 zf zl;go_wp2;go_round
       case rel=>exact⟨n+1,_,HLA.o,by go_num,HTW,HRW,HOW,HNW⟩
       case measure=>have:=HLA.o;simp[intOf];omega
      ·refine JYY ?_
       try simp only[XZy,ξ,ζ]
       go_wp2
       replace HS:=hid HS.o.emptyC
       generalize V8.alloc (.cells #[] 32)=V20 at HS⊢;generalize V8.heap.size=e20 at HS⊢;refine⟨ZJV.of (HSX.o _ HS.o.g),?_⟩;refine YnI ?_
       try simp only[XZy]
       try simp only[Act.put,ψ,ϑ,κ]
       repeat(go_big_quiet_step (fail))
       refine φ ?_;refine JYY ?_
       try simp only[XZy,ξ,ζ]
       go_wp2_with(at_builtin;refine wpList_append_own_at _ rfl _ _ 72 rfl w1.heap.size 32 iu _ 1 8 underlying72 hiu hu0 hu1 hu2 rfl (by decide) (.slice (some ⟨e8,0,none⟩) 0 0) 0 [] rfl (HS.o.ob _ rfl) ⟨wx,0,none⟩ ff wl (QYW nd.f) rfl (HLFK.o.1) (HNEWF.o _ HS.o.g) (HONE.o _) (by unfold maxLen;omega) Ω (γ HBS.o HS.o.g.size) ?_;intro v19 V19 hown hgrow hnil hat;rw[ω,η]at hown;obtain⟨B19,c19,rfl,-,-⟩:=ZfN hown;replace HS:=hid (HS.o.appB hown hgrow hat);clear hown hgrow hnil hat);refine⟨ZJV.of (HSX.o _ HS.o.g),?_⟩;refine YnI ?_
       try simp only[XZy]
       try simp only[Act.put,ψ,ϑ,κ]
       repeat(go_big_quiet_step (fail))
       refine φ ?_;refine JYY ?_
       try simp only[XZy,ξ,ζ]
       go_wp2_with(at_builtin;refine wpList_append_own_at _ rfl _ _ 72 rfl w1.heap.size 32 iu _ 1 8 underlying72 hiu hu0 hu1 hu2 rfl (by decide) (.slice (some ⟨e20,0,none⟩) 0 0) 0 [] rfl (HS.o.oc _ rfl) ⟨wx,ff,none⟩ kk kk (QYW nd.k) rfl (HLFK.o.2) (HNEWK.o _ HS.o.g) (HONE.o _) (by unfold maxLen;omega) Ω (γ HBS.o HS.o.g.size) ?_;intro v31 V31 hown hgrow hnil hat;rw[ω,η]at hown;obtain⟨B31,c31,rfl,-,-⟩:=ZfN hown;replace HS:=hid (HS.o.appC hown hgrow hat);clear hown hgrow hnil hat);refine⟨ZJV.of (HSX.o _ HS.o.g),?_⟩;refine YnI ?_
       try simp only[XZy,ξ,ζ]
       try simp only[Act.put,ψ,ϑ,κ]
       repeat(go_big_quiet_step (fail))
       refine φ ?_;refine JYY ?_
       try simp only[XZy,ξ,ζ]
       have ha:=HS.o.oa _ rfl;have hb:=HS.o.ob _ rfl;have hc:=HS.o.oc _ rfl;dsimp only at ha hb hc
       have HNO:Hid (ZEV V31 w1.heap.size (.slice XA pp xc) (.slice B19 ff c19) (.slice B31 kk c31) nd):=⟨by
        obtain⟨f1,f2,f3,f4,f5⟩:=HFL.o
        exact⟨by rw[f5];exact ha,by rw[f2];exact hb,by rw[f4];exact hc⟩⟩
       have HGV:=hid HS.o.g;clear ha hb hc HS;go_wp2;refine⟨ZJV.of (HSX.o _ (HGV.o.alloc _)),?_⟩;refine YnI ?_
       try simp only[XZy]
       try simp only[Act.put,ψ,ϑ,κ]
       repeat(go_big_quiet_step (fail))
       refine φ ?_;refine JYY ?_
       try simp only[XZy,ξ,ζ]
       go_wp2_with(at_builtin;refine wpList_append_lies _ rfl _ _ 47 rfl w1.heap.size 84 io _ 3 72 underlying47 hio ho0 ho1 ho2 rfl (by decide) (.slice AN n cN) n (vs.flatMap nvC) rfl (Y9I HVO.o (HGV.o.alloc _)) ⟨V31.heap.size,0,none⟩ 1 1 [.slice XA pp xc,.slice B19 ff c19,.slice B31 kk c31] rfl rfl (β (cs:=#[.slice XA pp xc,.slice B19 ff c19,.slice B31 kk c31]) (t:=84) (fr:=(0,0)) (heap_alloc_new V31 (.cells #[.slice XA pp xc,.slice B19 ff c19,.slice B31 kk c31] 84))) (by simp[Value.oneCell']) Ω (by unfold maxLen;omega) Ω (by have:=HBS.o;have:=HGV.o.size;rw[τ];omega) (V31.heap.size+1) (by simp) ?_;intro g5 c5 V34 hown5 hgrow5 hat5 hlt5;have t5:XF4 (λk=>(Value.slice AN n cN).ownBlock=some k) V31 V34:=(((Gr.refl _).alloc _).touch _).trans (VxQ hgrow5 _ (λk e _=>e));have HT5:=hid t5;have HO5:=hid hown5;have HR5:=hid ((HQR.o.gr HGV.o).touch t5 (λe=>YnK HVO.o HQR.o (by decide) e rfl rfl));have HX5:=hid ((HTH.o.gr HGV.o).touch t5 (λe=>YnK HVO.o HTH.o (by decide) e rfl rfl));have z1:=HR5.o.cell (j:=1) rfl;have zf:=HR5.o.free 1;have zl:=HR5.o.lt;clear hown5 hgrow5 hat5 hlt5 t5);refine⟨ZJV.of (HSY.o _ HR5.o HX5.o),?_⟩;refine ZOd ?_
       try simp only[XZy,ξ,ζ]
       try simp only[Act.put,ψ,ϑ,κ]
       repeat(go_big_quiet_step (fail))
       refine φ ?_;clear y1 y2 y3 y4 HSX HSY inst;refine JYY ?_
       try simp only[XZy,ξ,ζ]
       go_wp2;refine δ ?_;have HTW:Hid (XF4 (λk=>k=q\/w1.heap.size<=k) w1 (V34.setCell ⟨q,1,none⟩ (.slice (some ⟨g5,0,none⟩) (n+1) c5))):=⟨((HT.o.trans (HGV.o.touch _)).trans (HT5.o.mono (λk _ h=>.inr (Vvr HVO.o h).1))).trans ((Vzf V34 q 1 _).mono (λk _ h=>.inl h))⟩;have HRW:Hid (Rec (V34.setCell ⟨q,1,none⟩ (.slice (some ⟨g5,0,none⟩) (n+1) c5)) q 49 [.slice KA ns kc,.slice (some ⟨g5,0,none⟩) (n+1) c5]):=⟨HR5.o.set 1 _⟩
       have HOW:Hid ((V34.setCell ⟨q,1,none⟩ (.slice (some ⟨g5,0,none⟩) (n+1) c5)).ownsRow w1.heap.size 3 1 (.slice KA ns kc) ns (plV g.all g.S)):=⟨by
        have h5:=Zs2 (Y9I HO.o HGV.o) HT5.o (λg hg e=>YnK HO.o HVO.o (by decide) hg e rfl)
        exact VDR h5 _ (λg hg=>YnK h5 HR5.o (by decide) hg rfl)⟩
       have HNW:=hid (HEND.o _ _ g5 c5 _ _ _ HGV.o HT5.o HR5.o HO5.o HNO.o);generalize V34.setCell ⟨q,1,none⟩ (.slice (some ⟨g5,0,none⟩) (n+1) c5)=w6 at HTW HRW HOW HNW⊢;clear z1 zf zl;go_wp2;go_round
       case rel=>exact⟨n+1,_,HLA.o,by go_num,HTW,HRW,HOW,HNW⟩
       case measure=>have:=HLA.o;simp[intOf];omega
     ·refine JYY ?_
      try simp only[XZy,ξ,ζ]
      go_wp2
      replace HS:=hid HS.o.emptyC
      generalize V7.alloc (.cells #[] 32)=V20 at HS⊢;generalize V7.heap.size=e20 at HS⊢;refine⟨ZJV.of (HSX.o _ HS.o.g),?_⟩;refine YnI ?_
      try simp only[XZy]
      try simp only[Act.put,ψ,ϑ,κ]
      repeat(go_big_quiet_step (fail))
      refine φ ?_;refine JYY ?_
      try simp only[XZy,ξ,ζ]
      go_wp2
      replace HS:=hid HS.o.emptyB
      generalize V20.alloc (.cells #[] 32)=V8 at HS⊢;generalize V20.heap.size=e8 at HS⊢;refine⟨ZJV.of (HSX.o _ HS.o.g),?_⟩;refine YnI ?_
      try simp only[XZy]
      try simp only[Act.put,ψ,ϑ,κ]
      repeat(go_big_quiet_step (fail))
      refine φ ?_;refine JYY ?_
      try simp only[XZy,ξ,ζ]
      go_wp2_with(at_builtin;refine wpList_append_own_at _ rfl _ _ 72 rfl w1.heap.size 32 iu _ 1 8 underlying72 hiu hu0 hu1 hu2 rfl (by decide) (.slice (some ⟨e8,0,none⟩) 0 0) 0 [] rfl (HS.o.ob _ rfl) ⟨wx,0,none⟩ ff wl (QYW nd.f) rfl (HLFK.o.1) (HNEWF.o _ HS.o.g) (HONE.o _) (by unfold maxLen;omega) Ω (γ HBS.o HS.o.g.size) ?_;intro v19 V19 hown hgrow hnil hat;rw[ω,η]at hown;obtain⟨B19,c19,rfl,-,-⟩:=ZfN hown;replace HS:=hid (HS.o.appB hown hgrow hat);clear hown hgrow hnil hat);refine⟨ZJV.of (HSX.o _ HS.o.g),?_⟩;refine YnI ?_
      try simp only[XZy]
      try simp only[Act.put,ψ,ϑ,κ]
      repeat(go_big_quiet_step (fail))
      refine φ ?_;refine JYY ?_
      try simp only[XZy,ξ,ζ]
      go_wp2_with(at_builtin;refine wpList_append_own_at _ rfl _ _ 72 rfl w1.heap.size 32 iu _ 1 8 underlying72 hiu hu0 hu1 hu2 rfl (by decide) (.slice (some ⟨e20,0,none⟩) 0 0) 0 [] rfl (HS.o.oc _ rfl) ⟨wx,ff,none⟩ kk kk (QYW nd.k) rfl (HLFK.o.2) (HNEWK.o _ HS.o.g) (HONE.o _) (by unfold maxLen;omega) Ω (γ HBS.o HS.o.g.size) ?_;intro v31 V31 hown hgrow hnil hat;rw[ω,η]at hown;obtain⟨B31,c31,rfl,-,-⟩:=ZfN hown;replace HS:=hid (HS.o.appC hown hgrow hat);clear hown hgrow hnil hat);refine⟨ZJV.of (HSX.o _ HS.o.g),?_⟩;refine YnI ?_
      try simp only[XZy,ξ,ζ]
      try simp only[Act.put,ψ,ϑ,κ]
      repeat(go_big_quiet_step (fail))
      refine φ ?_;refine JYY ?_
      try simp only[XZy,ξ,ζ]
      have ha:=HS.o.oa _ rfl;have hb:=HS.o.ob _ rfl;have hc:=HS.o.oc _ rfl;dsimp only at ha hb hc
      have HNO:Hid (ZEV V31 w1.heap.size (.slice XA pp xc) (.slice B19 ff c19) (.slice B31 kk c31) nd):=⟨by
       obtain⟨f1,f2,f3,f4,f5⟩:=HFL.o
       exact⟨by rw[f5];exact ha,by rw[f2];exact hb,by rw[f4];exact hc⟩⟩
      have HGV:=hid HS.o.g;clear ha hb hc HS;go_wp2;refine⟨ZJV.of (HSX.o _ (HGV.o.alloc _)),?_⟩;refine YnI ?_
      try simp only[XZy]
      try simp only[Act.put,ψ,ϑ,κ]
      repeat(go_big_quiet_step (fail))
      refine φ ?_;refine JYY ?_
      try simp only[XZy,ξ,ζ]
      go_wp2_with(at_builtin;refine wpList_append_lies _ rfl _ _ 47 rfl w1.heap.size 84 io _ 3 72 underlying47 hio ho0 ho1 ho2 rfl (by decide) (.slice AN n cN) n (vs.flatMap nvC) rfl (Y9I HVO.o (HGV.o.alloc _)) ⟨V31.heap.size,0,none⟩ 1 1 [.slice XA pp xc,.slice B19 ff c19,.slice B31 kk c31] rfl rfl (β (cs:=#[.slice XA pp xc,.slice B19 ff c19,.slice B31 kk c31]) (t:=84) (fr:=(0,0)) (heap_alloc_new V31 (.cells #[.slice XA pp xc,.slice B19 ff c19,.slice B31 kk c31] 84))) (by simp[Value.oneCell']) Ω (by unfold maxLen;omega) Ω (by have:=HBS.o;have:=HGV.o.size;rw[τ];omega) (V31.heap.size+1) (by simp) ?_;intro g5 c5 V34 hown5 hgrow5 hat5 hlt5;have t5:XF4 (λk=>(Value.slice AN n cN).ownBlock=some k) V31 V34:=(((Gr.refl _).alloc _).touch _).trans (VxQ hgrow5 _ (λk e _=>e));have HT5:=hid t5;have HO5:=hid hown5;have HR5:=hid ((HQR.o.gr HGV.o).touch t5 (λe=>YnK HVO.o HQR.o (by decide) e rfl rfl));have HX5:=hid ((HTH.o.gr HGV.o).touch t5 (λe=>YnK HVO.o HTH.o (by decide) e rfl rfl));have z1:=HR5.o.cell (j:=1) rfl;have zf:=HR5.o.free 1;have zl:=HR5.o.lt;clear hown5 hgrow5 hat5 hlt5 t5);refine⟨ZJV.of (HSY.o _ HR5.o HX5.o),?_⟩;refine ZOd ?_
      try simp only[XZy,ξ,ζ]
      try simp only[Act.put,ψ,ϑ,κ]
      repeat(go_big_quiet_step (fail))
      refine φ ?_;clear y1 y2 y3 y4 HSX HSY inst;refine JYY ?_
      try simp only[XZy,ξ,ζ]
      go_wp2;refine δ ?_;have HTW:Hid (XF4 (λk=>k=q\/w1.heap.size<=k) w1 (V34.setCell ⟨q,1,none⟩ (.slice (some ⟨g5,0,none⟩) (n+1) c5))):=⟨((HT.o.trans (HGV.o.touch _)).trans (HT5.o.mono (λk _ h=>.inr (Vvr HVO.o h).1))).trans ((Vzf V34 q 1 _).mono (λk _ h=>.inl h))⟩;have HRW:Hid (Rec (V34.setCell ⟨q,1,none⟩ (.slice (some ⟨g5,0,none⟩) (n+1) c5)) q 49 [.slice KA ns kc,.slice (some ⟨g5,0,none⟩) (n+1) c5]):=⟨HR5.o.set 1 _⟩
      have HOW:Hid ((V34.setCell ⟨q,1,none⟩ (.slice (some ⟨g5,0,none⟩) (n+1) c5)).ownsRow w1.heap.size 3 1 (.slice KA ns kc) ns (plV g.all g.S)):=⟨by
       have h5:=Zs2 (Y9I HO.o HGV.o) HT5.o (λg hg e=>YnK HO.o HVO.o (by decide) hg e rfl)
       exact VDR h5 _ (λg hg=>YnK h5 HR5.o (by decide) hg rfl)⟩
      have HNW:=hid (HEND.o _ _ g5 c5 _ _ _ HGV.o HT5.o HR5.o HO5.o HNO.o);generalize V34.setCell ⟨q,1,none⟩ (.slice (some ⟨g5,0,none⟩) (n+1) c5)=w6 at HTW HRW HOW HNW⊢;clear z1 zf zl;go_wp2;go_round
      case rel=>exact⟨n+1,_,HLA.o,by go_num,HTW,HRW,HOW,HNW⟩
      case measure=>have:=HLA.o;simp[intOf];omega
    ·refine JYY ?_
     try simp only[XZy,ξ,ζ]
     go_wp2
     replace HS:=hid HS.o.emptyB
     generalize V0.alloc (.cells #[] 32)=V8 at HS⊢;generalize V0.heap.size=e8 at HS⊢;refine⟨ZJV.of (HSX.o _ HS.o.g),?_⟩;refine ZY0 ?_
     try simp only[XZy]
     try simp only[Act.put,ψ,ϑ,κ]
     repeat(go_big_quiet_step (fail))
     refine φ ⟨?_,?_⟩
     ·refine JYY ?_
      try simp only[XZy,ξ,ζ]
      go_wp2_with(go_at_call 32;refine(HKX.o _ HS.o.g).mono ?_;rintro e V7 ⟨XA,xc,rfl,hg,ho⟩;replace HS:=hid (HS.o.keys hg ho);clear hg ho);refine⟨ZJV.of (HSX.o _ HS.o.g),?_⟩;refine ZY0 ?_
      try simp only[XZy]
      try simp only[Act.put,ψ,ϑ,κ]
      repeat(go_big_quiet_step (fail))
      refine φ ⟨?_,?_⟩
      ·refine JYY ?_
       try simp only[XZy,ξ,ζ]
       go_wp2_with(at_builtin;refine wpList_append_own_at _ rfl _ _ 72 rfl w1.heap.size 32 iu _ 1 8 underlying72 hiu hu0 hu1 hu2 rfl (by decide) (.slice (some ⟨e8,0,none⟩) 0 0) 0 [] rfl (HS.o.ob _ rfl) ⟨wx,0,none⟩ ff wl (QYW nd.f) rfl (HLFK.o.1) (HNEWF.o _ HS.o.g) (HONE.o _) (by unfold maxLen;omega) Ω (γ HBS.o HS.o.g.size) ?_;intro v19 V19 hown hgrow hnil hat;rw[ω,η]at hown;obtain⟨B19,c19,rfl,-,-⟩:=ZfN hown;replace HS:=hid (HS.o.appB hown hgrow hat);clear hown hgrow hnil hat);refine⟨ZJV.of (HSX.o _ HS.o.g),?_⟩;refine YnI ?_
       try simp only[XZy]
       try simp only[Act.put,ψ,ϑ,κ]
       repeat(go_big_quiet_step (fail))
       refine φ ?_;refine JYY ?_
       try simp only[XZy,ξ,ζ]
       go_wp2
       replace HS:=hid HS.o.emptyC
       generalize V19.alloc (.cells #[] 32)=V20 at HS⊢;generalize V19.heap.size=e20 at HS⊢;refine⟨ZJV.of (HSX.o _ HS.o.g),?_⟩;refine YnI ?_
       try simp only[XZy]
       try simp only[Act.put,ψ,ϑ,κ]
       repeat(go_big_quiet_step (fail))
       refine φ ?_;refine JYY ?_
       try simp only[XZy,ξ,ζ]
       go_wp2_with(at_builtin;refine wpList_append_own_at _ rfl _ _ 72 rfl w1.heap.size 32 iu _ 1 8 underlying72 hiu hu0 hu1 hu2 rfl (by decide) (.slice (some ⟨e20,0,none⟩) 0 0) 0 [] rfl (HS.o.oc _ rfl) ⟨wx,ff,none⟩ kk kk (QYW nd.k) rfl (HLFK.o.2) (HNEWK.o _ HS.o.g) (HONE.o _) (by unfold maxLen;omega) Ω (γ HBS.o HS.o.g.size) ?_;intro v31 V31 hown hgrow hnil hat;rw[ω,η]at hown;obtain⟨B31,c31,rfl,-,-⟩:=ZfN hown;replace HS:=hid (HS.o.appC hown hgrow hat);clear hown hgrow hnil hat);refine⟨ZJV.of (HSX.o _ HS.o.g),?_⟩;refine YnI ?_
       try simp only[XZy,ξ,ζ]
       try simp only[Act.put,ψ,ϑ,κ]
       repeat(go_big_quiet_step (fail))
       refine φ ?_;refine JYY ?_
       try simp only[XZy,ξ,ζ]
       have ha:=HS.o.oa _ rfl;have hb:=HS.o.ob _ rfl;have hc:=HS.o.oc _ rfl;dsimp only at ha hb hc
       have HNO:Hid (ZEV V31 w1.heap.size (.slice XA pp xc) (.slice B19 ff c19) (.slice B31 kk c31) nd):=⟨by
        obtain⟨f1,f2,f3,f4,f5⟩:=HFL.o
        exact⟨by rw[f5];exact ha,by rw[f2];exact hb,by rw[f4];exact hc⟩⟩
       have HGV:=hid HS.o.g;clear ha hb hc HS;go_wp2;refine⟨ZJV.of (HSX.o _ (HGV.o.alloc _)),?_⟩;refine YnI ?_
       try simp only[XZy]
       try simp only[Act.put,ψ,ϑ,κ]
       repeat(go_big_quiet_step (fail))
       refine φ ?_;refine JYY ?_
       try simp only[XZy,ξ,ζ]
       go_wp2_with(at_builtin;refine wpList_append_lies _ rfl _ _ 47 rfl w1.heap.size 84 io _ 3 72 underlying47 hio ho0 ho1 ho2 rfl (by decide) (.slice AN n cN) n (vs.flatMap nvC) rfl (Y9I HVO.o (HGV.o.alloc _)) ⟨V31.heap.size,0,none⟩ 1 1 [.slice XA pp xc,.slice B19 ff c19,.slice B31 kk c31] rfl rfl (β (cs:=#[.slice XA pp xc,.slice B19 ff c19,.slice B31 kk c31]) (t:=84) (fr:=(0,0)) (heap_alloc_new V31 (.cells #[.slice XA pp xc,.slice B19 ff c19,.slice B31 kk c31] 84))) (by simp[Value.oneCell']) Ω (by unfold maxLen;omega) Ω (by have:=HBS.o;have:=HGV.o.size;rw[τ];omega) (V31.heap.size+1) (by simp) ?_;intro g5 c5 V34 hown5 hgrow5 hat5 hlt5;have t5:XF4 (λk=>(Value.slice AN n cN).ownBlock=some k) V31 V34:=(((Gr.refl _).alloc _).touch _).trans (VxQ hgrow5 _ (λk e _=>e));have HT5:=hid t5;have HO5:=hid hown5;have HR5:=hid ((HQR.o.gr HGV.o).touch t5 (λe=>YnK HVO.o HQR.o (by decide) e rfl rfl));have HX5:=hid ((HTH.o.gr HGV.o).touch t5 (λe=>YnK HVO.o HTH.o (by decide) e rfl rfl));have z1:=HR5.o.cell (j:=1) rfl;have zf:=HR5.o.free 1;have zl:=HR5.o.lt;clear hown5 hgrow5 hat5 hlt5 t5);refine⟨ZJV.of (HSY.o _ HR5.o HX5.o),?_⟩;refine ZOd ?_
       try simp only[XZy,ξ,ζ]
       try simp only[Act.put,ψ,ϑ,κ]
       repeat(go_big_quiet_step (fail))
       refine φ ?_;clear y1 y2 y3 y4 HSX HSY inst;refine JYY ?_
       try simp only[XZy,ξ,ζ]
       go_wp2;refine δ ?_;have HTW:Hid (XF4 (λk=>k=q\/w1.heap.size<=k) w1 (V34.setCell ⟨q,1,none⟩ (.slice (some ⟨g5,0,none⟩) (n+1) c5))):=⟨((HT.o.trans (HGV.o.touch _)).trans (HT5.o.mono (λk _ h=>.inr (Vvr HVO.o h).1))).trans ((Vzf V34 q 1 _).mono (λk _ h=>.inl h))⟩;have HRW:Hid (Rec (V34.setCell ⟨q,1,none⟩ (.slice (some ⟨g5,0,none⟩) (n+1) c5)) q 49 [.slice KA ns kc,.slice (some ⟨g5,0,none⟩) (n+1) c5]):=⟨HR5.o.set 1 _⟩
       have HOW:Hid ((V34.setCell ⟨q,1,none⟩ (.slice (some ⟨g5,0,none⟩) (n+1) c5)).ownsRow w1.heap.size 3 1 (.slice KA ns kc) ns (plV g.all g.S)):=⟨by
        have h5:=Zs2 (Y9I HO.o HGV.o) HT5.o (λg hg e=>YnK HO.o HVO.o (by decide) hg e rfl)
        exact VDR h5 _ (λg hg=>YnK h5 HR5.o (by decide) hg rfl)⟩
       have HNW:=hid (HEND.o _ _ g5 c5 _ _ _ HGV.o HT5.o HR5.o HO5.o HNO.o);generalize V34.setCell ⟨q,1,none⟩ (.slice (some ⟨g5,0,none⟩) (n+1) c5)=w6 at HTW HRW HOW HNW⊢;clear z1 zf zl;go_wp2;go_round
       case rel=>exact⟨n+1,_,HLA.o,by go_num,HTW,HRW,HOW,HNW⟩
       case measure=>have:=HLA.o;simp[intOf];omega
      ·refine JYY ?_
       try simp only[XZy,ξ,ζ]
       go_wp2
       replace HS:=hid HS.o.emptyC
       generalize V7.alloc (.cells #[] 32)=V20 at HS⊢;generalize V7.heap.size=e20 at HS⊢;refine⟨ZJV.of (HSX.o _ HS.o.g),?_⟩;refine YnI ?_
       try simp only[XZy]
       try simp only[Act.put,ψ,ϑ,κ]
       repeat(go_big_quiet_step (fail))
       refine φ ?_;refine JYY ?_
       try simp only[XZy,ξ,ζ]
       go_wp2_with(at_builtin;refine wpList_append_own_at _ rfl _ _ 72 rfl w1.heap.size 32 iu _ 1 8 underlying72 hiu hu0 hu1 hu2 rfl (by decide) (.slice (some ⟨e8,0,none⟩) 0 0) 0 [] rfl (HS.o.ob _ rfl) ⟨wx,0,none⟩ ff wl (QYW nd.f) rfl (HLFK.o.1) (HNEWF.o _ HS.o.g) (HONE.o _) (by unfold maxLen;omega) Ω (γ HBS.o HS.o.g.size) ?_;intro v19 V19 hown hgrow hnil hat;rw[ω,η]at hown;obtain⟨B19,c19,rfl,-,-⟩:=ZfN hown;replace HS:=hid (HS.o.appB hown hgrow hat);clear hown hgrow hnil hat);refine⟨ZJV.of (HSX.o _ HS.o.g),?_⟩;refine YnI ?_
       try simp only[XZy]
       try simp only[Act.put,ψ,ϑ,κ]
       repeat(go_big_quiet_step (fail))
       refine φ ?_;refine JYY ?_
       try simp only[XZy,ξ,ζ]
       go_wp2_with(at_builtin;refine wpList_append_own_at _ rfl _ _ 72 rfl w1.heap.size 32 iu _ 1 8 underlying72 hiu hu0 hu1 hu2 rfl (by decide) (.slice (some ⟨e20,0,none⟩) 0 0) 0 [] rfl (HS.o.oc _ rfl) ⟨wx,ff,none⟩ kk kk (QYW nd.k) rfl (HLFK.o.2) (HNEWK.o _ HS.o.g) (HONE.o _) (by unfold maxLen;omega) Ω (γ HBS.o HS.o.g.size) ?_;intro v31 V31 hown hgrow hnil hat;rw[ω,η]at hown;obtain⟨B31,c31,rfl,-,-⟩:=ZfN hown;replace HS:=hid (HS.o.appC hown hgrow hat);clear hown hgrow hnil hat);refine⟨ZJV.of (HSX.o _ HS.o.g),?_⟩;refine YnI ?_
       try simp only[XZy,ξ,ζ]
       try simp only[Act.put,ψ,ϑ,κ]
       repeat(go_big_quiet_step (fail))
       refine φ ?_;refine JYY ?_
       try simp only[XZy,ξ,ζ]
       have ha:=HS.o.oa _ rfl;have hb:=HS.o.ob _ rfl;have hc:=HS.o.oc _ rfl;dsimp only at ha hb hc
       have HNO:Hid (ZEV V31 w1.heap.size (.slice XA pp xc) (.slice B19 ff c19) (.slice B31 kk c31) nd):=⟨by
        obtain⟨f1,f2,f3,f4,f5⟩:=HFL.o
        exact⟨by rw[f5];exact ha,by rw[f2];exact hb,by rw[f4];exact hc⟩⟩
       have HGV:=hid HS.o.g;clear ha hb hc HS;go_wp2;refine⟨ZJV.of (HSX.o _ (HGV.o.alloc _)),?_⟩;refine YnI ?_
       try simp only[XZy]
       try simp only[Act.put,ψ,ϑ,κ]
       repeat(go_big_quiet_step (fail))
       refine φ ?_;refine JYY ?_
       try simp only[XZy,ξ,ζ]
       go_wp2_with(at_builtin;refine wpList_append_lies _ rfl _ _ 47 rfl w1.heap.size 84 io _ 3 72 underlying47 hio ho0 ho1 ho2 rfl (by decide) (.slice AN n cN) n (vs.flatMap nvC) rfl (Y9I HVO.o (HGV.o.alloc _)) ⟨V31.heap.size,0,none⟩ 1 1 [.slice XA pp xc,.slice B19 ff c19,.slice B31 kk c31] rfl rfl (β (cs:=#[.slice XA pp xc,.slice B19 ff c19,.slice B31 kk c31]) (t:=84) (fr:=(0,0)) (heap_alloc_new V31 (.cells #[.slice XA pp xc,.slice B19 ff c19,.slice B31 kk c31] 84))) (by simp[Value.oneCell']) Ω (by unfold maxLen;omega) Ω (by have:=HBS.o;have:=HGV.o.size;rw[τ];omega) (V31.heap.size+1) (by simp) ?_;intro g5 c5 V34 hown5 hgrow5 hat5 hlt5;have t5:XF4 (λk=>(Value.slice AN n cN).ownBlock=some k) V31 V34:=(((Gr.refl _).alloc _).touch _).trans (VxQ hgrow5 _ (λk e _=>e));have HT5:=hid t5;have HO5:=hid hown5;have HR5:=hid ((HQR.o.gr HGV.o).touch t5 (λe=>YnK HVO.o HQR.o (by decide) e rfl rfl));have HX5:=hid ((HTH.o.gr HGV.o).touch t5 (λe=>YnK HVO.o HTH.o (by decide) e rfl rfl));have z1:=HR5.o.cell (j:=1) rfl;have zf:=HR5.o.free 1;have zl:=HR5.o.lt;clear hown5 hgrow5 hat5 hlt5 t5);refine⟨ZJV.of (HSY.o _ HR5.o HX5.o),?_⟩;refine ZOd ?_
       try simp only[XZy,ξ,ζ]
       try simp only[Act.put,ψ,ϑ,κ]
       repeat(go_big_quiet_step (fail))
       refine φ ?_;clear y1 y2 y3 y4 HSX HSY inst;refine JYY ?_
       try simp only[XZy,ξ,ζ]
       go_wp2;refine δ ?_;have HTW:Hid (XF4 (λk=>k=q\/w1.heap.size<=k) w1 (V34.setCell ⟨q,1,none⟩ (.slice (some ⟨g5,0,none⟩) (n+1) c5))):=⟨((HT.o.trans (HGV.o.touch _)).trans (HT5.o.mono (λk _ h=>.inr (Vvr HVO.o h).1))).trans ((Vzf V34 q 1 _).mono (λk _ h=>.inl h))⟩;have HRW:Hid (Rec (V34.setCell ⟨q,1,none⟩ (.slice (some ⟨g5,0,none⟩) (n+1) c5)) q 49 [.slice KA ns kc,.slice (some ⟨g5,0,none⟩) (n+1) c5]):=⟨HR5.o.set 1 _⟩
       have HOW:Hid ((V34.setCell ⟨q,1,none⟩ (.slice (some ⟨g5,0,none⟩) (n+1) c5)).ownsRow w1.heap.size 3 1 (.slice KA ns kc) ns (plV g.all g.S)):=⟨by
        have h5:=Zs2 (Y9I HO.o HGV.o) HT5.o (λg hg e=>YnK HO.o HVO.o (by decide) hg e rfl)
        exact VDR h5 _ (λg hg=>YnK h5 HR5.o (by decide) hg rfl)⟩
       have HNW:=hid (HEND.o _ _ g5 c5 _ _ _ HGV.o HT5.o HR5.o HO5.o HNO.o);generalize V34.setCell ⟨q,1,none⟩ (.slice (some ⟨g5,0,none⟩) (n+1) c5)=w6 at HTW HRW HOW HNW⊢;clear z1 zf zl;go_wp2;go_round
       case rel=>exact⟨n+1,_,HLA.o,by go_num,HTW,HRW,HOW,HNW⟩
       case measure=>have:=HLA.o;simp[intOf];omega
     ·refine JYY ?_
      try simp only[XZy,ξ,ζ]
      go_wp2
      replace HS:=hid HS.o.emptyC
      generalize V8.alloc (.cells #[] 32)=V20 at HS⊢;generalize V8.heap.size=e20 at HS⊢;refine⟨ZJV.of (HSX.o _ HS.o.g),?_⟩;refine YnI ?_
      try simp only[XZy]
      try simp only[Act.put,ψ,ϑ,κ]
      repeat(go_big_quiet_step (fail))
      refine φ ?_;refine JYY ?_
      try simp only[XZy,ξ,ζ]
      go_wp2_with(go_at_call 32;refine(HKX.o _ HS.o.g).mono ?_;rintro e V7 ⟨XA,xc,rfl,hg,ho⟩;replace HS:=hid (HS.o.keys hg ho);clear hg ho);refine⟨ZJV.of (HSX.o _ HS.o.g),?_⟩;refine YnI ?_
      try simp only[XZy]
      try simp only[Act.put,ψ,ϑ,κ]
      repeat(go_big_quiet_step (fail))
      refine φ ?_;refine JYY ?_
      try simp only[XZy,ξ,ζ]
      go_wp2_with(at_builtin;refine wpList_append_own_at _ rfl _ _ 72 rfl w1.heap.size 32 iu _ 1 8 underlying72 hiu hu0 hu1 hu2 rfl (by decide) (.slice (some ⟨e8,0,none⟩) 0 0) 0 [] rfl (HS.o.ob _ rfl) ⟨wx,0,none⟩ ff wl (QYW nd.f) rfl (HLFK.o.1) (HNEWF.o _ HS.o.g) (HONE.o _) (by unfold maxLen;omega) Ω (γ HBS.o HS.o.g.size) ?_;intro v19 V19 hown hgrow hnil hat;rw[ω,η]at hown;obtain⟨B19,c19,rfl,-,-⟩:=ZfN hown;replace HS:=hid (HS.o.appB hown hgrow hat);clear hown hgrow hnil hat);refine⟨ZJV.of (HSX.o _ HS.o.g),?_⟩;refine YnI ?_
      try simp only[XZy]
      try simp only[Act.put,ψ,ϑ,κ]
      repeat(go_big_quiet_step (fail))
      refine φ ?_;refine JYY ?_
      try simp only[XZy,ξ,ζ]
      go_wp2_with(at_builtin;refine wpList_append_own_at _ rfl _ _ 72 rfl w1.heap.size 32 iu _ 1 8 underlying72 hiu hu0 hu1 hu2 rfl (by decide) (.slice (some ⟨e20,0,none⟩) 0 0) 0 [] rfl (HS.o.oc _ rfl) ⟨wx,ff,none⟩ kk kk (QYW nd.k) rfl (HLFK.o.2) (HNEWK.o _ HS.o.g) (HONE.o _) (by unfold maxLen;omega) Ω (γ HBS.o HS.o.g.size) ?_;intro v31 V31 hown hgrow hnil hat;rw[ω,η]at hown;obtain⟨B31,c31,rfl,-,-⟩:=ZfN hown;replace HS:=hid (HS.o.appC hown hgrow hat);clear hown hgrow hnil hat);refine⟨ZJV.of (HSX.o _ HS.o.g),?_⟩;refine YnI ?_
      try simp only[XZy,ξ,ζ]
      try simp only[Act.put,ψ,ϑ,κ]
      repeat(go_big_quiet_step (fail))
      refine φ ?_;refine JYY ?_
      try simp only[XZy,ξ,ζ]
      have ha:=HS.o.oa _ rfl;have hb:=HS.o.ob _ rfl;have hc:=HS.o.oc _ rfl;dsimp only at ha hb hc
      have HNO:Hid (ZEV V31 w1.heap.size (.slice XA pp xc) (.slice B19 ff c19) (.slice B31 kk c31) nd):=⟨by
       obtain⟨f1,f2,f3,f4,f5⟩:=HFL.o
       exact⟨by rw[f5];exact ha,by rw[f2];exact hb,by rw[f4];exact hc⟩⟩
      have HGV:=hid HS.o.g;clear ha hb hc HS;go_wp2;refine⟨ZJV.of (HSX.o _ (HGV.o.alloc _)),?_⟩;refine YnI ?_
      try simp only[XZy]
      try simp only[Act.put,ψ,ϑ,κ]
      repeat(go_big_quiet_step (fail))
      refine φ ?_;refine JYY ?_
      try simp only[XZy,ξ,ζ]
      go_wp2_with(at_builtin;refine wpList_append_lies _ rfl _ _ 47 rfl w1.heap.size 84 io _ 3 72 underlying47 hio ho0 ho1 ho2 rfl (by decide) (.slice AN n cN) n (vs.flatMap nvC) rfl (Y9I HVO.o (HGV.o.alloc _)) ⟨V31.heap.size,0,none⟩ 1 1 [.slice XA pp xc,.slice B19 ff c19,.slice B31 kk c31] rfl rfl (β (cs:=#[.slice XA pp xc,.slice B19 ff c19,.slice B31 kk c31]) (t:=84) (fr:=(0,0)) (heap_alloc_new V31 (.cells #[.slice XA pp xc,.slice B19 ff c19,.slice B31 kk c31] 84))) (by simp[Value.oneCell']) Ω (by unfold maxLen;omega) Ω (by have:=HBS.o;have:=HGV.o.size;rw[τ];omega) (V31.heap.size+1) (by simp) ?_;intro g5 c5 V34 hown5 hgrow5 hat5 hlt5;have t5:XF4 (λk=>(Value.slice AN n cN).ownBlock=some k) V31 V34:=(((Gr.refl _).alloc _).touch _).trans (VxQ hgrow5 _ (λk e _=>e));have HT5:=hid t5;have HO5:=hid hown5;have HR5:=hid ((HQR.o.gr HGV.o).touch t5 (λe=>YnK HVO.o HQR.o (by decide) e rfl rfl));have HX5:=hid ((HTH.o.gr HGV.o).touch t5 (λe=>YnK HVO.o HTH.o (by decide) e rfl rfl));have z1:=HR5.o.cell (j:=1) rfl;have zf:=HR5.o.free 1;have zl:=HR5.o.lt;clear hown5 hgrow5 hat5 hlt5 t5);refine⟨ZJV.of (HSY.o _ HR5.o HX5.o),?_⟩;refine ZOd ?_
      try simp only[XZy,ξ,ζ]
      try simp only[Act.put,ψ,ϑ,κ]
      repeat(go_big_quiet_step (fail))
      refine φ ?_;clear y1 y2 y3 y4 HSX HSY inst;refine JYY ?_
      try simp only[XZy,ξ,ζ]
      go_wp2;refine δ ?_;have HTW:Hid (XF4 (λk=>k=q\/w1.heap.size<=k) w1 (V34.setCell ⟨q,1,none⟩ (.slice (some ⟨g5,0,none⟩) (n+1) c5))):=⟨((HT.o.trans (HGV.o.touch _)).trans (HT5.o.mono (λk _ h=>.inr (Vvr HVO.o h).1))).trans ((Vzf V34 q 1 _).mono (λk _ h=>.inl h))⟩;have HRW:Hid (Rec (V34.setCell ⟨q,1,none⟩ (.slice (some ⟨g5,0,none⟩) (n+1) c5)) q 49 [.slice KA ns kc,.slice (some ⟨g5,0,none⟩) (n+1) c5]):=⟨HR5.o.set 1 _⟩
      have HOW:Hid ((V34.setCell ⟨q,1,none⟩ (.slice (some ⟨g5,0,none⟩) (n+1) c5)).ownsRow w1.heap.size 3 1 (.slice KA ns kc) ns (plV g.all g.S)):=⟨by
       have h5:=Zs2 (Y9I HO.o HGV.o) HT5.o (λg hg e=>YnK HO.o HVO.o (by decide) hg e rfl)
       exact VDR h5 _ (λg hg=>YnK h5 HR5.o (by decide) hg rfl)⟩
      have HNW:=hid (HEND.o _ _ g5 c5 _ _ _ HGV.o HT5.o HR5.o HO5.o HNO.o);generalize V34.setCell ⟨q,1,none⟩ (.slice (some ⟨g5,0,none⟩) (n+1) c5)=w6 at HTW HRW HOW HNW⊢;clear z1 zf zl;go_wp2;go_round
      case rel=>exact⟨n+1,_,HLA.o,by go_num,HTW,HRW,HOW,HNW⟩
      case measure=>have:=HLA.o;simp[intOf];omega
    ·refine JYY ?_
     try simp only[XZy,ξ,ζ]
     go_wp2
     replace HS:=hid HS.o.emptyC
     generalize V0.alloc (.cells #[] 32)=V20 at HS⊢;generalize V0.heap.size=e20 at HS⊢;refine⟨ZJV.of (HSX.o _ HS.o.g),?_⟩;refine ZY0 ?_
     try simp only[XZy]
     try simp only[Act.put,ψ,ϑ,κ]
     repeat(go_big_quiet_step (fail))
     refine φ ⟨?_,?_⟩
     ·refine JYY ?_
      try simp only[XZy,ξ,ζ]
      go_wp2_with(go_at_call 32;refine(HKX.o _ HS.o.g).mono ?_;rintro e V7 ⟨XA,xc,rfl,hg,ho⟩;replace HS:=hid (HS.o.keys hg ho);clear hg ho);refine⟨ZJV.of (HSX.o _ HS.o.g),?_⟩;refine YnI ?_
      try simp only[XZy]
      try simp only[Act.put,ψ,ϑ,κ]
      repeat(go_big_quiet_step (fail))
      refine φ ?_;refine JYY ?_
      try simp only[XZy,ξ,ζ]
      go_wp2
      replace HS:=hid HS.o.emptyB
      generalize V7.alloc (.cells #[] 32)=V8 at HS⊢;generalize V7.heap.size=e8 at HS⊢;refine⟨ZJV.of (HSX.o _ HS.o.g),?_⟩;refine YnI ?_
      try simp only[XZy]
      try simp only[Act.put,ψ,ϑ,κ]
      repeat(go_big_quiet_step (fail))
      refine φ ?_;refine JYY ?_
      try simp only[XZy,ξ,ζ]
      go_wp2_with(at_builtin;refine wpList_append_own_at _ rfl _ _ 72 rfl w1.heap.size 32 iu _ 1 8 underlying72 hiu hu0 hu1 hu2 rfl (by decide) (.slice (some ⟨e8,0,none⟩) 0 0) 0 [] rfl (HS.o.ob _ rfl) ⟨wx,0,none⟩ ff wl (QYW nd.f) rfl (HLFK.o.1) (HNEWF.o _ HS.o.g) (HONE.o _) (by unfold maxLen;omega) Ω (γ HBS.o HS.o.g.size) ?_;intro v19 V19 hown hgrow hnil hat;rw[ω,η]at hown;obtain⟨B19,c19,rfl,-,-⟩:=ZfN hown;replace HS:=hid (HS.o.appB hown hgrow hat);clear hown hgrow hnil hat);refine⟨ZJV.of (HSX.o _ HS.o.g),?_⟩;refine YnI ?_
      try simp only[XZy]
      try simp only[Act.put,ψ,ϑ,κ]
      repeat(go_big_quiet_step (fail))
      refine φ ?_;refine JYY ?_
      try simp only[XZy,ξ,ζ]
      go_wp2_with(at_builtin;refine wpList_append_own_at _ rfl _ _ 72 rfl w1.heap.size 32 iu _ 1 8 underlying72 hiu hu0 hu1 hu2 rfl (by decide) (.slice (some ⟨e20,0,none⟩) 0 0) 0 [] rfl (HS.o.oc _ rfl) ⟨wx,ff,none⟩ kk kk (QYW nd.k) rfl (HLFK.o.2) (HNEWK.o _ HS.o.g) (HONE.o _) (by unfold maxLen;omega) Ω (γ HBS.o HS.o.g.size) ?_;intro v31 V31 hown hgrow hnil hat;rw[ω,η]at hown;obtain⟨B31,c31,rfl,-,-⟩:=ZfN hown;replace HS:=hid (HS.o.appC hown hgrow hat);clear hown hgrow hnil hat);refine⟨ZJV.of (HSX.o _ HS.o.g),?_⟩;refine YnI ?_
      try simp only[XZy,ξ,ζ]
      try simp only[Act.put,ψ,ϑ,κ]
      repeat(go_big_quiet_step (fail))
      refine φ ?_;refine JYY ?_
      try simp only[XZy,ξ,ζ]
      have ha:=HS.o.oa _ rfl;have hb:=HS.o.ob _ rfl;have hc:=HS.o.oc _ rfl;dsimp only at ha hb hc
      have HNO:Hid (ZEV V31 w1.heap.size (.slice XA pp xc) (.slice B19 ff c19) (.slice B31 kk c31) nd):=⟨by
       obtain⟨f1,f2,f3,f4,f5⟩:=HFL.o
       exact⟨by rw[f5];exact ha,by rw[f2];exact hb,by rw[f4];exact hc⟩⟩
      have HGV:=hid HS.o.g;clear ha hb hc HS;go_wp2;refine⟨ZJV.of (HSX.o _ (HGV.o.alloc _)),?_⟩;refine YnI ?_
      try simp only[XZy]
      try simp only[Act.put,ψ,ϑ,κ]
      repeat(go_big_quiet_step (fail))
      refine φ ?_;refine JYY ?_
      try simp only[XZy,ξ,ζ]
      go_wp2_with(at_builtin;refine wpList_append_lies _ rfl _ _ 47 rfl w1.heap.size 84 io _ 3 72 underlying47 hio ho0 ho1 ho2 rfl (by decide) (.slice AN n cN) n (vs.flatMap nvC) rfl (Y9I HVO.o (HGV.o.alloc _)) ⟨V31.heap.size,0,none⟩ 1 1 [.slice XA pp xc,.slice B19 ff c19,.slice B31 kk c31] rfl rfl (β (cs:=#[.slice XA pp xc,.slice B19 ff c19,.slice B31 kk c31]) (t:=84) (fr:=(0,0)) (heap_alloc_new V31 (.cells #[.slice XA pp xc,.slice B19 ff c19,.slice B31 kk c31] 84))) (by simp[Value.oneCell']) Ω (by unfold maxLen;omega) Ω (by have:=HBS.o;have:=HGV.o.size;rw[τ];omega) (V31.heap.size+1) (by simp) ?_;intro g5 c5 V34 hown5 hgrow5 hat5 hlt5;have t5:XF4 (λk=>(Value.slice AN n cN).ownBlock=some k) V31 V34:=(((Gr.refl _).alloc _).touch _).trans (VxQ hgrow5 _ (λk e _=>e));have HT5:=hid t5;have HO5:=hid hown5;have HR5:=hid ((HQR.o.gr HGV.o).touch t5 (λe=>YnK HVO.o HQR.o (by decide) e rfl rfl));have HX5:=hid ((HTH.o.gr HGV.o).touch t5 (λe=>YnK HVO.o HTH.o (by decide) e rfl rfl));have z1:=HR5.o.cell (j:=1) rfl;have zf:=HR5.o.free 1;have zl:=HR5.o.lt;clear hown5 hgrow5 hat5 hlt5 t5);refine⟨ZJV.of (HSY.o _ HR5.o HX5.o),?_⟩;refine ZOd ?_
      try simp only[XZy,ξ,ζ]
      try simp only[Act.put,ψ,ϑ,κ]
      repeat(go_big_quiet_step (fail))
      refine φ ?_;clear y1 y2 y3 y4 HSX HSY inst;refine JYY ?_
      try simp only[XZy,ξ,ζ]
      go_wp2;refine δ ?_;have HTW:Hid (XF4 (λk=>k=q\/w1.heap.size<=k) w1 (V34.setCell ⟨q,1,none⟩ (.slice (some ⟨g5,0,none⟩) (n+1) c5))):=⟨((HT.o.trans (HGV.o.touch _)).trans (HT5.o.mono (λk _ h=>.inr (Vvr HVO.o h).1))).trans ((Vzf V34 q 1 _).mono (λk _ h=>.inl h))⟩;have HRW:Hid (Rec (V34.setCell ⟨q,1,none⟩ (.slice (some ⟨g5,0,none⟩) (n+1) c5)) q 49 [.slice KA ns kc,.slice (some ⟨g5,0,none⟩) (n+1) c5]):=⟨HR5.o.set 1 _⟩
      have HOW:Hid ((V34.setCell ⟨q,1,none⟩ (.slice (some ⟨g5,0,none⟩) (n+1) c5)).ownsRow w1.heap.size 3 1 (.slice KA ns kc) ns (plV g.all g.S)):=⟨by
       have h5:=Zs2 (Y9I HO.o HGV.o) HT5.o (λg hg e=>YnK HO.o HVO.o (by decide) hg e rfl)
       exact VDR h5 _ (λg hg=>YnK h5 HR5.o (by decide) hg rfl)⟩
      have HNW:=hid (HEND.o _ _ g5 c5 _ _ _ HGV.o HT5.o HR5.o HO5.o HNO.o);generalize V34.setCell ⟨q,1,none⟩ (.slice (some ⟨g5,0,none⟩) (n+1) c5)=w6 at HTW HRW HOW HNW⊢;clear z1 zf zl;go_wp2;go_round
      case rel=>exact⟨n+1,_,HLA.o,by go_num,HTW,HRW,HOW,HNW⟩
      case measure=>have:=HLA.o;simp[intOf];omega
     ·refine JYY ?_
      try simp only[XZy,ξ,ζ]
      go_wp2
      replace HS:=hid HS.o.emptyB
      generalize V20.alloc (.cells #[] 32)=V8 at HS⊢;generalize V20.heap.size=e8 at HS⊢;refine⟨ZJV.of (HSX.o _ HS.o.g),?_⟩;refine YnI ?_
      try simp only[XZy]
      try simp only[Act.put,ψ,ϑ,κ]
      repeat(go_big_quiet_step (fail))
      refine φ ?_;refine JYY ?_
      try simp only[XZy,ξ,ζ]
      go_wp2_with(go_at_call 32;refine(HKX.o _ HS.o.g).mono ?_;rintro e V7 ⟨XA,xc,rfl,hg,ho⟩;replace HS:=hid (HS.o.keys hg ho);clear hg ho);refine⟨ZJV.of (HSX.o _ HS.o.g),?_⟩;refine YnI ?_
      try simp only[XZy]
      try simp only[Act.put,ψ,ϑ,κ]
      repeat(go_big_quiet_step (fail))
      refine φ ?_;refine JYY ?_
      try simp only[XZy,ξ,ζ]
      go_wp2_with(at_builtin;refine wpList_append_own_at _ rfl _ _ 72 rfl w1.heap.size 32 iu _ 1 8 underlying72 hiu hu0 hu1 hu2 rfl (by decide) (.slice (some ⟨e8,0,none⟩) 0 0) 0 [] rfl (HS.o.ob _ rfl) ⟨wx,0,none⟩ ff wl (QYW nd.f) rfl (HLFK.o.1) (HNEWF.o _ HS.o.g) (HONE.o _) (by unfold maxLen;omega) Ω (γ HBS.o HS.o.g.size) ?_;intro v19 V19 hown hgrow hnil hat;rw[ω,η]at hown;obtain⟨B19,c19,rfl,-,-⟩:=ZfN hown;replace HS:=hid (HS.o.appB hown hgrow hat);clear hown hgrow hnil hat);refine⟨ZJV.of (HSX.o _ HS.o.g),?_⟩;refine YnI ?_
      try simp only[XZy]
      try simp only[Act.put,ψ,ϑ,κ]
      repeat(go_big_quiet_step (fail))
      refine φ ?_;refine JYY ?_
      try simp only[XZy,ξ,ζ]
      go_wp2_with(at_builtin;refine wpList_append_own_at _ rfl _ _ 72 rfl w1.heap.size 32 iu _ 1 8 underlying72 hiu hu0 hu1 hu2 rfl (by decide) (.slice (some ⟨e20,0,none⟩) 0 0) 0 [] rfl (HS.o.oc _ rfl) ⟨wx,ff,none⟩ kk kk (QYW nd.k) rfl (HLFK.o.2) (HNEWK.o _ HS.o.g) (HONE.o _) (by unfold maxLen;omega) Ω (γ HBS.o HS.o.g.size) ?_;intro v31 V31 hown hgrow hnil hat;rw[ω,η]at hown;obtain⟨B31,c31,rfl,-,-⟩:=ZfN hown;replace HS:=hid (HS.o.appC hown hgrow hat);clear hown hgrow hnil hat);refine⟨ZJV.of (HSX.o _ HS.o.g),?_⟩;refine YnI ?_
      try simp only[XZy,ξ,ζ]
      try simp only[Act.put,ψ,ϑ,κ]
      repeat(go_big_quiet_step (fail))
      refine φ ?_;refine JYY ?_
      try simp only[XZy,ξ,ζ]
      have ha:=HS.o.oa _ rfl;have hb:=HS.o.ob _ rfl;have hc:=HS.o.oc _ rfl;dsimp only at ha hb hc
      have HNO:Hid (ZEV V31 w1.heap.size (.slice XA pp xc) (.slice B19 ff c19) (.slice B31 kk c31) nd):=⟨by
       obtain⟨f1,f2,f3,f4,f5⟩:=HFL.o
       exact⟨by rw[f5];exact ha,by rw[f2];exact hb,by rw[f4];exact hc⟩⟩
      have HGV:=hid HS.o.g;clear ha hb hc HS;go_wp2;refine⟨ZJV.of (HSX.o _ (HGV.o.alloc _)),?_⟩;refine YnI ?_
      try simp only[XZy]
      try simp only[Act.put,ψ,ϑ,κ]
      repeat(go_big_quiet_step (fail))
      refine φ ?_;refine JYY ?_
      try simp only[XZy,ξ,ζ]
      go_wp2_with(at_builtin;refine wpList_append_lies _ rfl _ _ 47 rfl w1.heap.size 84 io _ 3 72 underlying47 hio ho0 ho1 ho2 rfl (by decide) (.slice AN n cN) n (vs.flatMap nvC) rfl (Y9I HVO.o (HGV.o.alloc _)) ⟨V31.heap.size,0,none⟩ 1 1 [.slice XA pp xc,.slice B19 ff c19,.slice B31 kk c31] rfl rfl (β (cs:=#[.slice XA pp xc,.slice B19 ff c19,.slice B31 kk c31]) (t:=84) (fr:=(0,0)) (heap_alloc_new V31 (.cells #[.slice XA pp xc,.slice B19 ff c19,.slice B31 kk c31] 84))) (by simp[Value.oneCell']) Ω (by unfold maxLen;omega) Ω (by have:=HBS.o;have:=HGV.o.size;rw[τ];omega) (V31.heap.size+1) (by simp) ?_;intro g5 c5 V34 hown5 hgrow5 hat5 hlt5;have t5:XF4 (λk=>(Value.slice AN n cN).ownBlock=some k) V31 V34:=(((Gr.refl _).alloc _).touch _).trans (VxQ hgrow5 _ (λk e _=>e));have HT5:=hid t5;have HO5:=hid hown5;have HR5:=hid ((HQR.o.gr HGV.o).touch t5 (λe=>YnK HVO.o HQR.o (by decide) e rfl rfl));have HX5:=hid ((HTH.o.gr HGV.o).touch t5 (λe=>YnK HVO.o HTH.o (by decide) e rfl rfl));have z1:=HR5.o.cell (j:=1) rfl;have zf:=HR5.o.free 1;have zl:=HR5.o.lt;clear hown5 hgrow5 hat5 hlt5 t5);refine⟨ZJV.of (HSY.o _ HR5.o HX5.o),?_⟩;refine ZOd ?_
      try simp only[XZy,ξ,ζ]
      try simp only[Act.put,ψ,ϑ,κ]
      repeat(go_big_quiet_step (fail))
      refine φ ?_;clear y1 y2 y3 y4 HSX HSY inst;refine JYY ?_
      try simp only[XZy,ξ,ζ]
      go_wp2;refine δ ?_;have HTW:Hid (XF4 (λk=>k=q\/w1.heap.size<=k) w1 (V34.setCell ⟨q,1,none⟩ (.slice (some ⟨g5,0,none⟩) (n+1) c5))):=⟨((HT.o.trans (HGV.o.touch _)).trans (HT5.o.mono (λk _ h=>.inr (Vvr HVO.o h).1))).trans ((Vzf V34 q 1 _).mono (λk _ h=>.inl h))⟩;have HRW:Hid (Rec (V34.setCell ⟨q,1,none⟩ (.slice (some ⟨g5,0,none⟩) (n+1) c5)) q 49 [.slice KA ns kc,.slice (some ⟨g5,0,none⟩) (n+1) c5]):=⟨HR5.o.set 1 _⟩
      have HOW:Hid ((V34.setCell ⟨q,1,none⟩ (.slice (some ⟨g5,0,none⟩) (n+1) c5)).ownsRow w1.heap.size 3 1 (.slice KA ns kc) ns (plV g.all g.S)):=⟨by
       have h5:=Zs2 (Y9I HO.o HGV.o) HT5.o (λg hg e=>YnK HO.o HVO.o (by decide) hg e rfl)
       exact VDR h5 _ (λg hg=>YnK h5 HR5.o (by decide) hg rfl)⟩
      have HNW:=hid (HEND.o _ _ g5 c5 _ _ _ HGV.o HT5.o HR5.o HO5.o HNO.o);generalize V34.setCell ⟨q,1,none⟩ (.slice (some ⟨g5,0,none⟩) (n+1) c5)=w6 at HTW HRW HOW HNW⊢;clear z1 zf zl;go_wp2;go_round
      case rel=>exact⟨n+1,_,HLA.o,by go_num,HTW,HRW,HOW,HNW⟩
      case measure=>have:=HLA.o;simp[intOf];omega
  ·have hnI:¬(n:Int)<(na:Int):=Ω
   obtain rfl:n=na:=Ω
   have HNF:Hid (VIG wr w1.heap.size vN g.ndsD):=⟨by
    have:=HN.o;rw[HNA.o,ζS]at this
    exact this⟩
   obtain⟨AN,cN,rfl,-,-⟩:=HNF.o.shape;have hle:g.ndsD.length=n:=by rw[HNA.o];exact ζc ..
   rw[hle]at HNF HQR;have c0:=HQR.o.cell (j:=0) rfl;have c1:=HQR.o.cell (j:=1) rfl;have cl:=HQR.o.lt;have HLE:=hid hle;have HQ0:Hid (Rec wr w.heap.size 49 [.slice none 0 0,.slice none 0 0]):=⟨(HR0.o.gr (HG3.o.trans HG1.o)).touch HT.o (by have e1:=HQ.o;have e2:=HQ1.o;omega)⟩;have k0:=HQ0.o.cell (j:=0) rfl;have k1:=HQ0.o.cell (j:=1) rfl;have kf:=HQ0.o.free;have kl:=HQ0.o.lt;clear hlast hn hle HN;go_wp2;obtain⟨wE,hwE⟩:∃wE,wE=(wr.setCell ⟨w.heap.size,0,none⟩ (.slice KA ns kc)).setCell ⟨w.heap.size,1,none⟩ (.slice AN n cN):=⟨_,rfl⟩;have hr1:=Rec.set HQ0.o 0 (.slice KA ns kc);have hr2:Rec wE w.heap.size 49 [.slice KA ns kc,.slice AN n cN]:=by rw[hwE];exact Rec.set hr1 1 (.slice AN n cN)
   have hot:∀V xs,Rec V w.heap.size 49 xs->Jp3 V (λk=>k=w.heap.size) (λt=>t≠49):=λV xs h k hk _=>by
    obtain⟨cur,e⟩:=QiW h rfl;exact⟨_,λh=>h rfl,cur,by rw[show k=w.heap.size from hk];exact e⟩
   have hnE:VIG wE w1.heap.size (.slice AN n cN) g.ndsD:=by
    rw[hwE];exact(HNF.o.other (Vzf wr w.heap.size 0 _) (hot _ _ HQ0.o) (by decide) (by decide) (by decide)).other (Vzf _ w.heap.size 1 _) (hot _ _ hr1) (by decide) (by decide) (by decide)
   have hoE:wE.ownsRow w1.heap.size 3 1 (.slice KA ns kc) ns (XlA g.slD):=by
    have h1:=VDR (j:=0) HO.o (.slice KA ns kc) (λg hg=>YnK HO.o HQ0.o (by decide) hg rfl);have h2:=VDR (j:=1) h1 (.slice AN n cN) (λg hg=>YnK h1 hr1 (by decide) hg rfl);rw[Qy5]at h2;rw[hwE];exact h2
   have hsl:g.slD.length=ns:=by rw[HNS.o];exact ζc ..
   have hgE:Gr w wE:=by
    have e1:=HQ.o;have e2:=HGW.o.size;have t1:XF4 (λk=>w.heap.size<=k) w wr:=(HGW.o.touch _).trans (HT.o.mono (λk _ h=>by have h:k=q\/w1.heap.size<=k:=h;omega))
    have t2:XF4 (λk=>w.heap.size<=k) w wE:=by
     rw[hwE];exact(t1.setCell (a:=⟨w.heap.size,0,none⟩) (λ_=>ζe _) _).setCell (a:=⟨w.heap.size,1,none⟩) (λ_=>ζe _) _
    exact(t2.mono (T:=λ_=>False) (λk hk h=>by have h:w.heap.size<=k:=h;omega)).gr
   rw[<-hwE];have hl:=XkM hr2 (by kernel_rfl) (by kernel_rfl);refine ζt (v:=.agg #[.slice KA ns kc,.slice AN n cN]) ?_ rfl ⟨_,rfl,hgE,KA,AN,kc,cN,by rw[hsl,HLE.o],YUk hoE hsl.symm,hnE.at⟩;simp[results,results13,asAddr,hl]
end
end
end
section
section
open Go.RowKit Word
theorem Jcv(C:Nat)(g:Gph)(a:Int)(h:Hdr):(g.alG C a h).L.length<=g.L.length+1:=by
 unfold Gph.alG
 split
 ·show (g.L++[_]).length<=_
  simp
 ·exact ζ6 _
theorem XBn(g:Gph)(a i b:Int):(g.stG a i b).L.length<=g.L.length+1:=by
 unfold Gph.stG Gph.setFd Gph.put
 split
 ·show (List.set _ _ _).length<=_
  rw[ζf];exact ζ6 _
 ·exact ζ6 _
theorem JpZ(g:Gph)(a i kd:Int)(y:Nat):(g.wrG a i kd y).L.length<=g.L.length+1:=by
 unfold Gph.wrG Gph.setFd Gph.put
 split
 ·show (List.set _ _ _).length<=_
  rw[ζf];exact ζ6 _
 ·exact ζ6 _
theorem Zby(C:Nat)(x:GOp)(g:Gph):(x.doG C g).L.length<=g.L.length+1:=by
 unfold GOp.doG
 repeat' split
 all_goals first
  | exact ζ6 _
  | exact Jcv _ _ _ _
  | exact XBn _ _ _ _
  | exact JpZ _ _ _ _ _
  | (unfold Gph.loG;split <;> exact ζ6 _)
  | (unfold Gph.cpG;split <;> exact ζ6 _)
  | (unfold Gph.clG;split <;> exact ζ6 _)
section
variable {w w':World} {m C:Nat} {g:Gph} {S:Nat->Prop}
theorem ZKs(hA:Xli w S m C g)(hlen:g.L.length+1<=1000)(x:GOp)(hx:x.Bd):Calls prog 7 #[.pointer (some ⟨m,0,none⟩),.agg (Qol x)] w (JR3 w S m C (x.doG C g) (Xf9 (x.doR C g))):=by
 by_cases h:x.kd=4\/x.kd=6\/x.kd=10\/x.kd=11\/x.kd=12\/x.kd=13\/x.kd=14
 ·exact XBF hA x h
 ·exact ZQN hA hlen x hx Ω
theorem VO5(w:World){C:Int}{n:Nat}(hC1:1<=C)(hn1:1<=n)(hn:n<=64):Calls prog 4 #[.int .i64 C,.int .i64 n] w λe w'=>e=.returned (.tuple #[.pointer (some ⟨w.heap.size+1,0,none⟩),.int .i64 0])/\Gr w w':=by
 have hmk:=JbJ n Ω;have d1:decide (C<1)=false:=π Ω;have d2:decide ((n:Int)<1)=false:=π Ω;have d3:decide ((64:Int)<(n:Int))=false:=π Ω;have d4:decide (C<=0)=false:=π Ω;have d5:decide ((n:Int)<=0)=false:=π Ω;generalize List.replicate n (Value.pointer none)=lp at hmk;clear hC1 hn1 hn;go_enter func4,ntmps4;go_wp2;go_ret2;exact⟨rfl,((Gr.refl w).alloc _).alloc _⟩
end
def Qk4(k:Int):GOp:=⟨1,0,0,0,⟨0,0,k⟩,0,0⟩
theorem QNo:(Qk4 4).doG 4 (Gph.nul 1)=Gph.nul 1/\(Qk4 4).doR 4 (Gph.nul 1)=.no 21:=⟨rfl,rfl⟩
theorem Xsv:(Qk4 3).doR 4 (Gph.nul 1)=.no 0:=rfl
theorem VKE(k:Int)(h0:0<=k)(h1:k<=255):(Qk4 k).Bd:=by
 unfold Qk4;constructor <;> first|(constructor <;> dsimp only <;> omega)|(dsimp only;omega)
theorem ZKB(w:World):V4y prog 5 #[] w (.bool true):=by
 have H4:=hid (λ(V:World) (S:Nat->Prop) (m:Nat) (h:Xli V S m 4 (Gph.nul 1))=>ZKs h (by decide) (Qk4 4) (VKE 4 Ω Ω));have H3:=hid (λ(V:World) (S:Nat->Prop) (m:Nat) (h:Xli V S m 4 (Gph.nul 1))=>ZKs h (by decide) (Qk4 3) (VKE 3 Ω Ω));rw[QNo.1,QNo.2]at H4;rw[Xsv]at H3;have H0:Hid (∀V:World,Calls prog 4 #[.int .i64 4,.int .i64 1] V λe w'=>e=.returned (.tuple #[.pointer (some ⟨V.heap.size+1,0,none⟩),.int .i64 0])/\Gr V w'/\Xli w' (λk=>V.heap.size<=k) (V.heap.size+1) 4 (Gph.nul 1)):=⟨λV=>Zm8 V (C:=4) (n:=1) Ω Ω Ω Ω⟩;unfold Qk4 Qol Xf9 JAk GRe.no JR3 at H4 H3;dsimp only at H4 H3;unfold V4y;go_enter func5,ntmps5;go_upto_region 4 with(go_at_call 4;refine(H0.o _).mono ?_;rintro e w1 ⟨rfl,hg1,ha1⟩;have HG1:=hid hg1;have HA1:=hid ha1;clear hg1 ha1);go_upto_region 5 with(go_at_call 7;refine(H4.o _ _ _ HA1.o).mono ?_;rintro e w2 ⟨rfl,ht,ha⟩;have HT2:=hid ht;have HA2:=hid ha;clear ht ha);have HG2:Hid (Gr w w2):=⟨Yx6 ((HG1.o.touch _).trans (HT2.o.mono (λk hk h=>h)))⟩;obtain⟨q3,hq3⟩:∃q3,q3=w2.heap.size:=⟨_,rfl⟩;obtain⟨W3,hW3⟩:∃W3,W3=w2.alloc (.cells #[.int .i64 21,.bool false,.int .i64 0,.int .u64 0,.int .i64 0,.int .i64 0,.int .i64 0] 37):=⟨_,rfl⟩;have hR:Rec W3 q3 37 [.int .i64 21,.bool false,.int .i64 0,.int .u64 0,.int .i64 0,.int .i64 0,.int .i64 0]:=by rw[hW3,hq3];exact Rec.new w2 37 [.int .i64 21,.bool false,.int .i64 0,.int .u64 0,.int .i64 0,.int .i64 0,.int .i64 0]
 have hA3:Xli W3 (λk=>VVO (λk=>w.heap.size<=k) w1 k/\k<w2.heap.size) (w.heap.size+1) 4 (Gph.nul 1):=by rw[hW3];exact HA2.o.cut.gr ((Gr.refl w2).alloc _)
 have hG3:Gr w W3:=by rw[hW3];exact HG2.o.alloc _
 have HB3:Hid (∀k,VVO (λk=>w.heap.size<=k) w1 k->w.heap.size<=k):=⟨λk h=>h.elim id (λh=>γ HG1.o.size h)⟩;rw[<-hq3]at hA3;rw[<-hq3,<-hW3];have HG3:=hid hG3;have HA3:=hid hA3;have HR3:=hid hR;clear hW3 hG3 hA3 hR hq3;go_wp2_with(go_at_call 7;refine(H3.o _ _ _ HA3.o).mono ?_;rintro e w4 ⟨rfl,hg4,-⟩;have HR4:=hid (HR3.o.touch hg4 (λe=>absurd e.2 (ξh _)));have HG4:=hid ((HG3.o.touch (λk=>w.heap.size<=k)).trans (hg4.mono (λk _ e=>HB3.o k e.1)));have y0:=HR4.o.cell (j:=0) rfl;have hlt4:=HR4.o.lt;clear hg4);go_ret;exact⟨rfl,Yx6 (HG4.o.alloc _)⟩
end
end
end Go.Proofs.Ytgmaanehcbnchaa
