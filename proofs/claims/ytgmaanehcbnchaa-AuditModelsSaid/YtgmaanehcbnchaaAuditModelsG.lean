/- Part 7 of what AuditModels leans on: my own lemmas, merged by shake.py. -/
import Derived.Test.YtgmaanehcbnchaaAuditModelsF
namespace Go.Proofs.Ytgmaanehcbnchaa
open _root_.Go.Proofs.Try
set_option maxHeartbeats 3200000
set_option maxRecDepth 100000
section
section
open Go.RowKit Word
structure MR(w wr:World)(m r C:Nat)(g:Gph):Prop where
 ex:∃SM SR:Nat->Prop,Xli wr SM m C g/\ZH3 wr SR r C g/\(∀k,SM k->¬SR k)/\(∀k,SM k->w.heap.size<=k/\k<wr.heap.size)/\(∀k,SR k->w.heap.size<=k/\k<wr.heap.size)
 gr:Gr w wr
theorem MR.next{w wr W w3 w4:World}{m r C:Nat}{g':Gph}{SM SR:Nat->Prop}(hd:∀k,SM k->¬SR k)(h4:∀k,SM k->w.heap.size<=k/\k<wr.heap.size)(h5:∀k,SR k->w.heap.size<=k/\k<wr.heap.size)(hg:Gr w wr)(gW:Gr wr W)(ht:XF4 SM W w3)(hm:Xli w3 (VVO SM W) m C g')(ht4:XF4 SR w3 w4)(hr:ZH3 w4 (VVO SR w3) r C g'):MR w w4 m r C g':=by
 have s1:=hg.size;have s2:=gW.size;have s3:=ht.size;have s4:=ht4.size;refine⟨⟨λk=>VVO SM W k/\k<w3.heap.size,λk=>VVO SR w3 k/\k<w4.heap.size,hm.cut.touch ht4 (λk hk hs hsr=>?_),hr.cut,λk hs hsr=>?_,λk hs=>?_,λk hs=>?_⟩,?_⟩
 ·have:=(h5 k hsr).2;rcases hs.1 with h|h
  ·exact hd k h hsr
  ·omega
 ·have hk:=hs.2;rcases hsr.1 with h|h
  ·have:=(h5 k h).2;rcases hs.1 with h'|h'
   ·exact hd k h' h
   ·omega
  ·omega
 ·have hk:=hs.2;rcases hs.1 with h|h
  ·exact⟨(h4 k h).1,by omega⟩
  ·exact⟨by omega,by omega⟩
 ·have hk:=hs.2;rcases hs.1 with h|h
  ·exact⟨(h5 k h).1,by omega⟩
  ·exact⟨by omega,by omega⟩
 ·have t1:XF4 (λk=>w.heap.size<=k) w w3:=((hg.trans gW).touch _).trans' ht (λk _ h=>(h4 k h).1);exact Yx6 (t1.trans' ht4 (λk _ h=>(h5 k h).1))
section
variable {w:World}
theorem Qjs{A:Option Addr}{cap:Nat}{l:List GOp}(hO:JDe w A l)(hl:l.length<=maxLen)(C n:Int)(hC:-9223372036854775808<=C/\C<=9223372036854775807)(hn:-9223372036854775808<=n/\n<=9223372036854775807):V4y prog 3 #[.int .i64 C,.int .i64 n,.slice A l.length cap] w (.bool true):=by
 have HL:=hid (λV:World=>ZKB V);unfold V4y at HL⊢;unfold maxLen at hl;obtain⟨N,hN⟩:∃N,N=l.length:=⟨_,rfl⟩;have HN:=hid hN;rw[<-hN]at hl⊢;clear hN;by_cases hbad:C<1\/n<1\/64<n
 ·have HNO:=hid (Yzh w hbad);have HG0:=hid (Gr.refl w);by_cases h1:C<1
  ·have d1:decide ((1:Int)<=C)=false:=π Ω;clear hbad hO;go_enter func3,ntmps3
   go_wp2_with(first
    | (go_at_call 4;refine(HNO.o).mono ?_;rintro e w1 ⟨rfl,hg⟩;have HG1:=hid hg;clear hg)
    | (go_at_call 5;refine(HL.o _).mono ?_;rintro e w2 ⟨rfl,hg⟩;have HG2:=hid (HG1.o.trans hg);clear hg))
   go_ret;exact⟨rfl,HG2.o⟩
  ·by_cases h2:n<1
   ·have d1:decide ((1:Int)<=C)=true:=υ Ω;have d2:decide ((1:Int)<=n)=false:=π Ω;clear hbad hO;go_enter func3,ntmps3
    go_wp2_with(first
     | (go_at_call 4;refine(HNO.o).mono ?_;rintro e w1 ⟨rfl,hg⟩;have HG1:=hid hg;clear hg)
     | (go_at_call 5;refine(HL.o _).mono ?_;rintro e w2 ⟨rfl,hg⟩;have HG2:=hid (HG1.o.trans hg);clear hg))
    go_ret;exact⟨rfl,HG2.o⟩
   ·have d1:decide ((1:Int)<=C)=true:=υ Ω;have d2:decide ((1:Int)<=n)=true:=υ Ω;have d3:decide (n<=(64:Int))=false:=π Ω;clear hbad hO;go_enter func3,ntmps3
    go_wp2_with(first
     | (go_at_call 4;refine(HNO.o).mono ?_;rintro e w1 ⟨rfl,hg⟩;have HG1:=hid hg;clear hg)
     | (go_at_call 5;refine(HL.o _).mono ?_;rintro e w2 ⟨rfl,hg⟩;have HG2:=hid (HG1.o.trans hg);clear hg))
    go_ret;exact⟨rfl,HG2.o⟩
 ·obtain⟨ns,rfl⟩:∃k:Nat,n=k:=⟨n.toNat,by omega⟩;have d1:decide ((1:Int)<=C)=true:=υ Ω;have d2:decide ((1:Int)<=(ns:Int))=true:=υ Ω;have d3:decide ((ns:Int)<=(64:Int))=true:=υ Ω;by_cases hbig:150<N\/1073741824<C
  ·have HNB:=hid (VO5 w (C:=C) (n:=ns) Ω Ω Ω);by_cases h1:150<N
   ·clear hbad hO hbig;go_enter func3,ntmps3
    go_wp2_with(first
     | (go_at_call 4;refine(HNB.o).mono ?_;rintro e w1 ⟨rfl,hg⟩;have HG1:=hid hg;clear hg)
     | (go_at_call 5;refine(HL.o _).mono ?_;rintro e w2 ⟨rfl,hg⟩;have HG2:=hid (HG1.o.trans hg);clear hg))
    go_ret;exact⟨rfl,HG2.o⟩
   ·have h2:1073741824<C:=Ω
    clear hbad hO hbig;go_enter func3,ntmps3
    go_wp2_with(first
     | (go_at_call 4;refine(HNB.o).mono ?_;rintro e w1 ⟨rfl,hg⟩;have HG1:=hid hg;clear hg)
     | (go_at_call 5;refine(HL.o _).mono ?_;rintro e w2 ⟨rfl,hg⟩;have HG2:=hid (HG1.o.trans hg);clear hg))
    go_ret;exact⟨rfl,HG2.o⟩
  ·obtain⟨c,rfl⟩:∃k:Nat,C=k:=⟨C.toNat,by omega⟩;have h1:¬150<N:=Ω
   have h2:¬(1073741824:Int)<(c:Int):=Ω
   have HNW:=hid (Zm8 w (C:=c) (n:=ns) Ω Ω Ω Ω);have HRN:=hid (λV:World=>ZlM V (C:=c) (n:=ns) Ω Ω);have HOP:=hid hO;clear hbad hO hbig;go_enter func3,ntmps3
   go_wp2_with(first
    | (go_at_call 4;refine(HNW.o).mono ?_;rintro e w1 ⟨rfl,hg,hm⟩;have HG1:=hid hg;have HM1:=hid hm;clear hg hm)
    | (go_at_call 6;refine(HRN.o _).mono ?_;rintro e w2 ⟨rfl,hg,hr⟩;have HG2:=hid hg;have HR2:=hid hr;clear hg hr))
   obtain⟨m,hm⟩:∃m,m=w.heap.size+1:=⟨_,rfl⟩;obtain⟨r,hr⟩:∃r,r=w1.heap.size+1:=⟨_,rfl⟩;rw[<-hm]at HM1⊢;rw[<-hr]at HR2⊢;have HMR:Hid (MR w w2 m r c (Gph.nul ns)):=⟨⟨⟨λk=>w.heap.size<=k/\k<w1.heap.size,λk=>w1.heap.size<=k/\k<w2.heap.size,HM1.o.cut.gr HG2.o,HR2.o.cut,λk a b=>by omega,λk a=>⟨a.1,ζa a.2 HG2.o.size⟩,λk a=>⟨γ HG1.o.size a.1,a.2⟩⟩,HG1.o.trans HG2.o⟩⟩;clear hm hr HM1 HR2 HG2 HG1 HNW HRN
   go_loopw [68] (λs68 wr=>∃(i:Nat) (g:Gph),i<=N/\s68=.int .i64 i/\Hid (MR w wr m r c g)/\Hid (g.L.length<=i)) (λs68 _=>N-(intOf s68).toNat)
   case atStart=>exact⟨0,_,ζb _,rfl,HMR,⟨ζe 0⟩⟩
   case round=>
    clear HMR;obtain⟨i,g,hi,rfl,HM,HGL⟩:=hrel;by_cases hlast:i<N
    ·have hiI:(i:Int)<(N:Int):=Ω
     have hil:i<l.length:=by rw[<-HN.o];exact hlast
     have HLA:=hid hlast;obtain⟨hbd,b,o,rfl,hb,c0,c1,c2,c3,c4,c5,c6,c7,c8⟩:=(HOP.o.gr HM.o.gr) i hil;have HBD:=hid hbd;obtain⟨SM,SR,hm1,hr1,hd,h4,h5⟩:=HM.o.ex;have hlen:g.L.length+1<=1000:=by have:=HGL.o;omega
     have HGR:=hid HM.o.gr;have HCM:=hid (λ(V:World) (gV:Gr wr V)=>ZKs (hm1.gr gV) hlen l[i] hbd);have HCR:=hid (λ(V:World) (hV:ZH3 V SR r c g)=>VKz hV hlen l[i] hbd);have HRR:=hid hr1;have HDD:=hid (ζp hd (ζp h4 h5));have HG2:Hid ((l[i].doG c g).L.length<=i+1):=⟨γ (Zby c l[i] g) (Nat.succ_le_succ HGL.o)⟩;have HRC:Hid (∃re,re=l[i].doR c g):=⟨_,rfl⟩;generalize l[i].doG c g=g' at HCM HCR HG2;generalize l[i].doR c g=re at HCM HCR;generalize l[i]=x at HCM HCR c0 c1 c2 c3 c4 c5 c6 c7 c8 hbd HBD HRC;have hro:=Rec.new wr 35 (opL x);obtain⟨kd,xa,xb,xi,⟨hp,hf,hk⟩,xw,xf⟩:=x;unfold Qol Xf9 JAk at HCM HCR;dsimp only at HCM HCR c0 c1 c2 c3 c4 c5 c6 c7 c8;unfold opL at hro;dsimp only at hro;clear hbd hm1 hr1 hd h4 h5 hlast hil hi hlen HRC;have hsf:=Qwi;go_upto_region 11 with(fail);clear hsf;have hgz:=(Gr.refl wr).alloc (.cells #[.int .i64 kd,.int .i64 xa,.int .i64 xb,.int .i64 xi,.int .i64 hp,.int .i64 hf,.int .i64 hk,.int .u64 xw,.float .f64 xf] 35);obtain⟨wz,hwz⟩:∃wz,wz=wr.alloc (.cells #[.int .i64 kd,.int .i64 xa,.int .i64 xb,.int .i64 xi,.int .i64 hp,.int .i64 hf,.int .i64 hk,.int .u64 xw,.float .f64 xf] 35):=⟨_,rfl⟩;obtain⟨ob,hob⟩:∃ob,ob=wr.heap.size:=⟨_,rfl⟩;have hro:Rec wz ob 35 [.int .i64 kd,.int .i64 xa,.int .i64 xb,.int .i64 xi,.int .i64 hp,.int .i64 hf,.int .i64 hk,.int .u64 xw,.float .f64 xf]:=by rw[hwz,hob];exact hro
     have hgz:Gr wr wz:=by rw[hwz];exact hgz
     rw[<-hwz,<-hob];have HOB:=hid hob;have HRO:=hid hro;have HGZ:=hid hgz;clear hwz hob hro hgz c0 c1 c2 c3 c4 c5 c6 c7 c8 hb;obtain⟨Sx,hSx⟩:∃Sx:World->Prop,Sx=λW'=>Rec W' ob 35 [.int .i64 kd,.int .i64 xa,.int .i64 xb,.int .i64 xi,.int .i64 hp,.int .i64 hf,.int .i64 hk,.int .u64 xw,.float .f64 xf]:=⟨_,rfl⟩;have y0:∀p:ZJV Sx,p.w.cell? ⟨ob,0,none⟩=some (.int .i64 kd):=λp=>by have h:=ZJV.get hSx p;exact h.cell (j:=0) rfl
     have y1:∀p:ZJV Sx,p.w.cell? ⟨ob,1,none⟩=some (.int .i64 xa):=λp=>by have h:=ZJV.get hSx p;exact h.cell (j:=1) rfl
     have y2:∀p:ZJV Sx,p.w.cell? ⟨ob,2,none⟩=some (.int .i64 xb):=λp=>by have h:=ZJV.get hSx p;exact h.cell (j:=2) rfl
     have y3:∀p:ZJV Sx,p.w.cell? ⟨ob,3,none⟩=some (.int .i64 xi):=λp=>by have h:=ZJV.get hSx p;exact h.cell (j:=3) rfl
     have y4:∀p:ZJV Sx,p.w.cell? ⟨ob,4,none⟩=some (.int .i64 hp):=λp=>by have h:=ZJV.get hSx p;exact h.cell (j:=4) rfl
     have y5:∀p:ZJV Sx,p.w.cell? ⟨ob,5,none⟩=some (.int .i64 hf):=λp=>by have h:=ZJV.get hSx p;exact h.cell (j:=5) rfl
     have y6:∀p:ZJV Sx,p.w.cell? ⟨ob,6,none⟩=some (.int .i64 hk):=λp=>by have h:=ZJV.get hSx p;exact h.cell (j:=6) rfl
     have y7:∀p:ZJV Sx,p.w.cell? ⟨ob,7,none⟩=some (.int .u64 xw):=λp=>by have h:=ZJV.get hSx p;exact h.cell (j:=7) rfl
     have y8:∀p:ZJV Sx,p.w.cell? ⟨ob,8,none⟩=some (.float .f64 xf):=λp=>by have h:=ZJV.get hSx p;exact h.cell (j:=8) rfl
     have HS:Hid (∀W',Rec W' ob 35 [.int .i64 kd,.int .i64 xa,.int .i64 xb,.int .i64 xi,.int .i64 hp,.int .i64 hf,.int .i64 hk,.int .u64 xw,.float .f64 xf]->Sx W'):=⟨λW' h=>by rw[hSx];exact h⟩;have hS0:=HS.o _ (HRO.o.gr (Gr.refl wz).drew);have inst:Inhabited (ZJV Sx):=⟨⟨_,hS0⟩⟩;clear hSx;refine Vv2 Sx 10 [([0,1,3,4,5,6],2),([],7),([],8)] [9] (by kernel_rfl) (by kernel_rfl) hS0 ?_;refine XGW ?_
     try simp only[XZy,ξ,ζ]
     repeat(go_big_quiet_step (fail))
     refine φ ?_;go_wp2_with((go_at_call 7;refine(HCM.o _ HGZ.o.drew).mono ?_;rintro e w3 ⟨rfl,ht,hm⟩;have HT3:=hid ht;have HM3:=hid hm;have HO3:=hid ((HRO.o.gr (Gr.refl wz).drew).touch ht (λe=>by have:=(HDD.o.2.1 _ e).2;have:=HOB.o;omega));have HR3:=hid ((HRR.o.gr HGZ.o.drew).touch ht (λk _ h1 h2=>HDD.o.1 k h2 h1));clear ht hm));refine⟨.inr (ZJV.of (HS.o _ (HO3.o))),?_⟩;refine XGW ?_
     try simp only[XZy,ξ,ζ]
     repeat(go_big_quiet_step (fail))
     refine φ ?_;go_wp2_with((go_at_call 9;refine(ZYt _ _).mono ?_;rintro e w3' ⟨rfl,rfl⟩));refine⟨.inr (ZJV.of (HS.o _ (HO3.o))),?_⟩;refine XGW ?_
     try simp only[XZy,ξ,ζ]
     repeat(go_big_quiet_step (fail))
     refine φ ?_;go_wp2_with((go_at_call 8;refine(HCR.o _ HR3.o).mono ?_;rintro e w4 ⟨rfl,ht,hr⟩;have HT4:=hid ht;have HR4:=hid hr;have HO4:=hid (HO3.o.touch ht (λe=>by have:=(HDD.o.2.2 _ e).2;have:=HOB.o;omega));clear ht hr));refine⟨.inr (ZJV.of (HS.o _ (HO4.o))),?_⟩;refine Z9U ?_
     try simp only[XZy,ξ,ζ]
     repeat(go_big_quiet_step (fail))
     refine φ ?_;refine δ ?_;clear y0 y1 y2 y3 y4 y5 y6 y7 y8 hS0 inst;clear HS Sx;have HM4:=hid (MR.next HDD.o.1 HDD.o.2.1 HDD.o.2.2 HGR.o HGZ.o.drew HT3.o HM3.o HT4.o HR4.o);go_wp2;go_round
     case rel=>exact⟨i+1,g',HLA.o,by go_num,HM4,HG2⟩
     case measure=>have:=HLA.o;simp[intOf];omega
    ·have hiI:¬(i:Int)<(N:Int):=Ω
     obtain⟨SM,SR,hm1,hr1,hd,h4,h5⟩:=HM.o.ex;obtain⟨sb,F,T,W,hm2,-⟩:=hm1;obtain⟨lv,sb2,B,hr2,-⟩:=hr1;have HLV:=hid (λ(V:World) (gV:Gr wr V)=>Zqc (hm2.gr gV));have HRE:=hid (λ(V:World) (gV:Gr wr V)=>Yzm (hr2.gr gV));unfold JHZ at HRE;have HGM:=hid (λ(V:World) (gV:Gr wr V)=>Xtx (hm2.gr gV));have HGR:=hid (λ(V:World) (gV:Gr wr V)=>Q19 (hr2.gr gV));unfold QdY at HGM HGR;have HGW:=hid HM.o.gr;have hal:g.all.length<=1000:=γ (Jcu hm2.ok) hm2.len
     have HSG:Hid (∀(V:World) (v1 v2:Value),QHE V v1 g.slD g.ndsD->QHE V v2 g.slD g.ndsD->Calls prog 12 #[v1,v2] V λe w'=>e=.returned (.bool true)/\Gr V w'):=⟨λV v1 v2 a b=>QfM a b (by
       have:=hm2.sn
       show (g.S.map _).length<=1000
       rw[ζc];omega) (by
       show (g.all.map _).length<=1000
       rw[ζc];exact hal) (λd hd=>by
       obtain⟨x,hx,rfl⟩:=ξD.1 hd;obtain⟨hx1,hx2⟩:=hm2.ok.rd (hm2.ok.mem_all.1 hx);have hwl:=hm2.wl hx1 hx2;refine⟨?_,?_,?_⟩
       ·show ((g.pts x).map _).length<=1000
        rw[ζc,hm2.pl hx1 hx2];omega
       ·show (((g.ob x).w.drop _).take _).length<=1000
        rw[ζk];omega
       ·show ((g.ob x).w.drop _).length<=1000
        rw[ζs];omega)⟩
     have hwd:=V0z hm2;generalize g.words=gw at HLV HRE hwd;generalize g.all.length=ga at HLV HRE hal;clear hm2 hr2 hd h4 h5 hlast hi
     go_upto_region 16 with(first
      | (go_at_call 10;refine(HRE.o _ (Gr.refl wr)).mono ?_;rintro e w3 ⟨RA,rc,rfl,hg,-⟩;have HG3:=hid hg;clear hg)
      | (go_at_call 11;refine(HLV.o _ HG3.o).mono ?_;rintro e w4 ⟨rfl,hg⟩;have HG4:=hid (HG3.o.trans hg);clear hg))
     go_wp2_with(first
      | (go_at_call 13;refine(HGM.o _ HG4.o).mono ?_;rintro e w5 ⟨v1,rfl,hg,ht⟩;have HG5:=hid (HG4.o.trans hg);have HT5:=hid ht;clear hg ht)
      | (go_at_call 14;refine(HGR.o _ HG5.o).mono ?_;rintro e w6 ⟨v2,rfl,hg,ht⟩;have HG6:=hid (HG5.o.trans hg);have HT6:=hid (ζp (HT5.o.gr hg) ht);clear hg ht)
      | (go_at_call 12;refine(HSG.o _ _ _ HT6.o.1 HT6.o.2).mono ?_;rintro e w7 ⟨rfl,hg⟩;have HG7:=hid (HG6.o.trans hg);clear hg)
      | (go_at_call 5;refine(HL.o _).mono ?_;rintro e w8 ⟨rfl,hg⟩;have HG8:=hid (HG7.o.trans hg);clear hg))
     go_ret;exact⟨rfl,HGW.o.trans HG8.o⟩
end
end
end
end Go.Proofs.Ytgmaanehcbnchaa
