/- Part 10 of what Trees leans on: my own lemmas, merged by shake.py. -/
import Derived.Test.YtbdimhlaaoadgaaGreatDoorTreesI
namespace Go.Proofs.YtbdimhlaaoadgaaGreatDoor
open _root_.Go.Proofs.Tryz
set_option maxHeartbeats 12800000
set_option maxRecDepth 100000
open Go.RowKit Go.Shelf Word
variable{g g':Gph}{c:HCf}{s s':HSt}{a kd:Int}{f:Int->Option Value}{rs:List Int}{L:List Ob}{b64 b65 base j m mm n nb p p1 p2 q r x y:Nat}{S X:Nat->Prop}{u u' v:Vm}{A B W5 w w' w1 w2:World}
theorem XSy(n:Nat)(a:Addr)(w:World):(method (n+1) 94 (.pointer (some a)) "Store").run prog w=.ok (313,.pointer (some a)) w:=by kernel_rfl
theorem XgO(n:Nat)(a:Addr)(w:World):(nilAhead (n+1) 94 (.pointer (some a)) "Store").run prog w=.ok (some false) w:=by kernel_rfl
section
variable{A:HAd}{top:Nat}{o:Option Nat}{lf:Nat}
theorem ShA.st(h:ShA base top v)(a:Int)(hx:x<18446744073709551616):ShA base top (v.st a x):=by
 have hs:=BR.st v a x;exact⟨h.ok.st a hx,by rw[hs.pg];exact h.al,by rw[hs.n];exact h.bt,λb hb=>by rw[hs.n]at hb;rw[F2,hs.pg];exact h.pg b hb⟩
theorem HVm.st(h:HVm c v)(a:Int)(x:Nat):HVm c (v.st a x):=by
 have hs:=BR.st v a x;exact⟨hs.n.trans h.n,hs.pg.trans h.pg,hs.rm.trans h.rm⟩
theorem WS(A:HAd)(c:HCf)(base top:Nat)(o:Option Nat)(lf nb:Nat):(spH A c base top o lf nb).Wr (fnH 217 313 o):=by
 refine⟨λn w=>?_,λn w=>?_,λargs w=>?_,λ{u S w} h a x ha hx=>?_⟩
 ·cases o with
  | none=>exact UO n _ w
  | some y=>exact XgO n _ w
 ·cases o with
  | none=>exact TL n _ w
  | some y=>exact XSy n _ w
 ·cases o with
  | none=>kernel_rfl
  | some y=>kernel_rfl
 ·obtain⟨⟨l,hl,hm⟩,h2⟩:=h;obtain⟨n,rfl,h3,h4⟩:=ha
  match o,hm with
  | none,⟨h5,h6,h7,h8⟩=>
   refine(MF h5 (n:Int) hx).mono ?_;rintro e w' ⟨rfl,t,hv⟩;exact⟨rfl,t,⟨l,hl,hv.mono (λ_ h=>.inl h),h6.st _ _,h7.st _ hx,h8⟩,κ h2 t.size⟩
  | some y,⟨z,s,v,R,Sv,h,e1,e2⟩=>
   have hs:=h.ok.st;have hlm:=h.a.lm;have hln:=hs.cf.ln;have hn2:=hs.n2;refine(ZaI (VA c.fr top u) h.cy h.ok ⟨h.a,h.hv.rm⟩ h.tab h.t2 h.t1 h.vm h.d (n:Int) Ω hx).mono ?_;rintro e w' ⟨v',rfl,t,N,M,Y,hA⟩;have U:s.cf.to<=n:=by rw[h.bs];exact h3
   have J:∀i,i<sizes (s.tch n).L->n=(s.tch n).cf.to+i->(s.tch n).is i=true:=λi hi e=>by
    have e':n=s.cf.to+i:=e;have:=Sl.tch_is hs (i:=i) hi
    grind
   have d1:=(hA.1.ld Y (a:=n) U h4 J).1;have d3:=h.a.un n Ω;obtain⟨c',p1,p2⟩:=hA.1.put Y (a:=n) U h4 J hx;have V:=h.tab.lt;refine⟨by rw[d1,d3],t.mono (λk _ hk=>h.x k hk),⟨(s.tch n).lf,?_,z,{s.tch n with c:=c'},v'.st n x,R,plus Sv w,⟨N.same rfl rfl rfl rfl rfl,M,?_,p1,p2,λk hk=>?_,λk hk Z=>?_,t.tab V (λhk=>hk.elim h.t1 h.t2) h.tab,h.t1,λhk=>hk.elim h.t2 (λhk=>by omega),h.bs,h.lm,h.bk,h.ah,h.kd⟩,rfl,?_⟩,κ h2 t.size⟩
   ·have:=Sl.lf_mono (Sl.tch_mono s (n:Int));omega
   ·refine HVm.st ⟨?_,?_,hA.2⟩ _ _
    ·rw[Y.mid.n,<-h.hv.n,h.ok.mid.n];rfl
    ·rw[Y.mid.pg,<-h.hv.pg,h.ok.mid.pg];rfl
   ·rcases hk with hk|hk|hk
    ·exact .inl (h.x k (.inl hk))
    ·exact .inl (h.x k (.inr hk))
    ·exact .inr hk
   ·rcases Z with Z|Z
    ·exact h.d k hk Z
    ·have:=h.cy.od.lt k hk;omega
   ·rw[(Sl.tch_mono s (n:Int)).1];exact e2
end
theorem HIn.sp(h:HIn w c g s):(s.sp c).I s.u s.X w:=⟨⟨s.lf,ϑ _,h.mem⟩,h.com.tab.lt⟩
theorem HIn.hi(h:HIn w c g s):s.base+c.wd<=2147483647:=by
 have h1:=h.cok.wd;have h2:=h.cok.pw;rcases h.bs with e|⟨e,-⟩ <;> omega
theorem HIn.aft(h:HIn w c g s)(hW:(s.sp c).W u' s.X w w')(hi:Img u' g' s.F s.base s.top)(hg:g'.Ok)(hS:g'.S=g.S):∃l,l<=s.lf/\HIn w' c g' {s with X:=plus s.X w,u:=u',lf:=l}:=by
 obtain⟨t,⟨l,hl,hm⟩,-⟩:=hW;refine⟨l,hl,?_,hm,hi,hg,h.cok,h.bt,h.bs,by rw[hS];exact h.sl⟩;have:=h.com.mem t
 show CH w' (plus s.X w) s.A c s.base s.top (g'.S.map λx=>(s.F x:Int)) s.o s.cyc s.blk
 rw[hS];exact this
structure BG(w:World)(c:HCf)(s:HSt)(g':Gph)(s':HSt)(w':World):Prop where
 t:AB s.S w w'
 i:HIn w' c g' s'
 hp:s'.A.hp=s.A.hp
 S:∀k,s'.S k->plus s.S w k
 o:s'.o=none↔s'.lf=0
theorem Zis(h:HIn w c g s)(hW:(s.sp c).W u' s.X w w')(hi:Img u' g' s.F s.base s.top)(hg:g'.Ok)(hS:g'.S=g.S):
  Calls prog 65 #[pP s.A.hp] w' λe w2=>e=.returned (.tuple #[])/\∃s',BG w c s g' s' w2/\s'.A=s.A/\s'.lf<=s.lf/\s'.cyc=(if s.o≠none/\s'.lf=0 then wrap64 (s.cyc+1)else s.cyc)/\HKp s s'/\AB (λk=>k=s.A.hp) w' w2:=by
 obtain⟨l,hl,hI⟩:=h.aft hW hi hg hS;refine(VM hI).mono ?_;rintro e w2 ⟨rfl,s',h1⟩;refine⟨rfl,s',⟨?_,h1.i,by rw[h1.A],λk hk=>?_,h1.o⟩,h1.A,by rw[h1.lf];exact hl,by rw[h1.cyc,h1.lf],⟨h1.K.F,h1.K.base,h1.K.top⟩,h1.t⟩
 ·exact(hW.1.mono (λk _ hk=>.inl hk)).trans' h1.t (λk _ hk=>.inr (.inl hk))
 ·rcases hk with hk|hk|hk|hk|hk
  ·rcases h1.X k hk with h2|h2
   ·exact .inl (.inl h2)
   ·exact .inr h2
  ·rw[h1.A]at hk;exact .inl (.inr (.inl hk))
  ·rw[h1.A]at hk;exact .inl (.inr (.inr (.inl hk)))
  ·rw[h1.A]at hk;exact .inl (.inr (.inr (.inr (.inl hk))))
  ·rw[h1.A]at hk;exact .inl (.inr (.inr (.inr (.inr hk))))
def HSt.cut(s:HSt)(w:World):HSt:={s with X:=AC s.X w}
theorem HIn.cut(h:HIn w c g s):HIn w c g (s.cut w):=⟨h.com.sub (λ_ _ hk=>hk.1),h.mem.cut,h.img,h.gok,h.cok,h.bt,h.bs,h.sl⟩
structure DR(s s':HSt):Prop where
 lf:s'.lf<=s.lf
 cyc:s'.cyc=if s.lf≠0/\s'.lf=0 then wrap64 (s.cyc+1)else s.cyc
theorem DR.same(s:HSt):DR s s:=⟨ϑ _,by omega⟩
def HOp(w:World)(c:HCf)(s:HSt)(g':Gph)(w':World):Prop:=∃s',BG w c s g' s' w'/\DR s s'
theorem HOp.same(h:HIn w c g s)(hn:s.o=none↔s.lf=0)(gr:Gr w w'):HOp w c s g w':=⟨s,⟨gr.touch _,h.gr gr,rfl,λ_ h=>.inl h,hn⟩,DR.same s⟩
theorem YKV(h:HIn w c g s)(hn:s.o=none↔s.lf=0)(gr:Gr w w1)(hW:((s.cut w).sp c).W u' (s.cut w).X w1 w2)(hi:Img u' g' s.F s.base s.top)(hg:g'.Ok)(hS:g'.S=g.S):
  Calls prog 65 #[pP s.A.hp] w2 λe w3=>e=.returned (.tuple #[])/\∃s',BG w c s g' s' w3/\DR s s'/\HKp s s'/\AB (λk=>k=s.A.hp) w2 w3:=by
 refine(Zis (h.cut.gr gr) hW hi hg hS).mono ?_;rintro e w3 ⟨rfl,s',hr,hA,hl,hc,hF,hT⟩;refine⟨rfl,s',⟨(gr.touch _).trans' (hr.t.mono (λk _ hk=>hk.imp (λh=>h.1) id)) (λ_ _ h=>h),hr.i,hr.hp,λk hk=>?_,hr.o⟩,⟨hl,?_⟩,⟨hF.F,hF.base,hF.top⟩,hT⟩
 ·rcases hr.S k hk with h1|h1
  ·exact .inl (h1.imp (λh=>h.1) id)
  ·exact .inr (β gr.size h1)
 ·rw[hc];by_cases h0:s.lf=0
  ·rw[ξ (λhh=>hh.1 (hn.2 h0)),ξ (λhh=>hh.1 h0)];rfl
  ·have Y:(s.cut w).o≠none:=λe=>h0 (hn.1 e);by_cases h1:s'.lf=0
   ·rw[φ ⟨Y,h1⟩,φ ⟨h0,h1⟩];rfl
   ·rw[ξ (λhh=>h1 hh.2),ξ (λhh=>h1 hh.2)];rfl
theorem ZWm(h:HIn w c g s)(hn:s.o=none↔s.lf=0)(gr:Gr w w1)(hW:((s.cut w).sp c).W u' (s.cut w).X w1 w2)(hi:Img u' g' s.F s.base s.top)(hg:g'.Ok)(hS:g'.S=g.S):
  Calls prog 65 #[pP s.A.hp] w2 λe w3=>e=.returned (.tuple #[])/\∃s',BG w c s g' s' w3/\DR s s'/\HKp s s':=
 (YKV h hn gr hW hi hg hS).mono λ_ _ ⟨h1,s',h2,h3,h4,_⟩=>⟨h1,s',h2,h3,h4⟩
theorem L2(h:HIn w c g s)(hn:s.o=none↔s.lf=0)(gr:Gr w w1)(hW:((s.cut w).sp c).W u' (s.cut w).X w1 w2)(hi:Img u' g' s.F s.base s.top)(hg:g'.Ok)(hS:g'.S=g.S):
  Calls prog 65 #[pP s.A.hp] w2 λe w3=>e=.returned (.tuple #[])/\HOp w c s g' w3:=
 (ZWm h hn gr hW hi hg hS).mono λ_ _ ⟨h1,s',h2,h3,_⟩=>⟨h1,s',h2,h3⟩
theorem HIn.rdP(h:HIn w c g s)(hx:g.Ro x):0<((s.F x:Nat):Int)->(s.sp c).P (s.F x:Nat):=λh0=>by
 have h1:=h.img.z;rcases hx with rfl|hx
 ·omega
 ·have h2:=h.img.lo x hx;have h3:1<=(g.ob x).size:=by unfold GOb.size;omega
  exact⟨s.F x,rfl,h2.1,by omega⟩
theorem HIn.fdP(h:HIn w c g s)(hx:g.Ro x)(i:Int)(hk:kd≠0):s.u.plE (s.F x:Nat) i kd=0->(s.sp c).P ((s.F x:Nat)+1+i):=λh0=>by
 rw[h.img.plE hx i hk]at h0;obtain⟨-,n,-,-,-,e,h1,h2⟩:=h.img.inP h.gok hx hk h0;exact⟨s.F x+1+n,e,h1,h2⟩
theorem OH(h:HIn w c g s)(a:Int):(g.sl a=false->Calls prog 92 #[pP s.A.hp,.slice (some ⟨w.heap.size,0,none⟩) 1 1] (w.alloc (.cells #[.int .i64 a] 3)) λe w'=>e=.returned (.tuple #[.slice none 0 0,iI 17])/\Gr w w') ∧
  (g.sl a=true->Calls prog 92 #[pP s.A.hp,.slice (some ⟨w.heap.size,0,none⟩) 1 1] (w.alloc (.cells #[.int .i64 a] 3)) λe w'=>∃gb cp,e=.returned (.tuple #[.slice (some ⟨gb,0,none⟩) 1 cp,iI 0])/\Gr w w'/\w.heap.size<=gb/\w'.cell? ⟨gb,0,none⟩=some (iI (s.F (g.at a):Nat))):=by
 have Y:=(Gr.refl w).alloc (.cells #[.int .i64 a] 3)
 have hf:=XEM (h.gr Y) (b:=w.heap.size) (l:=[a]) (by simp) (λj hj=>by
  have:j=0:=by simpa using hj
  simp_all) (by simp)
 refine⟨λhs=>hf.mono ?_,λhs=>hf.mono ?_⟩
 ·rintro e w' ⟨hg,(⟨h1,-⟩|⟨-,h1⟩)⟩
  ·simp_all
  ·exact⟨h1,Y.trans hg⟩
 ·rintro e w' ⟨hg,(⟨-,v,rfl,ho⟩|⟨⟨x,hx,h1⟩,-⟩)⟩
  ·obtain⟨gb,cp,rfl,h2,-,-,-⟩:=E6 ho (by simp);exact⟨gb,cp,rfl,Y.trans hg,β Y.size h2,BS ho (j:=0) rfl⟩
  simp_all
theorem J4u(h:HIn w c g s)(hn:s.o=none↔s.lf=0)(a i:Int):Calls prog 116 #[pP s.A.hp,iI a,iI i] w λe w'=>e=.returned (.tuple #[uU (g.fdV a i 3:Nat),iI (g.fdE a i 3)])/\HOp w c s g w':=by
 obtain⟨F0,F1⟩:=OH h a;have HN:=hn;cases hsl:g.sl a with
 | false=>
  have HF:=(F0 hsl)
  have HE:Hid (g.fdE a i 3=17/\g.fdV a i 3=0):=⟨by
   have e:g.fdE a i 3=17:=by unfold Gph.fdE;rw[hsl];rfl
   exact⟨e,by unfold Gph.fdV;rw[e];rfl⟩⟩
  generalize s.A.hp=ap at HF⊢;go_enter func116,ntmps116;go_wp2_with(go_at_call 92;refine(HF).mono ?_;rintro e w1 ⟨rfl,hg⟩;have HG:=hg);go_ret2;exact⟨BP (congrArg (λn:Nat=>uU (n:Int)) HE.o.2.symm) (BN HE.o.1.symm),HOp.same h HN HG⟩
 | true=>
  have HF:=(F1 hsl);have Y:=Gph.at_ro hsl;have M:=(λ(W:World) (gg:Gr w W)=>LU (h.cut.gr gg));have Z:=(λ(W:World) (gg:Gr w W)=>QV8 (IU ..) (h.cut.gr gg).sp (s.F (g.at a):Nat) i (h.cut.rdP Y) (h.cut.fdP Y i (by decide)));have e1:s.u.gtE (s.F (g.at a):Nat) i 3=g.fdE a i 3:=by rw[h.img.gtE h.gok Y i (by decide),Gph.fdE_er hsl]
  have e2:s.u.gtV (s.F (g.at a):Nat) i 3=g.fdV a i 3:=by rw[h.img.gtV h.gok Y i (by decide) (by decide)];unfold Gph.fdV;rw[Gph.fdE_er hsl]
  have e3:(s.cut w).u=s.u:=rfl;rw[e3,e1,e2]at Z;have L:(s.cut w).A.hp=s.A.hp:=rfl;rw[L]at M;have N:=(λ(w1 w2:World) (gr:Gr w w1) (he:((s.cut w).sp c).E s.u (s.cut w).X w1 w2)=>L2 h hn gr he.toW h.img h.gok rfl);generalize g.fdV a i 3=rv at Z⊢;generalize g.fdE a i 3=re at Z⊢;skip;generalize (s.F (g.at a):Nat)=ad at HF Z;obtain⟨ap,hp⟩:∃ap,ap=s.A.hp:=⟨_,rfl⟩;rw[<-hp]at HF M N⊢;clear hn hsl F0 F1 Y e1 e2 e3 L hp;go_enter func116,ntmps116;go_upto_region 4 with(go_at_call 92;refine(HF).mono ?_;rintro e w1 ⟨gb,cp,rfl,V,G,B⟩;have J:=B;have Xb:=G;clear B G);obtain⟨Sx,I,HS⟩:=AA.start λW'=>W'.cell? ⟨gb,0,none⟩=some (iI (ad:Nat));have y0:=AA.fact I λ_ h=>h;have U:=HS.o (w1.drew) (J);have O:Inhabited (AA Sx):=⟨⟨_,U⟩⟩;clear I;refine AI Sx 12 [([0,2,3,4,5],1),([],6)] [7,8,9,10,11] U ?_;refine AE ?_;go_wp2_with((go_at_call 94;refine AK (M _ V.drew) ?_));refine⟨.inr (AA.of (HS.o _ (J))),?_⟩;refine AE ?_;go_wp2_with((go_at_call 167;refine(Z _ V.drew).mono ?_;rintro e w2 ⟨rfl,he⟩;have D:=he;clear he));refine⟨.inr (AA.of (HS.o _ ((D.1.cell (AV J) (λhk=>ζL _ (κ hk.2.2 Xb)) 0).trans J))),?_⟩;refine AL ?_;clear y0 U O;clear HS Sx;go_wp2_with(go_at_call 65;refine(N _ _ V.drew D).mono ?_;rintro e w3 ⟨rfl,ho⟩;have Xa:=ho;clear ho);go_ret2;exact⟨rfl,Xa⟩
theorem QNL(h:HIn w c g s)(hn:s.o=none↔s.lf=0)(a i:Int):Calls prog 58 #[pP s.A.hp,iI a,iI i] w λe w'=>e=.returned (.tuple #[.float .f64 (g.fdV a i 2),iI (g.fdE a i 2)])/\HOp w c s g w':=by
 obtain⟨F0,F1⟩:=OH h a;have HN:=hn;cases hsl:g.sl a with
 | false=>
  have HF:=(F0 hsl)
  have HE:Hid (g.fdE a i 2=17/\g.fdV a i 2=0):=⟨by
   have e:g.fdE a i 2=17:=by unfold Gph.fdE;rw[hsl];rfl
   exact⟨e,by unfold Gph.fdV;rw[e];rfl⟩⟩
  generalize s.A.hp=ap at HF⊢;clear hn hsl F0 F1;go_enter func58,ntmps58;go_wp2_with(go_at_call 92;refine(HF).mono ?_;rintro e w1 ⟨rfl,hg⟩;have HG:=hg;clear hg);go_ret2;exact⟨BP (congrArg (λn:Nat=>Value.float .f64 n) HE.o.2.symm) (BN HE.o.1.symm),HOp.same h HN HG⟩
 | true=>
  have HF:=(F1 hsl);have Y:=Gph.at_ro hsl;have M:=(λ(W:World) (gg:Gr w W)=>LU (h.cut.gr gg));have Z:=(λ(W:World) (gg:Gr w W)=>QUr (IU ..) (h.cut.gr gg).sp (s.F (g.at a):Nat) i (h.cut.rdP Y) (h.cut.fdP Y i (by decide)));have e1:s.u.gtE (s.F (g.at a):Nat) i 2=g.fdE a i 2:=by rw[h.img.gtE h.gok Y i (by decide),Gph.fdE_er hsl]
  have e2:s.u.gtV (s.F (g.at a):Nat) i 2=g.fdV a i 2:=by rw[h.img.gtV h.gok Y i (by decide) (by decide)];unfold Gph.fdV;rw[Gph.fdE_er hsl]
  have e3:(s.cut w).u=s.u:=rfl;rw[e3,e1,e2]at Z;have L:(s.cut w).A.hp=s.A.hp:=rfl;rw[L]at M;have N:=(λ(w1 w2:World) (gr:Gr w w1) (he:((s.cut w).sp c).E s.u (s.cut w).X w1 w2)=>L2 h hn gr he.toW h.img h.gok rfl);generalize g.fdV a i 2=rv at Z⊢;generalize g.fdE a i 2=re at Z⊢;skip;generalize (s.F (g.at a):Nat)=ad at HF Z;obtain⟨ap,hp⟩:∃ap,ap=s.A.hp:=⟨_,rfl⟩;rw[<-hp]at HF M N⊢;clear hn hsl F0 F1 Y e1 e2 e3 L hp;go_enter func58,ntmps58;go_upto_region 4 with(go_at_call 92;refine(HF).mono ?_;rintro e w1 ⟨gb,cp,rfl,V,G,B⟩;have J:=B;have Xb:=G;clear B G);obtain⟨Sx,I,HS⟩:=AA.start λW'=>W'.cell? ⟨gb,0,none⟩=some (iI (ad:Nat));have y0:=AA.fact I λ_ h=>h;have U:=HS.o (w1.drew) (J);have O:Inhabited (AA Sx):=⟨⟨_,U⟩⟩;clear I;refine AI Sx 12 [([0,2,3,4,5],1),([],6)] [7,8,9,10,11] U ?_;refine AE ?_;go_wp2_with((go_at_call 94;refine AK (M _ V.drew) ?_));refine⟨.inr (AA.of (HS.o _ (J))),?_⟩;refine AE ?_;go_wp2_with((go_at_call 118;refine(Z _ V.drew).mono ?_;rintro e w2 ⟨rfl,he⟩;have D:=he;clear he));refine⟨.inr (AA.of (HS.o _ ((D.1.cell (AV J) (λhk=>ζL _ (κ hk.2.2 Xb)) 0).trans J))),?_⟩;refine AL ?_;clear y0 U O;clear HS Sx;go_wp2_with(go_at_call 65;refine(N _ _ V.drew D).mono ?_;rintro e w3 ⟨rfl,ho⟩;have Xa:=ho;clear ho);go_ret2;exact⟨rfl,Xa⟩
theorem Y1(g:Gph)(a i kd:Int)(x:Nat):(g.wrG a i kd x).S=g.S:=by unfold Gph.wrG;split <;> rfl
theorem HIn.wrI(h:HIn w c g s)(hs:g.sl a=true)(i:Int)(hk:kd≠0)(hk1:kd≠1)(x:Nat):Img (s.u.seV (s.F (g.at a):Nat) i kd x) (g.wrG a i kd x) s.F s.base s.top:=by
 have Y:=Gph.at_ro hs;unfold Gph.wrG;by_cases he:g.fdE a i kd=0
 ·rw[φ he];have Z:g.erE (g.at a) i kd=0:=by rw[<-Gph.fdE_er hs];exact he
  have:=h.img.seV h.mem.ok h.gok Y i hk x (λe=>absurd e hk1) (by have:=h.hi;have:=h.bt;omega) Z;rw[ξ hk1]at this;exact this
 ·rw[ξ he]
  have e:s.u.seV (s.F (g.at a):Nat) i kd x=s.u:=by
   unfold Vm.seV;rw[h.img.plE Y i hk,<-Gph.fdE_er hs,ξ he]
  rw[e];exact h.img
theorem HIn.wrO(h:HIn w c g s)(hs:g.sl a=true)(i:Int)(hk:kd≠0)(hk1:kd≠1)(x:Nat):(g.wrG a i kd x).Ok:=by
 have Y:=Gph.at_ro hs;unfold Gph.wrG;by_cases he:g.fdE a i kd=0
 ·rw[φ he];have Z:g.erE (g.at a) i kd=0:=by rw[<-Gph.fdE_er hs];exact he
  obtain⟨hr,n,rfl,h1,h2,-⟩:=h.img.inP h.gok Y hk Z;obtain⟨q1,q2⟩:=h.gok.rd hr;exact h.gok.put q1 q2 (λhn=>absurd (h2.2 Ω) hk1)
 ·rw[ξ he];exact h.gok
theorem Vld(h:HIn w c g s)(hn:s.o=none↔s.lf=0)(a i:Int)(hx:x<18446744073709551616):Calls prog 51 #[pP s.A.hp,iI a,iI i,uU x] w λe w'=>e=.returned (iI (g.fdE a i 3))/\HOp w c s (g.wrG a i 3 x) w':=by
 obtain⟨F0,F1⟩:=OH h a;have HN:=hn;cases hsl:g.sl a with
 | false=>
  have HF:=(F0 hsl)
  have HE:Hid (g.fdE a i 3=17/\g.wrG a i 3 x=g):=⟨by
   have e:g.fdE a i 3=17:=by unfold Gph.fdE;rw[hsl];rfl
   exact⟨e,by unfold Gph.wrG;rw[e];rfl⟩⟩
  generalize s.A.hp=ap at HF⊢;clear hn hsl F0 F1 hx;go_enter func51,ntmps51;go_wp2_with(go_at_call 92;refine(HF).mono ?_;rintro e w1 ⟨rfl,hg⟩;have HG:=hg;clear hg);go_ret;exact⟨AS HE.o.1.symm,by rw[HE.o.2];exact HOp.same h HN HG⟩
 | true=>
  have HF:=(F1 hsl);have Z:=Gph.at_ro hsl;have N:=(λ(W:World) (gg:Gr w W)=>LU (h.cut.gr gg));have Y:=(λ(W:World) (gg:Gr w W)=>XXd (IU ..) (WS ..) (h.cut.gr gg).sp (s.F (g.at a):Nat) i (h.cut.rdP Z) (h.cut.fdP Z i (by decide)) hx);have e1:s.u.gtE (s.F (g.at a):Nat) i 3=g.fdE a i 3:=by rw[h.img.gtE h.gok Z i (by decide),Gph.fdE_er hsl]
  have e3:(s.cut w).u=s.u:=rfl;rw[e3,e1]at Y;have E:(s.cut w).A.hp=s.A.hp:=rfl;rw[E]at N;have V:=(λ(w1 w2:World) (gr:Gr w w1) (he:((s.cut w).sp c).W (s.u.seV (s.F (g.at a):Nat) i 3 x) (s.cut w).X w1 w2)=>L2 h hn gr he (h.wrI hsl i (by decide) (by decide) x) (h.wrO hsl i (by decide) (by decide) x) (Y1 ..));generalize g.fdE a i 3=re at Y⊢;generalize s.u.seV (s.F (g.at a):Nat) i 3 x=un at Y V;generalize (s.F (g.at a):Nat)=ad at HF Y;obtain⟨ap,hp⟩:∃ap,ap=s.A.hp:=⟨_,rfl⟩;rw[<-hp]at HF N V⊢;clear hn hsl F0 F1 Z e1 e3 E hp hx;go_enter func51,ntmps51;go_upto_region 4 with(go_at_call 92;refine(HF).mono ?_;rintro e w1 ⟨gb,cp,rfl,M,D,G⟩;have J:=G;have Xa:=D;clear G D);obtain⟨Sx,I,HS⟩:=AA.start λW'=>W'.cell? ⟨gb,0,none⟩=some (iI (ad:Nat));have y0:=AA.fact I λ_ h=>h;have U:=HS.o (w1.drew) (J);have O:Inhabited (AA Sx):=⟨⟨_,U⟩⟩;clear I;refine AI Sx 9 [([0,2,3,4,5,6],1),([],7)] [8] U ?_;refine AE ?_;go_wp2_with((go_at_call 94;refine AK (N _ M.drew) ?_));refine⟨.inr (AA.of (HS.o _ (J))),?_⟩;refine AE ?_;go_wp2_with((go_at_call 114;refine(Y _ M.drew).mono ?_;rintro e w2 ⟨rfl,he⟩;have L:=he;clear he));refine⟨.inr (AA.of (HS.o _ ((L.1.cell (AV J) (λhk=>ζL _ (κ hk.2 Xa)) 0).trans J))),?_⟩;refine AL ?_;clear y0 U O;clear HS Sx;go_wp2_with(go_at_call 65;refine(V _ _ M.drew L).mono ?_;rintro e w3 ⟨rfl,ho⟩;have B:=ho;clear ho);go_ret;exact⟨rfl,B⟩
theorem Xe2(h:HIn w c g s)(hn:s.o=none↔s.lf=0)(a i:Int)(hx:x<18446744073709551616):Calls prog 50 #[pP s.A.hp,iI a,iI i,.float .f64 x] w λe w'=>e=.returned (iI (g.fdE a i 2))/\HOp w c s (g.wrG a i 2 x) w':=by
 obtain⟨F0,F1⟩:=OH h a;have HN:=hn;cases hsl:g.sl a with
 | false=>
  have HF:=(F0 hsl)
  have HE:Hid (g.fdE a i 2=17/\g.wrG a i 2 x=g):=⟨by
   have e:g.fdE a i 2=17:=by unfold Gph.fdE;rw[hsl];rfl
   exact⟨e,by unfold Gph.wrG;rw[e];rfl⟩⟩
  generalize s.A.hp=ap at HF⊢;clear hn hsl F0 F1 hx;go_enter func50,ntmps50;go_wp2_with(go_at_call 92;refine(HF).mono ?_;rintro e w1 ⟨rfl,hg⟩;have HG:=hg;clear hg);go_ret;exact⟨AS HE.o.1.symm,by rw[HE.o.2];exact HOp.same h HN HG⟩
 | true=>
  have HF:=(F1 hsl);have Z:=Gph.at_ro hsl;have N:=(λ(W:World) (gg:Gr w W)=>LU (h.cut.gr gg));have Y:=(λ(W:World) (gg:Gr w W)=>Ycv (IU ..) (WS ..) (h.cut.gr gg).sp (s.F (g.at a):Nat) i (h.cut.rdP Z) (h.cut.fdP Z i (by decide)) hx);have e1:s.u.gtE (s.F (g.at a):Nat) i 2=g.fdE a i 2:=by rw[h.img.gtE h.gok Z i (by decide),Gph.fdE_er hsl]
  have e3:(s.cut w).u=s.u:=rfl;rw[e3,e1]at Y;have E:(s.cut w).A.hp=s.A.hp:=rfl;rw[E]at N;have V:=(λ(w1 w2:World) (gr:Gr w w1) (he:((s.cut w).sp c).W (s.u.seV (s.F (g.at a):Nat) i 2 x) (s.cut w).X w1 w2)=>L2 h hn gr he (h.wrI hsl i (by decide) (by decide) x) (h.wrO hsl i (by decide) (by decide) x) (Y1 ..));generalize g.fdE a i 2=re at Y⊢;generalize s.u.seV (s.F (g.at a):Nat) i 2 x=un at Y V;generalize (s.F (g.at a):Nat)=ad at HF Y;obtain⟨ap,hp⟩:∃ap,ap=s.A.hp:=⟨_,rfl⟩;rw[<-hp]at HF N V⊢;clear hn hsl F0 F1 Z e1 e3 E hp hx;go_enter func50,ntmps50;go_upto_region 4 with(go_at_call 92;refine(HF).mono ?_;rintro e w1 ⟨gb,cp,rfl,M,D,G⟩;have J:=G;have Xa:=D;clear G D);obtain⟨Sx,I,HS⟩:=AA.start λW'=>W'.cell? ⟨gb,0,none⟩=some (iI (ad:Nat));have y0:=AA.fact I λ_ h=>h;have U:=HS.o (w1.drew) (J);have O:Inhabited (AA Sx):=⟨⟨_,U⟩⟩;clear I;refine AI Sx 9 [([0,2,3,4,5,6],1),([],7)] [8] U ?_;refine AE ?_;go_wp2_with((go_at_call 94;refine AK (N _ M.drew) ?_));refine⟨.inr (AA.of (HS.o _ (J))),?_⟩;refine AE ?_;go_wp2_with((go_at_call 113;refine(Y _ M.drew).mono ?_;rintro e w2 ⟨rfl,he⟩;have L:=he;clear he));refine⟨.inr (AA.of (HS.o _ ((L.1.cell (AV J) (λhk=>ζL _ (κ hk.2 Xa)) 0).trans J))),?_⟩;refine AL ?_;clear y0 U O;clear HS Sx;go_wp2_with(go_at_call 65;refine(V _ _ M.drew L).mono ?_;rintro e w3 ⟨rfl,ho⟩;have B:=ho;clear ho);go_ret;exact⟨rfl,B⟩
theorem VW(h:HIn w c g s)(a b:Int):((g.sl a&&g.sl b)=false->Calls prog 92 #[pP s.A.hp,.slice (some ⟨w.heap.size,0,none⟩) 2 2] (w.alloc (.cells #[.int .i64 a,.int .i64 b] 3)) λe w'=>e=.returned (.tuple #[.slice none 0 0,iI 17])/\Gr w w') ∧
  ((g.sl a&&g.sl b)=true->Calls prog 92 #[pP s.A.hp,.slice (some ⟨w.heap.size,0,none⟩) 2 2] (w.alloc (.cells #[.int .i64 a,.int .i64 b] 3)) λe w'=>∃gb cp,e=.returned (.tuple #[.slice (some ⟨gb,0,none⟩) 2 cp,iI 0])/\Gr w w'/\w.heap.size<=gb/\w'.cell? ⟨gb,0,none⟩=some (iI (s.F (g.at a):Nat))/\w'.cell? ⟨gb,1,none⟩=some (iI (s.F (g.at b):Nat))):=by
 have Y:=(Gr.refl w).alloc (.cells #[.int .i64 a,.int .i64 b] 3);have hr:=Rec.new w 3 [iI a,iI b]
 have hf:=XEM (h.gr Y) (b:=w.heap.size) (l:=[a,b]) (by simp) (λj hj=>by
  have:j=0\/j=1:=by have:j<2:=hj;omega
  rcases this with rfl|rfl
  ·exact hr.cc 0
  simp_all) (by simp)
 refine⟨λhs=>hf.mono ?_,λhs=>hf.mono ?_⟩
 ·rintro e w' ⟨hg,(⟨h1,-⟩|⟨-,h1⟩)⟩
  ·simp_all
  ·exact⟨h1,Y.trans hg⟩
 ·rintro e w' ⟨hg,(⟨-,v,rfl,ho⟩|⟨⟨x,hx,h1⟩,-⟩)⟩
  ·obtain⟨gb,cp,rfl,h2,-,-,-⟩:=E6 ho (by simp);exact⟨gb,cp,rfl,Y.trans hg,β Y.size h2,BS ho (j:=0) rfl,BS ho (j:=1) rfl⟩
  grind
theorem Gph.Ro.le(ho:g.Ok)(hy:g.Ro y):y<=g.L.length:=by
 rcases hy with rfl|hy
 ·omega
 ·exact(ho.rd hy).2
theorem Y5(h:HIn w c g s)(ha:g.sl a=true)(hy:g.Ro y):Calls prog 80 #[pP s.A.r,iI a,iI (s.F y:Nat)] w λe w'=>e=.returned (iI 0)/\AB (λk=>k=s.A.g) w w'/\HIn w' c (g.setSl a y) s:=by
 obtain⟨n,rfl,h1,h2⟩:=MV ha;refine(VHr h.com.rt (i:=n) (by rw[s.len];exact h1) (ψm _)).mono ?_;rintro e w' ⟨rfl,t,hr⟩
 have Y:s.rs (g.setSl n y)=(s.rs g).set n (s.F y:Nat):=by
  unfold HSt.rs Gph.setSl
  simp_all
 refine⟨rfl,t,?_,h.mem.touch t (λk hk e=>⟨λhx=>h.com.x.2.2.1 (by simp_all),λe2=>h.com.n3.2.1 Ω⟩) (λ_ h=>h),h.img.slot hy,h.gok.slot (hy.le h.gok),h.cok,h.bt,h.bs,?_⟩
 ·rw[Y];exact h.com.root t hr
 ·show (g.S.set _ _).length=c.sl
  rw[ζb];exact h.sl
theorem HIn.rcell(h:HIn w c g s):w.cell? ⟨s.A.hp,9,none⟩=some (pP s.A.r):=h.com.row.cc 9
theorem BG.slot(h:BG w c s g s' w')(t:AB (λk=>k=s'.A.g) w' w2)(hi:HIn w2 c g' s'):BG w c s g' s' w2:=
 ⟨h.t.trans' t (λk hk e=>by
  have:=h.S k (.inr (.inr (.inl e)));rcases this with h1|h1
  ·exact h1
  ·omega),hi,h.hp,h.S,h.o⟩
theorem V9V(h:HIn w c g s)(hn:s.o=none↔s.lf=0)(a b i:Int):Calls prog 57 #[pP s.A.hp,iI a,iI b,iI i] w λe w'=>e=.returned (iI (g.loE a b i))/\HOp w c s (g.loG a b i) w':=by
 obtain⟨F0,F1⟩:=VW h a b;have H:=h;have HN:=hn;cases hsl:(g.sl a&&g.sl b)with
 | false=>
  have HF:=(F0 hsl)
  have HE:Hid (g.loE a b i=17/\g.loG a b i=g):=⟨by
   have e:g.loE a b i=17:=by unfold Gph.loE Gph.two;rw[hsl];rfl
   exact⟨e,by unfold Gph.loG;rw[e];rfl⟩⟩
  generalize s.A.hp=ap at HF⊢;clear h hn hsl F0 F1;go_enter func57,ntmps57;go_wp2_with(go_at_call 92;refine(HF).mono ?_;rintro e w1 ⟨rfl,hg⟩;have HG:=hg;clear hg);go_ret;exact⟨AS HE.o.1.symm,by rw[HE.o.2];exact HOp.same H HN HG⟩
 | true=>
  have HF:=(F1 hsl);have hE:g.loE a b i=g.fdE b i 1:=by unfold Gph.loE Gph.two;rw[φ hsl]
  have hG:g.loG a b i=if g.fdE b i 1=0 then g.setSl a (g.fdV b i 1)else g:=by unfold Gph.loG;rw[hE]
  rw[hE,hG];rw[ζh]at hsl;have Z:=Gph.at_ro hsl.2;have V:=(λ(W:World) (gg:Gr w W)=>LU (h.cut.gr gg));have Y:=(λ(W:World) (gg:Gr w W)=>YJ (IU ..) (h.cut.gr gg).sp (s.F (g.at b):Nat) i (h.cut.rdP Z) (h.cut.fdP Z i (by decide)));obtain⟨q1,q2⟩:=h.img.ptE h.gok Z i;have e1:s.u.ptE (s.F (g.at b):Nat) i=g.fdE b i 1:=by rw[q1,Gph.fdE_er hsl.2]
  have e3:(s.cut w).u=s.u:=rfl;rw[e3,e1]at Y;have Xc:(s.cut w).A.hp=s.A.hp:=rfl;rw[Xc]at V;have M:=(λ(w1 w2:World) (gr:Gr w w1) (he:((s.cut w).sp c).E s.u (s.cut w).X w1 w2)=>ZWm h hn gr he.toW h.img h.gok rfl)
  have HQ:=ι (λ(hz:g.fdE b i 1=0)=>(by
   have h0:g.erE (g.at b) i 1=0:=by rw[<-Gph.fdE_er hsl.2];exact hz
   have:=q2 h0;have e:g.fdV b i 1=(g.ob (g.at b)).w.getD i.toNat 0:=by unfold Gph.fdV;rw[φ hz]
   rw[<-e]at this
   exact this:s.u.ptV (s.F (g.at b):Nat) i=s.F (g.fdV b i 1)/\g.Ro (g.fdV b i 1)))
  have HA:=ι hsl.1;generalize s.u.ptV (s.F (g.at b):Nat) i=rv at Y HQ;generalize g.fdV b i 1=y at HQ⊢;generalize g.fdE b i 1=re at Y HQ⊢;generalize (s.F (g.at b):Nat)=ad at HF Y;generalize (s.F (g.at a):Nat)=ad2 at HF;obtain⟨ap,hp⟩:∃ap,ap=s.A.hp:=⟨_,rfl⟩;rw[<-hp]at HF V M⊢;have HP:=ι hp;obtain⟨gx,O⟩:∃gx,gx=if re=0 then g.setSl a y else g:=⟨_,rfl⟩
  rw[<-O];have L:=ι O;clear h hn hsl F0 F1 Z e1 e3 Xc hp hE hG q1 q2 O;go_enter func57,ntmps57;go_upto_region 4 with(go_at_call 92;refine(HF).mono ?_;rintro e w1 ⟨gb,cp,rfl,Xd,Xb,-,B⟩;have U:=ι Xd;have J:=ι B;have Xg:=ι Xb;clear Xd B Xb);obtain⟨Sx,Xf,HS⟩:=AA.start λW'=>W'.cell? ⟨gb,1,none⟩=some (iI (ad:Nat));have y0:=AA.fact Xf λ_ h=>h;have N:=HS.o (w1.drew) (J.o);have Xa:Inhabited (AA Sx):=⟨⟨_,N⟩⟩;clear Xf;refine AI Sx 12 [([0,2,3,4,5],1),([],6)] [7,8,9,10,11] N ?_;refine AE ?_;go_wp2_with((go_at_call 94;refine AK (V _ U.o.drew) ?_));refine⟨.inr (AA.of (HS.o _ (J.o))),?_⟩;refine AE ?_;go_wp2_with((go_at_call 117;refine(Y _ U.o.drew).mono ?_;rintro e w2 ⟨rfl,he⟩;have I:=ι he;clear he));refine⟨.inr (AA.of (HS.o _ ((I.o.1.cell (AV J.o) (λhk=>ζL _ (κ hk.2.2 Xg.o)) 1).trans J.o))),?_⟩;refine AL ?_;clear y0 N Xa;clear HS Sx;by_cases hz:re=0
  ·subst hz;obtain⟨z1,z2⟩:=HQ.o rfl;have Xh:=ι z2;subst z1;clear z2;go_upto_region 8 with(go_at_call 65;refine(M _ _ U.o.drew I.o).mono ?_;rintro e w3 ⟨rfl,s',hr,hs,hF⟩;have HR:=ι (ψ hr (ψ hs hF));clear hr hs hF);have y9:=HR.o.1.i.rcell;rw[HR.o.1.hp,<-HP.o]at y9;have G:=ι (Y5 HR.o.1.i HA.o Xh.o);rw[HR.o.2.2.F]at G;go_wp2_with(go_at_call 80;refine(G.o).mono ?_;rintro e w4 ⟨rfl,t4,h4⟩;have Xe:=ι (ψ t4 h4);clear t4 h4);go_ret;rw[show gx=g.setSl a y from by have:=L.o;simpa using this];exact⟨rfl,s',HR.o.1.slot Xe.o.1 Xe.o.2,HR.o.2.1⟩
  ·have d1:(re==0)=false:=by simpa using hz
   have D:=ι hz;go_wp2_with(go_at_call 65;refine(M _ _ U.o.drew I.o).mono ?_;rintro e w3 ⟨rfl,s',hr,hs,hF⟩;have HR:=ι (ψ hr (ψ hs hF));clear hr hs hF);go_ret;rw[show gx=g from by have:=L.o;rw[ξ D.o]at this;exact this];exact⟨rfl,s',HR.o.1,HR.o.2.1⟩
theorem HIn.wrP(h:HIn w c g s)(hs:g.sl a=true)(i:Int)(hy:g.Ro y):g.fdE a i 1=0->Img (s.u.seV (s.F (g.at a):Nat) i 1 (s.F y)) (g.setFd a i y) s.F s.base s.top:=λhe=>by
 have Y:=Gph.at_ro hs;have Z:g.erE (g.at a) i 1=0:=by rw[<-Gph.fdE_er hs];exact he
 have:=h.img.seV h.mem.ok h.gok Y i (kd:=1) (by decide) y (λ_=>hy) (by have:=h.hi;have:=h.bt;omega) Z;exact this
theorem HIn.wrPO(h:HIn w c g s)(hs:g.sl a=true)(i:Int)(hy:g.Ro y):g.fdE a i 1=0->(g.setFd a i y).Ok:=λhe=>by
 have Y:=Gph.at_ro hs;have Z:g.erE (g.at a) i 1=0:=by rw[<-Gph.fdE_er hs];exact he
 obtain⟨hr,n,rfl,h1,h2,-⟩:=h.img.inP h.gok Y (by decide) Z;obtain⟨q1,q2⟩:=h.gok.rd hr;exact h.gok.put q1 q2 (λ_=>hy.le h.gok)
theorem HIn.adr(h:HIn w c g s)(hy:g.Ro y):s.F y<=2147483647:=by
 rcases hy with rfl|hy
 ·rw[h.img.z];omega
 ·have h1:=h.img.lo y hy;have:=h.hi;have:=h.bt;omega
theorem QmE(h:HIn w c g s)(hn:s.o=none↔s.lf=0)(a i b:Int):Calls prog 86 #[pP s.A.hp,iI a,iI i,iI b] w λe w'=>e=.returned (iI (g.stE a i b))/\HOp w c s (g.stG a i b) w':=by
 obtain⟨F0,F1⟩:=VW h a b;have HN:=hn;cases hsl:(g.sl a&&g.sl b)with
 | false=>
  have HF:=(F0 hsl)
  have HE:Hid (g.stE a i b=17/\g.stG a i b=g):=⟨by
   have e:g.stE a i b=17:=by unfold Gph.stE Gph.two;rw[hsl];rfl
   exact⟨e,by unfold Gph.stG;rw[e];rfl⟩⟩
  generalize s.A.hp=ap at HF⊢;clear hn hsl F0 F1;go_enter func86,ntmps86;go_wp2_with(go_at_call 92;refine(HF).mono ?_;rintro e w1 ⟨rfl,hg⟩;have HG:=hg;clear hg);go_ret;exact⟨AS HE.o.1.symm,by rw[HE.o.2];exact HOp.same h HN HG⟩
 | true=>
  have HF:=(F1 hsl);have hE:g.stE a i b=g.fdE a i 1:=by unfold Gph.stE Gph.two;rw[φ hsl]
  have hG:g.stG a i b=if g.fdE a i 1=0 then g.setFd a i (g.at b)else g:=by unfold Gph.stG;rw[hE]
  rw[hE,hG];rw[ζh]at hsl;have J:=Gph.at_ro hsl.1;have V:=Gph.at_ro hsl.2;have E:=(λ(W:World) (gg:Gr w W)=>LU (h.cut.gr gg));have Z:=(λ(W:World) (gg:Gr w W)=>Xz9 (IU ..) (WS ..) (h.cut.gr gg).sp (s.F (g.at a):Nat) i (h.cut.rdP J) (h.cut.fdP J i (by decide)) (h.adr V));have e1:s.u.gtE (s.F (g.at a):Nat) i 1=g.fdE a i 1:=by rw[h.img.gtE h.gok J i (by decide),Gph.fdE_er hsl.1]
  have e3:(s.cut w).u=s.u:=rfl;rw[e3,e1]at Z;have Xa:(s.cut w).A.hp=s.A.hp:=rfl;rw[Xa]at E
  have U:=(λ(w1 w2:World) (gr:Gr w w1) (he:((s.cut w).sp c).W (s.u.seV (s.F (g.at a):Nat) i 1 (s.F (g.at b))) (s.cut w).X w1 w2)=>(by
   by_cases hz:g.fdE a i 1=0
   ·rw[φ hz];exact L2 h hn gr he (h.wrP hsl.1 i V hz) (h.wrPO hsl.1 i V hz) rfl
   ·rw[ξ hz]
    have e:s.u.seV (s.F (g.at a):Nat) i 1 (s.F (g.at b))=s.u:=by
     unfold Vm.seV;rw[h.img.plE J i (by decide),<-Gph.fdE_er hsl.1,ξ hz]
    rw[e]at he
    exact L2 h hn gr he h.img h.gok rfl:Calls prog 65 #[pP s.A.hp] w2 λe w3=>e=.returned (.tuple #[])/\HOp w c s (if g.fdE a i 1=0 then g.setFd a i (g.at b)else g) w3))
  generalize (if g.fdE a i 1=0 then g.setFd a i (g.at b)else g)=gx at U⊢;generalize g.fdE a i 1=re at Z⊢;generalize s.u.seV (s.F (g.at a):Nat) i 1 (s.F (g.at b))=un at Z U;generalize (s.F (g.at a):Nat)=ad at HF Z;generalize (s.F (g.at b):Nat)=Xd at HF Z;obtain⟨ap,hp⟩:∃ap,ap=s.A.hp:=⟨_,rfl⟩;rw[<-hp]at HF E U⊢;clear hn hsl F0 F1 J V e1 e3 Xa hp hE hG;go_enter func86,ntmps86;go_upto_region 4 with(go_at_call 92;refine(HF).mono ?_;rintro e w1 ⟨gb,cp,rfl,N,B,Xb,G⟩;have Y:=(ψ Xb G);have D:=B;clear Xb G B);obtain⟨Sx,O,HS⟩:=AA.start λW'=>(W'.cell? ⟨gb,0,none⟩=some (iI (ad:Nat))/\W'.cell? ⟨gb,1,none⟩=some (iI (Xd:Nat)))
  have y0:=AA.fact O λ_ h=>h.1;have y1:=AA.fact O λ_ h=>h.2;have M:=HS.o (w1.drew) (Y);have L:Inhabited (AA Sx):=⟨⟨_,M⟩⟩;clear O;refine AI Sx 11 [([0,2,3,4,5,6,7,8],1),([],9)] [10] M ?_;refine AE ?_;go_wp2_with((go_at_call 94;refine AK (E _ N.drew) ?_));refine⟨.inr (AA.of (HS.o _ (Y))),?_⟩;refine AE ?_;go_wp2_with((go_at_call 142;refine(Z _ N.drew).mono ?_;rintro e w2 ⟨rfl,he⟩;have I:=he;clear he));refine⟨.inr (AA.of (HS.o _ (⟨(I.1.cell (AV Y.1) (λhk=>ζL _ (κ hk.2 D)) 0).trans Y.1,(I.1.cell (AV Y.1) (λhk=>ζL _ (κ hk.2 D)) 1).trans Y.2⟩))),?_⟩;refine AL ?_;clear y0 y1 M L;clear HS Sx;go_wp2_with(go_at_call 65;refine(U _ _ N.drew I).mono ?_;rintro e w3 ⟨rfl,ho⟩;have Xc:=ho;clear ho);go_ret;exact⟨rfl,Xc⟩
theorem HOp.of(hn:s.o=none↔s.lf=0)(t:AB (λk=>k=s.A.g) w w')(hi:HIn w' c g' s):HOp w c s g' w':=
 ⟨s,⟨t.mono (λ_ _ e=>.inr (.inr (.inl e))),hi,rfl,λ_ h=>.inl h,hn⟩,DR.same s⟩
theorem HIn.rcpy(h:HIn w c g s)(a b:Int):Calls prog 115 #[pP s.A.r,iI a,iI b] w λe w'=>e=.returned (iI (g.two a b 0))/\AB (λk=>k=s.A.g) w w'/\HIn w' c (g.cpG a b) s:=by
 refine(Jv2 h.com.rt a b).mono ?_;rintro e w' ⟨rfl,t,hr⟩;have Y:EV w' s.X s.A c s.base s.top s.u s.o s.lf s.nb:=h.mem.touch t (λk hk e=>⟨λhx=>h.com.x.2.2.1 (by simp_all),λe2=>h.com.n3.2.1 Ω⟩) (λ_ h=>h);rw[LR,LR];unfold PH at hr;rw[LR,LR]at hr;unfold Gph.two Gph.cpG;cases ha:g.sl a with
 | false=>
  rw[ha]at hr;exact⟨by simp,t,h.com.root t (by simp_all),Y,h.img,h.gok,h.cok,h.bt,h.bs,h.sl⟩
 | true=>
  cases hb:g.sl b with
  | false=>
   rw[ha,hb]at hr;exact⟨by simp,t,h.com.root t (by simp_all),Y,by simpa using h.img,by simpa using h.gok,h.cok,h.bt,h.bs,by simpa using h.sl⟩
  | true=>
   obtain⟨n,rfl,h1,h2⟩:=MV ha;obtain⟨m,rfl,h3,h4⟩:=MV hb;rw[ha,hb]at hr;simp only[if_true,and_self,χ,Bool.and_self]at hr⊢;have hy:=Gph.at_ro hb
   have Z:s.rs (g.setSl n (g.at m))=(s.rs g).set n ((s.rs g).getD m 0):=by
    rw[ω,η (by rw[s.len];exact h3),s.get g h3,<-h4];unfold HSt.rs Gph.setSl
    simp_all
   refine⟨trivial,t,?_,Y,h.img.slot hy,h.gok.slot (hy.le h.gok),h.cok,h.bt,h.bs,?_⟩
   ·rw[Z];exact h.com.root t hr
   ·show (g.S.set _ _).length=c.sl
    rw[ζb];exact h.sl
theorem Xxc(h:HIn w c g s)(hn:s.o=none↔s.lf=0)(a b:Int):Calls prog 54 #[pP s.A.hp,iI a,iI b] w λe w'=>e=.returned (iI (g.two a b 0))/\HOp w c s (g.cpG a b) w':=by
 have HN:=(FJ h);have HC:=(h.rcpy a b);have c9:=h.rcell;generalize s.A.hp=ap at HN c9⊢;go_enter func54,ntmps54;go_upto_region 3 with(go_at_call 63;refine AK (HN) ?_);go_wp2_with(go_at_call 115;refine(HC).mono ?_;rintro e w1 ⟨rfl,ht,hi⟩;have HT:=(ψ ht hi));go_ret;exact⟨rfl,HOp.of hn HT.1 HT.2⟩
theorem HIn.rclr(h:HIn w c g s)(a:Int):Calls prog 80 #[pP s.A.r,iI a,iI 0] w λe w'=>e=.returned (iI (g.slE a))/\AB (λk=>k=s.A.g) w w'/\HIn w' c (g.clG a) s:=by
 unfold Gph.slE Gph.clG;cases ha:g.sl a with
 | false=>
  refine(QST h.com.rt (i:=a) (by rw[LR,ha];decide) 0).mono ?_;rintro e w' ⟨rfl,gr⟩;exact⟨rfl,gr.touch _,by grind [gr]⟩
 | true=>
  have:=Y5 h ha (y:=0) (.inl rfl);rw[h.img.z]at this
  assumption
theorem JfK(h:HIn w c g s)(hn:s.o=none↔s.lf=0)(a:Int):Calls prog 46 #[pP s.A.hp,iI a] w λe w'=>e=.returned (iI (g.slE a))/\HOp w c s (g.clG a) w':=by
 have HN:=(FJ h);have HC:=(h.rclr a);have c9:=h.rcell;generalize s.A.hp=ap at HN c9⊢;go_enter func46,ntmps46;go_upto_region 3 with(go_at_call 63;refine AK (HN) ?_);go_wp2_with(go_at_call 80;refine(HC).mono ?_;rintro e w1 ⟨rfl,ht,hi⟩;have HT:=(ψ ht hi));go_ret;exact⟨rfl,HOp.of hn HT.1 HT.2⟩
theorem JaK(h:HIn w c g s)(hn:s.o=none↔s.lf=0)(a b:Int):Calls prog 119 #[pP s.A.hp,iI a,iI b] w λe w'=>e=.returned (.tuple #[.bool (g.sl a&&g.sl b&&(g.at a==g.at b)),iI (g.two a b 0)])/\HOp w c s g w':=by
 obtain⟨F0,F1⟩:=VW h a b;have H:=ι h;have HN:=ι hn;unfold Gph.two;cases hsl:(g.sl a&&g.sl b)with
 | false=>
  have HF:=ι (F0 hsl);generalize s.A.hp=ap at HF⊢;clear h hn hsl F0 F1;go_enter func119,ntmps119;go_wp2_with(go_at_call 92;refine(HF.o).mono ?_;rintro e w1 ⟨rfl,hg⟩;have HG:=ι hg;clear hg);go_ret2;exact⟨rfl,HOp.same H.o HN.o HG.o⟩
 | true=>
  have HF:=ι (F1 hsl);rw[ζh]at hsl;have J:=Gph.at_ro hsl.1;have Z:=Gph.at_ro hsl.2
  have hd:(((s.F (g.at a):Nat):Int)==((s.F (g.at b):Nat):Int))=(g.at a==g.at b):=by
   have e0:∀{x y:Nat},g.Ro x->g.Ro y->s.F x=s.F y->x=y:=λ{x y} hx hy e=>by
    rcases hx with rfl|hx
    ·rcases hy with rfl|hy
     ·rfl
     ·have:=h.img.pos hy;rw[h.img.z]at e;omega
    ·rcases hy with rfl|hy
     ·have:=h.img.pos hx;rw[h.img.z]at e;omega
     ·exact h.img.inj hx hy e
   by_cases e:g.at a=g.at b
   ·rw[e];simp
   ·have e2:s.F (g.at a)≠s.F (g.at b):=λe3=>e (e0 J Z e3);rw[beq_false_of_ne e,beq_false_of_ne Ω]
  have HD:=ι hd;generalize (s.F (g.at a):Nat)=ad at HF HD;generalize (s.F (g.at b):Nat)=ad2 at HF HD;generalize (g.at a==g.at b)=bb at HD⊢;generalize s.A.hp=ap at HF⊢;clear h hn hsl F0 F1 hd J Z;go_enter func119,ntmps119;go_upto_region 4 with(go_at_call 92;refine(HF.o).mono ?_;rintro e w1 ⟨gb,cp,rfl,Y,hgb,hcl,hc2⟩;have U:=ι Y;clear Y);go_quiet (fail);go_wp2;go_ret2;exact⟨by rw[HD.o];rfl,HOp.same H.o HN.o (U.o.drewN _)⟩
theorem BG.trans{g1 g2:Gph}{s1 s2:HSt}(h:BG w c s g1 s1 w1)(k:BG w1 c s1 g2 s2 w2):BG w c s g2 s2 w2:=
 ⟨h.t.trans' k.t (λb hb e=>(h.S b e).elim id (λh2=>by omega)),k.i,k.hp.trans h.hp,λb hb=>by
  rcases k.S b hb with h1|h1
  ·exact h.S b h1
  ·exact .inr (β h.t.size h1),k.o⟩
theorem BG.gr{s':HSt}(h:BG w c s g' s' w'){w2:World}(gr:Gr w' w2):BG w c s g' s' w2:=⟨h.t.trans (gr.touch _),h.i.gr gr,h.hp,h.S,h.o⟩
theorem BG.refl(h:HIn w c g s)(hn:s.o=none↔s.lf=0):BG w c s g s w:=⟨AB.refl _ _,h,rfl,λ_ h=>.inl h,hn⟩
theorem DR.trans{s1 s2:HSt}(h:DR s s1)(k:DR s1 s2):DR s s2:=by
 have h1:=h.lf;have h2:=k.lf;refine⟨β h2 h1,?_⟩;rw[k.cyc,h.cyc]
 grind
theorem G2.stp{A:HAd}{top:Nat}{z:CB}{sl:Sl}{v':Vm}{R Sv:Nat->Prop}(h:G2 w X A c base top u y z sl v R Sv)(hf:JP w w' R Sv y A.q z (HpB c.fr top u) sl.step v'):G2 w' (plus X w) A c base top u y z sl.step v' R (plus Sv w):=by
 have hl:=h.cy.od.lt;have J:=h.tab.lt;have Z:=hf.ok;refine⟨hf.cy,hf.vm,⟨?_,?_,?_⟩,hf.ok,hf.j.1,λk hk=>?_,λk hk Y=>?_,hf.t.tab J (λhk=>hk.elim h.t1 h.t2) h.tab,h.t1,λhk=>hk.elim h.t2 (λhk=>by omega),h.bs,h.lm,h.bk,h.ah,h.kd⟩
 ·rw[Z.mid.n,<-h.hv.n,h.ok.mid.n];rfl
 ·rw[Z.mid.pg,<-h.hv.pg,h.ok.mid.pg];rfl
 ·exact hf.j.2
 ·rcases hk with hk|hk|hk
  ·exact .inl (h.x k (.inl hk))
  ·exact .inl (h.x k (.inr hk))
  ·exact .inr hk
 ·rcases Y with Y|Y
  ·exact h.d k hk Y
  grind
def YF5(w:World)(c:HCf)(g:Gph)(s:HSt)(w':World):Prop:=∃s',BG w c s g s' w'/\DR s s'/\HKp s s'/\s'.lf+1=s.lf
theorem HIn.stp(h:HIn w c g s)(hn:s.o=none↔s.lf=0)(hl:s.lf≠0):∃y,s.o=some y/\Calls prog 64 #[pP y] w λe w1=>e=.returned (.tuple #[.bool true,iI 0]) ∧
  Calls prog 65 #[pP s.A.hp] w1 λe w'=>e=.returned (.tuple #[])/\YF5 w c g s w':=by
 have hm:=h.mem;cases ho:s.o with
 | none=>simp_all
 | some y=>
  rw[ho]at hm;obtain⟨z,sl,v,R,Sv,Y,e1,e2⟩:=hm;refine⟨y,rfl,(YN (VA c.fr s.top s.u) Y.cy Y.ok ⟨Y.a,Y.hv.rm⟩ Y.tab Y.t2 Y.t1 Y.vm Y.d).mono ?_⟩;rintro e w1 ⟨v',rfl,hf⟩
  have Z:sl.ft<sl.mv.length:=by
   refine Decidable.byContradiction λhh=>hl ?_;rw[<-e1];exact sl.lf_zero.2 hh
  have J:=Sl.lf_step Z;rw[θ Z];refine⟨rfl,?_⟩;have t1:AB s.X w w1:=hf.t.mono (λk _ hk=>Y.x k hk)
  have hI:HIn w1 c g {s with X:=plus s.X w,lf:=sl.step.lf}:=by
   refine⟨h.com.mem t1,?_,h.img,h.gok,h.cok,h.bt,h.bs,h.sl⟩;rw[ho];exact⟨z,sl.step,v',R,plus Sv w,Y.stp hf,rfl,by show (CX sl.mv).length=s.nb;rw[R7];exact e2⟩
  refine(VM hI).mono ?_;rintro e w2 ⟨rfl,s',h1⟩;refine⟨rfl,s',⟨?_,h1.i,by rw[h1.A],λk hk=>?_,h1.o⟩,⟨?_,?_⟩,⟨h1.K.F,h1.K.base,h1.K.top⟩,?_⟩
  ·exact(t1.mono (λk _ hk=>.inl hk)).trans' h1.t (λk _ hk=>.inr (.inl hk))
  ·rcases hk with hk|hk|hk|hk|hk
   ·rcases h1.X k hk with h2|h2
    ·exact .inl (.inl h2)
    ·exact .inr h2
   ·rw[h1.A]at hk;exact .inl (.inr (.inl hk))
   ·rw[h1.A]at hk;exact .inl (.inr (.inr (.inl hk)))
   ·rw[h1.A]at hk;exact .inl (.inr (.inr (.inr (.inl hk))))
   ·rw[h1.A]at hk;exact .inl (.inr (.inr (.inr (.inr hk))))
  ·rw[h1.lf,<-e1];grind
  ·rw[h1.cyc,h1.lf]
   simp_all
  ·rw[h1.lf,<-e1];exact J
theorem XF(h:HIn w c g s)(hn:s.o=none↔s.lf=0)(hl:s.lf≠0):Calls prog 19 #[pP s.A.hp] w λe w'=>e=.returned (.bool true)/\YF5 w c g s w':=by
 have HN:=(FJ h);obtain⟨y,hy,hs⟩:=h.stp hn hl;have c11:=h.cc 11;go_enter func19,ntmps19;go_upto_region 3 with(go_at_call 63;refine AK (HN) ?_);go_upto_region 4 with(go_at_call 64;refine(hs).mono ?_;rintro e w1 ⟨rfl,he⟩;have HE:=he);go_wp2_with(go_at_call 65;refine(HE).mono ?_;rintro e w2 ⟨rfl,h2⟩;have HH:=h2);go_ret
 simp_all
theorem QNw(h:HIn w c g s)(hn:s.o=none↔s.lf=0)(hl:s.lf=0):cQ 19 #[pP s.A.hp] w (.bool false):=by
 have HN:=(FJ h);have Y:=h.cc 11;rw[hn.2 hl]at Y;go_enter func19,ntmps19;go_wp2_with(go_at_call 63;refine AK (HN) ?_);go_ret
 simp_all
def RX(w:World)(ap:Nat):Nat:=match w.cell? ⟨ap,11,none⟩with
 | some (.pointer (some a))=>LS w a.block 11
 | _=>0
theorem HIn.left(h:HIn w c g s):RX w s.A.hp=s.lf:=by
 have Y:=h.cc 11;have hm:=h.mem;unfold RX;cases ho:s.o with
 | none=>
  rw[ho]at Y hm;rw[Y];exact hm.2.2.2.symm
 | some y=>
  rw[ho]at Y hm;obtain⟨z,sl,v,R,Sv,Z,e1,e2⟩:=hm;have c:=Z.cy.rc.cc 11;rw[Y]
  show LS w y 11=s.lf
  unfold LS;rw[c,<-e1];rfl
theorem YM(h:HIn w c g s)(hn:s.o=none↔s.lf=0):Calls prog 100 #[pP s.A.hp] w λe w'=>e=.returned (.tuple #[])/\∃s',BG w c s g s' w'/\DR s s'/\HKp s s'/\s'.lf=0:=by
 have H0:Hid (BG w c s g s w/\DR s s/\HKp s s):=⟨BG.refl h hn,DR.same s,HKp.refl s⟩;obtain⟨ap,hp⟩:∃ap,ap=s.A.hp:=⟨_,rfl⟩;have HP:=ι hp;rw[<-hp];clear h hn hp;go_enter func100,ntmps100;go_wp2
 go_loopw [] (λwr=>∃s',Hid (BG w c s g s' wr/\DR s s'/\HKp s s')) (λwr=>RX wr ap)
 case atStart=>exact⟨s,H0⟩
 case round=>
  obtain⟨s',HR⟩:=hrel;have Z:ap=s'.A.hp:=HP.o.trans HR.o.1.hp.symm;by_cases hl:s'.lf=0
  ·have HZ:=(QNw HR.o.1.i HR.o.1.o hl);rw[<-Z]at HZ;clear Z;go_wp2_with(go_at_call 19;refine AK (HZ) ?_);refine ζz (ζl rfl _ _ _) rfl ?_;exact⟨rfl,s',HR.o.1,HR.o.2.1,HR.o.2.2,hl⟩
  ·have HZ:=(XF HR.o.1.i HR.o.1.o hl);have hl:=(HR.o.1.i.left);rw[<-Z]at HZ hl;have J:=ι Z;clear Z;go_wp2_with(go_at_call 19;refine(HZ).mono ?_;rintro e w1 ⟨rfl,s2,h1,h2,h3,h4⟩;have Y:=(ψ h1 (ψ h2 (ψ h3 h4)));clear h1 h2 h3 h4);go_round
   case rel=>exact⟨s2,⟨HR.o.1.trans Y.1,HR.o.2.1.trans Y.2.1,HR.o.2.2.trans Y.2.2.1⟩⟩
   case measure=>
    have e1:=Y.1.i.left;rw[Y.1.hp,<-J.o]at e1;have:=hl;have:=Y.2.2.2;omega
section
attribute [local go_sem] Oper.semAt_some
structure VNZ(w wx:World)(S:Nat->Prop)(q m p1 b1 p2 b2:Nat)(v:Vm)(rs:List Int)(c:Cf)(why:Int):Prop where
 t:AB S w wx
 vm:AD wx (AC S w) q v
 rs:why=0/\∃L,Ext wx m p1 b1 p2 b2 v.n L/\BM v rs v.n L
 bx:Rec wx w.heap.size 171 [iI c.fr,iI c.tp,iI c.to,iI c.lm,iI c.bk,iI c.st,iI c.ah]
 r6:Rec wx (w.heap.size+1) 120 [.pointer none]
 r7:Rec wx (w.heap.size+2) 29 [iI 0]
 lm:w.heap.size+3<=m
 l1:w.heap.size+3<=p1
 l2:w.heap.size+3<=b1
 l3:w.heap.size+3<=p2
 l4:w.heap.size+3<=b2
section
variable{g:Nat}{c:Cf}
theorem YeD(hV:AD w S q v)(hn1:1<=v.n)(hR:AW w r g rs)(hT:AO w)(htS:¬S 1)(hst:1<=c.st/\c.st<=4096)(hin:∃L,EU v rs c.fr c.tp L):
  Calls prog 190 #[pP q,pP r,cfV c] w (Zt3 w S q v rs c.fr c.tp):=by
 obtain⟨L0,Yw⟩:=hin;have Zu:=ι Yw;have Zz:=ι Yw.1.sound;clear Yw;have HV:=hV.cut;have HR:=hR;have HT:=hT;have Ze:=htS;have Jd:=hT.lt;have hn2:=hV.ok.n2;have Jj:rs.length≠0:=λe=>hR.ne (ζy e);have Jk:=hR.le;have HX:=(λW=>OQ v.n hn1 Ω W);have Jm:=hst;obtain⟨n,Ya⟩:∃n,n=rs.length:=⟨_,rfl⟩;have HN:=ι Ya;rw[<-Ya]at Jj Jk;have g1:Gr w (((w.alloc (.cells #[.int .i64 c.fr,.int .i64 c.tp,.int .i64 c.to,.int .i64 c.lm,.int .i64 c.bk,.int .i64 c.st,.int .i64 c.ah] 171)).alloc (.cells #[.pointer none] 120)).alloc (.cells #[.int .i64 0] 29)):=(((Gr.refl w).alloc _).alloc _).alloc _;have Zw:=ι g1;clear hV hR hT htS hst Ya g1;refine(δ (n:=5)).1 ?_;refine callsIn_of_wp_marks func190 rfl trivial ?_ rfl;simp only[ntmps190,ζ0,ζu,ξc,Nat.reduceAdd,Nat.reduceSub,ζR,ζQ,ζ5,ζX,ζU,ζC];unfold cfV;gi_upto_region 1 with(fail);obtain⟨W0,Xd⟩:∃W0,W0=(((w.alloc (.cells #[.int .i64 c.fr,.int .i64 c.tp,.int .i64 c.to,.int .i64 c.lm,.int .i64 c.bk,.int .i64 c.st,.int .i64 c.ah] 171)).alloc (.cells #[.pointer none] 120)).alloc (.cells #[.int .i64 0] 29)):=⟨_,rfl⟩;have Zb:W0.heap.size=w.heap.size+3:=by rw[Xd];simp only[γ]
 have Zc:Gr w W0:=by rw[Xd];exact Zw.o
 have rb:Rec W0 w.heap.size 171 [iI c.fr,iI c.tp,iI c.to,iI c.lm,iI c.bk,iI c.st,iI c.ah]:=by rw[Xd];exact(Rec.new w _ [iI c.fr,iI c.tp,iI c.to,iI c.lm,iI c.bk,iI c.st,iI c.ah]).gr (((Gr.refl _).alloc _).alloc _)
 have r6:Rec W0 (w.heap.size+1) 120 [.pointer none]:=by rw[Xd];exact(LF w _ 120 [.pointer none]).gr ((Gr.refl _).alloc _)
 have r7:Rec W0 (w.heap.size+2) 29 [iI 0]:=by
  rw[Xd];have:=LF (w.alloc (.cells #[.int .i64 c.fr,.int .i64 c.tp,.int .i64 c.to,.int .i64 c.lm,.int .i64 c.bk,.int .i64 c.st,.int .i64 c.ah] 171)) (.cells #[.pointer none] 120) 29 [iI 0];rw[γ]at this;exact this
 rw[<-Xd];clear Xd Zw;have Zg:=ι Zc;have Zt:=ι rb;have Jp:=ι r6;have Jc:=ι r7;have Jo:=ι (λ(W:World) (g:Gr w W)=>I8 (HV.gr g));clear rb r6 r7 Zc
 gi_upto_region 2 with(first
  | (refine⟨trivial,?_⟩;gi_at_call 67;refine(δ.2 (Jo.o _ Zg.o)).mono ?_;rintro e w2 ⟨rfl,rfl⟩)
  | (refine⟨trivial,?_⟩;gi_at_call 66;refine(δ.2 (HX _)).mono ?_;rintro e w3 ⟨m,p1,b1,p2,b2,rfl,Yp,Zl,Xk,Xl,Xg,Xn,Xf⟩;have Yc:=ι Yp;have O:=ι (Zg.o.trans Yp);have Xm:=ι Zl;have HB:=ι (ψ Xk (ψ Xl (ψ Xg (ψ Xn Xf))));clear Yp Zl Xk Xl Xg Xn Xf))
 gi_cut [10,11]from 14 (λs10 s11 wx=>∃(Xb:Nat) (Y:Int),s10=pP Xb/\s11=iI Y/\Hid (VNZ w wx S q m p1 b1 p2 b2 v rs c Y))
 case first=>
  have Jn:=HB.o;obtain⟨Xk,Xl,Xg,Xn,Xf⟩:=Jn;rw[Zb]at Xk Xl Xg Xn Xf;have Yr:=Xm.o.hm;have Yo:=Xm.o.v1.hp;have Ye:=Xm.o.v1.hb;have Yn:=Xm.o.v2.hp;have Xv:=Xm.o.v2.hb
  have Xj:∀i,AR m b1 b2 i->w.heap.size+3<=i/\i<w3.heap.size:=λi hi=>by
   rcases hi with rfl|rfl|rfl
   ·exact⟨Xk,Yr⟩
   ·exact⟨Xg,Ye⟩
   ·exact⟨Xf,Xv⟩
  have Yx:=ι Xj;have Yd:=ι (λ(W:World) (g:Gr w3 W)=>S9 (HR.gr ((O.o).trans g)));rw[<-HN.o]at Yd
  have Xp:Hid (∀(W:World) (g1 cp:Nat),Gr w3 W->w3.heap.size<=g1->W.ownsRow 0 3 1 (.slice (some ⟨g1,0,none⟩) n cp) n (zs rs)->Calls prog 68 #[.iface 91 (pP q),.slice (some ⟨g1,0,none⟩) n cp,pP m,iI c.st] W λe w'=>
    ∃(a1 a2 a3 a4 Y:Int),e=.returned (.tuple #[.agg #[iI a1,iI a2,iI a3,iI a4],iI Y])/\AB (λi=>AR m b1 b2 i\/AC S w i) W w'/\AD w' (AC S w) q v/\(Y=0/\∃L,Ext w' m p1 b1 p2 b2 v.n L/\BM v rs v.n L)):=⟨λW g1 cp hg E ho=>by
   rw[HN.o]at ho⊢;have Yg:=O.o.trans hg;refine(UV Zz.o (HV.gr Yg) (Xm.o.gr hg) (Yg.tab HT.lt HT) (λi hi=>?_) (by unfold maxLen;have:=HN.o;omega) (λi hi h=>by have:=(Xj i h).1;have:=hi.2;omega) (λh=>by have:=h.2;omega) (λh=>by have:=h.2;omega) (λh=>Ze h.1) (λh=>by have:=(Xj _ h).1;omega) (room:=(c.st:Int)) (by have:=Jm;omega)).mono ?_
   ·exact⟨g1,0,rfl,(BE ho rfl).2,λh=>by have:=(Xj _ h).2;omega,by rw[ξt];exact BS ho (L5 hi)⟩
   ·rintro e w' ⟨ht,hv,L,r',vi,rfl,he,hm,-⟩
    exact⟨_,_,r',vi,0,rfl,ht,hv,rfl,L,he,hm⟩⟩
  have Yv:Hid (∀(W1 W2 W3:World) (Xb:Nat) (Y:Int),Gr w3 W1->AB (λi=>AR m b1 b2 i\/AC S w i) W1 W2->AD W2 (AC S w) q v->(Y=0/\∃L,Ext W2 m p1 b1 p2 b2 v.n L/\BM v rs v.n L)->AB (λi=>i=Xb) W2 W3->w3.heap.size<=Xb →
    VNZ w W3 S q m p1 b1 p2 b2 v rs c Y):=⟨λW1 W2 W3 Xb Y hg ht hv hres ht3 hb=>by
   have hz3:=O.o.size;have hz13:=Yc.o.size;have Yg:=O.o.trans hg
   have Yt:∀i,i<w.heap.size+3->w.heap.size<=i->¬(AR m b1 b2 i\/AC S w i):=λi h1 h2 h=>by
    rcases h with h|h
    ·have:=(Xj i h).1;omega
    ·have:=h.2;omega
   refine⟨((Yg.touch _).trans (ht.mono (T:=λi=>AR m b1 b2 i\/S i) (λi _ h=>h.imp id (λh=>h.1)))).trans' (T:=λi=>i=Xb) ht3 (λi hi h=>by omega) |>.mono (λi hi h=>h.elim (λh=>by have:=(Xj i h).1;omega) id),hv.touch ht3 (λi hi _ h=>by have:=hi.2;omega),?_,?_,?_,?_,Xk,Xl,Xg,Xn,Xf⟩
   ·obtain⟨h,L,he,hm⟩:=hres;exact⟨h,L,he.touch ht3 Ω Ω Ω Ω Ω,hm⟩
   ·exact((Zt.o.gr (Yc.o.trans hg)).touch ht (Yt _ Ω Ω)).touch ht3 Ω
   ·exact((Jp.o.gr (Yc.o.trans hg)).touch ht (Yt _ Ω Ω)).touch ht3 Ω
   ·exact((Jc.o.gr (Yc.o.trans hg)).touch ht (Yt _ Ω Ω)).touch ht3 Ω⟩
  have Yz:=Zt.o.gr Yc.o;have x5:=Yz.cc 5;have Za:=Yz.lt;have KS:Hid (∀W',Gr w3 W'->W'.cell? ⟨w.heap.size,5,none⟩=some (iI c.st)):=⟨λW' h=>(h.cell Za 5).trans x5⟩
  have KT:Hid (∀W1 W',Gr w3 W1->AB (λi=>AR m b1 b2 i\/AC S w i) W1 W'->W'.cell? ⟨w.heap.size,5,none⟩=some (iI c.st)):=⟨λW1 W' h t=>(t.cell (κ Za h.size) (λh=>by
   rcases h with h|h
   ·have:=(Yx.o _ h).1;omega
   ·have:=h.2;omega) 5).trans ((h.cell Za 5).trans x5)⟩
  obtain⟨Sx,Yh⟩:∃Sx:World->Prop,Sx=λW'=>W'.cell? ⟨w.heap.size,5,none⟩=some (iI c.st):=⟨_,rfl⟩;have y1:∀p':AA Sx,p'.w.cell? ⟨w.heap.size,5,none⟩=some (iI c.st):=λp=>AA.get Yh p;have Zn:Sx w3.drew:=by rw[Yh];exact x5
  have M:=ι Yh;have inst:Inhabited (AA Sx):=⟨⟨_,Zn⟩⟩;clear Yh x5 Yz Xj Xk Xl Xg Xn Xf Yr Yo Ye Yn Xv;refine ZZ Sx (.two [0,1,2,4,5,6] 3 (.two [] 7 (.one [8,9,10] 11 (.one [] 12 (.fin [13]))) 11 (.one [] 7 (.one [8,9,10] 12 (.fin [13])))) 11 (.one [] 3 (.one [] 7 (.one [8,9,10] 12 (.fin [13]))))) G3 Zn ?_;refine QX ?_;simp only[AG,ν,π]
  repeat(go_big_quiet_step (fail))
  refine ζd ⟨?_,?_⟩
  ·gi_wp2_with(refine⟨trivial,?_⟩;gi_at_call 69;refine(δ.2 (Yd.o _ (Gr.refl w3).drew)).mono ?_;rintro e w4 ⟨g1,c1,rfl,Xo,Yb,Xz⟩;have Z:=ι ((Gr.refl w3).drew.trans Xo);have Yk:=ι Xz;have Yj:=ι Yb;clear Xo Xz Yb);refine⟨AA.of (by rw[M.o];exact KS.o _ Z.o),?_⟩;refine QX ?_;simp only[AG,ν,π];refine ζd ⟨?_,?_⟩
   ·gi_wp2_with(refine⟨trivial,?_⟩;gi_at_call 68;refine(δ.2 (Xp.o _ g1 c1 Z.o Yj.o Yk.o)).mono ?_;rintro e w5 ⟨a1,a2,a3,a4,Y,rfl,N,G,Xa⟩;have J:=ι N;have Xw:=ι G;have Yf:=ι Xa;clear N G Xa);refine⟨AA.of (by rw[M.o];exact KT.o _ _ Z.o J.o),?_⟩;refine L8 ?_;have u5:=KT.o _ _ Z.o J.o;have Zm:=AV u5;gi_wp2;refine⟨AA.of (by rw[M.o];exact(((Gr.refl w5).alloc _).cell Zm 5).trans u5),?_⟩;refine I4 ?_;simp only[AG,ν,π];refine ζd ?_;gi_wp2;refine⟨AA.of (by rw[M.o];exact(((Gr.refl w5).alloc _).cell Zm 5).trans u5),?_⟩;refine NE ?_;gi_wp2
    gi_meet
    exact⟨_,Y,rfl,rfl,⟨Yv.o _ _ _ _ Y Z.o J.o Xw.o Yf.o (((Gr.refl w5).alloc _).touch _) (β Z.o.size J.o.size)⟩⟩
   ·have x4:=KS.o _ Z.o;have Zf:=AV x4;gi_wp2;refine⟨AA.of (by rw[M.o];exact(((Gr.refl w4).alloc _).cell Zf 5).trans x4),?_⟩;refine I4 ?_;simp only[AG,ν,π];refine ζd ?_;have I:=ι (Rec.new w4 124 [iI 0,iI 0,iI 0,iI 0]);have V:=ι (Z.o.alloc (.cells #[.int .i64 0,.int .i64 0,.int .i64 0,.int .i64 0] 124))
    have Xq:Hid (¬(AR m b1 b2 w4.heap.size\/AC S w w4.heap.size)):=⟨λh=>by
     have:=Z.o.size;rcases h with h|h
     ·have:=(Yx.o _ h).2;omega
     ·have:=h.2;have:=(O.o).size;omega⟩
    have Xr:Hid (¬w.heap.size=w4.heap.size):=⟨by have:=Z.o.size;omega⟩;have Zd:=ι (CL Yk.o ((Gr.refl w4).alloc (.cells #[.int .i64 0,.int .i64 0,.int .i64 0,.int .i64 0] 124)));have Xx:Hid (w3.heap.size<=w4.heap.size):=⟨Z.o.size⟩;obtain⟨bA,Xc⟩:∃bA,bA=w4.heap.size:=⟨_,rfl⟩;obtain⟨WA,Xe⟩:∃WA,WA=w4.alloc (.cells #[.int .i64 0,.int .i64 0,.int .i64 0,.int .i64 0] 124):=⟨_,rfl⟩;rw[show w4.alloc (.cells ([.int .i64 0,.int .i64 0,.int .i64 0,.int .i64 0]:List Value).toArray 124)=WA from Xe.symm]at I;rw[<-Xe]at V Zd⊢;rw[<-Xc]at I Xq Xr Xx⊢;clear Xc Xe x4 Zf;gi_wp2_with(refine⟨trivial,?_⟩;gi_at_call 68;refine(δ.2 (Xp.o _ g1 c1 V.o Yj.o Zd.o)).mono ?_;rintro e w5 ⟨a1,a2,a3,a4,Y,rfl,N,G,Xa⟩;have J:=ι N;have Xw:=ι G;have Yf:=ι Xa;have U:=ι (I.o.touch N (Xq.o));have q0:=U.o.cc 0;have q1:=U.o.cc 1;have q2:=U.o.cc 2;have q3:=U.o.cc 3;have qf:=U.o.free;have ql:=U.o.lt;clear N G Xa);refine⟨AA.of (by rw[M.o];exact KT.o _ _ V.o J.o),?_⟩;refine L8 ?_;gi_wp2;have t5:=O6 w5 bA (iI a1) (iI a2) (iI a3) (iI a4);have KF:=(t5.cell (AV (KT.o _ _ V.o J.o)) Xr.o 5).trans (KT.o _ _ V.o J.o);refine⟨AA.of (by rw[M.o];exact KF),?_⟩;refine NE ?_;gi_wp2
    gi_meet
    exact⟨_,Y,rfl,rfl,⟨Yv.o _ _ _ _ Y V.o J.o Xw.o Yf.o t5 Xx.o⟩⟩
  ·gi_wp2;have x3:=KS.o _ (Gr.refl w3);have Ji:=AV x3;refine⟨AA.of (by rw[M.o];exact KS.o _ ((Gr.refl w3).alloc _).drew),?_⟩;refine I4 ?_;simp only[AG,ν,π];refine ζd ?_;have I:=ι ((Rec.new w3 124 [iI 0,iI 0,iI 0,iI 0]).gr (Gr.refl _).drew);have V:=ι ((Gr.refl w3).alloc (.cells #[.int .i64 0,.int .i64 0,.int .i64 0,.int .i64 0] 124)).drew
   have Xq:Hid (¬(AR m b1 b2 w3.heap.size\/AC S w w3.heap.size)):=⟨λh=>by
    rcases h with h|h
    ·have:=(Yx.o _ h).2;omega
    ·have:=h.2;have:=(O.o).size;omega⟩
   have Xr:Hid (¬w.heap.size=w3.heap.size):=⟨by omega⟩;have Xx:Hid (w3.heap.size<=w3.heap.size):=⟨ϑ _⟩;obtain⟨WA,Xe⟩:∃WA,WA=(w3.alloc (.cells #[.int .i64 0,.int .i64 0,.int .i64 0,.int .i64 0] 124)).drew:=⟨_,rfl⟩;rw[show (w3.alloc (.cells ([.int .i64 0,.int .i64 0,.int .i64 0,.int .i64 0]:List Value).toArray 124)).drew=WA from Xe.symm]at I;rw[<-Xe]at V⊢;clear Xe;obtain⟨bA,Xc⟩:∃bA,bA=w3.heap.size:=⟨_,rfl⟩;rw[<-Xc]at I Xq Xr;rw[show w3.heap.size<=w3.heap.size↔w3.heap.size<=bA by rw[Xc]]at Xx;rw[show w3.heap.size=bA from Xc.symm];clear Xc x3 Ji;gi_wp2_with(refine⟨trivial,?_⟩;gi_at_call 69;refine(δ.2 (Yd.o _ V.o)).mono ?_;rintro e w4 ⟨g1,c1,rfl,Xo,Yb,Xz⟩;have Z:=ι (V.o.trans Xo);have Zp:=ι (I.o.gr Xo);have Yk:=ι Xz;have Yj:=ι (β V.o.size Yb);clear Xo Xz Yb);refine⟨AA.of (by rw[M.o];exact KS.o _ Z.o),?_⟩;refine I4 ?_;simp only[AG,ν,π];refine ζd ?_;gi_wp2_with(refine⟨trivial,?_⟩;gi_at_call 68;refine(δ.2 (Xp.o _ g1 c1 Z.o Yj.o Yk.o)).mono ?_;rintro e w5 ⟨a1,a2,a3,a4,Y,rfl,N,G,Xa⟩;have J:=ι N;have Xw:=ι G;have Yf:=ι Xa;have U:=ι (Zp.o.touch N (Xq.o));have q0:=U.o.cc 0;have q1:=U.o.cc 1;have q2:=U.o.cc 2;have q3:=U.o.cc 3;have qf:=U.o.free;have ql:=U.o.lt;clear N G Xa);refine⟨AA.of (by rw[M.o];exact KT.o _ _ Z.o J.o),?_⟩;refine L8 ?_;gi_wp2;have t5:=O6 w5 bA (iI a1) (iI a2) (iI a3) (iI a4);have KF:=(t5.cell (AV (KT.o _ _ Z.o J.o)) Xr.o 5).trans (KT.o _ _ Z.o J.o);refine⟨AA.of (by rw[M.o];exact KF),?_⟩;refine NE ?_;gi_wp2
   gi_meet
   exact⟨_,Y,rfl,rfl,⟨Yv.o _ _ _ _ Y Z.o J.o Xw.o Yf.o t5 Xx.o⟩⟩
 case rest=>
  obtain⟨Xb,Y,rfl,rfl,HI⟩:=hcut;have Jf:=HI.o.r6;have Zi:=HI.o.r7;have Zv:=HI.o.bx;have hwz:=HI.o.t.size;have hr7l:=Zi.lt;obtain⟨rfl,L,hex,Zj⟩:=HI.o.rs
  ·have Yy:=ι hex;have Zr:=ι Zj;clear Jf Zi hex Zj;gi_wp2_with(refine⟨trivial,?_⟩;gi_at_call 160;refine(δ.2 (KJ (some ⟨m,0,none⟩))).mono ?_;rintro e w1 ⟨rfl,rfl⟩);obtain⟨W1,Xt⟩:∃W1,W1=wc.alloc (.cells #[.pointer (some ⟨m,0,none⟩)] 120):=⟨_,rfl⟩;have E:Gr wc W1:=by rw[Xt];exact(Gr.refl wc).alloc _
   have Zs:W1.heap.size=wc.heap.size+1:=by rw[Xt,γ]
   have k4:W1.cell? ⟨wc.heap.size,0,none⟩=some (pP m):=by
    rw[Xt];exact(Boxed.new wc 120 (pP m)).cell
   rw[<-Xt];have hex:=Yy.o;have Yr:=hex.hm;have Yo:=hex.v1.hp;have Ye:=hex.v1.hb;have Yn:=hex.v2.hp;have Xv:=hex.v2.hb;have Zo:Hid (AO wc):=⟨HI.o.t.tab Jd Ze HT⟩;have Zh:=Zo.o.lt;have hrl:=Zv.lt;have Jb:=ι hex.good;clear Xt hex;have tI:∀(j:Nat) A B,(AB (λi=>W1.heap.size<=i) W1 A/\j<=L.length/\∀i (h:i<L.length),i<j->c.fr<=L[i].1/\L[i].1+L[i].2<=c.tp)->AB (λi=>W1.heap.size<=i/\i<W1.heap.size+2+4) A B->(AB (λi=>W1.heap.size<=i) W1 B/\j<=L.length/\∀i (h:i<L.length),i<j->c.fr<=L[i].1/\L[i].1+L[i].2<=c.tp):=λj A B h t=>⟨h.1.trans (t.mono (λi _ h=>h.1)),h.2⟩
   refine L3 (K:=4) (s0:=0) rfl Ω (gf:=213) (lb:=#[pP wc.heap.size]) rfl trivial (enters_of func213 (by kernel_rfl) rfl)
    (PC _ wc.heap.size m p1 b1 p2 b2 v.n L _) (λ_=>rfl)
    (λ(j:Nat) A=>AB (λi=>W1.heap.size<=i) W1 A/\j<=L.length/\∀i (h:i<L.length),i<j->c.fr<=L[i].1/\L[i].1+L[i].2<=c.tp)
    (λ_ _=>False) tI (λ_ _ _ h _=>h)
    (λj A h=>⟨(Yy.o.gr E).touch h.1 Ω Ω Ω Ω Ω,(E.tab Zh Zo.o).touch' h.1 Ω,(h.1.cell Ω Ω 0).trans k4,h.2.1⟩)
    ⟨AB.refl _ _,ζf _,λi _ h=>absurd h (ζA _)⟩ ?round ?done (λ_ _ _ _ h _=>h.elim)
   case round=>
    have Je:=ι Zs;clear Zs;intro lp j x W3 hsz3 Xi Xh;dsimp only[GO];gi_wp2;refine⟨Gr.refl _,λW4 ht4 hI4=>?_⟩
    have Yl:j<L.length:=by
     rcases υ j L.length with h|h
     ·exact h
     ·unfold ER at Xh;rw[ζN h]at Xh;cases Xh
    obtain rfl:x=L[j]:=by unfold ER at Xh;rw[η Yl]at Xh;exact(Option.some.inj Xh).symm
    have Xs:=(Zv.gr E).touch hI4.1 (by have:=Je.o;omega);obtain⟨c0,c1,cl⟩:=Xs.k2;have Ja:=(Jb.o.sz _ (μ Yl)).2;have Zq:=ι (μ Yl);obtain⟨sa,Yu⟩:∃s,s=L[j].1:=⟨_,rfl⟩;obtain⟨sz,Ys⟩:∃s,s=L[j].2:=⟨_,rfl⟩;have Yi:=ι (ψ Yu Ys);rw[<-Yu,<-Ys]at Ja⊢;have Zk:=ι hI4;have Jl:=ι Yl;by_cases hin:c.fr<=sa/\sa+sz<=c.tp
    ·have e0:decide ((sa:Int)<(c.fr:Int))=false:=ζ Ω;have e1:decide ((c.tp:Int)<(sa:Int)+(sz:Int))=false:=ζ Ω;have e2:decide (sa<c.fr)=false:=ζ Ω;have Jg:=ι hin;clear Xi hI4 Xh ht4 Yu Ys hin;gi_wp2;refine⟨AB.refl _ _,j+1,rfl,Zk.o.1,Jl.o,λi h hij=>?_⟩;rcases υ i j with h'|h'
     ·exact Zk.o.2.2 i h h'
     ·obtain rfl:i=j:=Ω
      rw[<-Yi.o.1,<-Yi.o.2];exact Jg.o
    ·exfalso;have h1:=Zu.o.1.unique Zr.o;have h2:=Zu.o.2 L[j] (by rw[h1];exact Zq.o);rw[<-Yi.o.1,<-Yi.o.2]at h2;omega
   case done=>
    rintro D j W3 hD rfl Xi hK;have Xy:=(HI.o.r6.gr E).touch Xi.1 (by have:=HI.o.r6.lt;omega);have Xu:=(HI.o.r7.gr E).touch Xi.1 (by have:=HI.o.r7.lt;omega);have q0:=Xy.cc 0;have q1:=Xy.free 0;have ql:=Xy.lt;have p0:=Xu.cc 0;have p1':=Xu.free 0;have pl:=Xu.lt;have HK:=ι hK;have HD:=ι hD;have Ym:=ι Xi;have I:=ι Xy;have Zx:=ι Xu;have hs3:=Xi.1.size;clear hK hD Xi Xy Xu;gi_wp2
    have tg:AB (λi=>i=w.heap.size+1\/i=w.heap.size+2) W3 ((W3.setCell ⟨w.heap.size+1,0,none⟩ (.pointer (some ⟨m,0,none⟩))).setCell ⟨w.heap.size+1+1,0,none⟩ (.int .i64 0)):=
     ((AB.refl _ W3).setCell (a:=⟨w.heap.size+1,0,none⟩) (λ_=>.inl rfl) _).setCell (a:=⟨w.heap.size+1+1,0,none⟩) (λ_=>.inr rfl) _
    have b6:Rec ((W3.setCell ⟨w.heap.size+1,0,none⟩ (.pointer (some ⟨m,0,none⟩))).setCell ⟨w.heap.size+1+1,0,none⟩ (.int .i64 0)) (w.heap.size+1) 120 [pP m]:=
     (I.o.set 0 (pP m)).touch ((AB.refl (λi=>i=w.heap.size+1+1) _).setCell (a:=⟨w.heap.size+1+1,0,none⟩) (λ_=>rfl) _) Ω
    have b7:Rec ((W3.setCell ⟨w.heap.size+1,0,none⟩ (.pointer (some ⟨m,0,none⟩))).setCell ⟨w.heap.size+1+1,0,none⟩ (.int .i64 0)) (w.heap.size+2) 29 [iI 0]:=
     (Zx.o.touch ((AB.refl (λi=>i=w.heap.size+1) W3).setCell (a:=⟨w.heap.size+1,0,none⟩) (λ_=>rfl) (pP m)) Ω).set 0 (iI 0)
    have hD:=HD.o;have Yq:=(tg.block D (ζs.1 HK.o).1 Ω).trans HK.o;generalize ((W3.setCell ⟨w.heap.size+1,0,none⟩ (.pointer (some ⟨m,0,none⟩))).setCell ⟨w.heap.size+1+1,0,none⟩ (.int .i64 0))=W5 at *
    have k6:=b6.cc 0;have k7:=b7.cc 0;rw[show w.heap.size+2=w.heap.size+1+1 from rfl]at k7;refine⟨by simp,.inl ⟨_,_,rfl,run_takeDeferred Yq,?_⟩⟩;have Jh:=cell_kept k6 (grownBy_putObj' _ D (.deferred none)) (λr e=>by cases e;exact⟨_,Yq,rfl⟩);have Zy:=cell_kept k7 (grownBy_putObj' _ D (.deferred none)) (λr e=>by cases e;exact⟨_,Yq,rfl⟩);have tD:AB (λi=>W1.heap.size<=i) W5 (W5.putObj D (.deferred none)):=DH _ D _ Ω;refine⟨.tuple #[pP m,iI 0],?_,?_,?_,L,m,p1,b1,p2,b2,⟨Zr.o,λo ho=>?_⟩,rfl,?_,?_⟩
    ·simp[results,f190,go_sem,Jh,Zy]
    ·exact(((HI.o.t.trans (E.touch _)).trans' Ym.o.1 (λi hi h=>by omega)).trans' tg (λi hi h=>by omega)).trans' tD (λi hi h=>by omega)
    ·exact(((HI.o.vm.gr E).touch Ym.o.1 (λi hi _ h=>by have:=hi.2;omega)).touch tg (λi hi _ h=>by have:=hi.2;omega)).touch tD (λi hi _ h=>by have:=hi.2;omega)
    ·obtain⟨i,hi,rfl⟩:=ζo ho;have:=Ym.o.2.2 i hi hi;omega
    ·have hl:=HI.o;have l0:=hl.lm;have l1:=hl.l1;have l2:=hl.l2;have l3:=hl.l3;have l4:=hl.l4;exact((((Yy.o.gr E).touch Ym.o.1 Ω Ω Ω Ω Ω)).touch tg Ω Ω Ω Ω Ω).touch tD Ω Ω Ω Ω Ω
    ·have hl:=HI.o;have l0:=hl.lm;have l1:=hl.l1;have l2:=hl.l2;have l3:=hl.l3;have l4:=hl.l4;omega
end
end
section
attribute [local go_sem] Oper.semAt_some
theorem Qkw{b1 b2:Nat}(hE:Ext w m p1 b1 p2 b2 n L)(hT:AO w){B:Nat}(hB:BL B=true)(hb:base<2147483648):
  Calls prog 191 #[pP m,iI B,iI base] w λe w'=>∃p,e=.returned (.tuple #[pP p,iI 0])/\Gr w w'/\Pln w' w.heap.size p n B base L:=by
 have hbp:=DD hB;refine(YGs hE hT (B:Int) (base:Int) Ω).mono ?_;have hbo:FY (base:Int)=true:=by unfold FY;grind
 rintro e w' ⟨hg,(⟨h,-⟩|⟨-,p,B',base',e1,e2,rfl,hP⟩)⟩
 ·simp_all
 grind
def QS(w:World)(S:Nat->Prop)(q r g:Nat)(v:Vm)(rs:List Int)(c:Cf)(e:Ending)(w':World):Prop:=
 AB (λb=>b=g\/S b) w w' ∧
  ∃L,EU v rs c.fr c.tp L/\sizes L<=c.lm-c.to/\∃(y:Nat) (z:CB) (R S':Nat->Prop) (v':Vm) (j:Nat),e=.returned (.tuple #[pP y,iI 0])/\Cyc w' R y q z (AZ v c L)/\AD w' S' q v'/\(∀b,S' b->S b\/w.heap.size<=b)/\(∀b,R b->w.heap.size<=b/\¬S' b) ∧
    EY (AZ v c L) v v' (c.fr/v.pl.pg) j/\c.tp<=(c.fr/v.pl.pg+j)*v.pl.pg/\(∀i,i<j->(c.fr/v.pl.pg+i)*v.pl.pg<c.tp)/\AW w' r g (rs.map (toV L c.to))
theorem ZHF:(prog.info? 4).map (λi=>(i.zero,i.size,i.bytes))=some (some (.bool false),1,1):=by kernel_rfl
structure OpJ(wa w:World)(D:Nat->Bool)(q p m nb:Nat)(c:Cf)(v55 v56 v57 v58 v59 v60 v61 v62 v63 v64 v65 v66 v67 v13:Value):Prop where
 e55:v55=pP q
 e56:v56=.agg #[iI c.fr,iI c.tp,iI c.to,iI c.lm,iI c.bk,iI c.st,iI c.ah]
 e57:v57=pP p
 e58:v58=pP m
 e59:v59=pP p
 e62:v62=pP p
 e60:D 5=true->v60=iI nb
 e61:D 6=true->∃b,v61=.slice (some ⟨b,0,none⟩) nb nb/\w.ownsRow 0 4 1 v61 nb (List.replicate nb (.bool false))/\wa.heap.size<=b
 e63:D 8=true->v63=iI nb
 e64:D 9=true->∃b,v64=.map (some b)/\BH prog 3 w b 0 (λ_=>none)/\wa.heap.size<=b
 e65:D 10=true->∃b,v65=.map (some b)/\BH prog 3 w b 0 (λ_=>none)/\wa.heap.size<=b
 ne:D 9=true->D 10=true->v64≠v65
 e66:D 11=true->D 6=true/\D 8=true/\D 9=true/\D 10=true/\v66=.agg #[v55,iI c.fr,iI c.tp,iI c.to,iI c.lm,iI c.bk,iI c.st,iI c.ah,v57,v58,v61,v63,iI 0,iI 0,v64,v65]
 e67:D 12=true->D 11=true/\∃b,v67=pP b/\wa.heap.size<=b/\Rec w b 201 [v55,iI c.fr,iI c.tp,iI c.to,iI c.lm,iI c.bk,iI c.st,iI c.ah,v57,v58,v61,v63,iI 0,iI 0,v64,v65]
 e13:D 13=true->∃b,v13=pP b/\wa.heap.size<=b/\Rec w b 94 [if D 14 then v67 else .pointer none]
 d14:D 14=true->D 12=true/\D 13=true
 t:AB (λi=>wa.heap.size<=i) wa w
theorem OpJ.gr{wa:World}{D:Nat->Bool}{c:Cf}{v55 v56 v57 v58 v59 v60 v61 v62 v63 v64 v65 v66 v67 v13:Value}(h:OpJ wa w D q p m nb c v55 v56 v57 v58 v59 v60 v61 v62 v63 v64 v65 v66 v67 v13)(g:Gr w w'):OpJ wa w' D q p m nb c v55 v56 v57 v58 v59 v60 v61 v62 v63 v64 v65 v66 v67 v13:=
 ⟨h.e55,h.e56,h.e57,h.e58,h.e59,h.e62,h.e60,λd=>by obtain⟨b,h1,h2,h3⟩:=h.e61 d;exact⟨b,h1,CL h2 g,h3⟩,h.e63,λd=>by obtain⟨b,h1,h2,h3⟩:=h.e64 d;exact⟨b,h1,h2.gr g,h3⟩,λd=>by obtain⟨b,h1,h2,h3⟩:=h.e65 d;exact⟨b,h1,h2.gr g,h3⟩,h.ne,h.e66,
  λd=>by obtain⟨h0,b,h1,h2,h3⟩:=h.e67 d;exact⟨h0,b,h1,h2,h3.gr g⟩,λd=>by obtain⟨b,h1,h2,h3⟩:=h.e13 d;exact⟨b,h1,h2,h3.gr g⟩,h.d14,h.t.trans (g.touch _)⟩
def OpI(wa:World)(q p m nb:Nat)(c:Cf)(a0:Act)(D:Nat->Bool)(a:Act)(w:World):Prop:=
 ∃v55 v56 v57 v58 v59 v60 v61 v62 v63 v64 v65 v66 v67 v13:Value,a=(((((((((((((a0.put (some 55) v55).put (some 56) v56).put (some 57) v57).put (some 58) v58).put (some 59) v59).put (some 60) v60).put (some 61) v61).put (some 62) v62).put (some 63) v63).put (some 64) v64).put (some 65) v65).put (some 66) v66).put (some 67) v67).put (some 13) v13/\OpJ wa w D q p m nb c v55 v56 v57 v58 v59 v60 v61 v62 v63 v64 v65 v66 v67 v13
theorem Sl.on_next(s:Sl)(hm:mm<sizes s.L)(q:Nat):s.on (λi=>decide (i<mm+1)) q=s.on (λi=>decide (i<mm)) q+(if AH s.L mm/s.pg=q then 1 else 0):=by
 have h:=Sl.on_but (s:=s) (U:=λi=>decide (i<mm+1)) (i:=mm) (q:=q) hm (by simp)
 have e:s.on (but (λi=>decide (i<mm+1)) mm) q=s.on (λi=>decide (i<mm)) q:=Sl.on_congr λj _=>by
  unfold but
  grind
 omega
theorem Y0x(hg:AP n L):L.length<=sizes L:=by
 have:∀l:List Ob,(∀o∈l,1<=o.2)->l.length<=sizes l:=λl=>by
  induction l with
  | nil=>simp_all
  | cons o r ih=>
   intro h;have h1:=ih (λx hx=>h x (τ _ hx));have h2:=h o (ζa ..);simp only[ζu,sizes];omega
 exact this L (λo ho=>(hg.sz o ho).1)
structure OpA(W5 A:World)(b64 b65:Nat)(v:Vm)(s:Sl)(j mm:Nat):Prop where
 t:AB (λi=>(i=b64\/i=b65)\/W5.heap.size<=i) W5 A
 sh:∃n f,BH prog 3 A b65 n f/\n<=j/\∀i (h:i<s.L.length),i<j->f (s.L[i].1:Nat)=some (AM (v.rdH (s.L[i].1:Nat)))
 wd:∃n f,BH prog 3 A b64 n f/\n<=mm/\∀q:Nat,(f (q:Nat)).getD (iI 0)=iI (s.on (λi=>decide (i<mm)) q:Nat)
theorem OpA.win{s:Sl}{K:Nat}(h:OpA W5 A b64 b65 v s j mm)(h4:b64<W5.heap.size)(h5:b65<W5.heap.size)(t:AB (λk=>W5.heap.size<=k/\k<K) A B):OpA W5 B b64 b65 v s j mm:=by
 obtain⟨n1,f1,a1,a2,a3⟩:=h.sh;obtain⟨n2,f2,c1,c2,c3⟩:=h.wd;exact⟨h.t.trans (t.mono (λi _ h=>.inr h.1)),⟨n1,f1,a1.touch t (λh=>by omega),a2,a3⟩,⟨n2,f2,c1.touch t (λh=>by omega),c2,c3⟩⟩
theorem OpA.zero{s:Sl}(h4:BH prog 3 W5 b64 0 (λ_=>none))(h5:BH prog 3 W5 b65 0 (λ_=>none)):OpA W5 W5 b64 b65 v s 0 0:=
 ⟨AB.refl _ _,⟨0,_,h5,ϑ _,λi _ h=>absurd h (ζA _)⟩,⟨0,_,h4,ϑ _,λq=>by
  have:s.on (λi=>decide (i<0)) q=0:=Sl.on_iff.2 (λj _ h=>by simp at h)
  simp_all⟩⟩
theorem OpA.hdr{s:Sl}(h:OpA W5 A b64 b65 v s j mm)(hj:j<s.L.length)(hne:b64≠b65)(hn:n<=j)(hf:∀i (h:i<s.L.length),i<j->f (s.L[i].1:Nat)=some (AM (v.rdH (s.L[i].1:Nat))))(_:AP s.n s.L)
  (hm:BH prog 3 B b65 (n+1) (λy=>if y=((s.L[j].1:Nat):Int)then some (AM (v.rdH (s.L[j].1:Nat)))else f y)) (t:AB (λi=>i=b65) A B):OpA W5 B b64 b65 v s (j+1) mm:=by
 obtain⟨n2,f2,c1,c2,c3⟩:=h.wd;refine⟨h.t.trans (t.mono (λi _ h=>.inl (.inr h))),⟨n+1,_,hm,by omega,λi hi hij=>?_⟩,⟨n2,f2,c1.touch t hne,c2,c3⟩⟩
 grind
theorem OpA.word{s:Sl}(h:OpA W5 A b64 b65 v s j mm)(hm:mm<sizes s.L)(hne:b64≠b65)(hn:n<=mm)(hf:∀q:Nat,(f (q:Nat)).getD (iI 0)=iI (s.on (λi=>decide (i<mm)) q:Nat))
  (hx:x=s.on (λi=>decide (i<mm)) (AH s.L mm/s.pg)+1) (hM:BH prog 3 B b64 (n+1) (λy=>if y=((AH s.L mm/s.pg:Nat):Int)then some (iI x)else f y)) (t:AB (λi=>i=b64) A B):OpA W5 B b64 b65 v s j (mm+1):=by
 obtain⟨n1,f1,a1,a2,a3⟩:=h.sh;refine⟨h.t.trans (t.mono (λi _ h=>.inl (.inl h))),⟨n1,f1,a1.touch t (λe=>hne e.symm),a2,a3⟩,⟨n+1,_,hM,by omega,λq=>?_⟩⟩;rw[s.on_next hm q];by_cases e:AH s.L mm/s.pg=q
 ·simp_all
 grind
theorem VLI{w3 W7:World}{b1 b2 b61 lo:Nat}{c:Cf}{T:Nat->Prop}
  (hE2:Ext w2 m p1 b1 p2 b2 v.n L) (hg:Gr w2 w3) (hP:Pln w3 w2.heap.size p v.n c.bk c.to L) (hlo:lo<=w2.heap.size/\lo<=m/\lo<=p1/\lo<=b1/\lo<=p2/\lo<=b2)
  (t3:AB (λi=>w3.heap.size<=i) w3 W5) (hge:w3.heap.size<=y/\w3.heap.size<=b61/\w3.heap.size<=b64/\w3.heap.size<=b65) (hnb:nb=nbl (sizes L) c.bk)
  (hY:Rec W5 y 201 [pP q,iI c.fr,iI c.tp,iI c.to,iI c.lm,iI c.bk,iI c.st,iI c.ah,pP p,pP m,.slice (some ⟨b61,0,none⟩) nb nb,iI nb,iI 0,iI 0,.map (some b64),.map (some b65)])
  (hO:W5.ownsRow 0 4 1 (.slice (some ⟨b61,0,none⟩) nb nb) nb (List.replicate nb (.bool false))) (h4:BH prog 3 W5 b64 0 (λ_=>none)) (h5:BH prog 3 W5 b65 0 (λ_=>none)) (hne:b64≠b65)
  (hA:OpA W5 W7 b64 b65 v (AZ v c L) L.length (sizes L)) (hT:∀i,i<W5.heap.size->i≠b64->i≠b65->¬T i) (t7:AB T W5 W7):
  Cyc W7 (λb=>lo<=b/\b<W5.heap.size) y q ⟨w2.heap.size,w3.heap.size,p,m,p1,b1,p2,b2,b65,b61,nb,b64⟩ (AZ v c L):=by
 obtain⟨l1,l2,l3,l4,l5,l6⟩:=hlo;obtain⟨g1,g2,g3,g4⟩:=hge;have B:=hg.size;have s35:=t3.size;have s57:=t7.size;have hm:=hE2.hm;have E:=hE2.v1.hp;have D:=hE2.v1.hb;have O:=hE2.v2.hp;have G:=hE2.v2.hb;have M:=hY.lt;have Y:=(BE hO rfl).2;have V:=h4.lt;have J:=h5.lt;have n1:b61≠y:=AQ hO hY (by decide) rfl rfl;have n2:=h4.ne (IP hY);have n3:=h5.ne (IP hY);obtain⟨U,Z⟩:=QW hO rfl;have n4:=h4.ne (q:=b61) ⟨U,_,Z⟩;have n5:=h5.ne (q:=b61) ⟨U,_,Z⟩;have N:Gr w3 W5:=(t3.mono (T:=λ_=>False) (λi hi h=>absurd hi (ξj h))).gr;obtain⟨nh,fh,a1,a2,a3⟩:=hA.sh;obtain⟨nw,fw,d1,d2,d3⟩:=hA.wd;refine⟨⟨hm,E,D,O,G,B,by show w3.heap.size<=_;omega,g1,g2,g3,g4,n1.symm,n2.symm,n3.symm,n4.symm,n5.symm,hne,⟨by omega,M⟩,⟨by show lo<=b61;omega,Y⟩,⟨by show lo<=b64;omega,V⟩,⟨by show lo<=b65;omega,J⟩,⟨l2,by show m<_;omega⟩,⟨l3,by show p1<_;omega⟩,⟨l4,by show b1<_;omega⟩,⟨l5,by show p2<_;omega⟩,⟨l6,by show b2<_;omega⟩,λk h1 h2=>⟨by have:w2.heap.size<=k:=h1;omega,by have:k<w3.heap.size:=h2;omega⟩,λk hk=>by omega⟩,?_,λW tW=>hP.touch ((t3.mono (λi _ h=>.inr h)).trans ((t7.mono (λi hi h=>?_)).trans tW)) (λk h1 h2 h=>by rcases h with h|h;(have:k<w2.heap.size:=h;omega);(have:w3.heap.size<=k:=h;omega)),?_,⟨nh,fh,a1,λj hj=>a3 j hj hj⟩,⟨nw,fw,d1,?_,λqq=>?_⟩,?_⟩
 ·have h:=hY.touch t7 (hT _ M n2.symm n3.symm);rw[ZN,Q20,S6];have hl:(AZ v c L).mv.length=nb:=by rw[hnb];exact ζT
  rw[hl,<-hnb];exact h
 ·right
  show w3.heap.size<=i
  refine ξW λh'=>?_;exact hT i Ω Ω Ω h
 ·exact(((hE2.gr hg).gr N).touch t7 (hT _ Ω Ω Ω) (hT _ Ω Ω Ω) (hT _ Ω Ω Ω) (hT _ Ω Ω Ω) (hT _ Ω Ω Ω))
 ·have h1:cnt (λi=>!(AZ v c L).is i) (sizes (AZ v c L).L)<=sizes (AZ v c L).L:=EJ _ _;have h2:nw<=sizes (AZ v c L).L:=d2;omega
 ·rw[d3 qq]
  have:(AZ v c L).on (λi=>decide (i<sizes L)) qq=(AZ v c L).on (λi=>!(AZ v c L).is i) qq:=Sl.on_congr λi hi=>by
   have I:i<sizes L:=hi;rw[L4,θ I];rfl
  rw[this]
 ·have h:=BX hO t7 (λg hg=>by cases hg;exact hT _ Y n4.symm n5.symm);have hl:(AZ v c L).mv.length=nb:=by rw[hnb];exact ζT
  have hb:bls (AZ v c L).mv=List.replicate nb (.bool false):=by
   show (List.replicate (nbl (sizes L) c.bk) false).map Value.bool=_
   rw[List.map_replicate,hnb]
  rw[hl,hb];exact h
structure UmO(w8 wx:World)(S5:Nat->Prop)(q:Nat)(s:Sl)(v:Vm)(q0 j pg tp:Nat):Prop where
 t:AB S5 w8 wx
 vm:∃Sj v',(∀b,Sj b->plus S5 w8 b)/\AD wx Sj q v'/\EY s v v' q0 j
 q1:∀i,i<j->(q0+i)*pg<tp
section
variable{g:Nat}{c:Cf}
theorem VBz(hV:AD w S q v)(hR:AW w r g rs)(hT:AO w)(htS:¬S 1)(hrS:¬S r)(hgS:¬S g)(hcf:G9 v.pl.pg v.n c)(htr:1≠g)(hin:∃L,EU v rs c.fr c.tp L)(hfit:∀L,EU v rs c.fr c.tp L->sizes L<=c.lm-c.to):
  Calls prog 140 #[pP q,pP r,cfV c] w (QS w S q r g v rs c):=by
 have HV:=ι hV.cut;have HR:=ι hR;have HT:=ι hT;have Ze:=ι (ψ htS (ψ hrS (ψ hgS htr)));have Nq:=hT.lt;have hrl:=hR.lt;have hn2:=hV.ok.n2;have Me:=hV.ok.page;have Nr:=ι hV.ok;have Us:=ι hcf;have It:1<=v.n:=by have:=hcf.fr;have:=hcf.tp;have:=hcf.tn;omega
 have Vq:rs.length≠0:=λe=>hR.ne (ζy e);have Et:=hR.le;have hcb:c.lm<=v.n/\c.to<=c.lm/\c.fr<=c.tp/\c.tp<=v.n:=⟨hcf.ln,hcf.lm,hcf.tp,hcf.tn⟩;have Jl:=ι (λ(W:World) (gW:Gr w W)=>XO (hR.gr gW));have Np:=ι (λ(W:World) (gW:Gr w W)=>QzK (hV.gr gW) hcf);have Nl:=ι (λ(W:World) (gW:Gr w W)=>YeD (c:=c) (hV.cut.gr gW) It (hR.gr gW) (gW.tab Nq hT) (λh=>htS h.1) hcf.st hin);unfold cfV at Np Nl⊢;obtain⟨n,Vy⟩:∃n,n=rs.length:=⟨_,rfl⟩;have HN:=ι Vy;rw[<-Vy]at Vq Et Jl;have d0:((n:Int)==0)=false:=by simp;omega
 have Ic:=ι (((Gr.refl w).alloc (.cells #[.pointer (some ⟨q,0,none⟩)] 91)).alloc (.cells #[.int .i64 c.fr,.int .i64 c.tp,.int .i64 c.to,.int .i64 c.lm,.int .i64 c.bk,.int .i64 c.st,.int .i64 c.ah] 171));have Oh:=(Rec.new w 91 [pP q]).gr ((Gr.refl _).alloc (.cells #[.int .i64 c.fr,.int .i64 c.tp,.int .i64 c.to,.int .i64 c.lm,.int .i64 c.bk,.int .i64 c.st,.int .i64 c.ah] 171));have Nj:=LF w (.cells #[.pointer (some ⟨q,0,none⟩)] 91) 171 [.int .i64 c.fr,.int .i64 c.tp,.int .i64 c.to,.int .i64 c.lm,.int .i64 c.bk,.int .i64 c.st,.int .i64 c.ah];obtain⟨W0,Za⟩:∃W0,W0=(w.alloc (.cells #[.pointer (some ⟨q,0,none⟩)] 91)).alloc (.cells #[.int .i64 c.fr,.int .i64 c.tp,.int .i64 c.to,.int .i64 c.lm,.int .i64 c.bk,.int .i64 c.st,.int .i64 c.ah] 171):=⟨_,rfl⟩;have Jm:W0.heap.size=w.heap.size+2:=by rw[Za];simp only[γ]
 have Vb:Hid (Rec W0 w.heap.size 91 [pP q]):=⟨by rw[Za];exact Oh⟩;have Yf:Hid (Rec W0 (w.heap.size+1) 171 [.int .i64 c.fr,.int .i64 c.tp,.int .i64 c.to,.int .i64 c.lm,.int .i64 c.bk,.int .i64 c.st,.int .i64 c.ah]):=⟨by rw[Za];exact Nj⟩;have Uw:Hid (Gr w W0):=⟨by rw[Za];exact Ic.o⟩;have HS0:=ι Jm;clear hV hR hT htS hrS hgS htr hcf Vy Oh Nj Ic Jm;refine(δ (n:=5)).1 ?_;refine callsIn_of_wp_marks func140 rfl trivial ?_ rfl;simp only[ntmps140,ζ0,ζu,ξc,Nat.reduceAdd,Nat.reduceSub,ζR,ζQ,ζ5,ζX,ζU,ζC];gi_upto_region 1 with(fail);rw[<-Za];clear Za;have z3:=Vb.o.cc 0;have Vw:=Yf.o.cc 0;have Vp:=Yf.o.cc 1;have Zv:=Yf.o.cc 2;have Vt:=Yf.o.cc 3;have Zm:=Yf.o.cc 4;have Vx:=Yf.o.cc 5;have Up:=Yf.o.cc 6;have Vk:=Vb.o.lt;have Zt:=Yf.o.lt
 gi_upto_region 6 with(first
  | (refine⟨trivial,?_⟩;gi_at_call 188;refine(δ.2 (Jl.o _ Uw.o)).mono ?_;rintro e w1 ⟨rfl,rfl⟩)
  | (refine⟨trivial,?_⟩;gi_at_call 189;refine(δ.2 (Np.o _ Uw.o)).mono ?_;rintro e w1 ⟨rfl,Jj⟩;have Yo:=ι (Uw.o.trans Jj);have Jd:=ι (Vb.o.gr Jj);have Xp:=ι (Yf.o.gr Jj);clear Jj))
 clear z3 Vw Vp Zv Vt Zm Vx Up Vk Zt;have z3:=Jd.o.cc 0;have Vw:=Xp.o.cc 0;have Vp:=Xp.o.cc 1;have Zv:=Xp.o.cc 2;have Vt:=Xp.o.cc 3;have Zm:=Xp.o.cc 4;have Vx:=Xp.o.cc 5;have Up:=Xp.o.cc 6;have Vk:=Jd.o.lt;have Zt:=Xp.o.lt;have Or:=Yo.o.size;gi_upto_region 7 with(refine⟨trivial,?_⟩;gi_at_call 190;refine(δ.2 (Nl.o _ Yo.o)).mono ?_;rintro e w2 ⟨Of,Og,L,m,p1,b1,p2,b2,hI,rfl,hE,Ot,Nd,Mz,Zb,Zk⟩;(have Zf:=ι Of;have Ix:=ι Og;clear Of Og))
 ·clear z3 Vw Vp Zv Vt Zm Vx Up Vk Zt;have HI:=ι hI;have HX:=ι hE;have Zz:=ι (ψ Ot (ψ Nd (ψ Mz (ψ Zb Zk))));clear hI hE Ot Nd Mz Zb Zk;have Jz:=ι (Jd.o.touch Zf.o (λh=>by have:=h.2;omega));have Yy:=ι (Xp.o.touch Zf.o (λh=>by have:=h.2;omega));have Ym:Hid (AO w2):=⟨(Yo.o.tab Nq HT.o).touch' Zf.o (λh=>Ze.o.1 h.1)⟩;have Eu:=ι (Qkw HX.o Ym.o Us.o.bk (base:=c.to) Ω);have z3:=Jz.o.cc 0;have Zv:=Yy.o.cc 2;have Zm:=Yy.o.cc 4;have Zt:=Yy.o.lt;have Eq:=Zf.o.size;gi_upto_region 10 with(refine⟨trivial,?_⟩;gi_at_call 191;refine(δ.2 (Eu.o)).mono ?_;rintro e w3 ⟨p,rfl,Mf,hP⟩;have Xx:=ι Mf;have Uu:=ι hP;clear Mf hP);clear z3 Zv Zm Zt;have Yb:=ι (Jz.o.gr Xx.o);have E:=ι (Yy.o.gr Xx.o);obtain⟨Vl,Iq,Lb,f,c0,c1,hF⟩:=Uu.o;have Eb:=ι (λ(W:World) (gW:Gr w3 W)=>SP ((gW.cell Vl 0).trans c0));have Oi:=ι (λ(W:World) (gW:Gr w3 W)=>ZY (hF.gr gW));obtain⟨N,hN⟩:∃N,N=sizes L:=⟨_,rfl⟩;have Jf:=ι hN;have hNb:N<=1048576:=by rw[hN];have:=FT HX.o.good;omega
  rw[<-hN]at Oi;have x3:=E.o.cc 3;have x2:=E.o.cc 2;have xl:=E.o.lt;have hpl:=Vl;clear Vl Iq Lb c0 c1 hF hN;by_cases Jt:c.lm-c.to<N
  ·exact absurd (hfit L HI.o) (by have:=Jf.o;omega)
  ·have d9:decide ((c.lm:Int)-(c.to:Int)<(N:Int))=false:=ζ Ω;have Ug:=ι Jt;clear Jt;obtain⟨Sx,Z,HS⟩:=AA.start λW'=>W'.cell? ⟨w.heap.size+1,3,none⟩=some (.int .i64 c.lm)/\W'.cell? ⟨w.heap.size+1,2,none⟩=some (.int .i64 c.to);have y1:=AA.fact Z λ_ h=>h.1;have y2:=AA.fact Z λ_ h=>h.2;have V:=HS.o (w3.drew) (⟨x3,x2⟩);have O:Inhabited (AA Sx):=⟨⟨_,V⟩⟩;clear Z;refine GX Sx 9 [([0,3,4,5,6,7],1),([],2)] [8] G3 V ?_;refine EL ?_;gi_wp2_with((refine⟨trivial,?_⟩;gi_at_call 192;refine(δ.2 (Eb.o _ (Gr.refl w3).drew)).mono ?_;rintro e w4 ⟨rfl,rfl⟩));refine⟨.inr (AA.of (HS.o _ (⟨x3,x2⟩))),?_⟩;refine EL ?_;gi_wp2_with((refine⟨trivial,?_⟩;gi_at_call 193;refine(δ.2 (Oi.o _ (Gr.refl w3).drew)).mono ?_;rintro e w4 ⟨rfl,rfl⟩));refine⟨.inr (AA.of (HS.o _ (⟨x3,x2⟩))),?_⟩;refine GM ?_;clear y1 y2 V O;clear HS Sx;clear x3 x2 xl;gi_upto_region 12 with(fail);obtain⟨nb,Vi⟩:∃nb,nb=nbl (sizes L) c.bk:=⟨_,rfl⟩;have Il:=ι Vi
   have hnbb:nb<=1048576:=by
    have:=Us.o.bk;have h1:=DD this;have h2:=LY (n:=sizes L) (B:=c.bk) Ω;have h3:=Jf.o;omega
   have Zn:=ι (λ(W:World) (gW:Gr w3 W)=>XU (Uu.o.gr gW));rw[<-Vi]at Zn;clear Vi;have HTW:Hid (∀(W:World),AB (λi=>w3.drew.heap.size<=i) w3.drew W->Gr w3 W):=⟨λW t=>(Gr.refl w3).drew.trans (t.mono (T:=λ_=>False) (λi hi h=>absurd hi (ξj h))).gr⟩;have x3:=Yb.o.cc 0;have No:=E.o.cc 0;have Oj:=E.o.cc 1;have Ng:=E.o.cc 2;have Nx:=E.o.cc 3;have Ia:=E.o.cc 4;have Ms:=E.o.cc 5;have Nt:=E.o.cc 6;obtain⟨Sx,Z⟩:∃Sx:World->Prop,Sx=λW'=>(W'.cell? ⟨w.heap.size,0,none⟩=some (pP q)/\W'.cell? ⟨w.heap.size+1,0,none⟩=some (.int .i64 c.fr))/\(W'.cell? ⟨w.heap.size+1,1,none⟩=some (.int .i64 c.tp)/\W'.cell? ⟨w.heap.size+1,2,none⟩=some (.int .i64 c.to))/\(W'.cell? ⟨w.heap.size+1,3,none⟩=some (.int .i64 c.lm)/\W'.cell? ⟨w.heap.size+1,4,none⟩=some (.int .i64 c.bk))/\W'.cell? ⟨w.heap.size+1,5,none⟩=some (.int .i64 c.st)/\W'.cell? ⟨w.heap.size+1,6,none⟩=some (.int .i64 c.ah):=⟨_,rfl⟩;have y3:∀p':AA Sx,p'.w.cell? ⟨w.heap.size,0,none⟩=some (pP q):=λp=>(AA.get Z p).1.1;have Iv:∀p':AA Sx,p'.w.cell? ⟨w.heap.size+1,0,none⟩=some (.int .i64 c.fr):=λp=>(AA.get Z p).1.2;have Iu:∀p':AA Sx,p'.w.cell? ⟨w.heap.size+1,1,none⟩=some (.int .i64 c.tp):=λp=>(AA.get Z p).2.1.1;have Ej:∀p':AA Sx,p'.w.cell? ⟨w.heap.size+1,2,none⟩=some (.int .i64 c.to):=λp=>(AA.get Z p).2.1.2;have Ee:∀p':AA Sx,p'.w.cell? ⟨w.heap.size+1,3,none⟩=some (.int .i64 c.lm):=λp=>(AA.get Z p).2.2.1.1;have Ij:∀p':AA Sx,p'.w.cell? ⟨w.heap.size+1,4,none⟩=some (.int .i64 c.bk):=λp=>(AA.get Z p).2.2.1.2;have Ld:∀p':AA Sx,p'.w.cell? ⟨w.heap.size+1,5,none⟩=some (.int .i64 c.st):=λp=>(AA.get Z p).2.2.2.1;have Lc:∀p':AA Sx,p'.w.cell? ⟨w.heap.size+1,6,none⟩=some (.int .i64 c.ah):=λp=>(AA.get Z p).2.2.2.2;have Ex:=ι Z
   have Ur:Hid (∀W,Gr w3 W->∃p:AA Sx,W=p.w):=⟨λW gW=>by
    have l3:=Yb.o.lt;have l5:=E.o.lt;refine AA.of ?_;rw[Ex.o]
    exact⟨⟨(gW.cell l3 0).trans x3,(gW.cell l5 0).trans No⟩,⟨(gW.cell l5 1).trans Oj,(gW.cell l5 2).trans Ng⟩,⟨(gW.cell l5 3).trans Nx,(gW.cell l5 4).trans Ia⟩,(gW.cell l5 5).trans Ms,(gW.cell l5 6).trans Nt⟩⟩
   have Yc:Hid (∀W,AB (λi=>w3.heap.size<=i) w3 W->∃p:AA Sx,W=p.w):=⟨λW tW=>Ur.o W ((tW.mono (T:=λ_=>False) (λi hi h=>absurd hi (ξj h))).gr)⟩;have Xf:Hid (∀W,AB (λi=>w3.heap.size<=i) w3 W->Gr w3 W):=⟨λW tW=>(tW.mono (T:=λ_=>False) (λi hi h=>absurd hi (ξj h))).gr⟩;obtain⟨i0,Ig,Iz,Or,Om⟩:=info_parts ZHF;have Es:Hid (i0.bytes*nb<=281474976710656):=⟨by rw[Om];omega⟩;have Eo:Hid (nb<=maxLen):=⟨by unfold maxLen;omega⟩;have Oa:Hid (nb*1<=16777216):=⟨by omega⟩;have V:Sx w3.drew:=by obtain⟨p,hp⟩:=Ur.o _ (Gr.refl w3).drew;rw[hp];exact p.h
   have O:Inhabited (AA Sx):=⟨⟨_,V⟩⟩;have Mt:Sx w3.drew.drew:=by obtain⟨p,hp⟩:=Ur.o _ ((Gr.refl w3).drew.drew);rw[hp];exact p.h
   clear Z x3 No Oj Ng Nx Ia Ms Nt;refine VMF Sx [0,1,2,3,4,7] #[true,true,true,true,true,false,false,true,false,false,false,false,false,false,false] [(5,[]),(6,[5]),(8,[5]),(9,[]),(10,[]),(11,[6,8,9,10]),(12,[11]),(13,[]),(14,[12,13])] (OpI w3 q p m nb c) G3 (by kernel_rfl) (by kernel_rfl) Mt ?_ ⟨?_,?_,?_,?_,?_,?_,?_,?_,?_,trivial⟩ ?_
   ·refine Vqh ?_;refine⟨pP q,.agg #[.int .i64 c.fr,.int .i64 c.tp,.int .i64 c.to,.int .i64 c.lm,.int .i64 c.bk,.int .i64 c.st,.int .i64 c.ah],pP p,pP m,pP p,undef,undef,pP p,undef,undef,undef,undef,undef,undef,by simp only[Act.put,ζj,ζv,ζq],?_⟩;refine⟨rfl,rfl,rfl,rfl,rfl,rfl,(λh=>by cases h),(λh=>by cases h),(λh=>by cases h),(λh=>by cases h),(λh=>by cases h),(λh=>by cases h),(λh=>by cases h),(λh=>by cases h),(λh=>by cases h),(λh=>by cases h),?_⟩;exact((Gr.refl w3).drew.drew).touch _
   ·rintro D a W ⟨Xe,Xc,Xh,Xi,Xa,Xj,Xo,G,Xn,Xm,Xl,Xg,Xk,Xd,rfl,hJ⟩ I hk hd;clear I;simp only[AG,ν,π,Act.put,ζj,ζv,ζq];have HJ:=ι hJ;have HK:=ι hk;have HD:=ι hd;have Xq:=ι (Xf.o W hJ.t);obtain rfl:=hJ.e59;clear hJ hk hd;gi_wp2_with(refine⟨trivial,?_⟩;gi_at_call 194;refine(δ.2 (Zn.o W Xq.o)).mono ?_;rintro e w4 ⟨rfl,Xb⟩);refine⟨Yc.o _ ?_,Xe,Xc,Xh,Xi,pP p,.int .i64 nb,Xo,G,Xn,Xm,Xl,Xg,Xk,Xd,by simp only[Act.put,ζj,ζv,ζq],?_⟩
    ·exact HJ.o.t.trans (Xb.touch _)
    ·have Y:=HJ.o.gr Xb;have hk:=HK.o;have hd:=HD.o;exact⟨Y.e55,Y.e56,Y.e57,Y.e58,Y.e59,Y.e62,(λ_=>rfl),Y.e61,Y.e63,Y.e64,Y.e65,Y.ne,Y.e66,Y.e67,Y.e13,Y.d14,Y.t⟩
   ·rintro D a W ⟨Xe,Xc,Xh,Xi,Xa,Xj,Xo,G,Xn,Xm,Xl,Xg,Xk,Xd,rfl,hJ⟩ I hk hd;clear I;simp only[AG,ν,π,Act.put,ζj,ζv,ζq];have HJ:=ι hJ;have HK:=ι hk;have HD:=ι hd;have Xq:=ι (Xf.o W hJ.t);obtain rfl:=hJ.e60 (hd 5 (by simp));clear hJ hk hd;gi_wp2_with(gi_at_make;refine V63 _ rfl _ _ 198 rfl 0 4 i0 (.bool false) 1 underlying198 Ig Iz Or .i64 .i64 nb rfl rfl Oa.o Es.o Eo.o (ζf _) ?_;intro w4 Ja Jb);have Xb:Gr W w4:=(KD Jb (λ_=>False) (λk e _=>by cases e)).gr;rw[show (Value.bool false).cells=#[.bool false]from rfl,J0U,ξA]at Ja;have Lf:=ι Ja;clear Ja Jb;gi_wp2;refine⟨Yc.o _ ?_,Xe,Xc,Xh,Xi,Xa,.int .i64 nb,.slice (some ⟨W.heap.size,0,none⟩) nb nb,G,Xn,Xm,Xl,Xg,Xk,Xd,by simp only[Act.put,ζj,ζv,ζq],?_⟩
    ·exact HJ.o.t.trans (Xb.touch _)
    ·have Y:=HJ.o.gr Xb;have hk:=HK.o;have hd:=HD.o;exact⟨Y.e55,Y.e56,Y.e57,Y.e58,Y.e59,Y.e62,Y.e60,(λ_=>⟨W.heap.size,rfl,Lf.o,Xq.o.size⟩),Y.e63,Y.e64,Y.e65,Y.ne,(λd=>by have h:=(HJ.o.e66 d).1;rw[hk]at h;cases h),(λd=>by have h:=(HJ.o.e66 (HJ.o.e67 d).1).1;rw[hk]at h;cases h),Y.e13,Y.d14,Y.t⟩
   ·rintro D a W ⟨Xe,Xc,Xh,Xi,Xa,Xj,Xo,G,Xn,Xm,Xl,Xg,Xk,Xd,rfl,hJ⟩ I hk hd;clear I;simp only[AG,ν,π,Act.put,ζj,ζv,ζq];have HJ:=ι hJ;have HK:=ι hk;have HD:=ι hd;have Xq:=ι (Xf.o W hJ.t);obtain rfl:=hJ.e62;clear hJ hk hd;gi_wp2_with(refine⟨trivial,?_⟩;gi_at_call 194;refine(δ.2 (Zn.o W Xq.o)).mono ?_;rintro e w4 ⟨rfl,Xb⟩);refine⟨Yc.o _ ?_,Xe,Xc,Xh,Xi,Xa,Xj,Xo,pP p,.int .i64 nb,Xm,Xl,Xg,Xk,Xd,by simp only[Act.put,ζj,ζv,ζq],?_⟩
    ·exact HJ.o.t.trans (Xb.touch _)
    ·have Y:=HJ.o.gr Xb;have hk:=HK.o;have hd:=HD.o;exact⟨Y.e55,Y.e56,Y.e57,Y.e58,Y.e59,Y.e62,Y.e60,Y.e61,(λ_=>rfl),Y.e64,Y.e65,Y.ne,(λd=>by have h:=(HJ.o.e66 d).2.1;rw[hk]at h;cases h),(λd=>by have h:=(HJ.o.e66 (HJ.o.e67 d).1).2.1;rw[hk]at h;cases h),Y.e13,Y.d14,Y.t⟩
   ·rintro D a W ⟨Xe,Xc,Xh,Xi,Xa,Xj,Xo,G,Xn,Xm,Xl,Xg,Xk,Xd,rfl,hJ⟩ I hk hd;clear I;simp only[AG,ν,π,Act.put,ζj,ζv,ζq];have HJ:=ι hJ;have HK:=ι hk;have HD:=ι hd;have Xq:=ι (Xf.o W hJ.t);clear hJ hk hd;refine Ya9 W rfl _ rfl ?_;gi_wp2;have Xb:Gr W (W.alloc (.map #[] 0)):=(Gr.refl W).alloc _;refine⟨Yc.o _ ?_,Xe,Xc,Xh,Xi,Xa,Xj,Xo,G,Xn,.map (some W.heap.size),Xl,Xg,Xk,Xd,by simp only[Act.put,ζj,ζv,ζq],?_⟩
    ·exact HJ.o.t.trans (Xb.touch _)
    ·have Y:=HJ.o.gr Xb;have hk:=HK.o;have hd:=HD.o;exact⟨Y.e55,Y.e56,Y.e57,Y.e58,Y.e59,Y.e62,Y.e60,Y.e61,Y.e63,(λ_=>⟨W.heap.size,rfl,BH.made W,Xq.o.size⟩),Y.e65,(λ_ d e=>by obtain⟨b,h1,h2,-⟩:=HJ.o.e65 d;rw[h1]at e;have:=h2.lt;simp only[Value.map.injEq,Option.some.injEq]at e;omega),(λd=>by have h:=(HJ.o.e66 d).2.2.1;rw[hk]at h;cases h),(λd=>by have h:=(HJ.o.e66 (HJ.o.e67 d).1).2.2.1;rw[hk]at h;cases h),Y.e13,Y.d14,Y.t⟩
   ·rintro D a W ⟨Xe,Xc,Xh,Xi,Xa,Xj,Xo,G,Xn,Xm,Xl,Xg,Xk,Xd,rfl,hJ⟩ I hk hd;clear I;simp only[AG,ν,π,Act.put,ζj,ζv,ζq];have HJ:=ι hJ;have HK:=ι hk;have HD:=ι hd;have Xq:=ι (Xf.o W hJ.t);clear hJ hk hd;refine Ya9 W rfl _ rfl ?_;gi_wp2;have Xb:Gr W (W.alloc (.map #[] 0)):=(Gr.refl W).alloc _;refine⟨Yc.o _ ?_,Xe,Xc,Xh,Xi,Xa,Xj,Xo,G,Xn,Xm,.map (some W.heap.size),Xg,Xk,Xd,by simp only[Act.put,ζj,ζv,ζq],?_⟩
    ·exact HJ.o.t.trans (Xb.touch _)
    ·have Y:=HJ.o.gr Xb;have hk:=HK.o;have hd:=HD.o;exact⟨Y.e55,Y.e56,Y.e57,Y.e58,Y.e59,Y.e62,Y.e60,Y.e61,Y.e63,Y.e64,(λ_=>⟨W.heap.size,rfl,BH.made W,Xq.o.size⟩),(λd _ e=>by obtain⟨b,h1,h2,-⟩:=HJ.o.e64 d;rw[h1]at e;have:=h2.lt;simp only[Value.map.injEq,Option.some.injEq]at e;omega),(λd=>by have h:=(HJ.o.e66 d).2.2.2.1;rw[hk]at h;cases h),(λd=>by have h:=(HJ.o.e66 (HJ.o.e67 d).1).2.2.2.1;rw[hk]at h;cases h),Y.e13,Y.d14,Y.t⟩
   ·rintro D a W ⟨Xe,Xc,Xh,Xi,Xa,Xj,Xo,G,Xn,Xm,Xl,Xg,Xk,Xd,rfl,hJ⟩ I hk hd;clear I;simp only[AG,ν,π,Act.put,ζj,ζv,ζq];have HJ:=ι hJ;have HK:=ι hk;have HD:=ι hd;have Xq:=ι (Xf.o W hJ.t);obtain rfl:=hJ.e56;obtain rfl:=hJ.e55;obtain rfl:=hJ.e57;obtain rfl:=hJ.e58;obtain rfl:=hJ.e63 (hd 8 (by simp));obtain⟨Yd,rfl,-,-⟩:=hJ.e61 (hd 6 (by simp));obtain⟨J,rfl,-,-⟩:=hJ.e64 (hd 9 (by simp));obtain⟨U,rfl,-,-⟩:=hJ.e65 (hd 10 (by simp));clear hJ hk hd;gi_wp2;have Xb:Gr W W:=Gr.refl W;refine⟨Yc.o _ ?_,pP q,.agg #[.int .i64 c.fr,.int .i64 c.tp,.int .i64 c.to,.int .i64 c.lm,.int .i64 c.bk,.int .i64 c.st,.int .i64 c.ah],pP p,pP m,Xa,Xj,.slice (some ⟨Yd,0,none⟩) nb nb,G,.int .i64 nb,.map (some J),.map (some U),.agg #[pP q,.int .i64 c.fr,.int .i64 c.tp,.int .i64 c.to,.int .i64 c.lm,.int .i64 c.bk,.int .i64 c.st,.int .i64 c.ah,pP p,pP m,.slice (some ⟨Yd,0,none⟩) nb nb,.int .i64 nb,.int .i64 0,.int .i64 0,.map (some J),.map (some U)],Xk,Xd,by simp only[Act.put,ζj,ζv,ζq],?_⟩
    ·exact HJ.o.t.trans (Xb.touch _)
    ·have Y:=HJ.o.gr Xb;have hk:=HK.o;have hd:=HD.o;exact⟨Y.e55,Y.e56,Y.e57,Y.e58,Y.e59,Y.e62,Y.e60,Y.e61,Y.e63,Y.e64,Y.e65,Y.ne,(λ_=>⟨hd 6 (by simp),hd 8 (by simp),hd 9 (by simp),hd 10 (by simp),rfl⟩),(λd=>by have h:=(HJ.o.e67 d).1;rw[hk]at h;cases h),Y.e13,Y.d14,Y.t⟩
   ·rintro D a W ⟨Xe,Xc,Xh,Xi,Xa,Xj,Xo,G,Xn,Xm,Xl,Xg,Xk,Xd,rfl,hJ⟩ I hk hd;clear I;simp only[AG,ν,π,Act.put,ζj,ζv,ζq];have HJ:=ι hJ;have HK:=ι hk;have HD:=ι hd;have Xq:=ι (Xf.o W hJ.t);obtain⟨d6,d8,Ok,My,rfl⟩:=hJ.e66 (hd 11 (by simp));obtain rfl:=hJ.e56;obtain rfl:=hJ.e55;obtain rfl:=hJ.e57;obtain rfl:=hJ.e58;obtain rfl:=hJ.e63 d8;obtain⟨Yd,rfl,-,-⟩:=hJ.e61 d6;obtain⟨J,rfl,-,-⟩:=hJ.e64 Ok;obtain⟨U,rfl,-,-⟩:=hJ.e65 My;have Vv:=ι (Rec.new W 201 [pP q,.int .i64 c.fr,.int .i64 c.tp,.int .i64 c.to,.int .i64 c.lm,.int .i64 c.bk,.int .i64 c.st,.int .i64 c.ah,pP p,pP m,.slice (some ⟨Yd,0,none⟩) nb nb,.int .i64 nb,.int .i64 0,.int .i64 0,.map (some J),.map (some U)]);have Zu:=ι ((Gr.refl W).alloc (.cells #[.pointer (some ⟨q,0,none⟩),.int .i64 c.fr,.int .i64 c.tp,.int .i64 c.to,.int .i64 c.lm,.int .i64 c.bk,.int .i64 c.st,.int .i64 c.ah,.pointer (some ⟨p,0,none⟩),.pointer (some ⟨m,0,none⟩),.slice (some ⟨Yd,0,none⟩) nb nb,.int .i64 nb,.int .i64 0,.int .i64 0,.map (some J),.map (some U)] 201));clear d6 d8 Ok My;clear hJ hk hd;gi_wp2;refine⟨Yc.o _ ?_,pP q,.agg #[.int .i64 c.fr,.int .i64 c.tp,.int .i64 c.to,.int .i64 c.lm,.int .i64 c.bk,.int .i64 c.st,.int .i64 c.ah],pP p,pP m,Xa,Xj,.slice (some ⟨Yd,0,none⟩) nb nb,G,.int .i64 nb,.map (some J),.map (some U),.agg #[pP q,.int .i64 c.fr,.int .i64 c.tp,.int .i64 c.to,.int .i64 c.lm,.int .i64 c.bk,.int .i64 c.st,.int .i64 c.ah,pP p,pP m,.slice (some ⟨Yd,0,none⟩) nb nb,.int .i64 nb,.int .i64 0,.int .i64 0,.map (some J),.map (some U)],pP W.heap.size,Xd,by simp only[Act.put,ζj,ζv,ζq],?_⟩
    ·exact HJ.o.t.trans (Zu.o.touch _)
    ·have Y:=HJ.o.gr Zu.o;have hk:=HK.o;have hd:=HD.o;exact⟨Y.e55,Y.e56,Y.e57,Y.e58,Y.e59,Y.e62,Y.e60,Y.e61,Y.e63,Y.e64,Y.e65,Y.ne,Y.e66,(λ_=>⟨hd 11 (by simp),W.heap.size,rfl,Xq.o.size,Vv.o⟩),(λd=>by obtain⟨b,h1,h2,h3⟩:=Y.e13 d;refine⟨b,h1,h2,?_⟩;cases h14:D 14 with|true=>(have:=(HJ.o.d14 h14).1;rw[hk]at this;cases this)|false=>(have e:upD D 12 14=false:=h14;rw[h14]at h3;rw[e];exact h3)),(λd=>⟨rfl,(Y.d14 d).2⟩),Y.t⟩
   ·rintro D a W ⟨Xe,Xc,Xh,Xi,Xa,Xj,Xo,G,Xn,Xm,Xl,Xg,Xk,Xd,rfl,hJ⟩ I hk hd;clear I;simp only[AG,ν,π,Act.put,ζj,ζv,ζq];have HJ:=ι hJ;have HK:=ι hk;have HD:=ι hd;have Xq:=ι (Xf.o W hJ.t);have Vv:=ι (Rec.new W 94 [.pointer none]);have Zu:=ι ((Gr.refl W).alloc (.cells #[.pointer none] 94));clear hJ hk hd;gi_wp2;refine⟨Yc.o _ ?_,Xe,Xc,Xh,Xi,Xa,Xj,Xo,G,Xn,Xm,Xl,Xg,Xk,pP W.heap.size,by simp only[Act.put,ζj,ζv,ζq],?_⟩
    ·exact HJ.o.t.trans (Zu.o.touch _)
    ·have Y:=HJ.o.gr Zu.o;have hk:=HK.o;have hd:=HD.o;exact⟨Y.e55,Y.e56,Y.e57,Y.e58,Y.e59,Y.e62,Y.e60,Y.e61,Y.e63,Y.e64,Y.e65,Y.ne,Y.e66,Y.e67,(λ_=>⟨W.heap.size,rfl,Xq.o.size,by cases h14:D 14 with|true=>(have:=(HJ.o.d14 h14).2;rw[hk]at this;cases this)|false=>(have e:upD D 13 14=false:=h14;rw[e];exact Vv.o)⟩),(λd=>⟨(Y.d14 d).1,rfl⟩),Y.t⟩
   ·rintro D a W ⟨Xe,Xc,Xh,Xi,Xa,Xj,Xo,G,Xn,Xm,Xl,Xg,Xk,Xd,rfl,hJ⟩ I hk hd;clear I;simp only[AG,ν,π,Act.put,ζj,ζv,ζq];have HJ:=ι hJ;have HK:=ι hk;have HD:=ι hd;obtain⟨Yr,rfl,Js,Ya⟩:=hJ.e13 (hd 13 (by simp));obtain⟨El,Ji,rfl,Nh,Nm⟩:=hJ.e67 (hd 12 (by simp));have Yi:=ι Ya;rw[hk]at Ya;have q0:=Ya.cc 0;have qf:=Ya.free 0;have ql:=Ya.lt;have Uc:=ι Js;clear hJ hk hd Ya Nm El Nh Js;gi_wp2;have tS:AB (λi=>i=Yr) W (W.setCell ⟨Yr,0,none⟩ (.pointer (some ⟨Ji,0,none⟩))):=(AB.refl (λi=>i=Yr) W).setCell (a:=⟨Yr,0,none⟩) (λ_=>rfl) _;have Le:=Yi.o.set 0 (pP Ji);have tT:AB (λi=>w3.heap.size<=i) w3 (W.setCell ⟨Yr,0,none⟩ (.pointer (some ⟨Ji,0,none⟩))):=HJ.o.t.trans (tS.mono (λi _ h=>by rw[h];exact Uc.o));have hJ:=HJ.o;refine⟨Yc.o _ tT,Xe,Xc,Xh,Xi,Xa,Xj,Xo,G,Xn,Xm,Xl,Xg,pP Ji,pP Yr,by simp only[Act.put,ζj,ζv,ζq],?_⟩;exact⟨hJ.e55,hJ.e56,hJ.e57,hJ.e58,hJ.e59,hJ.e62,hJ.e60,(λd=>by obtain⟨b,h1,h2,h3⟩:=hJ.e61 d;exact⟨b,h1,BX h2 tS (λg' hg=>by rw[h1]at hg;cases hg;exact AQ (by rw[h1]at h2;exact h2) Yi.o (by decide) rfl rfl),h3⟩),hJ.e63,(λd=>by obtain⟨b,h1,h2,h3⟩:=hJ.e64 d;exact⟨b,h1,h2.touch tS (h2.ne (IP Yi.o)),h3⟩),(λd=>by obtain⟨b,h1,h2,h3⟩:=hJ.e65 d;exact⟨b,h1,h2.touch tS (h2.ne (IP Yi.o)),h3⟩),hJ.ne,hJ.e66,(λd=>by obtain⟨h0,b,h1,h2,h3⟩:=hJ.e67 d;exact⟨h0,b,h1,h2,h3.touch tS (AQ h3 Yi.o (by decide) rfl rfl)⟩),(λ_=>⟨Yr,rfl,Uc.o,Le⟩),(λ_=>⟨HD.o 12 (by simp),HD.o 13 (by simp)⟩),tT⟩
   ·rintro D a W ⟨Xe,Xc,Xh,Xi,Xa,Xj,Xo,G,Xn,Xm,Xl,Xg,Xk,Xd,rfl,hJ⟩ I Uf;clear I;have M:∀j,j<15->D j=true:=Uf;obtain⟨Yd,rfl,Ul,Uh⟩:=hJ.e61 (M 6 Ω);obtain rfl:=hJ.e60 (M 5 Ω);obtain rfl:=hJ.e63 (M 8 Ω);obtain⟨J,rfl,Ui,Jr⟩:=hJ.e64 (M 9 Ω);obtain⟨U,rfl,Ua,Jx⟩:=hJ.e65 (M 10 Ω);obtain⟨-,-,-,-,rfl⟩:=hJ.e66 (M 11 Ω);obtain⟨-,y,rfl,On,Id⟩:=hJ.e67 (M 12 Ω);obtain⟨bx,rfl,Ou,Vr⟩:=hJ.e13 (M 13 Ω);rw[M 14 Ω]at Vr;obtain rfl:=hJ.e55;obtain rfl:=hJ.e56;obtain rfl:=hJ.e57;obtain rfl:=hJ.e58;obtain rfl:=hJ.e59;obtain rfl:=hJ.e62;have Jy:J≠U:=λe=>hJ.ne (M 9 Ω) (M 10 Ω) (by rw[e]);have Jk:=ι hJ.t;have Oe:=ι Ul;have Yk:=ι Ui;have Yg:=ι Ua;have Zr:=ι Id;have Yp:=ι Vr;have Em:=ι (ψ Uh (ψ Jr (ψ Jx (ψ On (ψ Ou Jy)))));clear hJ Uf M Ul Uh Ui Jr Ua Jx On Id Ou Vr Jy;refine ζI ?_;simp only[Act.put,ζj,ζv,ζq];clear y3 Iv Iu Ej Ee Ij Ld Lc V O Mt;have hzW:=Jk.o.size;have HG3W:Hid (Gr w3 W):=⟨Xf.o W Jk.o⟩;have Vz:=Yp.o.cc 0;have Ut:=Yp.o.lt;gi_wp2_with(refine⟨trivial,?_⟩;gi_at_call 160;refine(δ.2 (KJ (some ⟨m,0,none⟩))).mono ?_;rintro e w5 ⟨rfl,rfl⟩);obtain⟨W5,Zo⟩:∃W5,W5=W.alloc (.cells #[.pointer (some ⟨m,0,none⟩)] 120):=⟨_,rfl⟩;have Xt:Gr W W5:=by rw[Zo];exact(Gr.refl W).alloc _
    have hs5:W5.heap.size=W.heap.size+1:=by rw[Zo,γ]
    have k5:W5.cell? ⟨W.heap.size,0,none⟩=some (pP m):=by rw[Zo];exact(Boxed.new W 120 (pP m)).cell
    rw[<-Zo];clear Zo Vz Ut;obtain⟨Eg,Ih,Er,gy,gx,Vq⟩:=Em.o;have l64:=Yk.o.lt;have l65:=Yg.o.lt;have ly:=Zr.o.lt;have lx:=Yp.o.lt;have n64y:=Yk.o.ne (IP Zr.o);have n65y:=Yg.o.ne (IP Zr.o);have n64x:=Yk.o.ne (IP Yp.o);have n65x:=Yg.o.ne (IP Yp.o);have hml:=HX.o.hm;have hp1l:=HX.o.v1.hp;have hb1l:=HX.o.v1.hb;have hp2l:=HX.o.v2.hp;have hb2l:=HX.o.v2.hb;have hz3:=Xx.o.size;obtain⟨s,Zq⟩:∃s,s=AZ v c L:=⟨_,rfl⟩;have Vc:s.L=L:=by rw[Zq];rfl
    have Jo:s.pg=v.pl.pg:=by rw[Zq];rfl
    have Vu:s.n=v.n:=by rw[Zq];rfl
    have Zd:=ι (ψ Vc (ψ Jo (ψ Vu Zq)));have Oz:Hid (AP s.n s.L):=⟨by rw[Vu,Vc];exact HX.o.good⟩;have Ek:=ι (Ix.o.gr Xx.o);have Ys:Hid (∀A,AB (λi=>(i=J\/i=U)\/W5.heap.size<=i) W5 A->AB (λi=>w3.heap.size<=i) w3 A):=⟨λA t=>(Jk.o.trans (Xt.touch _)).trans (t.mono (λi _ h=>by omega))⟩
    have HK:Hid (∀A,AB (λi=>(i=J\/i=U)\/W5.heap.size<=i) W5 A->((A.cell? ⟨bx,0,none⟩=some (pP y)/\A.cell? ⟨y,14,none⟩=some (.map (some J)))/\A.cell? ⟨y,15,none⟩=some (.map (some U))/\A.cell? ⟨w.heap.size,0,none⟩=some (pP q))):=⟨λA t=>by
     have r1:=(Yp.o.gr Xt).touch t Ω;have r2:=(Zr.o.gr Xt).touch t Ω;have g3:=Xf.o A (Ys.o A t)
     exact⟨⟨r1.cc 0,r2.cc 14⟩,r2.cc 15,(g3.cell Yb.o.lt 0).trans (Yb.o.cc 0)⟩⟩
    have Ve:Hid (∀A,AB (λi=>(i=J\/i=U)\/W5.heap.size<=i) W5 A->AD A (AC (AC S w) w1) q v):=⟨λA t=>Ek.o.gr (Xf.o A (Ys.o A t))⟩
    have Nn:Hid (∀A,AB (λi=>(i=J\/i=U)\/W5.heap.size<=i) W5 A->Ext A m p1 b1 p2 b2 v.n L/\AO A):=⟨λA t=>by
     have g3:=Xf.o A (Ys.o A t)
     exact⟨(HX.o.gr Xx.o).gr g3,g3.tab (Xx.o.tab Ym.o.lt Ym.o).lt (Xx.o.tab Ym.o.lt Ym.o)⟩⟩
    have Ed:Hid (OpA W5 W5 J U v s 0 0):=⟨OpA.zero (Yk.o.gr Xt) (Yg.o.gr Xt)⟩;have Yl:Hid (J<W5.heap.size/\U<W5.heap.size/\J≠U):=⟨by omega⟩;have HZ0:Hid (sizes (L.take 0)=0):=⟨rfl⟩;have Ir:=ι k5;have hwl:w.heap.size<w3.heap.size:=Yb.o.lt;clear Zq Vc Jo Vu k5
    refine L3 (K:=4) (s0:=0) rfl Ω (gf:=213) (lb:=#[pP W.heap.size]) rfl trivial (enters_of func213 (by kernel_rfl) rfl)
     (PC _ W.heap.size m p1 b1 p2 b2 v.n L _) (λ_=>rfl)
     (λ(j:Nat) A=>j<=L.length/\OpA W5 A J U v s j (sizes (L.take j))) (λ_ _=>False) (λj A B h t=>⟨h.1,h.2.win Yl.o.1 Yl.o.2.1 t⟩) (λ_ _ _ h _=>h)
     (λj A h=>⟨(Nn.o A h.2.t).1,(Nn.o A h.2.t).2,(h.2.t.cell Ω Ω 0).trans Ir.o,h.1⟩)
     ⟨ζf _,Ed.o⟩ ?round ?done (λ_ _ _ _ h _=>h.elim)
    case round=>
     intro lp j x W6 Mx Ew Yq;dsimp only[GO];gi_wp2;refine⟨Gr.refl _,λW7 ht7 Zc=>?_⟩
     have Xy:j<L.length:=by
      rcases υ j L.length with h|h
      ·exact h
      ·unfold ER at Yq;rw[ζN h]at Yq;cases Yq
     obtain rfl:x=L[j]:=by unfold ER at Yq;rw[η Xy]at Yq;exact(Option.some.inj Yq).symm
     obtain⟨Mh,Zp,-⟩:=HI.o.1.mkd.ats _ (μ Xy);obtain⟨-,-,In,Ep,Ei,Uq,Eh⟩:=F3 Zp;have Yj:=ι Zc.2;have Uv:=(HX.o.good.sz _ (μ Xy)).2;have Xw:=ι (FD Xy);have Nu:j<s.L.length:=by rw[Zd.o.1];exact Xy
     have Ef:=ι Nu;have Mg:s.L[j]=L[j]:=by simp only[Zd.o.1]
     have Yv:Hid (∀t,t<L[j].2->AH s.L (sizes (L.take j)+t)=L[j].1+t/\sizes (L.take j)+t<sizes s.L):=⟨λt ht=>by
      have h1:=JX Xy;rw[Zd.o.1]
      exact⟨YZF Xy ht,by omega⟩⟩
     obtain⟨n5,f5,Zk,Od,Ns⟩:=Zc.2.sh;have Lh:=ι Zk;have Oy:=ι (ψ Od Ns);have Zx:∀B,BH prog 3 B U (n5+1) (λy=>if y=((L[j].1:Nat):Int)then some (AM (v.rdH (L[j].1:Nat)))else f5 y)->AB (λi=>i=U) W7 B->OpA W5 B J U v s (j+1) (sizes (L.take j)):=λB hm t=>Yj.o.hdr Ef.o Yl.o.2.2 Oy.o.1 Oy.o.2 Oz.o (by rw[Mg];exact hm) t;rw[Uq]at Zx;have Zy:=ι Zx;have Zj:=ι (λ(W:World) (gW:Gr W7 W)=>PS ((Ve.o W7 Yj.o.t).gr gW) ((L[j].1:Nat):Int));rw[Zp,Uq]at Zj;unfold AM at Zj;unfold spV at Zj
     have hn5b:n5<=1048576:=by
      have h2:=FT HX.o.good;have h4:=Y0x HX.o.good;omega
     have Mw:Hid (n5<maxLen):=⟨by unfold maxLen;omega⟩;have Zl:Hid (sizes (L.take j)+L[j].2<=1048576):=⟨by have h1:=JX Xy;have h2:=FT HX.o.good;omega⟩;obtain⟨sa,Vf⟩:∃sa,sa=L[j].1:=⟨_,rfl⟩;obtain⟨sz,Jg⟩:∃sz,sz=L[j].2:=⟨_,rfl⟩;obtain⟨mm,Vh⟩:∃mm,mm=sizes (L.take j):=⟨_,rfl⟩;have HSA:=ι (ψ Vf (ψ Jg Vh));rw[<-Vf]at Zj Yv Zy Uv⊢;rw[<-Jg]at Yv Uv Xw Zl⊢;rw[<-Vh]at Yv Zy Xw Zl Yj;have Ml:Hid ((Lit.int .i64 (sa:Int)).wf=true):=⟨WalkArith.wf_i64 Ω⟩;have Ne:=ι (ψ Mx ht7.size);have HJL:=ι Xy;have hsab:sa+sz<=524288:=Ω
     clear Ew Zc Yq ht7 Vf Jg Vh Nu Mg Mh Zp Uq Eh Zk Od Ns Zx Uv;have kk:=HK.o _ Yj.o.t;have k1:=kk.1.1;have k3:=kk.2.1;have k4:=kk.2.2;clear kk
     have Ow:Hid (∀W',Gr W7 W'->W'.cell? ⟨bx,0,none⟩=some (pP y)/\W'.cell? ⟨y,15,none⟩=some (.map (some U))/\W'.cell? ⟨w.heap.size,0,none⟩=some (pP q)):=⟨λW' gW=>by
      have h:=HK.o W' (Yj.o.t.trans (gW.touch _))
      exact⟨h.1.1,h.2⟩⟩
     gi_upto_region 16 with(fail);obtain⟨Sx,Z,HS⟩:=AA.start λW'=>W'.cell? ⟨bx,0,none⟩=some (pP y)/\W'.cell? ⟨y,15,none⟩=some (.map (some U))/\W'.cell? ⟨w.heap.size,0,none⟩=some (pP q);have y1:=AA.fact Z λ_ h=>h.1;have y2:=AA.fact Z λ_ h=>h.2.1;have y3:=AA.fact Z λ_ h=>h.2.2;have V:=HS.o (W7.drew) (Ow.o _ (Gr.refl W7).drew);have O:Inhabited (AA Sx):=⟨⟨_,V⟩⟩;clear Z;refine GX Sx 13 [([0,1,2,3,4,5,6,7],8),([9,10,11],12)] [] (λ_=>trivial) V ?_;refine EL ?_;gi_wp2_with((refine⟨trivial,?_⟩;gi_at_call 93;refine(CallsIn.inRound lp (δ.2 (Zj.o _ (Gr.refl W7).drew))).mono ?_;rintro e w8 ⟨rfl,Ni⟩;have Zi:=ι ((Gr.refl W7).drew.trans Ni);clear Ni));refine⟨.inr (AA.of (HS.o _ (Ow.o _ Zi.o))),?_⟩;refine EL ?_;gi_wp2_with((gi_at_mapUpdate;refine Y7w _ rfl _ _ _ 199 rfl 3 64 JK underlying199 underlying3 U n5 f5 rfl (Lh.o.gr Zi.o) Mw.o (sa:Int) (.agg #[.int .i64 In,.int .i64 Ep,.int .i64 Ei]) rfl rfl Ml.o ?_;intro w9 Mm Mi;have Is:=ι Mm;have Vd:=ι Mi;clear Mm Mi));refine⟨.inr (AA.of (HS.o _ ((by have h:=HK.o w9 (Yj.o.t.trans ((Zi.o.touch _).trans (Vd.o.mono (λi _ h=>.inl (.inr h)))));exact⟨h.1.1,h.2⟩)))),?_⟩;refine GM ?_;clear y1 y2 y3 V O;clear HS Sx;clear k1 k3 k4;have La:Hid (OpA W5 w9 J U v s (j+1) (mm+0)):=⟨Zy.o w9 Is.o ((Zi.o.touch _).trans Vd.o)⟩;have Ol:Hid (AB (λi=>i=J\/i=U) W7 w9):=⟨(Zi.o.touch _).trans (Vd.o.mono (λi _ h=>.inr h))⟩;gi_wp2
     gi_loopw [16] (λs16 wr=>∃t A:Nat,t<=sz/\Hid (A=sa+t)/\Hid (OpA W5 wr J U v s (j+1) (mm+t))/\Hid (AB (λi=>i=J\/i=U) W7 wr)/\s16=.int .i64 A) (λs16 _=>sa+sz-(intOf s16).toNat)
     case atStart=>exact⟨0,sa,ζf _,⟨rfl⟩,La,Ol,rfl⟩
     case round=>
      obtain⟨t,A,ht,Zg,HA,Mr,rfl⟩:=hrel;by_cases Xs:t<sz
      ·have Ye:=ι Xs;have Li:(A:Int)<(sa:Int)+(sz:Int):=by have:=Zg.o;omega
       have Ii:A<=1048576:=by have:=Zg.o;omega
       obtain⟨e1,e2⟩:=Yv.o t Xs;obtain⟨n4,f4,Zb,Mv,Vs⟩:=HA.o.wd;have Mu:=ι (λ(W:World) (gW:Gr wr W)=>I0 ((Ve.o wr HA.o.t).gr gW));obtain⟨pg,Xu⟩:∃pg,pg=v.pl.pg:=⟨_,rfl⟩;rw[<-Xu]at Mu Me;obtain⟨Q,hQ⟩:∃Q,Q=A/pg:=⟨_,rfl⟩;have g1:((A:Int).tdiv (pg:Int))=(Q:Int):=by rw[hQ];rfl
       have g2:((A:Int)/(pg:Int))=(Q:Int):=by rw[hQ];rfl
       have Mc:(pg:Int)≠0:=Ω
       have hQb:Q<=1048576:=by rw[hQ];exact β (ζ8 _ _) Ii
       have Uz:AH s.L (mm+t)/s.pg=Q:=by rw[e1,hQ,Zg.o,Xu,Zd.o.2.1]
       obtain⟨N1,Yn⟩:∃N1,N1=s.on (λi=>decide (i<mm+t)) Q:=⟨_,rfl⟩
       have hN1b:N1<=1048576:=by
        rw[Yn];have h1:=s.on_le (λi=>decide (i<mm+t)) Q;have h2:=FT Oz.o;have h3:=Zd.o.2.2.1;omega
       have Uy:Hid (∀W',Gr wr W'->(Instr.lookup 148 (.map (some J)) (.int .i64 Q) false).run prog W'=.ok (.int .i64 N1) W'):=⟨λW' gW=>by
        rw[(Zb.gr gW).look JK underlying148 underlying3 (XW W') (WalkArith.wf_i64 Ω),Vs Q,Yn]⟩
       have Ov:Hid (∀B,BH prog 3 B J (n4+1) (λy=>if y=(Q:Int)then some (.int .i64 ((N1+1:Nat):Int))else f4 y)->AB (λi=>i=J) wr B->OpA W5 B J U v s (j+1) (mm+(t+1))):=⟨λB hmB tB=>by
        have:=HA.o.word e2 Yl.o.2.2 Mv Vs (x:=N1+1) (B:=B) (by rw[Uz,Yn]) (by rw[Uz];exact hmB) tB
        rw[<-ξF];exact this⟩
       have Im:=ι Zb;have Oq:Hid (n4<maxLen):=⟨by have:=Zl.o;unfold maxLen;omega⟩;have Ox:Hid ((Lit.int .i64 (Q:Int)).wf=true):=⟨WalkArith.wf_i64 Ω⟩;have Iw:(N1:Int)+1=((N1+1:Nat):Int):=by push_cast;rfl
       obtain⟨N2,Jq⟩:∃N2,N2=N1+1:=⟨_,rfl⟩;rw[<-Jq]at Iw Ov
       have Mo:Hid (∀W',Gr wr W'->(W'.cell? ⟨bx,0,none⟩=some (pP y)/\W'.cell? ⟨y,14,none⟩=some (.map (some J)))/\W'.cell? ⟨w.heap.size,0,none⟩=some (pP q)/\(Instr.lookup 148 (.map (some J)) (.int .i64 Q) false).run prog W'=.ok (.int .i64 N1) W'):=⟨λW' gW=>by
        have h:=HK.o W' (HA.o.t.trans (gW.touch _))
        exact⟨h.1,h.2.2,Uy.o W' gW⟩⟩
       clear e1 e2 Zb Mv Vs Xu hQ Uz Yn Jq Xs;gi_upto_region 20 with(fail);obtain⟨Sx,Z,HS⟩:=AA.start λW'=>(W'.cell? ⟨bx,0,none⟩=some (pP y)/\W'.cell? ⟨y,14,none⟩=some (.map (some J)))/\W'.cell? ⟨w.heap.size,0,none⟩=some (pP q)/\(Instr.lookup 148 (.map (some J)) (.int .i64 Q) false).run prog W'=.ok (.int .i64 N1) W';have y1:=AA.fact Z λ_ h=>h.1.1;have y2:=AA.fact Z λ_ h=>h.1.2;have y3:=AA.fact Z λ_ h=>h.2.1;have y4:∀p:AA Sx,(Instr.lookup 148 (.map (some J)) (.int .i64 Q) false).run prog p.w=.ok (.int .i64 N1) p.w:=λp=>by have h:=AA.get Z p;exact h.2.2
       have V:=HS.o (wr.drew) (Mo.o _ (Gr.refl wr).drew);have O:Inhabited (AA Sx):=⟨⟨_,V⟩⟩;clear Z;refine GX Sx 10 [([0,1,2,3,4,5],6),([7,8,9],10)] [] (λ_=>trivial) V ?_;refine EL ?_;gi_wp2_with((refine⟨trivial,?_⟩;gi_at_call 154;refine(CallsIn.inRound lp (δ.2 (Mu.o _ (Gr.refl wr).drew))).mono ?_;rintro e w8 ⟨rfl,rfl⟩));refine⟨.inr (AA.of (HS.o _ (Mo.o _ (Gr.refl wr).drew))),?_⟩;refine EL ?_;gi_wp2_with((gi_at_mapUpdate;refine Y7w _ rfl _ _ _ 148 rfl 3 3 JK underlying148 underlying3 J n4 f4 rfl (Im.o.gr (Gr.refl wr).drew) Oq.o (Q:Int) (.int .i64 N2) rfl rfl Ox.o ?_;intro Je Uj Un;have Na:=ι Uj;have Mn:=ι Un;clear Uj Un));refine⟨.inl trivial,?_⟩;refine GM ?_;clear y1 y2 y3 y4 V O;clear HS Sx;have Yt:Hid (AB (λi=>i=J) wr Je):=⟨((Gr.refl wr).drew.touch _).trans Mn.o⟩;gi_wp2;go_roundw
       case rel=>exact⟨t+1,A+1,Ye.o,⟨by have:=Zg.o;omega⟩,⟨Ov.o Je Na.o Yt.o⟩,⟨Mr.o.trans (Yt.o.mono (λi _ h=>.inl h))⟩,by go_num⟩
       case measure=>have:=Zg.o;have:=Ye.o;simp[intOf];omega
      ·obtain rfl:t=sz:=Ω
       have Li:¬(A:Int)<(sa:Int)+(t:Int):=by have:=Zg.o;omega
       clear Xs;gi_wp2;have Jg:=Ne.o;have l4:=Yl.o;refine⟨Mr.o.mono (λi _ h=>.inl (by rcases h with rfl|rfl <;> omega)),j+1,rfl,Xy,?_⟩;rw[Xw.o];exact HA.o
    case done=>
     rintro D j W7 hD rfl Zc hK;have Xv:=Zc.2;rw[ξd]at Xv;have Yj:=ι Xv;have HKK:=ι (HK.o W7 Xv.t);have hz7:=Xv.t.size;have Ey:=ι Zd.o.2.2.2
     have Nv:Hid (Cyc W7 (λb=>w1.heap.size<=b/\b<W5.heap.size) y q ⟨w2.heap.size,w3.heap.size,p,m,p1,b1,p2,b2,U,Yd,nb,J⟩ (AZ v c L)):=⟨by
      have hA:=Xv;rw[Ey.o]at hA
      exact VLI HX.o Xx.o Uu.o ⟨Eq,Zz.o.1,Zz.o.2.1,Zz.o.2.2.1,Zz.o.2.2.2.1,Zz.o.2.2.2.2⟩ (Jk.o.trans (Xt.touch _)) ⟨gy,Eg,Ih,Er⟩ Il.o (Zr.o.gr Xt) (CL Oe.o Xt) (Yk.o.gr Xt) (Yg.o.gr Xt) Vq hA (λi h1 h2 h3 h=>by omega) hA.t⟩
     have Ec:Hid (AW W7 r g rs):=⟨by
      have h1:=(HR.o.gr Yo.o).touch Zf.o (λh=>Ze.o.2.1 h.1) (λh=>Ze.o.2.2.1 h.1)
      exact(h1.gr Xx.o).gr (Xf.o W7 (Ys.o W7 Xv.t))⟩
     have Ez:=ι (PX Nr.o Us.o HI.o (by rw[<-Jf.o];exact ξW Ug.o));have hgl:g<w1.heap.size:=Ω
     have Ik:=ι (X9b (λW tW=>Nv.o.touch tW (λk hk e=>by have:=hk.1;omega)) Ez.o Ec.o);have hmf:∀(fn:Fn) (first cap:Array Value) (w:World),(Instr.makeFunc fn first cap).run prog w=.ok (.func fn first cap) w:=λ_ _ _ _=>rfl;have Uk:=Ve.o W7 Xv.t;have If:=ι Uk;have Ud:=(Yb.o.gr (Xf.o W7 (Ys.o W7 Xv.t)));have Ub:=(E.o.gr (Xf.o W7 (Ys.o W7 Xv.t)));have Yz:=(Yp.o.gr Xt).touch Xv.t Ω;have Ip:=ι (ψ Ud (ψ Ub Yz));have Vz:=Yz.cc 0;have Ut:=Yz.lt;have Nc:=ι hK;have Ib:Hid (D=W5.heap.size):=⟨hD⟩;clear Xv Zc Uk Ud Ub Yz hK hD;gi_upto_region 22 with(refine⟨trivial,?_⟩;gi_at_call 151;refine(δ.2 (Ik.o)).mono ?_;rintro e w8 ⟨rfl,Nz,Nf⟩;have Yh:=ι Nz;have Ea:=ι Nf;clear Nz Nf);clear Vz Ut;obtain⟨Oo,Mb,Mq⟩:=Ip.o;have Ju:=ι (Oo.touch Yh.o (λh=>by omega));have Um:=ι (Mb.touch Yh.o (λh=>by omega));have En:=ι (Mq.touch Yh.o (λh=>by omega));have Mj:=ι (Nv.o.touch Yh.o (λk hk e=>by have:=hk.1;omega));have hz8:=Yh.o.size;obtain⟨S5,Vn⟩:∃S5,S5=AC (AC S w) w1:=⟨_,rfl⟩;have Xz:Hid (∀b,S5 b->S b/\b<w.heap.size):=⟨λb hb=>by rw[Vn]at hb;exact hb.1⟩;have Nk:AD w8 S5 q v:=by rw[Vn];exact If.o.touch Yh.o (λb hb _ h=>Ze.o.2.2.1 (h▸hb.1.1))
     have Os:=ι Nk
     have Jh:Hid (w8.heap[D]?=some (.deferred (some []))/\D<w8.heap.size/\W5.heap.size<=D):=⟨by
      have h1:=(ζs.1 Nc.o).1;have h2:=Ib.o
      exact⟨(Yh.o.block D h1 Ω).trans Nc.o,by omega,by omega⟩⟩
     have Nw:=ι (λ(W:World) (g':Gr w8 W)=>I0 (Os.o.gr g'));obtain⟨pg,Xu⟩:∃pg,pg=v.pl.pg:=⟨_,rfl⟩;have Yw:=ι Xu;rw[<-Xu]at Nw Me;obtain⟨q0,Jc⟩:∃q0,q0=c.fr/pg:=⟨_,rfl⟩;have Jv:q0*pg<=c.fr:=by rw[Jc];exact ζn c.fr pg
     have Ma:=ι Jc;have Iy:=ι Jv;have g1:((c.fr:Int).tdiv (pg:Int))=(q0:Int):=by rw[Jc];rfl
     have g2:((c.fr:Int)/(pg:Int))=(q0:Int):=by rw[Jc];rfl
     have Mc:(pg:Int)≠0:=Ω
     have hq0n:q0<=524288:=by have:=ζ8 c.fr pg;omega
     have Oc:Hid (UmO w8 w8.drew S5 q (AZ v c L) v q0 0 pg c.tp):=⟨(Gr.refl w8).drew.touch _,⟨S5,v,λb h=>.inl h,Os.o.gr (Gr.refl w8).drew,EY.zero Nr.o q0⟩,λi hi=>absurd hi (ζA _)⟩;have u1:=Ju.o.cc 0;have u2:=Um.o.cc 0;clear Oo Mb Mq Nk Xu Jc Jv Vn;obtain⟨Sx,Z,HS⟩:=AA.start λW'=>W'.cell? ⟨w.heap.size,0,none⟩=some (pP q)/\W'.cell? ⟨w.heap.size+1,0,none⟩=some (.int .i64 c.fr);have x1:=AA.fact Z λ_ h=>h.1;have x2:=AA.fact Z λ_ h=>h.2;have V:=HS.o (w8.drew) (⟨u1,u2⟩);have O:Inhabited (AA Sx):=⟨⟨_,V⟩⟩;clear Z;refine GX Sx 6 [([0,1,2],3)] [4,5] G3 V ?_;refine EL ?_;gi_wp2_with((refine⟨trivial,?_⟩;gi_at_call 154;refine(δ.2 (Nw.o _ (Gr.refl w8).drew)).mono ?_;rintro e w9 ⟨rfl,rfl⟩));refine⟨.inr (AA.of (HS.o _ (⟨u1,u2⟩))),?_⟩;refine GM ?_;clear x1 x2 V O;clear HS Sx;clear u1 u2;gi_wp2
     gi_loopw [17] (λs17 wx=>∃j:Nat,Hid (UmO w8 wx S5 q (AZ v c L) v q0 j pg c.tp)/\s17=.int .i64 ((q0+j:Nat):Int)) (λs17 _=>c.tp-(intOf s17).toNat*pg)
     case atStart=>exact⟨0,Oc,rfl⟩
     case round=>
      clear Oc;obtain⟨j,HU,rfl⟩:=hrel;obtain⟨Sj,v',Md,Vj,Ux⟩:=HU.o.vm;have Va:=λ(W:World) (g':Gr wr W)=>I0 (Vj.gr g');rw[Ux.pg,<-Yw.o]at Va;have Jp:=ι Va;have Vo:=ι Vj;have Xw:=ι Md;have Vg:=ι Ux;have Uo:=ι (Ju.o.touch HU.o.t (λh=>by have:=(Xz.o _ h).2;omega));have Op:=ι (Um.o.touch HU.o.t (λh=>by have:=(Xz.o _ h).2;omega));have Yx:=ι (En.o.touch HU.o.t (λh=>by have:=(Xz.o _ h).2;omega));have Yu:=ι (Mj.o.touch HU.o.t (λk hk h=>by have:=hk.1;have:=(Xz.o _ h).2;omega));obtain⟨qq,Zs⟩:∃qq,qq=q0+j:=⟨_,rfl⟩;obtain⟨pp,Zh⟩:∃pp,pp=qq*pg:=⟨_,rfl⟩
      have hppb:pp<=1048576:=by
       rcases ζJ j with h0|h0
       ·rw[Zh,Zs,h0,ξk];have:=Iy.o;omega
       ·have:=HU.o.q1 (j-1) Ω;have e:pp=(q0+(j-1))*pg+pg:=by rw[Zh,Zs,show q0+j=(q0+(j-1))+1 by omega,ξl,ξM]
        omega
      have hqb:qq<=pp:=by rw[Zh];exact ξ6 _ Ω
      have hmul:((qq:Int)*(pg:Int))=(pp:Int):=by rw[Zh];push_cast;rfl
      have Xr:=ι (ψ Zs Zh);rw[<-Zs];have u1:=Uo.o.cc 0;have u2:=Op.o.cc 1;clear Va Vj Md Zs Zh Ux;by_cases Xs:pp<c.tp
      ·have e1:decide ((pp:Int)<(c.tp:Int))=true:=θ Ω;have e2:decide (pp<c.tp)=true:=θ Xs;have Ye:=ι Xs;have Zw:=T8 (Yu.o.gr (Gr.refl wr).drew).wd (q:=qq) Ω;have Ny:(AZ v c L).on (λi=>!(AZ v c L).is i) qq=(AZ v c L).on (λ_=>true) qq:=Sl.on_congr λi _=>by rw[L4];rfl
       rw[Ny]at Zw;obtain⟨N1,Yn⟩:∃N1,N1=(AZ v c L).on (λ_=>true) qq:=⟨_,rfl⟩;have Mp:=ι Yn;rw[<-Yn]at Zw;have Uy:=ι Zw;clear Xs Yn Ny Zw;gi_upto_region 23 with(fail);obtain⟨Sx,Z,HS⟩:=AA.start λW'=>W'.cell? ⟨w.heap.size,0,none⟩=some (pP q)/\W'.cell? ⟨w.heap.size+1,1,none⟩=some (.int .i64 c.tp);have x1:=AA.fact Z λ_ h=>h.1;have x2:=AA.fact Z λ_ h=>h.2;have V:=HS.o (wr.drew) (⟨u1,u2⟩);have O:Inhabited (AA Sx):=⟨⟨_,V⟩⟩;clear Z;refine GX Sx 7 [([0,1,4,5],2)] [3,6] G3 V ?_;refine EL ?_;gi_wp2_with((refine⟨trivial,?_⟩;gi_at_call 154;refine(δ.2 (Jp.o _ (Gr.refl wr).drew)).mono ?_;rintro e Je ⟨rfl,rfl⟩));refine⟨.inr (AA.of (HS.o _ (⟨u1,u2⟩))),?_⟩;refine GM ?_;clear x1 x2 V O;clear HS Sx;have z1:=(Yx.o.gr (Gr.refl wr).drew).cell (j:=0) rfl;have zl:=(Yx.o.gr (Gr.refl wr).drew).lt;have z2:=(Yu.o.gr (Gr.refl wr).drew).rc.cell (j:=14) rfl;have zl2:=(Yu.o.gr (Gr.refl wr).drew).rc.lt;have Zw:=Uy.o;have u3:=Uo.o.lt;have Io:=(Gr.refl wr).drew.size;have Ie:=HU.o.t.size;by_cases hz:N1=0
       ·have d0:((N1:Int)==0)=true:=by simp[hz]
        have HZ:=ι hz;clear hz;gi_wp2_with(refine⟨trivial,?_⟩;gi_at_call 155;refine(δ.2 (NN (Vo.o.gr (Gr.refl wr).drew) (qq:Int))).mono ?_;rintro e w11 ⟨rfl,Jw,Ue⟩;have Yt:=ι Jw;have Nb:=ι Ue;clear Jw Ue);go_roundw
        case rel=>
         refine⟨j+1,⟨⟨?_,⟨plus Sj wr.drew,_,λb hb=>?_,Nb.o,?_⟩,λi hi=>?_⟩⟩,?_⟩
         ·exact(HU.o.t.trans ((Gr.refl wr).drew.touch _)).trans' Yt.o (λb hb h=>(Xw.o b h).elim id (λh=>by omega))
         ·rcases hb with h|h
          ·exact Xw.o b h
          ·right;omega
         ·have:=Vg.o.drop (j:=j) (by rw[<-Xr.o.1,<-Mp.o];exact HZ.o);rw[<-Xr.o.1]at this;exact this
         ·rcases υ i j with h|h
          ·exact HU.o.q1 i h
          ·obtain rfl:i=j:=Ω
           rw[<-Xr.o.1,<-Xr.o.2];exact Ye.o
         ·rw[show q0+(j+1)=qq+1 by rw[Xr.o.1];omega]
          go_num
        case measure=>
         have h1:=Ye.o;have h2:=Xr.o.2;simp only[intOf];rw[show ((qq:Int)+1).toNat=qq+1 by omega,χ,ξl,ξM,<-h2];omega
       ·have d0:((N1:Int)==0)=false:=by simp;exact hz
        have HZ:=ι hz;clear hz;gi_wp2;go_roundw
        case rel=>
         refine⟨j+1,⟨⟨HU.o.t.trans ((Gr.refl wr).drew.touch _),⟨Sj,_,Xw.o,Vo.o.gr (Gr.refl wr).drew,?_⟩,λi hi=>?_⟩⟩,?_⟩
         ·exact Vg.o.keep (j:=j) (by rw[<-Xr.o.1,<-Mp.o];exact HZ.o)
         ·rcases υ i j with h|h
          ·exact HU.o.q1 i h
          ·obtain rfl:i=j:=Ω
           rw[<-Xr.o.1,<-Xr.o.2];exact Ye.o
         ·rw[show q0+(j+1)=qq+1 by rw[Xr.o.1];omega]
          go_num
        case measure=>
         have h1:=Ye.o;have h2:=Xr.o.2;simp only[intOf];rw[show ((qq:Int)+1).toNat=qq+1 by omega,χ,ξl,ξM,<-h2];omega
      ·have e1:decide ((pp:Int)<(c.tp:Int))=false:=ζ Ω;have e2:decide (pp<c.tp)=false:=ζ Xs;have Ye:=ι Xs;clear Xs;gi_upto_region 23 with(fail);obtain⟨Sx,Z,HS⟩:=AA.start λW'=>W'.cell? ⟨w.heap.size,0,none⟩=some (pP q)/\W'.cell? ⟨w.heap.size+1,1,none⟩=some (.int .i64 c.tp);have x1:=AA.fact Z λ_ h=>h.1;have x2:=AA.fact Z λ_ h=>h.2;have V:=HS.o (wr.drew) (⟨u1,u2⟩);have O:Inhabited (AA Sx):=⟨⟨_,V⟩⟩;clear Z;refine GX Sx 7 [([0,1,4,5],2)] [3,6] G3 V ?_;refine EL ?_;gi_wp2_with((refine⟨trivial,?_⟩;gi_at_call 154;refine(δ.2 (Jp.o _ (Gr.refl wr).drew)).mono ?_;rintro e Je ⟨rfl,rfl⟩));refine⟨.inr (AA.of (HS.o _ (⟨u1,u2⟩))),?_⟩;refine GM ?_;clear x1 x2 V O;clear HS Sx;clear u1 u2;have z1:=(Yx.o.gr (Gr.refl wr).drew).cell (j:=0) rfl;have zl:=(Yx.o.gr (Gr.refl wr).drew).lt;gi_wp2;have Ie:=HU.o.t.size;have Io:=(Gr.refl wr).drew.size;have Jn:¬S5 D:=λh=>by have:=(Xz.o _ h).2;have:=Jh.o.2.2;omega
       have Ev:wr.drew.heap[D]?=some (.deferred (some [])):=by
        have h2:=Jh.o.2.1;rw[(Gr.refl wr).drew.block Ω,HU.o.t.block D h2 Jn];exact Jh.o.1
       refine⟨by simp,.inl ⟨_,_,rfl,run_takeDeferred Ev,?_⟩⟩;have tt:=DW wr.drew D (.deferred none);have hD0:=Ib.o;refine⟨.tuple #[pP y,.int .i64 0],?_,?_,L,HI.o,by have h1:=Ug.o;have h2:=Jf.o;omega,y,_,_,Sj,v',j,rfl,(Yu.o.gr (Gr.refl wr).drew).touch tt (λk hk e=>by have:=hk.2;omega),(Vo.o.gr (Gr.refl wr).drew).touch tt (λb hb _ h=>?_),λb hb=>?_,λb hb=>⟨?_,λh=>?_⟩,?_,?_,?_,?_⟩
       ·simp[results,f140,go_sem]
       ·have a1:AB (λb=>b=g\/S b) w w1:=Yo.o.touch _;have a2:=a1.trans (Zf.o.mono (λi _ h=>.inr h.1));have a3:=a2.trans ((Xx.o.trans (Xf.o W7 (Ys.o W7 Yj.o.t))).touch _);have a4:=a3.trans (Yh.o.mono (λi _ h=>.inl h));have a5:=a4.trans (HU.o.t.mono (λi _ h=>.inr (Xz.o i h).1));exact(a5.trans ((Gr.refl wr).drew.touch _)).trans' tt (λb hb h=>by omega)
       ·rcases Xw.o b hb with h'|h'
        ·exact Jn (h▸h')
        ·have:=Jh.o.2.1;omega
       ·rcases Xw.o b hb with h'|h'
        ·exact .inl (Xz.o b h').1
        ·right;omega
       ·have:=hb.1;omega
       ·rcases Xw.o b h with h'|h'
        ·have:=(Xz.o b h').2;have:=hb.1;omega
        ·have:=hb.2;omega
       ·rw[<-Yw.o,<-Ma.o];exact Vg.o
       ·rw[<-Yw.o,<-Ma.o,<-Xr.o.1,<-Xr.o.2];have:=Ye.o;omega
       ·intro i hi;rw[<-Yw.o,<-Ma.o];exact HU.o.q1 i hi
       ·exact((Ea.o.touch HU.o.t (λh=>Ze.o.2.1 (Xz.o r h).1) (λh=>Ze.o.2.2.1 (Xz.o g h).1)).gr (Gr.refl wr).drew).touch tt (λh=>by omega) (λh=>by omega)
end
end
end Go.Proofs.YtbdimhlaaoadgaaGreatDoor
