/- Part 10 of what QueuePlays leans on: my own lemmas, merged by shake.py. -/
import Derived.Test.YtggjoonlcjjgkaaGreatDoorQueuePlaysI
namespace Go.Proofs.YtggjoonlcjjgkaaGreatDoor
open _root_.Go.Proofs.Tryz
set_option maxHeartbeats 12800000
set_option maxRecDepth 100000
open Go.RowKit Go.Shelf Word
variable{g g':Gph}{c:HCf}{s s':HSt}{a kd:Int}{f:Int->Option Value}{rs:List Int}{L:List Ob}{b64 b65 base j m mm n nb p p1 p2 q r x y:Nat}{S X:Nat->Prop}{u u' v:Vm}{A B W5 w w' w1 w2:World}
theorem XSy(n:Nat)(a:Addr)(w:World):(method (n+1) 81 (.pointer (some a)) "Store").run prog w=.ok (260,.pointer (some a)) w:=by kernel_rfl
theorem XgO(n:Nat)(a:Addr)(w:World):(nilAhead (n+1) 81 (.pointer (some a)) "Store").run prog w=.ok (some false) w:=by kernel_rfl
section
variable{A:HAd}{top:Nat}{o:Option Nat}{lf:Nat}
theorem ShA.st(h:ShA base top v)(a:Int)(hx:x<18446744073709551616):ShA base top (v.st a x):=by
 have hs:=BS.st v a x;exact⟨h.ok.st a hx,by rw[hs.pg];exact h.al,by rw[hs.n];exact h.bt,λb hb=>by rw[hs.n]at hb;rw[FN,hs.pg];exact h.pg b hb⟩
theorem HVm.st(h:HVm c v)(a:Int)(x:Nat):HVm c (v.st a x):=by
 have hs:=BS.st v a x;exact⟨hs.n.trans h.n,hs.pg.trans h.pg,hs.rm.trans h.rm⟩
theorem V5(A:HAd)(c:HCf)(base top:Nat)(o:Option Nat)(lf nb:Nat):(spH A c base top o lf nb).Wr (fnH 169 260 o):=by
 refine⟨λn w=>?_,λn w=>?_,λargs w=>?_,λ{u S w} h a x ha hx=>?_⟩
 ·cases o with
  | none=>exact QD n _ w
  | some y=>exact XgO n _ w
 ·cases o with
  | none=>exact PG n _ w
  | some y=>exact XSy n _ w
 ·cases o with
  | none=>kernel_rfl
  | some y=>kernel_rfl
 ·obtain⟨⟨l,hl,hm⟩,h2⟩:=h;obtain⟨n,rfl,h3,h4⟩:=ha
  match o,hm with
  | none,⟨h5,h6,h7,h8⟩=>
   refine(KU h5 (n:Int) hx).mono ?_;rintro e w' ⟨rfl,t,hv⟩;exact⟨rfl,t,⟨l,hl,hv.mono (λ_ h=>.inl h),h6.st _ _,h7.st _ hx,h8⟩,κ h2 t.size⟩
  | some y,⟨z,s,v,R,Sv,h,e1,e2⟩=>
   have hs:=h.ok.st;have hlm:=h.a.lm;have hln:=hs.cf.ln;have hn2:=hs.n2;refine(ZaI (UK c.fr top u) h.cy h.ok ⟨h.a,h.hv.rm⟩ h.tab h.t2 h.t1 h.vm h.d (n:Int) Ω hx).mono ?_;rintro e w' ⟨v',rfl,t,V,N,Y,hA⟩;have J:s.cf.to<=n:=by rw[h.bs];exact h3
   have U:∀i,i<sizes (s.tch n).L->n=(s.tch n).cf.to+i->(s.tch n).is i=true:=λi hi e=>by
    have e':n=s.cf.to+i:=e;have:=Sl.tch_is hs (i:=i) hi
    grind
   have d1:=(hA.1.ld Y (a:=n) J h4 U).1;have d3:=h.a.un n Ω;obtain⟨c',p1,p2⟩:=hA.1.put Y (a:=n) J h4 U hx;have M:=h.tab.lt;refine⟨by rw[d1,d3],t.mono (λk _ hk=>h.x k hk),⟨(s.tch n).lf,?_,z,{s.tch n with c:=c'},v'.st n x,R,plus Sv w,⟨V.same rfl rfl rfl rfl rfl,N,?_,p1,p2,λk hk=>?_,λk hk Z=>?_,t.tab M (λhk=>hk.elim h.t1 h.t2) h.tab,h.t1,λhk=>hk.elim h.t2 (λhk=>by omega),h.bs,h.lm,h.bk,h.ah,h.kd⟩,rfl,?_⟩,κ h2 t.size⟩
   ·have:=Sl.lf_mono (Sl.tch_mono s (n:Int));omega
   ·refine HVm.st ⟨?_,?_,hA.2⟩ _ _
    ·rw[Y.mid.n,<-h.hv.n,h.ok.mid.n];rfl
    ·rw[Y.mid.pg,<-h.hv.pg,h.ok.mid.pg];rfl
   ·rcases hk with hk|hk|hk
    ·exact .inl (h.x k (.inl hk))
    ·exact .inl (h.x k (.inr hk))
    ·exact .inr hk
   ·rcases Z with Z|Z
    ·exact h.d k hk Z
    ·have:=h.cy.od.lt k hk;omega
   ·rw[(Sl.tch_mono s (n:Int)).1];exact e2
end
theorem HIn.sp(h:HIn w c g s):(s.sp c).I s.u s.X w:=⟨⟨s.lf,ϑ _,h.mem⟩,h.com.tab.lt⟩
theorem HIn.hi(h:HIn w c g s):s.base+c.wd<=2147483647:=by
 have h1:=h.cok.wd;have h2:=h.cok.pw;rcases h.bs with e|⟨e,-⟩ <;> omega
theorem HIn.aft(h:HIn w c g s)(hW:(s.sp c).W u' s.X w w')(hi:Img u' g' s.F s.base s.top)(hg:g'.Ok)(hS:g'.S=g.S):∃l,l<=s.lf/\HIn w' c g' {s with X:=plus s.X w,u:=u',lf:=l}:=by
 obtain⟨t,⟨l,hl,hm⟩,-⟩:=hW;refine⟨l,hl,?_,hm,hi,hg,h.cok,h.bt,h.bs,by rw[hS];exact h.sl⟩;have:=h.com.mem t
 show CG w' (plus s.X w) s.A c s.base s.top (g'.S.map λx=>(s.F x:Int)) s.o s.cyc s.blk
 rw[hS];exact this
structure BH(w:World)(c:HCf)(s:HSt)(g':Gph)(s':HSt)(w':World):Prop where
 t:AB s.S w w'
 i:HIn w' c g' s'
 hp:s'.A.hp=s.A.hp
 S:∀k,s'.S k->plus s.S w k
 o:s'.o=none↔s'.lf=0
theorem Zis(h:HIn w c g s)(hW:(s.sp c).W u' s.X w w')(hi:Img u' g' s.F s.base s.top)(hg:g'.Ok)(hS:g'.S=g.S):
  Calls prog 43 #[pP s.A.hp] w' λe w2=>e=.returned (.tuple #[])/\∃s',BH w c s g' s' w2/\s'.A=s.A/\s'.lf<=s.lf/\s'.cyc=(if s.o≠none/\s'.lf=0 then wrap64 (s.cyc+1)else s.cyc)/\HKp s s'/\AB (λk=>k=s.A.hp) w' w2:=by
 obtain⟨l,hl,hI⟩:=h.aft hW hi hg hS;refine(UX hI).mono ?_;rintro e w2 ⟨rfl,s',h1⟩;refine⟨rfl,s',⟨?_,h1.i,by rw[h1.A],λk hk=>?_,h1.o⟩,h1.A,by rw[h1.lf];exact hl,by rw[h1.cyc,h1.lf],⟨h1.K.F,h1.K.base,h1.K.top⟩,h1.t⟩
 ·exact(hW.1.mono (λk _ hk=>.inl hk)).trans' h1.t (λk _ hk=>.inr (.inl hk))
 ·rcases hk with hk|hk|hk|hk|hk
  ·rcases h1.X k hk with h2|h2
   ·exact .inl (.inl h2)
   ·exact .inr h2
  ·rw[h1.A]at hk;exact .inl (.inr (.inl hk))
  ·rw[h1.A]at hk;exact .inl (.inr (.inr (.inl hk)))
  ·rw[h1.A]at hk;exact .inl (.inr (.inr (.inr (.inl hk))))
  ·rw[h1.A]at hk;exact .inl (.inr (.inr (.inr (.inr hk))))
def HSt.cut(s:HSt)(w:World):HSt:={s with X:=AD s.X w}
theorem HIn.cut(h:HIn w c g s):HIn w c g (s.cut w):=⟨h.com.sub (λ_ _ hk=>hk.1),h.mem.cut,h.img,h.gok,h.cok,h.bt,h.bs,h.sl⟩
structure DS(s s':HSt):Prop where
 lf:s'.lf<=s.lf
 cyc:s'.cyc=if s.lf≠0/\s'.lf=0 then wrap64 (s.cyc+1)else s.cyc
theorem DS.same(s:HSt):DS s s:=⟨ϑ _,by omega⟩
def HOp(w:World)(c:HCf)(s:HSt)(g':Gph)(w':World):Prop:=∃s',BH w c s g' s' w'/\DS s s'
theorem HOp.same(h:HIn w c g s)(hn:s.o=none↔s.lf=0)(gr:Gr w w'):HOp w c s g w':=⟨s,⟨gr.touch _,h.gr gr,rfl,λ_ h=>.inl h,hn⟩,DS.same s⟩
theorem YKV(h:HIn w c g s)(hn:s.o=none↔s.lf=0)(gr:Gr w w1)(hW:((s.cut w).sp c).W u' (s.cut w).X w1 w2)(hi:Img u' g' s.F s.base s.top)(hg:g'.Ok)(hS:g'.S=g.S):
  Calls prog 43 #[pP s.A.hp] w2 λe w3=>e=.returned (.tuple #[])/\∃s',BH w c s g' s' w3/\DS s s'/\HKp s s'/\AB (λk=>k=s.A.hp) w2 w3:=by
 refine(Zis (h.cut.gr gr) hW hi hg hS).mono ?_;rintro e w3 ⟨rfl,s',hr,hA,hl,hc,hF,hT⟩;refine⟨rfl,s',⟨(gr.touch _).trans' (hr.t.mono (λk _ hk=>hk.imp (λh=>h.1) id)) (λ_ _ h=>h),hr.i,hr.hp,λk hk=>?_,hr.o⟩,⟨hl,?_⟩,⟨hF.F,hF.base,hF.top⟩,hT⟩
 ·rcases hr.S k hk with h1|h1
  ·exact .inl (h1.imp (λh=>h.1) id)
  ·exact .inr (γ gr.size h1)
 ·rw[hc];by_cases h0:s.lf=0
  ·rw[φ (λhh=>hh.1 (hn.2 h0)),φ (λhh=>hh.1 h0)];rfl
  ·have Y:(s.cut w).o≠none:=λe=>h0 (hn.1 e);by_cases h1:s'.lf=0
   ·rw[θ ⟨Y,h1⟩,θ ⟨h0,h1⟩];rfl
   ·rw[φ (λhh=>h1 hh.2),φ (λhh=>h1 hh.2)];rfl
theorem ZWm(h:HIn w c g s)(hn:s.o=none↔s.lf=0)(gr:Gr w w1)(hW:((s.cut w).sp c).W u' (s.cut w).X w1 w2)(hi:Img u' g' s.F s.base s.top)(hg:g'.Ok)(hS:g'.S=g.S):
  Calls prog 43 #[pP s.A.hp] w2 λe w3=>e=.returned (.tuple #[])/\∃s',BH w c s g' s' w3/\DS s s'/\HKp s s':=
 (YKV h hn gr hW hi hg hS).mono λ_ _ ⟨h1,s',h2,h3,h4,_⟩=>⟨h1,s',h2,h3,h4⟩
theorem LT(h:HIn w c g s)(hn:s.o=none↔s.lf=0)(gr:Gr w w1)(hW:((s.cut w).sp c).W u' (s.cut w).X w1 w2)(hi:Img u' g' s.F s.base s.top)(hg:g'.Ok)(hS:g'.S=g.S):
  Calls prog 43 #[pP s.A.hp] w2 λe w3=>e=.returned (.tuple #[])/\HOp w c s g' w3:=
 (ZWm h hn gr hW hi hg hS).mono λ_ _ ⟨h1,s',h2,h3,_⟩=>⟨h1,s',h2,h3⟩
theorem HIn.rdP(h:HIn w c g s)(hx:g.Ro x):0<((s.F x:Nat):Int)->(s.sp c).P (s.F x:Nat):=λh0=>by
 have h1:=h.img.z;rcases hx with rfl|hx
 ·omega
 ·have h2:=h.img.lo x hx;have h3:1<=(g.ob x).size:=by unfold GOb.size;omega
  exact⟨s.F x,rfl,h2.1,by omega⟩
theorem HIn.fdP(h:HIn w c g s)(hx:g.Ro x)(i:Int)(hk:kd≠0):s.u.plE (s.F x:Nat) i kd=0->(s.sp c).P ((s.F x:Nat)+1+i):=λh0=>by
 rw[h.img.plE hx i hk]at h0;obtain⟨-,n,-,-,-,e,h1,h2⟩:=h.img.inP h.gok hx hk h0;exact⟨s.F x+1+n,e,h1,h2⟩
theorem N5(h:HIn w c g s)(a:Int):(g.sl a=false->Calls prog 56 #[pP s.A.hp,.slice (some ⟨w.heap.size,0,none⟩) 1 1] (w.alloc (.cells #[.int .i64 a] 3)) λe w'=>e=.returned (.tuple #[.slice none 0 0,iI 17])/\Gr w w') ∧
  (g.sl a=true->Calls prog 56 #[pP s.A.hp,.slice (some ⟨w.heap.size,0,none⟩) 1 1] (w.alloc (.cells #[.int .i64 a] 3)) λe w'=>∃gb cp,e=.returned (.tuple #[.slice (some ⟨gb,0,none⟩) 1 cp,iI 0])/\Gr w w'/\w.heap.size<=gb/\w'.cell? ⟨gb,0,none⟩=some (iI (s.F (g.at a):Nat))):=by
 have Y:=(Gr.refl w).alloc (.cells #[.int .i64 a] 3)
 have hf:=XEM (h.gr Y) (b:=w.heap.size) (l:=[a]) (by simp) (λj hj=>by
  have:j=0:=by simpa using hj
  simp_all) (by simp)
 refine⟨λhs=>hf.mono ?_,λhs=>hf.mono ?_⟩
 ·rintro e w' ⟨hg,(⟨h1,-⟩|⟨-,h1⟩)⟩
  ·simp_all
  ·exact⟨h1,Y.trans hg⟩
 ·rintro e w' ⟨hg,(⟨-,v,rfl,ho⟩|⟨⟨x,hx,h1⟩,-⟩)⟩
  ·obtain⟨gb,cp,rfl,h2,-,-,-⟩:=ET ho (by simp);exact⟨gb,cp,rfl,Y.trans hg,γ Y.size h2,BP ho (j:=0) rfl⟩
  simp_all
theorem J4u(h:HIn w c g s)(hn:s.o=none↔s.lf=0)(a i:Int):Calls prog 65 #[pP s.A.hp,iI a,iI i] w λe w'=>e=.returned (.tuple #[uU (g.fdV a i 3:Nat),iI (g.fdE a i 3)])/\HOp w c s g w':=by
 obtain⟨F0,F1⟩:=N5 h a;have HN:=hn;cases hsl:g.sl a with
 | false=>
  have HF:=(F0 hsl)
  have HE:Hid (g.fdE a i 3=17/\g.fdV a i 3=0):=⟨by
   have e:g.fdE a i 3=17:=by unfold Gph.fdE;rw[hsl];rfl
   exact⟨e,by unfold Gph.fdV;rw[e];rfl⟩⟩
  generalize s.A.hp=ap at HF⊢;go_enter func65,ntmps65;go_wp2_with(go_at_call 56;refine(HF).mono ?_;rintro e w1 ⟨rfl,hg⟩;have HG:=hg);go_ret2;exact⟨BL (congrArg (λn:Nat=>uU (n:Int)) HE.o.2.symm) (BN HE.o.1.symm),HOp.same h HN HG⟩
 | true=>
  have HF:=(F1 hsl);have Z:=Gph.at_ro hsl;have V:=(λ(W:World) (gg:Gr w W)=>LL (h.cut.gr gg));have Y:=(λ(W:World) (gg:Gr w W)=>QV8 (IS ..) (h.cut.gr gg).sp (s.F (g.at a):Nat) i (h.cut.rdP Z) (h.cut.fdP Z i (by decide)));have e1:s.u.gtE (s.F (g.at a):Nat) i 3=g.fdE a i 3:=by rw[h.img.gtE h.gok Z i (by decide),Gph.fdE_er hsl]
  have e2:s.u.gtV (s.F (g.at a):Nat) i 3=g.fdV a i 3:=by rw[h.img.gtV h.gok Z i (by decide) (by decide)];unfold Gph.fdV;rw[Gph.fdE_er hsl]
  have e3:(s.cut w).u=s.u:=rfl;rw[e3,e1,e2]at Y;have I:(s.cut w).A.hp=s.A.hp:=rfl;rw[I]at V;have B:=(λ(w1 w2:World) (gr:Gr w w1) (he:((s.cut w).sp c).E s.u (s.cut w).X w1 w2)=>LT h hn gr he.toW h.img h.gok rfl);generalize g.fdV a i 3=rv at Y⊢;generalize g.fdE a i 3=re at Y⊢;skip;generalize (s.F (g.at a):Nat)=ad at HF Y;obtain⟨ap,hp⟩:∃ap,ap=s.A.hp:=⟨_,rfl⟩;rw[<-hp]at HF V B⊢;clear hn hsl F0 F1 Z e1 e2 e3 I hp;go_enter func65,ntmps65;go_upto_region 4 with(go_at_call 56;refine(HF).mono ?_;rintro e w1 ⟨gb,cp,rfl,U,N,D⟩;have J:=D;have Xa:=N;clear D N);obtain⟨Sx,O,HS⟩:=AA.start λW'=>W'.cell? ⟨gb,0,none⟩=some (iI (ad:Nat));have y0:=AA.fact O λ_ h=>h;have M:=HS.o (w1.drew) (J);have G:Inhabited (AA Sx):=⟨⟨_,M⟩⟩;clear O;refine AV Sx 12 [([0,2,3,4,5],1),([],6)] [7,8,9,10,11] M ?_;refine AH ?_;go_wp2_with((go_at_call 58;refine AK (V _ U.drew) ?_));refine⟨.inr (AA.of (HS.o _ (J))),?_⟩;refine AH ?_;go_wp2_with((go_at_call 106;refine(Y _ U.drew).mono ?_;rintro e w2 ⟨rfl,he⟩;have L:=he;clear he));refine⟨.inr (AA.of (HS.o _ ((L.1.cell (AT J) (λhk=>ζN _ (κ hk.2.2 Xa)) 0).trans J))),?_⟩;refine BG ?_;clear y0 M G;clear HS Sx;go_wp2_with(go_at_call 43;refine(B _ _ U.drew L).mono ?_;rintro e w3 ⟨rfl,ho⟩;have Xb:=ho;clear ho);go_ret2;exact⟨rfl,Xb⟩
theorem QNL(h:HIn w c g s)(hn:s.o=none↔s.lf=0)(a i:Int):Calls prog 64 #[pP s.A.hp,iI a,iI i] w λe w'=>e=.returned (.tuple #[.float .f64 (g.fdV a i 2),iI (g.fdE a i 2)])/\HOp w c s g w':=by
 obtain⟨F0,F1⟩:=N5 h a;have HN:=hn;cases hsl:g.sl a with
 | false=>
  have HF:=(F0 hsl)
  have HE:Hid (g.fdE a i 2=17/\g.fdV a i 2=0):=⟨by
   have e:g.fdE a i 2=17:=by unfold Gph.fdE;rw[hsl];rfl
   exact⟨e,by unfold Gph.fdV;rw[e];rfl⟩⟩
  generalize s.A.hp=ap at HF⊢;clear hn hsl F0 F1;go_enter func64,ntmps64;go_wp2_with(go_at_call 56;refine(HF).mono ?_;rintro e w1 ⟨rfl,hg⟩;have HG:=hg;clear hg);go_ret2;exact⟨BL (congrArg (λn:Nat=>Value.float .f64 n) HE.o.2.symm) (BN HE.o.1.symm),HOp.same h HN HG⟩
 | true=>
  have HF:=(F1 hsl);have Z:=Gph.at_ro hsl;have V:=(λ(W:World) (gg:Gr w W)=>LL (h.cut.gr gg));have Y:=(λ(W:World) (gg:Gr w W)=>QUr (IS ..) (h.cut.gr gg).sp (s.F (g.at a):Nat) i (h.cut.rdP Z) (h.cut.fdP Z i (by decide)));have e1:s.u.gtE (s.F (g.at a):Nat) i 2=g.fdE a i 2:=by rw[h.img.gtE h.gok Z i (by decide),Gph.fdE_er hsl]
  have e2:s.u.gtV (s.F (g.at a):Nat) i 2=g.fdV a i 2:=by rw[h.img.gtV h.gok Z i (by decide) (by decide)];unfold Gph.fdV;rw[Gph.fdE_er hsl]
  have e3:(s.cut w).u=s.u:=rfl;rw[e3,e1,e2]at Y;have I:(s.cut w).A.hp=s.A.hp:=rfl;rw[I]at V;have B:=(λ(w1 w2:World) (gr:Gr w w1) (he:((s.cut w).sp c).E s.u (s.cut w).X w1 w2)=>LT h hn gr he.toW h.img h.gok rfl);generalize g.fdV a i 2=rv at Y⊢;generalize g.fdE a i 2=re at Y⊢;skip;generalize (s.F (g.at a):Nat)=ad at HF Y;obtain⟨ap,hp⟩:∃ap,ap=s.A.hp:=⟨_,rfl⟩;rw[<-hp]at HF V B⊢;clear hn hsl F0 F1 Z e1 e2 e3 I hp;go_enter func64,ntmps64;go_upto_region 4 with(go_at_call 56;refine(HF).mono ?_;rintro e w1 ⟨gb,cp,rfl,U,N,D⟩;have J:=D;have Xa:=N;clear D N);obtain⟨Sx,O,HS⟩:=AA.start λW'=>W'.cell? ⟨gb,0,none⟩=some (iI (ad:Nat));have y0:=AA.fact O λ_ h=>h;have M:=HS.o (w1.drew) (J);have G:Inhabited (AA Sx):=⟨⟨_,M⟩⟩;clear O;refine AV Sx 12 [([0,2,3,4,5],1),([],6)] [7,8,9,10,11] M ?_;refine AH ?_;go_wp2_with((go_at_call 58;refine AK (V _ U.drew) ?_));refine⟨.inr (AA.of (HS.o _ (J))),?_⟩;refine AH ?_;go_wp2_with((go_at_call 105;refine(Y _ U.drew).mono ?_;rintro e w2 ⟨rfl,he⟩;have L:=he;clear he));refine⟨.inr (AA.of (HS.o _ ((L.1.cell (AT J) (λhk=>ζN _ (κ hk.2.2 Xa)) 0).trans J))),?_⟩;refine BG ?_;clear y0 M G;clear HS Sx;go_wp2_with(go_at_call 43;refine(B _ _ U.drew L).mono ?_;rintro e w3 ⟨rfl,ho⟩;have Xb:=ho;clear ho);go_ret2;exact⟨rfl,Xb⟩
theorem YK(g:Gph)(a i kd:Int)(x:Nat):(g.wrG a i kd x).S=g.S:=by unfold Gph.wrG;split <;> rfl
theorem HIn.wrI(h:HIn w c g s)(hs:g.sl a=true)(i:Int)(hk:kd≠0)(hk1:kd≠1)(x:Nat):Img (s.u.seV (s.F (g.at a):Nat) i kd x) (g.wrG a i kd x) s.F s.base s.top:=by
 have Y:=Gph.at_ro hs;unfold Gph.wrG;by_cases he:g.fdE a i kd=0
 ·rw[θ he];have Z:g.erE (g.at a) i kd=0:=by rw[<-Gph.fdE_er hs];exact he
  have:=h.img.seV h.mem.ok h.gok Y i hk x (λe=>absurd e hk1) (by have:=h.hi;have:=h.bt;omega) Z;rw[φ hk1]at this;exact this
 ·rw[φ he]
  have e:s.u.seV (s.F (g.at a):Nat) i kd x=s.u:=by
   unfold Vm.seV;rw[h.img.plE Y i hk,<-Gph.fdE_er hs,φ he]
  rw[e];exact h.img
theorem HIn.wrO(h:HIn w c g s)(hs:g.sl a=true)(i:Int)(hk:kd≠0)(hk1:kd≠1)(x:Nat):(g.wrG a i kd x).Ok:=by
 have Y:=Gph.at_ro hs;unfold Gph.wrG;by_cases he:g.fdE a i kd=0
 ·rw[θ he];have Z:g.erE (g.at a) i kd=0:=by rw[<-Gph.fdE_er hs];exact he
  obtain⟨hr,n,rfl,h1,h2,-⟩:=h.img.inP h.gok Y hk Z;obtain⟨q1,q2⟩:=h.gok.rd hr;exact h.gok.put q1 q2 (λhn=>absurd (h2.2 Ω) hk1)
 ·rw[φ he];exact h.gok
theorem Vld(h:HIn w c g s)(hn:s.o=none↔s.lf=0)(a i:Int)(hx:x<18446744073709551616):Calls prog 34 #[pP s.A.hp,iI a,iI i,uU x] w λe w'=>e=.returned (iI (g.fdE a i 3))/\HOp w c s (g.wrG a i 3 x) w':=by
 obtain⟨F0,F1⟩:=N5 h a;have HN:=hn;cases hsl:g.sl a with
 | false=>
  have HF:=(F0 hsl)
  have HE:Hid (g.fdE a i 3=17/\g.wrG a i 3 x=g):=⟨by
   have e:g.fdE a i 3=17:=by unfold Gph.fdE;rw[hsl];rfl
   exact⟨e,by unfold Gph.wrG;rw[e];rfl⟩⟩
  generalize s.A.hp=ap at HF⊢;clear hn hsl F0 F1 hx;go_enter func34,ntmps34;go_wp2_with(go_at_call 56;refine(HF).mono ?_;rintro e w1 ⟨rfl,hg⟩;have HG:=hg;clear hg);go_ret;exact⟨AM HE.o.1.symm,by rw[HE.o.2];exact HOp.same h HN HG⟩
 | true=>
  have HF:=(F1 hsl);have Z:=Gph.at_ro hsl;have V:=(λ(W:World) (gg:Gr w W)=>LL (h.cut.gr gg));have Y:=(λ(W:World) (gg:Gr w W)=>XXd (IS ..) (V5 ..) (h.cut.gr gg).sp (s.F (g.at a):Nat) i (h.cut.rdP Z) (h.cut.fdP Z i (by decide)) hx);have e1:s.u.gtE (s.F (g.at a):Nat) i 3=g.fdE a i 3:=by rw[h.img.gtE h.gok Z i (by decide),Gph.fdE_er hsl]
  have e3:(s.cut w).u=s.u:=rfl;rw[e3,e1]at Y;have E:(s.cut w).A.hp=s.A.hp:=rfl;rw[E]at V;have N:=(λ(w1 w2:World) (gr:Gr w w1) (he:((s.cut w).sp c).W (s.u.seV (s.F (g.at a):Nat) i 3 x) (s.cut w).X w1 w2)=>LT h hn gr he (h.wrI hsl i (by decide) (by decide) x) (h.wrO hsl i (by decide) (by decide) x) (YK ..));generalize g.fdE a i 3=re at Y⊢;generalize s.u.seV (s.F (g.at a):Nat) i 3 x=un at Y N;generalize (s.F (g.at a):Nat)=ad at HF Y;obtain⟨ap,hp⟩:∃ap,ap=s.A.hp:=⟨_,rfl⟩;rw[<-hp]at HF V N⊢;clear hn hsl F0 F1 Z e1 e3 E hp hx;go_enter func34,ntmps34;go_upto_region 4 with(go_at_call 56;refine(HF).mono ?_;rintro e w1 ⟨gb,cp,rfl,U,O,D⟩;have J:=D;have B:=O;clear D O);obtain⟨Sx,I,HS⟩:=AA.start λW'=>W'.cell? ⟨gb,0,none⟩=some (iI (ad:Nat));have y0:=AA.fact I λ_ h=>h;have M:=HS.o (w1.drew) (J);have G:Inhabited (AA Sx):=⟨⟨_,M⟩⟩;clear I;refine AV Sx 9 [([0,2,3,4,5,6],1),([],7)] [8] M ?_;refine AH ?_;go_wp2_with((go_at_call 58;refine AK (V _ U.drew) ?_));refine⟨.inr (AA.of (HS.o _ (J))),?_⟩;refine AH ?_;go_wp2_with((go_at_call 74;refine(Y _ U.drew).mono ?_;rintro e w2 ⟨rfl,he⟩;have L:=he;clear he));refine⟨.inr (AA.of (HS.o _ ((L.1.cell (AT J) (λhk=>ζN _ (κ hk.2 B)) 0).trans J))),?_⟩;refine BG ?_;clear y0 M G;clear HS Sx;go_wp2_with(go_at_call 43;refine(N _ _ U.drew L).mono ?_;rintro e w3 ⟨rfl,ho⟩;have Xa:=ho;clear ho);go_ret;exact⟨rfl,Xa⟩
theorem Xe2(h:HIn w c g s)(hn:s.o=none↔s.lf=0)(a i:Int)(hx:x<18446744073709551616):Calls prog 33 #[pP s.A.hp,iI a,iI i,.float .f64 x] w λe w'=>e=.returned (iI (g.fdE a i 2))/\HOp w c s (g.wrG a i 2 x) w':=by
 obtain⟨F0,F1⟩:=N5 h a;have HN:=hn;cases hsl:g.sl a with
 | false=>
  have HF:=(F0 hsl)
  have HE:Hid (g.fdE a i 2=17/\g.wrG a i 2 x=g):=⟨by
   have e:g.fdE a i 2=17:=by unfold Gph.fdE;rw[hsl];rfl
   exact⟨e,by unfold Gph.wrG;rw[e];rfl⟩⟩
  generalize s.A.hp=ap at HF⊢;clear hn hsl F0 F1 hx;go_enter func33,ntmps33;go_wp2_with(go_at_call 56;refine(HF).mono ?_;rintro e w1 ⟨rfl,hg⟩;have HG:=hg;clear hg);go_ret;exact⟨AM HE.o.1.symm,by rw[HE.o.2];exact HOp.same h HN HG⟩
 | true=>
  have HF:=(F1 hsl);have Z:=Gph.at_ro hsl;have V:=(λ(W:World) (gg:Gr w W)=>LL (h.cut.gr gg));have Y:=(λ(W:World) (gg:Gr w W)=>Ycv (IS ..) (V5 ..) (h.cut.gr gg).sp (s.F (g.at a):Nat) i (h.cut.rdP Z) (h.cut.fdP Z i (by decide)) hx);have e1:s.u.gtE (s.F (g.at a):Nat) i 2=g.fdE a i 2:=by rw[h.img.gtE h.gok Z i (by decide),Gph.fdE_er hsl]
  have e3:(s.cut w).u=s.u:=rfl;rw[e3,e1]at Y;have E:(s.cut w).A.hp=s.A.hp:=rfl;rw[E]at V;have N:=(λ(w1 w2:World) (gr:Gr w w1) (he:((s.cut w).sp c).W (s.u.seV (s.F (g.at a):Nat) i 2 x) (s.cut w).X w1 w2)=>LT h hn gr he (h.wrI hsl i (by decide) (by decide) x) (h.wrO hsl i (by decide) (by decide) x) (YK ..));generalize g.fdE a i 2=re at Y⊢;generalize s.u.seV (s.F (g.at a):Nat) i 2 x=un at Y N;generalize (s.F (g.at a):Nat)=ad at HF Y;obtain⟨ap,hp⟩:∃ap,ap=s.A.hp:=⟨_,rfl⟩;rw[<-hp]at HF V N⊢;clear hn hsl F0 F1 Z e1 e3 E hp hx;go_enter func33,ntmps33;go_upto_region 4 with(go_at_call 56;refine(HF).mono ?_;rintro e w1 ⟨gb,cp,rfl,U,O,D⟩;have J:=D;have B:=O;clear D O);obtain⟨Sx,I,HS⟩:=AA.start λW'=>W'.cell? ⟨gb,0,none⟩=some (iI (ad:Nat));have y0:=AA.fact I λ_ h=>h;have M:=HS.o (w1.drew) (J);have G:Inhabited (AA Sx):=⟨⟨_,M⟩⟩;clear I;refine AV Sx 9 [([0,2,3,4,5,6],1),([],7)] [8] M ?_;refine AH ?_;go_wp2_with((go_at_call 58;refine AK (V _ U.drew) ?_));refine⟨.inr (AA.of (HS.o _ (J))),?_⟩;refine AH ?_;go_wp2_with((go_at_call 73;refine(Y _ U.drew).mono ?_;rintro e w2 ⟨rfl,he⟩;have L:=he;clear he));refine⟨.inr (AA.of (HS.o _ ((L.1.cell (AT J) (λhk=>ζN _ (κ hk.2 B)) 0).trans J))),?_⟩;refine BG ?_;clear y0 M G;clear HS Sx;go_wp2_with(go_at_call 43;refine(N _ _ U.drew L).mono ?_;rintro e w3 ⟨rfl,ho⟩;have Xa:=ho;clear ho);go_ret;exact⟨rfl,Xa⟩
theorem VXS(h:HIn w c g s)(a b:Int):((g.sl a&&g.sl b)=false->Calls prog 56 #[pP s.A.hp,.slice (some ⟨w.heap.size,0,none⟩) 2 2] (w.alloc (.cells #[.int .i64 a,.int .i64 b] 3)) λe w'=>e=.returned (.tuple #[.slice none 0 0,iI 17])/\Gr w w') ∧
  ((g.sl a&&g.sl b)=true->Calls prog 56 #[pP s.A.hp,.slice (some ⟨w.heap.size,0,none⟩) 2 2] (w.alloc (.cells #[.int .i64 a,.int .i64 b] 3)) λe w'=>∃gb cp,e=.returned (.tuple #[.slice (some ⟨gb,0,none⟩) 2 cp,iI 0])/\Gr w w'/\w.heap.size<=gb/\w'.cell? ⟨gb,0,none⟩=some (iI (s.F (g.at a):Nat))/\w'.cell? ⟨gb,1,none⟩=some (iI (s.F (g.at b):Nat))):=by
 have Y:=(Gr.refl w).alloc (.cells #[.int .i64 a,.int .i64 b] 3);have hr:=Rec.new w 3 [iI a,iI b]
 have hf:=XEM (h.gr Y) (b:=w.heap.size) (l:=[a,b]) (by simp) (λj hj=>by
  have:j=0\/j=1:=by have:j<2:=hj;omega
  rcases this with rfl|rfl
  ·exact hr.cc 0
  simp_all) (by simp)
 refine⟨λhs=>hf.mono ?_,λhs=>hf.mono ?_⟩
 ·rintro e w' ⟨hg,(⟨h1,-⟩|⟨-,h1⟩)⟩
  ·simp_all
  ·exact⟨h1,Y.trans hg⟩
 ·rintro e w' ⟨hg,(⟨-,v,rfl,ho⟩|⟨⟨x,hx,h1⟩,-⟩)⟩
  ·obtain⟨gb,cp,rfl,h2,-,-,-⟩:=ET ho (by simp);exact⟨gb,cp,rfl,Y.trans hg,γ Y.size h2,BP ho (j:=0) rfl,BP ho (j:=1) rfl⟩
  grind
theorem Gph.Ro.le(ho:g.Ok)(hy:g.Ro y):y<=g.L.length:=by
 rcases hy with rfl|hy
 ·omega
 ·exact(ho.rd hy).2
theorem YP(h:HIn w c g s)(ha:g.sl a=true)(hy:g.Ro y):Calls prog 55 #[pP s.A.r,iI a,iI (s.F y:Nat)] w λe w'=>e=.returned (iI 0)/\AB (λk=>k=s.A.g) w w'/\HIn w' c (g.setSl a y) s:=by
 obtain⟨n,rfl,h1,h2⟩:=MK ha;refine(VHr h.com.rt (i:=n) (by rw[s.len];exact h1) (ψe _)).mono ?_;rintro e w' ⟨rfl,t,hr⟩
 have Y:s.rs (g.setSl n y)=(s.rs g).set n (s.F y:Nat):=by
  unfold HSt.rs Gph.setSl
  simp_all
 refine⟨rfl,t,?_,h.mem.touch t (λk hk e=>⟨λhx=>h.com.x.2.2.1 (by simp_all),λe2=>h.com.n3.2.1 Ω⟩) (λ_ h=>h),h.img.slot hy,h.gok.slot (hy.le h.gok),h.cok,h.bt,h.bs,?_⟩
 ·rw[Y];exact h.com.root t hr
 ·show (g.S.set _ _).length=c.sl
  rw[η];exact h.sl
theorem HIn.rcell(h:HIn w c g s):w.cell? ⟨s.A.hp,9,none⟩=some (pP s.A.r):=h.com.row.cc 9
theorem BH.slot(h:BH w c s g s' w')(t:AB (λk=>k=s'.A.g) w' w2)(hi:HIn w2 c g' s'):BH w c s g' s' w2:=
 ⟨h.t.trans' t (λk hk e=>by
  have:=h.S k (.inr (.inr (.inl e)));rcases this with h1|h1
  ·exact h1
  ·omega),hi,h.hp,h.S,h.o⟩
theorem V9V(h:HIn w c g s)(hn:s.o=none↔s.lf=0)(a b i:Int):Calls prog 25 #[pP s.A.hp,iI a,iI b,iI i] w λe w'=>e=.returned (iI (g.loE a b i))/\HOp w c s (g.loG a b i) w':=by
 obtain⟨F0,F1⟩:=VXS h a b;have H:=h;have HN:=hn;cases hsl:(g.sl a&&g.sl b)with
 | false=>
  have HF:=(F0 hsl)
  have HE:Hid (g.loE a b i=17/\g.loG a b i=g):=⟨by
   have e:g.loE a b i=17:=by unfold Gph.loE Gph.two;rw[hsl];rfl
   exact⟨e,by unfold Gph.loG;rw[e];rfl⟩⟩
  generalize s.A.hp=ap at HF⊢;clear h hn hsl F0 F1;go_enter func25,ntmps25;go_wp2_with(go_at_call 56;refine(HF).mono ?_;rintro e w1 ⟨rfl,hg⟩;have HG:=hg;clear hg);go_ret;exact⟨AM HE.o.1.symm,by rw[HE.o.2];exact HOp.same H HN HG⟩
 | true=>
  have HF:=(F1 hsl);have hE:g.loE a b i=g.fdE b i 1:=by unfold Gph.loE Gph.two;rw[θ hsl]
  have hG:g.loG a b i=if g.fdE b i 1=0 then g.setSl a (g.fdV b i 1)else g:=by unfold Gph.loG;rw[hE]
  rw[hE,hG];rw[ζe]at hsl;have J:=Gph.at_ro hsl.2;have O:=(λ(W:World) (gg:Gr w W)=>LL (h.cut.gr gg));have Y:=(λ(W:World) (gg:Gr w W)=>XZ (IS ..) (h.cut.gr gg).sp (s.F (g.at b):Nat) i (h.cut.rdP J) (h.cut.fdP J i (by decide)));obtain⟨q1,q2⟩:=h.img.ptE h.gok J i;have e1:s.u.ptE (s.F (g.at b):Nat) i=g.fdE b i 1:=by rw[q1,Gph.fdE_er hsl.2]
  have e3:(s.cut w).u=s.u:=rfl;rw[e3,e1]at Y;have G:(s.cut w).A.hp=s.A.hp:=rfl;rw[G]at O;have M:=(λ(w1 w2:World) (gr:Gr w w1) (he:((s.cut w).sp c).E s.u (s.cut w).X w1 w2)=>ZWm h hn gr he.toW h.img h.gok rfl)
  have HQ:=ι (λ(hz:g.fdE b i 1=0)=>(by
   have h0:g.erE (g.at b) i 1=0:=by rw[<-Gph.fdE_er hsl.2];exact hz
   have:=q2 h0;have e:g.fdV b i 1=(g.ob (g.at b)).w.getD i.toNat 0:=by unfold Gph.fdV;rw[θ hz]
   rw[<-e]at this
   exact this:s.u.ptV (s.F (g.at b):Nat) i=s.F (g.fdV b i 1)/\g.Ro (g.fdV b i 1)))
  have HA:=ι hsl.1;generalize s.u.ptV (s.F (g.at b):Nat) i=rv at Y HQ;generalize g.fdV b i 1=y at HQ⊢;generalize g.fdE b i 1=re at Y HQ⊢;generalize (s.F (g.at b):Nat)=ad at HF Y;generalize (s.F (g.at a):Nat)=ad2 at HF;obtain⟨ap,hp⟩:∃ap,ap=s.A.hp:=⟨_,rfl⟩;rw[<-hp]at HF O M⊢;have HP:=ι hp;obtain⟨gx,N⟩:∃gx,gx=if re=0 then g.setSl a y else g:=⟨_,rfl⟩
  rw[<-N];have Xb:=ι N;clear h hn hsl F0 F1 J e1 e3 G hp hE hG q1 q2 N;go_enter func25,ntmps25;go_upto_region 4 with(go_at_call 56;refine(HF).mono ?_;rintro e w1 ⟨gb,cp,rfl,B,Xc,-,Xe⟩;have U:=ι B;have Z:=ι Xe;have Xg:=ι Xc;clear B Xe Xc);obtain⟨Sx,Xd,HS⟩:=AA.start λW'=>W'.cell? ⟨gb,1,none⟩=some (iI (ad:Nat));have y0:=AA.fact Xd λ_ h=>h;have V:=HS.o (w1.drew) (Z.o);have Xf:Inhabited (AA Sx):=⟨⟨_,V⟩⟩;clear Xd;refine AV Sx 12 [([0,2,3,4,5],1),([],6)] [7,8,9,10,11] V ?_;refine AH ?_;go_wp2_with((go_at_call 58;refine AK (O _ U.o.drew) ?_));refine⟨.inr (AA.of (HS.o _ (Z.o))),?_⟩;refine AH ?_;go_wp2_with((go_at_call 57;refine(Y _ U.o.drew).mono ?_;rintro e w2 ⟨rfl,he⟩;have I:=ι he;clear he));refine⟨.inr (AA.of (HS.o _ ((I.o.1.cell (AT Z.o) (λhk=>ζN _ (κ hk.2.2 Xg.o)) 1).trans Z.o))),?_⟩;refine BG ?_;clear y0 V Xf;clear HS Sx;by_cases hz:re=0
  ·subst hz;obtain⟨z1,z2⟩:=HQ.o rfl;have Xh:=ι z2;subst z1;clear z2;go_upto_region 8 with(go_at_call 43;refine(M _ _ U.o.drew I.o).mono ?_;rintro e w3 ⟨rfl,s',hr,hs,hF⟩;have HR:=ι (ψ hr (ψ hs hF));clear hr hs hF);have y9:=HR.o.1.i.rcell;rw[HR.o.1.hp,<-HP.o]at y9;have L:=ι (YP HR.o.1.i HA.o Xh.o);rw[HR.o.2.2.F]at L;go_wp2_with(go_at_call 55;refine(L.o).mono ?_;rintro e w4 ⟨rfl,t4,h4⟩;have Xa:=ι (ψ t4 h4);clear t4 h4);go_ret;rw[show gx=g.setSl a y from by have:=Xb.o;simpa using this];exact⟨rfl,s',HR.o.1.slot Xa.o.1 Xa.o.2,HR.o.2.1⟩
  ·have d1:(re==0)=false:=by simpa using hz
   have D:=ι hz;go_wp2_with(go_at_call 43;refine(M _ _ U.o.drew I.o).mono ?_;rintro e w3 ⟨rfl,s',hr,hs,hF⟩;have HR:=ι (ψ hr (ψ hs hF));clear hr hs hF);go_ret;rw[show gx=g from by have:=Xb.o;rw[φ D.o]at this;exact this];exact⟨rfl,s',HR.o.1,HR.o.2.1⟩
theorem HIn.wrP(h:HIn w c g s)(hs:g.sl a=true)(i:Int)(hy:g.Ro y):g.fdE a i 1=0->Img (s.u.seV (s.F (g.at a):Nat) i 1 (s.F y)) (g.setFd a i y) s.F s.base s.top:=λhe=>by
 have Y:=Gph.at_ro hs;have Z:g.erE (g.at a) i 1=0:=by rw[<-Gph.fdE_er hs];exact he
 have:=h.img.seV h.mem.ok h.gok Y i (kd:=1) (by decide) y (λ_=>hy) (by have:=h.hi;have:=h.bt;omega) Z;exact this
theorem HIn.wrPO(h:HIn w c g s)(hs:g.sl a=true)(i:Int)(hy:g.Ro y):g.fdE a i 1=0->(g.setFd a i y).Ok:=λhe=>by
 have Y:=Gph.at_ro hs;have Z:g.erE (g.at a) i 1=0:=by rw[<-Gph.fdE_er hs];exact he
 obtain⟨hr,n,rfl,h1,h2,-⟩:=h.img.inP h.gok Y (by decide) Z;obtain⟨q1,q2⟩:=h.gok.rd hr;exact h.gok.put q1 q2 (λ_=>hy.le h.gok)
theorem HIn.adr(h:HIn w c g s)(hy:g.Ro y):s.F y<=2147483647:=by
 rcases hy with rfl|hy
 ·rw[h.img.z];omega
 ·have h1:=h.img.lo y hy;have:=h.hi;have:=h.bt;omega
theorem QmE(h:HIn w c g s)(hn:s.o=none↔s.lf=0)(a i b:Int):Calls prog 59 #[pP s.A.hp,iI a,iI i,iI b] w λe w'=>e=.returned (iI (g.stE a i b))/\HOp w c s (g.stG a i b) w':=by
 obtain⟨F0,F1⟩:=VXS h a b;have HN:=hn;cases hsl:(g.sl a&&g.sl b)with
 | false=>
  have HF:=(F0 hsl)
  have HE:Hid (g.stE a i b=17/\g.stG a i b=g):=⟨by
   have e:g.stE a i b=17:=by unfold Gph.stE Gph.two;rw[hsl];rfl
   exact⟨e,by unfold Gph.stG;rw[e];rfl⟩⟩
  generalize s.A.hp=ap at HF⊢;clear hn hsl F0 F1;go_enter func59,ntmps59;go_wp2_with(go_at_call 56;refine(HF).mono ?_;rintro e w1 ⟨rfl,hg⟩;have HG:=hg;clear hg);go_ret;exact⟨AM HE.o.1.symm,by rw[HE.o.2];exact HOp.same h HN HG⟩
 | true=>
  have HF:=(F1 hsl);have hE:g.stE a i b=g.fdE a i 1:=by unfold Gph.stE Gph.two;rw[θ hsl]
  have hG:g.stG a i b=if g.fdE a i 1=0 then g.setFd a i (g.at b)else g:=by unfold Gph.stG;rw[hE]
  rw[hE,hG];rw[ζe]at hsl;have J:=Gph.at_ro hsl.1;have U:=Gph.at_ro hsl.2;have N:=(λ(W:World) (gg:Gr w W)=>LL (h.cut.gr gg));have Y:=(λ(W:World) (gg:Gr w W)=>Xz9 (IS ..) (V5 ..) (h.cut.gr gg).sp (s.F (g.at a):Nat) i (h.cut.rdP J) (h.cut.fdP J i (by decide)) (h.adr U));have e1:s.u.gtE (s.F (g.at a):Nat) i 1=g.fdE a i 1:=by rw[h.img.gtE h.gok J i (by decide),Gph.fdE_er hsl.1]
  have e3:(s.cut w).u=s.u:=rfl;rw[e3,e1]at Y;have G:(s.cut w).A.hp=s.A.hp:=rfl;rw[G]at N
  have V:=(λ(w1 w2:World) (gr:Gr w w1) (he:((s.cut w).sp c).W (s.u.seV (s.F (g.at a):Nat) i 1 (s.F (g.at b))) (s.cut w).X w1 w2)=>(by
   by_cases hz:g.fdE a i 1=0
   ·rw[θ hz];exact LT h hn gr he (h.wrP hsl.1 i U hz) (h.wrPO hsl.1 i U hz) rfl
   ·rw[φ hz]
    have e:s.u.seV (s.F (g.at a):Nat) i 1 (s.F (g.at b))=s.u:=by
     unfold Vm.seV;rw[h.img.plE J i (by decide),<-Gph.fdE_er hsl.1,φ hz]
    rw[e]at he
    exact LT h hn gr he h.img h.gok rfl:Calls prog 43 #[pP s.A.hp] w2 λe w3=>e=.returned (.tuple #[])/\HOp w c s (if g.fdE a i 1=0 then g.setFd a i (g.at b)else g) w3))
  generalize (if g.fdE a i 1=0 then g.setFd a i (g.at b)else g)=gx at V⊢;generalize g.fdE a i 1=re at Y⊢;generalize s.u.seV (s.F (g.at a):Nat) i 1 (s.F (g.at b))=un at Y V;generalize (s.F (g.at a):Nat)=ad at HF Y;generalize (s.F (g.at b):Nat)=Xc at HF Y;obtain⟨ap,hp⟩:∃ap,ap=s.A.hp:=⟨_,rfl⟩;rw[<-hp]at HF N V⊢;clear hn hsl F0 F1 J U e1 e3 G hp hE hG;go_enter func59,ntmps59;go_upto_region 4 with(go_at_call 56;refine(HF).mono ?_;rintro e w1 ⟨gb,cp,rfl,M,L,B,Xa⟩;have Z:=(ψ B Xa);have D:=L;clear B Xa L);obtain⟨Sx,O,HS⟩:=AA.start λW'=>(W'.cell? ⟨gb,0,none⟩=some (iI (ad:Nat))/\W'.cell? ⟨gb,1,none⟩=some (iI (Xc:Nat)))
  have y0:=AA.fact O λ_ h=>h.1;have y1:=AA.fact O λ_ h=>h.2;have E:=HS.o (w1.drew) (Z);have Xb:Inhabited (AA Sx):=⟨⟨_,E⟩⟩;clear O;refine AV Sx 11 [([0,2,3,4,5,6,7,8],1),([],9)] [10] E ?_;refine AH ?_;go_wp2_with((go_at_call 58;refine AK (N _ M.drew) ?_));refine⟨.inr (AA.of (HS.o _ (Z))),?_⟩;refine AH ?_;go_wp2_with((go_at_call 102;refine(Y _ M.drew).mono ?_;rintro e w2 ⟨rfl,he⟩;have I:=he;clear he));refine⟨.inr (AA.of (HS.o _ (⟨(I.1.cell (AT Z.1) (λhk=>ζN _ (κ hk.2 D)) 0).trans Z.1,(I.1.cell (AT Z.1) (λhk=>ζN _ (κ hk.2 D)) 1).trans Z.2⟩))),?_⟩;refine BG ?_;clear y0 y1 E Xb;clear HS Sx;go_wp2_with(go_at_call 43;refine(V _ _ M.drew I).mono ?_;rintro e w3 ⟨rfl,ho⟩;have Xd:=ho;clear ho);go_ret;exact⟨rfl,Xd⟩
theorem HOp.of(hn:s.o=none↔s.lf=0)(t:AB (λk=>k=s.A.g) w w')(hi:HIn w' c g' s):HOp w c s g' w':=
 ⟨s,⟨t.mono (λ_ _ e=>.inr (.inr (.inl e))),hi,rfl,λ_ h=>.inl h,hn⟩,DS.same s⟩
theorem HIn.rcpy(h:HIn w c g s)(a b:Int):Calls prog 103 #[pP s.A.r,iI a,iI b] w λe w'=>e=.returned (iI (g.two a b 0))/\AB (λk=>k=s.A.g) w w'/\HIn w' c (g.cpG a b) s:=by
 refine(Jv2 h.com.rt a b).mono ?_;rintro e w' ⟨rfl,t,hr⟩;have Y:EV w' s.X s.A c s.base s.top s.u s.o s.lf s.nb:=h.mem.touch t (λk hk e=>⟨λhx=>h.com.x.2.2.1 (by simp_all),λe2=>h.com.n3.2.1 Ω⟩) (λ_ h=>h);rw[LI,LI];unfold O2 at hr;rw[LI,LI]at hr;unfold Gph.two Gph.cpG;cases ha:g.sl a with
 | false=>
  rw[ha]at hr;exact⟨by simp,t,h.com.root t (by simp_all),Y,h.img,h.gok,h.cok,h.bt,h.bs,h.sl⟩
 | true=>
  cases hb:g.sl b with
  | false=>
   rw[ha,hb]at hr;exact⟨by simp,t,h.com.root t (by simp_all),Y,by simpa using h.img,by simpa using h.gok,h.cok,h.bt,h.bs,by simpa using h.sl⟩
  | true=>
   obtain⟨n,rfl,h1,h2⟩:=MK ha;obtain⟨m,rfl,h3,h4⟩:=MK hb;rw[ha,hb]at hr;simp only[if_true,and_self,υ,Bool.and_self]at hr⊢;have hy:=Gph.at_ro hb
   have Z:s.rs (g.setSl n (g.at m))=(s.rs g).set n ((s.rs g).getD m 0):=by
    rw[β,ω (by rw[s.len];exact h3),s.get g h3,<-h4];unfold HSt.rs Gph.setSl
    simp_all
   refine⟨trivial,t,?_,Y,h.img.slot hy,h.gok.slot (hy.le h.gok),h.cok,h.bt,h.bs,?_⟩
   ·rw[Z];exact h.com.root t hr
   ·show (g.S.set _ _).length=c.sl
    rw[η];exact h.sl
theorem Xxc(h:HIn w c g s)(hn:s.o=none↔s.lf=0)(a b:Int):Calls prog 60 #[pP s.A.hp,iI a,iI b] w λe w'=>e=.returned (iI (g.two a b 0))/\HOp w c s (g.cpG a b) w':=by
 have HN:=(FJ h);have HC:=(h.rcpy a b);have c9:=h.rcell;generalize s.A.hp=ap at HN c9⊢;go_enter func60,ntmps60;go_upto_region 3 with(go_at_call 41;refine AK (HN) ?_);go_wp2_with(go_at_call 103;refine(HC).mono ?_;rintro e w1 ⟨rfl,ht,hi⟩;have HT:=(ψ ht hi));go_ret;exact⟨rfl,HOp.of hn HT.1 HT.2⟩
theorem HIn.rclr(h:HIn w c g s)(a:Int):Calls prog 55 #[pP s.A.r,iI a,iI 0] w λe w'=>e=.returned (iI (g.slE a))/\AB (λk=>k=s.A.g) w w'/\HIn w' c (g.clG a) s:=by
 unfold Gph.slE Gph.clG;cases ha:g.sl a with
 | false=>
  refine(QST h.com.rt (i:=a) (by rw[LI,ha];decide) 0).mono ?_;rintro e w' ⟨rfl,gr⟩;exact⟨rfl,gr.touch _,by grind [gr]⟩
 | true=>
  have:=YP h ha (y:=0) (.inl rfl);rw[h.img.z]at this
  assumption
theorem JfK(h:HIn w c g s)(hn:s.o=none↔s.lf=0)(a:Int):Calls prog 23 #[pP s.A.hp,iI a] w λe w'=>e=.returned (iI (g.slE a))/\HOp w c s (g.clG a) w':=by
 have HN:=(FJ h);have HC:=(h.rclr a);have c9:=h.rcell;generalize s.A.hp=ap at HN c9⊢;go_enter func23,ntmps23;go_upto_region 3 with(go_at_call 41;refine AK (HN) ?_);go_wp2_with(go_at_call 55;refine(HC).mono ?_;rintro e w1 ⟨rfl,ht,hi⟩;have HT:=(ψ ht hi));go_ret;exact⟨rfl,HOp.of hn HT.1 HT.2⟩
theorem BH.trans{g1 g2:Gph}{s1 s2:HSt}(h:BH w c s g1 s1 w1)(k:BH w1 c s1 g2 s2 w2):BH w c s g2 s2 w2:=
 ⟨h.t.trans' k.t (λb hb e=>(h.S b e).elim id (λh2=>by omega)),k.i,k.hp.trans h.hp,λb hb=>by
  rcases k.S b hb with h1|h1
  ·exact h.S b h1
  ·exact .inr (γ h.t.size h1),k.o⟩
theorem BH.gr{s':HSt}(h:BH w c s g' s' w'){w2:World}(gr:Gr w' w2):BH w c s g' s' w2:=⟨h.t.trans (gr.touch _),h.i.gr gr,h.hp,h.S,h.o⟩
theorem BH.refl(h:HIn w c g s)(hn:s.o=none↔s.lf=0):BH w c s g s w:=⟨AB.refl _ _,h,rfl,λ_ h=>.inl h,hn⟩
theorem DS.trans{s1 s2:HSt}(h:DS s s1)(k:DS s1 s2):DS s s2:=by
 have h1:=h.lf;have h2:=k.lf;refine⟨γ h2 h1,?_⟩;rw[k.cyc,h.cyc]
 grind
theorem G3.stp{A:HAd}{top:Nat}{z:CB}{sl:Sl}{v':Vm}{R Sv:Nat->Prop}(h:G3 w X A c base top u y z sl v R Sv)(hf:JI w w' R Sv y A.q z (HpB c.fr top u) sl.step v'):G3 w' (plus X w) A c base top u y z sl.step v' R (plus Sv w):=by
 have hl:=h.cy.od.lt;have J:=h.tab.lt;have Z:=hf.ok;refine⟨hf.cy,hf.vm,⟨?_,?_,?_⟩,hf.ok,hf.j.1,λk hk=>?_,λk hk Y=>?_,hf.t.tab J (λhk=>hk.elim h.t1 h.t2) h.tab,h.t1,λhk=>hk.elim h.t2 (λhk=>by omega),h.bs,h.lm,h.bk,h.ah,h.kd⟩
 ·rw[Z.mid.n,<-h.hv.n,h.ok.mid.n];rfl
 ·rw[Z.mid.pg,<-h.hv.pg,h.ok.mid.pg];rfl
 ·exact hf.j.2
 ·rcases hk with hk|hk|hk
  ·exact .inl (h.x k (.inl hk))
  ·exact .inl (h.x k (.inr hk))
  ·exact .inr hk
 ·rcases Y with Y|Y
  ·exact h.d k hk Y
  grind
def YF5(w:World)(c:HCf)(g:Gph)(s:HSt)(w':World):Prop:=∃s',BH w c s g s' w'/\DS s s'/\HKp s s'/\s'.lf+1=s.lf
theorem HIn.stp(h:HIn w c g s)(hn:s.o=none↔s.lf=0)(hl:s.lf≠0):∃y,s.o=some y/\Calls prog 42 #[pP y] w λe w1=>e=.returned (.tuple #[.bool true,iI 0]) ∧
  Calls prog 43 #[pP s.A.hp] w1 λe w'=>e=.returned (.tuple #[])/\YF5 w c g s w':=by
 have hm:=h.mem;cases ho:s.o with
 | none=>simp_all
 | some y=>
  rw[ho]at hm;obtain⟨z,sl,v,R,Sv,Y,e1,e2⟩:=hm;refine⟨y,rfl,(X5 (UK c.fr s.top s.u) Y.cy Y.ok ⟨Y.a,Y.hv.rm⟩ Y.tab Y.t2 Y.t1 Y.vm Y.d).mono ?_⟩;rintro e w1 ⟨v',rfl,hf⟩
  have Z:sl.ft<sl.mv.length:=by
   refine Decidable.byContradiction λhh=>hl ?_;rw[<-e1];exact sl.lf_zero.2 hh
  have J:=Sl.lf_step Z;rw[ξ Z];refine⟨rfl,?_⟩;have t1:AB s.X w w1:=hf.t.mono (λk _ hk=>Y.x k hk)
  have hI:HIn w1 c g {s with X:=plus s.X w,lf:=sl.step.lf}:=by
   refine⟨h.com.mem t1,?_,h.img,h.gok,h.cok,h.bt,h.bs,h.sl⟩;rw[ho];exact⟨z,sl.step,v',R,plus Sv w,Y.stp hf,rfl,by show (C1 sl.mv).length=s.nb;rw[Q9];exact e2⟩
  refine(UX hI).mono ?_;rintro e w2 ⟨rfl,s',h1⟩;refine⟨rfl,s',⟨?_,h1.i,by rw[h1.A],λk hk=>?_,h1.o⟩,⟨?_,?_⟩,⟨h1.K.F,h1.K.base,h1.K.top⟩,?_⟩
  ·exact(t1.mono (λk _ hk=>.inl hk)).trans' h1.t (λk _ hk=>.inr (.inl hk))
  ·rcases hk with hk|hk|hk|hk|hk
   ·rcases h1.X k hk with h2|h2
    ·exact .inl (.inl h2)
    ·exact .inr h2
   ·rw[h1.A]at hk;exact .inl (.inr (.inl hk))
   ·rw[h1.A]at hk;exact .inl (.inr (.inr (.inl hk)))
   ·rw[h1.A]at hk;exact .inl (.inr (.inr (.inr (.inl hk))))
   ·rw[h1.A]at hk;exact .inl (.inr (.inr (.inr (.inr hk))))
  ·rw[h1.lf,<-e1];grind
  ·rw[h1.cyc,h1.lf]
   simp_all
  ·rw[h1.lf,<-e1];exact J
theorem WK(h:HIn w c g s)(hn:s.o=none↔s.lf=0)(hl:s.lf≠0):Calls prog 15 #[pP s.A.hp] w λe w'=>e=.returned (.bool true)/\YF5 w c g s w':=by
 have HN:=(FJ h);obtain⟨y,hy,hs⟩:=h.stp hn hl;have c11:=h.cc 11;go_enter func15,ntmps15;go_upto_region 3 with(go_at_call 41;refine AK (HN) ?_);go_upto_region 4 with(go_at_call 42;refine(hs).mono ?_;rintro e w1 ⟨rfl,he⟩;have HE:=he);go_wp2_with(go_at_call 43;refine(HE).mono ?_;rintro e w2 ⟨rfl,h2⟩;have HH:=h2);go_ret
 simp_all
theorem Z2(h:HIn w c g s)(hn:s.o=none↔s.lf=0)(hl:s.lf=0):cQ 15 #[pP s.A.hp] w (.bool false):=by
 have HN:=(FJ h);have Y:=h.cc 11;rw[hn.2 hl]at Y;go_enter func15,ntmps15;go_wp2_with(go_at_call 41;refine AK (HN) ?_);go_ret
 simp_all
def Q5(w:World)(ap:Nat):Nat:=match w.cell? ⟨ap,11,none⟩with
 | some (.pointer (some a))=>LJ w a.block 11
 | _=>0
theorem HIn.left(h:HIn w c g s):Q5 w s.A.hp=s.lf:=by
 have Y:=h.cc 11;have hm:=h.mem;unfold Q5;cases ho:s.o with
 | none=>
  rw[ho]at Y hm;rw[Y];exact hm.2.2.2.symm
 | some y=>
  rw[ho]at Y hm;obtain⟨z,sl,v,R,Sv,Z,e1,e2⟩:=hm;have c:=Z.cy.rc.cc 11;rw[Y]
  show LJ w y 11=s.lf
  unfold LJ;rw[c,<-e1];rfl
theorem X4(h:HIn w c g s)(hn:s.o=none↔s.lf=0):Calls prog 92 #[pP s.A.hp] w λe w'=>e=.returned (.tuple #[])/\∃s',BH w c s g s' w'/\DS s s'/\HKp s s'/\s'.lf=0:=by
 have H0:Hid (BH w c s g s w/\DS s s/\HKp s s):=⟨BH.refl h hn,DS.same s,HKp.refl s⟩;obtain⟨ap,hp⟩:∃ap,ap=s.A.hp:=⟨_,rfl⟩;have HP:=ι hp;rw[<-hp];clear h hn hp;go_enter func92,ntmps92;go_wp2
 go_loopw [] (λwr=>∃s',Hid (BH w c s g s' wr/\DS s s'/\HKp s s')) (λwr=>Q5 wr ap)
 case atStart=>exact⟨s,H0⟩
 case round=>
  obtain⟨s',HR⟩:=hrel;have Z:ap=s'.A.hp:=HP.o.trans HR.o.1.hp.symm;by_cases hl:s'.lf=0
  ·have HZ:=(Z2 HR.o.1.i HR.o.1.o hl);rw[<-Z]at HZ;clear Z;go_wp2_with(go_at_call 15;refine AK (HZ) ?_);refine ζt (ζk rfl _ _ _) rfl ?_;exact⟨rfl,s',HR.o.1,HR.o.2.1,HR.o.2.2,hl⟩
  ·have HZ:=(WK HR.o.1.i HR.o.1.o hl);have hl:=(HR.o.1.i.left);rw[<-Z]at HZ hl;have J:=ι Z;clear Z;go_wp2_with(go_at_call 15;refine(HZ).mono ?_;rintro e w1 ⟨rfl,s2,h1,h2,h3,h4⟩;have Y:=(ψ h1 (ψ h2 (ψ h3 h4)));clear h1 h2 h3 h4);go_round
   case rel=>exact⟨s2,⟨HR.o.1.trans Y.1,HR.o.2.1.trans Y.2.1,HR.o.2.2.trans Y.2.2.1⟩⟩
   case measure=>
    have e1:=Y.1.i.left;rw[Y.1.hp,<-J.o]at e1;have:=hl;have:=Y.2.2.2;omega
section
attribute [local go_sem] Oper.semAt_some
structure VNZ(w wx:World)(S:Nat->Prop)(q m p1 b1 p2 b2:Nat)(v:Vm)(rs:List Int)(c:Cf)(why:Int):Prop where
 t:AB S w wx
 vm:AC wx (AD S w) q v
 rs:(why=0/\∃L,Ext wx m p1 b1 p2 b2 v.n L/\BK v rs v.n L)\/(why=25/\¬CH v rs v.n)
 bx:Rec wx w.heap.size 143 [iI c.fr,iI c.tp,iI c.to,iI c.lm,iI c.bk,iI c.st,iI c.ah]
 r6:Rec wx (w.heap.size+1) 93 [.pointer none]
 r7:Rec wx (w.heap.size+2) 27 [iI 0]
 lm:w.heap.size+3<=m
 l1:w.heap.size+3<=p1
 l2:w.heap.size+3<=b1
 l3:w.heap.size+3<=p2
 l4:w.heap.size+3<=b2
section
variable{g:Nat}{c:Cf}
theorem YeD(hV:AC w S q v)(hn1:1<=v.n)(hR:AS w r g rs)(hT:AQ w)(htS:¬S 1)(hst:1<=c.st/\c.st<=4096):
  Calls prog 157 #[pP q,pP r,cfV c] w (Zt3 w S q v rs c.fr c.tp):=by
 have HV:=hV.cut;have HR:=hR;have HT:=hT;have Zy:=htS;have Jr:=hT.lt;have hn2:=hV.ok.n2;have Js:rs.length≠0:=λe=>hR.ne (ζw e);have Jx:=hR.le;have HX:=(λW=>OF v.n hn1 Ω W);have Ua:=hst;obtain⟨n,Yh⟩:∃n,n=rs.length:=⟨_,rfl⟩;have HN:=ι Yh;rw[<-Yh]at Js Jx;have g1:Gr w (((w.alloc (.cells #[.int .i64 c.fr,.int .i64 c.tp,.int .i64 c.to,.int .i64 c.lm,.int .i64 c.bk,.int .i64 c.st,.int .i64 c.ah] 143)).alloc (.cells #[.pointer none] 93)).alloc (.cells #[.int .i64 0] 27)):=(((Gr.refl w).alloc _).alloc _).alloc _;have Jf:=ι g1;clear hV hR hT htS hst Yh g1;refine(τ (n:=5)).1 ?_;refine callsIn_of_wp_marks func157 rfl trivial ?_ rfl;simp only[ntmps157,ζT,ζB,ζX,Nat.reduceAdd,Nat.reduceSub,ζL,ζK,ζZ,ζR,ζU,ζr];unfold cfV;gi_upto_region 1 with(fail);obtain⟨W0,Xl⟩:∃W0,W0=(((w.alloc (.cells #[.int .i64 c.fr,.int .i64 c.tp,.int .i64 c.to,.int .i64 c.lm,.int .i64 c.bk,.int .i64 c.st,.int .i64 c.ah] 143)).alloc (.cells #[.pointer none] 93)).alloc (.cells #[.int .i64 0] 27)):=⟨_,rfl⟩;have Zx:W0.heap.size=w.heap.size+3:=by rw[Xl];simp only[χ]
 have Jc:Gr w W0:=by rw[Xl];exact Jf.o
 have rb:Rec W0 w.heap.size 143 [iI c.fr,iI c.tp,iI c.to,iI c.lm,iI c.bk,iI c.st,iI c.ah]:=by rw[Xl];exact(Rec.new w _ [iI c.fr,iI c.tp,iI c.to,iI c.lm,iI c.bk,iI c.st,iI c.ah]).gr (((Gr.refl _).alloc _).alloc _)
 have r6:Rec W0 (w.heap.size+1) 93 [.pointer none]:=by rw[Xl];exact(KY w _ 93 [.pointer none]).gr ((Gr.refl _).alloc _)
 have r7:Rec W0 (w.heap.size+2) 27 [iI 0]:=by
  rw[Xl];have:=KY (w.alloc (.cells #[.int .i64 c.fr,.int .i64 c.tp,.int .i64 c.to,.int .i64 c.lm,.int .i64 c.bk,.int .i64 c.st,.int .i64 c.ah] 143)) (.cells #[.pointer none] 93) 27 [iI 0];rw[χ]at this;exact this
 rw[<-Xl];clear Xl Jf;have Zo:=ι Jc;have Jg:=ι rb;have Zi:=ι r6;have Zf:=ι r7;have Jk:=ι (λ(W:World) (g:Gr w W)=>I9 (HV.gr g));clear rb r6 r7 Jc
 gi_upto_region 2 with(first
  | (refine⟨trivial,?_⟩;gi_at_call 47;refine(τ.2 (Jk.o _ Zo.o)).mono ?_;rintro e w2 ⟨rfl,rfl⟩)
  | (refine⟨trivial,?_⟩;gi_at_call 46;refine(τ.2 (HX _)).mono ?_;rintro e w3 ⟨m,p1,b1,p2,b2,rfl,Zg,Zv,Xh,Xt,Xn,Xu,Xj⟩;have Yf:=ι Zg;have E:=ι (Zo.o.trans Zg);have Xr:=ι Zv;have HB:=ι (ψ Xh (ψ Xt (ψ Xn (ψ Xu Xj))));clear Zg Zv Xh Xt Xn Xu Xj))
 gi_cut [10,11]from 14 (λs10 s11 wx=>∃(Xk:Nat) (Y:Int),s10=pP Xk/\s11=iI Y/\Hid (VNZ w wx S q m p1 b1 p2 b2 v rs c Y))
 case first=>
  have Jj:=HB.o;obtain⟨Xh,Xt,Xn,Xu,Xj⟩:=Jj;rw[Zx]at Xh Xt Xn Xu Xj;have Zc:=Xr.o.hm;have Zb:=Xr.o.v1.hp;have Ym:=Xr.o.v1.hb;have Za:=Xr.o.v2.hp;have Yi:=Xr.o.v2.hb
  have Xm:∀i,AN m b1 b2 i->w.heap.size+3<=i/\i<w3.heap.size:=λi hi=>by
   rcases hi with rfl|rfl|rfl
   ·exact⟨Xh,Zc⟩
   ·exact⟨Xn,Ym⟩
   ·exact⟨Xj,Yi⟩
  have Zl:=ι Xm;have Yd:=ι (λ(W:World) (g:Gr w3 W)=>SJ (HR.gr ((E.o).trans g)));rw[<-HN.o]at Yd
  have Xy:Hid (∀(W:World) (g1 cp:Nat),Gr w3 W->w3.heap.size<=g1->W.ownsRow 0 3 1 (.slice (some ⟨g1,0,none⟩) n cp) n (zs rs)->Calls prog 48 #[.iface 78 (pP q),.slice (some ⟨g1,0,none⟩) n cp,pP m,iI c.st] W λe w'=>
    ∃(a1 a2 a3 a4 Y:Int),e=.returned (.tuple #[.agg #[iI a1,iI a2,iI a3,iI a4],iI Y])/\AB (λi=>AN m b1 b2 i\/AD S w i) W w'/\AC w' (AD S w) q v/\((Y=0/\∃L,Ext w' m p1 b1 p2 b2 v.n L/\BK v rs v.n L)\/(Y=25/\¬CH v rs v.n))):=⟨λW g1 cp hg V ho=>by
   rw[HN.o]at ho⊢;have Yu:=E.o.trans hg;refine(VZ (HV.gr Yu) (Xr.o.gr hg) (Yu.tab HT.lt HT) (λi hi=>?_) (by unfold maxLen;have:=HN.o;omega) (λi hi h=>by have:=(Xm i h).1;have:=hi.2;omega) (λh=>by have:=h.2;omega) (λh=>by have:=h.2;omega) (λh=>Zy h.1) (λh=>by have:=(Xm _ h).1;omega) (c.st:Int)).mono ?_
   ·exact⟨g1,0,rfl,(BE ho rfl).2,λh=>by have:=(Xm _ h).2;omega,by rw[ξq];exact BP ho (LW hi)⟩
   ·rintro e w' (⟨h,-⟩|⟨-,-,ht,hv,(⟨L,r',vi,rfl,he,hm,-⟩|⟨rfl,-,hs⟩)⟩)
    ·have:=Ua;omega
    ·exact⟨_,_,r',vi,0,rfl,ht,hv,.inl ⟨rfl,L,he,hm⟩⟩
    ·exact⟨0,0,0,0,25,rfl,ht,hv,.inr ⟨rfl,hs⟩⟩⟩
  have Xd:Hid (∀(W1 W2 W3:World) (Xk:Nat) (Y:Int),Gr w3 W1->AB (λi=>AN m b1 b2 i\/AD S w i) W1 W2->AC W2 (AD S w) q v->((Y=0/\∃L,Ext W2 m p1 b1 p2 b2 v.n L/\BK v rs v.n L)\/(Y=25/\¬CH v rs v.n))->AB (λi=>i=Xk) W2 W3->w3.heap.size<=Xk →
    VNZ w W3 S q m p1 b1 p2 b2 v rs c Y):=⟨λW1 W2 W3 Xk Y hg ht hv hres O hb=>by
   have Jm:=E.o.size;have hz13:=Yf.o.size;have Yu:=E.o.trans hg
   have Xb:∀i,i<w.heap.size+3->w.heap.size<=i->¬(AN m b1 b2 i\/AD S w i):=λi h1 h2 h=>by
    rcases h with h|h
    ·have:=(Xm i h).1;omega
    ·have:=h.2;omega
   refine⟨((Yu.touch _).trans (ht.mono (T:=λi=>AN m b1 b2 i\/S i) (λi _ h=>h.imp id (λh=>h.1)))).trans' (T:=λi=>i=Xk) O (λi hi h=>by omega) |>.mono (λi hi h=>h.elim (λh=>by have:=(Xm i h).1;omega) id),hv.touch O (λi hi _ h=>by have:=hi.2;omega),?_,?_,?_,?_,Xh,Xt,Xn,Xu,Xj⟩
   ·rcases hres with⟨h,L,he,hm⟩|h
    ·exact .inl ⟨h,L,he.touch O Ω Ω Ω Ω Ω,hm⟩
    ·exact .inr h
   ·exact((Jg.o.gr (Yf.o.trans hg)).touch ht (Xb _ Ω Ω)).touch O Ω
   ·exact((Zi.o.gr (Yf.o.trans hg)).touch ht (Xb _ Ω Ω)).touch O Ω
   ·exact((Zf.o.gr (Yf.o.trans hg)).touch ht (Xb _ Ω Ω)).touch O Ω⟩
  have Ze:=Jg.o.gr Yf.o;have x5:=Ze.cc 5;have Zn:=Ze.lt;have KS:Hid (∀W',Gr w3 W'->W'.cell? ⟨w.heap.size,5,none⟩=some (iI c.st)):=⟨λW' h=>(h.cell Zn 5).trans x5⟩
  have KT:Hid (∀W1 W',Gr w3 W1->AB (λi=>AN m b1 b2 i\/AD S w i) W1 W'->W'.cell? ⟨w.heap.size,5,none⟩=some (iI c.st)):=⟨λW1 W' h t=>(t.cell (κ Zn h.size) (λh=>by
   rcases h with h|h
   ·have:=(Zl.o _ h).1;omega
   ·have:=h.2;omega) 5).trans ((h.cell Zn 5).trans x5)⟩
  obtain⟨Sx,Yw⟩:∃Sx:World->Prop,Sx=λW'=>W'.cell? ⟨w.heap.size,5,none⟩=some (iI c.st):=⟨_,rfl⟩;have y1:∀p':AA Sx,p'.w.cell? ⟨w.heap.size,5,none⟩=some (iI c.st):=λp=>AA.get Yw p;have Zw:Sx w3.drew:=by rw[Yw];exact x5
  have N:=ι Yw;have inst:Inhabited (AA Sx):=⟨⟨_,Zw⟩⟩;clear Yw x5 Ze Xm Xh Xt Xn Xu Xj Zc Zb Ym Za Yi;refine ZK Sx (.two [0,1,2,4,5,6] 3 (.two [] 7 (.one [8,9,10] 11 (.one [] 12 (.fin [13]))) 11 (.one [] 7 (.one [8,9,10] 12 (.fin [13])))) 11 (.one [] 3 (.one [] 7 (.one [8,9,10] 12 (.fin [13]))))) GM Zw ?_;refine QG ?_;simp only[AF,ν,π]
  repeat(go_big_quiet_step (fail))
  refine ζb ⟨?_,?_⟩
  ·gi_wp2_with(refine⟨trivial,?_⟩;gi_at_call 49;refine(τ.2 (Yd.o _ (Gr.refl w3).drew)).mono ?_;rintro e w4 ⟨g1,c1,rfl,Xs,Yb,Xw⟩;have Z:=ι ((Gr.refl w3).drew.trans Xs);have Yr:=ι Xw;have Yy:=ι Yb;clear Xs Xw Yb);refine⟨AA.of (by rw[N.o];exact KS.o _ Z.o),?_⟩;refine QG ?_;simp only[AF,ν,π];refine ζb ⟨?_,?_⟩
   ·gi_wp2_with(refine⟨trivial,?_⟩;gi_at_call 48;refine(τ.2 (Xy.o _ g1 c1 Z.o Yy.o Yr.o)).mono ?_;rintro e w5 ⟨a1,a2,a3,a4,Y,rfl,I,Xa,Xe⟩;have J:=ι I;have Yg:=ι Xa;have Yc:=ι Xe;clear I Xa Xe);refine⟨AA.of (by rw[N.o];exact KT.o _ _ Z.o J.o),?_⟩;refine LZ ?_;have u5:=KT.o _ _ Z.o J.o;have Ja:=AT u5;gi_wp2;refine⟨AA.of (by rw[N.o];exact(((Gr.refl w5).alloc _).cell Ja 5).trans u5),?_⟩;refine I2 ?_;simp only[AF,ν,π];refine ζb ?_;gi_wp2;refine⟨AA.of (by rw[N.o];exact(((Gr.refl w5).alloc _).cell Ja 5).trans u5),?_⟩;refine M4 ?_;gi_wp2
    gi_meet
    exact⟨_,Y,rfl,rfl,⟨Xd.o _ _ _ _ Y Z.o J.o Yg.o Yc.o (((Gr.refl w5).alloc _).touch _) (γ Z.o.size J.o.size)⟩⟩
   ·have x4:=KS.o _ Z.o;have Jh:=AT x4;gi_wp2;refine⟨AA.of (by rw[N.o];exact(((Gr.refl w4).alloc _).cell Jh 5).trans x4),?_⟩;refine I2 ?_;simp only[AF,ν,π];refine ζb ?_;have G:=ι (Rec.new w4 97 [iI 0,iI 0,iI 0,iI 0]);have M:=ι (Z.o.alloc (.cells #[.int .i64 0,.int .i64 0,.int .i64 0,.int .i64 0] 97))
    have Yk:Hid (¬(AN m b1 b2 w4.heap.size\/AD S w w4.heap.size)):=⟨λh=>by
     have:=Z.o.size;rcases h with h|h
     ·have:=(Zl.o _ h).2;omega
     ·have:=h.2;have:=(E.o).size;omega⟩
    have Ye:Hid (¬w.heap.size=w4.heap.size):=⟨by have:=Z.o.size;omega⟩;have Je:=ι (CM Yr.o ((Gr.refl w4).alloc (.cells #[.int .i64 0,.int .i64 0,.int .i64 0,.int .i64 0] 97)));have Yl:Hid (w3.heap.size<=w4.heap.size):=⟨Z.o.size⟩;obtain⟨bA,Xo⟩:∃bA,bA=w4.heap.size:=⟨_,rfl⟩;obtain⟨WA,Xi⟩:∃WA,WA=w4.alloc (.cells #[.int .i64 0,.int .i64 0,.int .i64 0,.int .i64 0] 97):=⟨_,rfl⟩;rw[show w4.alloc (.cells ([.int .i64 0,.int .i64 0,.int .i64 0,.int .i64 0]:List Value).toArray 97)=WA from Xi.symm]at G;rw[<-Xi]at M Je⊢;rw[<-Xo]at G Yk Ye Yl⊢;clear Xo Xi x4 Jh;gi_wp2_with(refine⟨trivial,?_⟩;gi_at_call 48;refine(τ.2 (Xy.o _ g1 c1 M.o Yy.o Je.o)).mono ?_;rintro e w5 ⟨a1,a2,a3,a4,Y,rfl,I,Xa,Xe⟩;have J:=ι I;have Yg:=ι Xa;have Yc:=ι Xe;have U:=ι (G.o.touch I (Yk.o));have q0:=U.o.cc 0;have q1:=U.o.cc 1;have q2:=U.o.cc 2;have q3:=U.o.cc 3;have qf:=U.o.free;have ql:=U.o.lt;clear I Xa Xe);refine⟨AA.of (by rw[N.o];exact KT.o _ _ M.o J.o),?_⟩;refine LZ ?_;gi_wp2;have t5:=MO w5 bA (iI a1) (iI a2) (iI a3) (iI a4);have KF:=(t5.cell (AT (KT.o _ _ M.o J.o)) Ye.o 5).trans (KT.o _ _ M.o J.o);refine⟨AA.of (by rw[N.o];exact KF),?_⟩;refine M4 ?_;gi_wp2
    gi_meet
    exact⟨_,Y,rfl,rfl,⟨Xd.o _ _ _ _ Y M.o J.o Yg.o Yc.o t5 Yl.o⟩⟩
  ·gi_wp2;have x3:=KS.o _ (Gr.refl w3);have Ju:=AT x3;refine⟨AA.of (by rw[N.o];exact KS.o _ ((Gr.refl w3).alloc _).drew),?_⟩;refine I2 ?_;simp only[AF,ν,π];refine ζb ?_;have G:=ι ((Rec.new w3 97 [iI 0,iI 0,iI 0,iI 0]).gr (Gr.refl _).drew);have M:=ι ((Gr.refl w3).alloc (.cells #[.int .i64 0,.int .i64 0,.int .i64 0,.int .i64 0] 97)).drew
   have Yk:Hid (¬(AN m b1 b2 w3.heap.size\/AD S w w3.heap.size)):=⟨λh=>by
    rcases h with h|h
    ·have:=(Zl.o _ h).2;omega
    ·have:=h.2;have:=(E.o).size;omega⟩
   have Ye:Hid (¬w.heap.size=w3.heap.size):=⟨by omega⟩;have Yl:Hid (w3.heap.size<=w3.heap.size):=⟨ϑ _⟩;obtain⟨WA,Xi⟩:∃WA,WA=(w3.alloc (.cells #[.int .i64 0,.int .i64 0,.int .i64 0,.int .i64 0] 97)).drew:=⟨_,rfl⟩;rw[show (w3.alloc (.cells ([.int .i64 0,.int .i64 0,.int .i64 0,.int .i64 0]:List Value).toArray 97)).drew=WA from Xi.symm]at G;rw[<-Xi]at M⊢;clear Xi;obtain⟨bA,Xo⟩:∃bA,bA=w3.heap.size:=⟨_,rfl⟩;rw[<-Xo]at G Yk Ye;rw[show w3.heap.size<=w3.heap.size↔w3.heap.size<=bA by rw[Xo]]at Yl;rw[show w3.heap.size=bA from Xo.symm];clear Xo x3 Ju;gi_wp2_with(refine⟨trivial,?_⟩;gi_at_call 49;refine(τ.2 (Yd.o _ M.o)).mono ?_;rintro e w4 ⟨g1,c1,rfl,Xs,Yb,Xw⟩;have Z:=ι (M.o.trans Xs);have Zs:=ι (G.o.gr Xs);have Yr:=ι Xw;have Yy:=ι (γ M.o.size Yb);clear Xs Xw Yb);refine⟨AA.of (by rw[N.o];exact KS.o _ Z.o),?_⟩;refine I2 ?_;simp only[AF,ν,π];refine ζb ?_;gi_wp2_with(refine⟨trivial,?_⟩;gi_at_call 48;refine(τ.2 (Xy.o _ g1 c1 Z.o Yy.o Yr.o)).mono ?_;rintro e w5 ⟨a1,a2,a3,a4,Y,rfl,I,Xa,Xe⟩;have J:=ι I;have Yg:=ι Xa;have Yc:=ι Xe;have U:=ι (Zs.o.touch I (Yk.o));have q0:=U.o.cc 0;have q1:=U.o.cc 1;have q2:=U.o.cc 2;have q3:=U.o.cc 3;have qf:=U.o.free;have ql:=U.o.lt;clear I Xa Xe);refine⟨AA.of (by rw[N.o];exact KT.o _ _ Z.o J.o),?_⟩;refine LZ ?_;gi_wp2;have t5:=MO w5 bA (iI a1) (iI a2) (iI a3) (iI a4);have KF:=(t5.cell (AT (KT.o _ _ Z.o J.o)) Ye.o 5).trans (KT.o _ _ Z.o J.o);refine⟨AA.of (by rw[N.o];exact KF),?_⟩;refine M4 ?_;gi_wp2
   gi_meet
   exact⟨_,Y,rfl,rfl,⟨Xd.o _ _ _ _ Y Z.o J.o Yg.o Yc.o t5 Yl.o⟩⟩
 case rest=>
  obtain⟨Xk,Y,rfl,rfl,HI⟩:=hcut;have Xp:=HI.o.r6;have Xg:=HI.o.r7;have Zh:=HI.o.bx;have hwz:=HI.o.t.size;have hr7l:=Xg.lt;rcases HI.o.rs with⟨rfl,L,hex,Zt⟩|⟨rfl,Zr⟩
  ·have Zd:=ι hex;have Zq:=ι Zt;clear Xp Xg hex Zt;gi_wp2_with(refine⟨trivial,?_⟩;gi_at_call 144;refine(τ.2 (J5 (some ⟨m,0,none⟩))).mono ?_;rintro e w1 ⟨rfl,rfl⟩);obtain⟨W1,Xx⟩:∃W1,W1=wc.alloc (.cells #[.pointer (some ⟨m,0,none⟩)] 93):=⟨_,rfl⟩;have V:Gr wc W1:=by rw[Xx];exact(Gr.refl wc).alloc _
   have Zu:W1.heap.size=wc.heap.size+1:=by rw[Xx,χ]
   have k4:W1.cell? ⟨wc.heap.size,0,none⟩=some (pP m):=by
    rw[Xx];exact(Boxed.new wc 93 (pP m)).cell
   rw[<-Xx];have hex:=Zd.o;have Zc:=hex.hm;have Zb:=hex.v1.hp;have Ym:=hex.v1.hb;have Za:=hex.v2.hp;have Yi:=hex.v2.hb;have Jd:Hid (AQ wc):=⟨HI.o.t.tab Jr Zy HT⟩;have Zz:=Jd.o.lt;have hrl:=Zh.lt;have Jy:=ι hex.good;clear Xx hex;have tI:∀(j:Nat) A B,(AB (λi=>W1.heap.size<=i) W1 A/\j<=L.length/\∀i (h:i<L.length),i<j->c.fr<=L[i].1/\L[i].1+L[i].2<=c.tp)->AB (λi=>W1.heap.size<=i/\i<W1.heap.size+2+4) A B->(AB (λi=>W1.heap.size<=i) W1 B/\j<=L.length/\∀i (h:i<L.length),i<j->c.fr<=L[i].1/\L[i].1+L[i].2<=c.tp):=λj A B h t=>⟨h.1.trans (t.mono (λi _ h=>h.1)),h.2⟩
   refine LU (K:=4) (s0:=0) rfl Ω (gf:=187) (lb:=#[pP wc.heap.size]) rfl trivial (enters_of func187 (by kernel_rfl) rfl)
    (OY _ wc.heap.size m p1 b1 p2 b2 v.n L _) (λ_=>rfl)
    (λ(j:Nat) A=>AB (λi=>W1.heap.size<=i) W1 A/\j<=L.length/\∀i (h:i<L.length),i<j->c.fr<=L[i].1/\L[i].1+L[i].2<=c.tp)
    (λcd A=>cd=.ret/\AB (λi=>(i=w.heap.size+1\/i=w.heap.size+2)\/W1.heap.size<=i) W1 A/\A.cell? ⟨w.heap.size+1,0,none⟩=some (.pointer none)/\A.cell? ⟨w.heap.size+2,0,none⟩=some (iI 25)/\∃o∈L,¬(c.fr<=o.1/\o.1+o.2<=c.tp))
    tI
    (λcd A B h t=>⟨h.1,h.2.1.trans (t.mono (λi _ h=>.inr h.1)),(t.cell (AT h.2.2.1) (by show ¬(W1.heap.size<=w.heap.size+1/\_);omega) 0).trans h.2.2.1,(t.cell (AT h.2.2.2.1) (by show ¬(W1.heap.size<=w.heap.size+2/\_);omega) 0).trans h.2.2.2.1,h.2.2.2.2⟩)
    (λj A h=>⟨(Zd.o.gr V).touch h.1 Ω Ω Ω Ω Ω,(V.tab Zz Jd.o).touch' h.1 Ω,(h.1.cell Ω Ω 0).trans k4,h.2.1⟩)
    ⟨AB.refl _ _,ζc _,λi _ h=>absurd h (ζC _)⟩ ?round ?done ?stop
   case round=>
    have Yt:=ι Zu;clear Zu;intro lp j x W3 hsz3 Xf Xc;dsimp only[GQ];gi_wp2;refine⟨Gr.refl _,λW4 ht4 hI4=>?_⟩
    have Yp:j<L.length:=by
     rcases δ j L.length with h|h
     ·exact h
     ·unfold EU at Xc;rw[ζJ h]at Xc;cases Xc
    obtain rfl:x=L[j]:=by unfold EU at Xc;rw[ω Yp]at Xc;exact(Option.some.inj Xc).symm
    have Xz:=(Zh.gr V).touch hI4.1 (by have:=Yt.o;omega);obtain⟨c0,c1,cl⟩:=Xz.k2;have Jn:=(Jy.o.sz _ (μ Yp)).2;have Jb:=ι (μ Yp);obtain⟨sa,Yz⟩:∃s,s=L[j].1:=⟨_,rfl⟩;obtain⟨sz,Yo⟩:∃s,s=L[j].2:=⟨_,rfl⟩;have Yq:=ι (ψ Yz Yo);rw[<-Yz,<-Yo]at Jn⊢;have Zm:=ι hI4;have Yj:=(HI.o.r6.gr V).touch hI4.1 (by have:=Yt.o;omega);have Xq:=(HI.o.r7.gr V).touch hI4.1 (by have:=Yt.o;omega);have Jl:=ι Yp;by_cases Ya:c.fr<=sa/\sa+sz<=c.tp
    ·have e0:decide ((sa:Int)<(c.fr:Int))=false:=ζ Ω;have e1:decide ((c.tp:Int)<(sa:Int)+(sz:Int))=false:=ζ Ω;have e2:decide (sa<c.fr)=false:=ζ Ω;have Ji:=ι Ya;clear Xf hI4 Xc ht4 Yz Yo Ya Yj Xq;gi_wp2;refine⟨AB.refl _ _,j+1,rfl,Zm.o.1,Jl.o,λi h hij=>?_⟩;rcases δ i j with h'|h'
     ·exact Zm.o.2.2 i h h'
     ·obtain rfl:i=j:=Ω
      rw[<-Yq.o.1,<-Yq.o.2];exact Ji.o
    ·have Jo:Hid (∃o∈L,¬(c.fr<=o.1/\o.1+o.2<=c.tp)):=⟨L[j],Jb.o,by rw[<-Yq.o.1,<-Yq.o.2];exact Ya⟩;have Jv:=ι Yj;have Jq:=ι Xq;have z6:=Yj.cc 0;have z7:=Xq.cc 0;have zf6:=Yj.free 0;have zf7:=Xq.free 0;have zl7:=Xq.lt
     have Xd:Hid (∀W5,W5=(W4.setCell ⟨w.heap.size+1,0,none⟩ (.pointer none)).setCell ⟨w.heap.size+1+1,0,none⟩ (.int .i64 25)->AB (λk=>k<W1.heap.size\/W1.heap.size+(2+4)<=k) W4 W5/\(AB (λi=>(i=w.heap.size+1\/i=w.heap.size+2)\/W1.heap.size<=i) W1 W5/\W5.cell? ⟨w.heap.size+1,0,none⟩=some (.pointer none)/\W5.cell? ⟨w.heap.size+2,0,none⟩=some (iI 25)/\∃o∈L,¬(c.fr<=o.1/\o.1+o.2<=c.tp))):=⟨λW5 hW5=>by
      have tg:AB (λi=>i=w.heap.size+1\/i=w.heap.size+2) W4 W5:=by
       rw[hW5];exact((AB.refl _ W4).setCell (a:=⟨w.heap.size+1,0,none⟩) (λ_=>.inl rfl) _).setCell (a:=⟨w.heap.size+1+1,0,none⟩) (λ_=>.inr rfl) _
      have b6:Rec W5 (w.heap.size+1) 93 [.pointer none]:=by
       rw[hW5];exact(Jv.o.set 0 (.pointer none)).touch ((AB.refl (λi=>i=w.heap.size+1+1) _).setCell (a:=⟨w.heap.size+1+1,0,none⟩) (λ_=>rfl) _) Ω
      have b7:Rec W5 (w.heap.size+2) 27 [iI 25]:=by
       rw[hW5];exact(Jq.o.touch ((AB.refl (λi=>i=w.heap.size+1) W4).setCell (a:=⟨w.heap.size+1,0,none⟩) (λ_=>rfl) (.pointer none)) Ω).set 0 (iI 25)
      refine⟨tg.mono (λb _ h=>.inl (by have:=Yt.o;omega)),(Zm.o.1.mono (λ_ _ h=>.inr h)).trans (tg.mono (λ_ _ h=>.inl h)),b6.cc 0,b7.cc 0,Jo.o⟩⟩
     clear Xf hI4 Xc ht4 Yj Xq Yz Yo;by_cases Yx:sa<c.fr
     ·have e0:decide ((sa:Int)<(c.fr:Int))=true:=ξ Ω;have e2:decide (sa<c.fr)=true:=ξ Yx;clear Ya Yx;gi_wp2;exact⟨(Xd.o _ rfl).1,rfl,(Xd.o _ rfl).2⟩
     ·have e0:decide ((sa:Int)<(c.fr:Int))=false:=ζ Ω;have e2:decide (sa<c.fr)=false:=ζ Yx;have e1:decide ((c.tp:Int)<(sa:Int)+(sz:Int))=true:=ξ Ω;clear Ya Yx;gi_wp2;exact⟨(Xd.o _ rfl).1,rfl,(Xd.o _ rfl).2⟩
   case done=>
    rintro D j W3 hD rfl Xf hK;have Xv:=(HI.o.r6.gr V).touch Xf.1 (by have:=HI.o.r6.lt;omega);have Yn:=(HI.o.r7.gr V).touch Xf.1 (by have:=HI.o.r7.lt;omega);have q0:=Xv.cc 0;have q1:=Xv.free 0;have ql:=Xv.lt;have p0:=Yn.cc 0;have Jt:=Yn.free 0;have pl:=Yn.lt;have HK:=ι hK;have HD:=ι hD;have Yv:=ι Xf;have G:=ι Xv;have Jp:=ι Yn;have hs3:=Xf.1.size;clear hK hD Xf Xv Yn;gi_wp2
    have tg:AB (λi=>i=w.heap.size+1\/i=w.heap.size+2) W3 ((W3.setCell ⟨w.heap.size+1,0,none⟩ (.pointer (some ⟨m,0,none⟩))).setCell ⟨w.heap.size+1+1,0,none⟩ (.int .i64 0)):=
     ((AB.refl _ W3).setCell (a:=⟨w.heap.size+1,0,none⟩) (λ_=>.inl rfl) _).setCell (a:=⟨w.heap.size+1+1,0,none⟩) (λ_=>.inr rfl) _
    have b6:Rec ((W3.setCell ⟨w.heap.size+1,0,none⟩ (.pointer (some ⟨m,0,none⟩))).setCell ⟨w.heap.size+1+1,0,none⟩ (.int .i64 0)) (w.heap.size+1) 93 [pP m]:=
     (G.o.set 0 (pP m)).touch ((AB.refl (λi=>i=w.heap.size+1+1) _).setCell (a:=⟨w.heap.size+1+1,0,none⟩) (λ_=>rfl) _) Ω
    have b7:Rec ((W3.setCell ⟨w.heap.size+1,0,none⟩ (.pointer (some ⟨m,0,none⟩))).setCell ⟨w.heap.size+1+1,0,none⟩ (.int .i64 0)) (w.heap.size+2) 27 [iI 0]:=
     (Jp.o.touch ((AB.refl (λi=>i=w.heap.size+1) W3).setCell (a:=⟨w.heap.size+1,0,none⟩) (λ_=>rfl) (pP m)) Ω).set 0 (iI 0)
    have hD:=HD.o;have Zj:=(tg.block D (ζp.1 HK.o).1 Ω).trans HK.o;generalize ((W3.setCell ⟨w.heap.size+1,0,none⟩ (.pointer (some ⟨m,0,none⟩))).setCell ⟨w.heap.size+1+1,0,none⟩ (.int .i64 0))=W5 at *
    have k6:=b6.cc 0;have k7:=b7.cc 0;rw[show w.heap.size+2=w.heap.size+1+1 from rfl]at k7;refine⟨by simp,.inl ⟨_,_,rfl,run_takeDeferred Zj,?_⟩⟩;have Zk:=cell_kept k6 (grownBy_putObj' _ D (.deferred none)) (λr e=>by cases e;exact⟨_,Zj,rfl⟩);have Ys:=cell_kept k7 (grownBy_putObj' _ D (.deferred none)) (λr e=>by cases e;exact⟨_,Zj,rfl⟩);have tD:AB (λi=>W1.heap.size<=i) W5 (W5.putObj D (.deferred none)):=DB _ D _ Ω;refine⟨.tuple #[pP m,iI 0],?_,?_,?_,.inl ⟨L,m,p1,b1,p2,b2,⟨Zq.o,λo ho=>?_⟩,rfl,?_,?_⟩⟩
    ·simp[results,f157,go_sem,Zk,Ys]
    ·exact(((HI.o.t.trans (V.touch _)).trans' Yv.o.1 (λi hi h=>by omega)).trans' tg (λi hi h=>by omega)).trans' tD (λi hi h=>by omega)
    ·exact(((HI.o.vm.gr V).touch Yv.o.1 (λi hi _ h=>by have:=hi.2;omega)).touch tg (λi hi _ h=>by have:=hi.2;omega)).touch tD (λi hi _ h=>by have:=hi.2;omega)
    ·obtain⟨i,hi,rfl⟩:=ζm ho;have:=Yv.o.2.2 i hi hi;omega
    ·have hl:=HI.o;have l0:=hl.lm;have l1:=hl.l1;have l2:=hl.l2;have l3:=hl.l3;have l4:=hl.l4;exact((((Zd.o.gr V).touch Yv.o.1 Ω Ω Ω Ω Ω)).touch tg Ω Ω Ω Ω Ω).touch tD Ω Ω Ω Ω Ω
    ·have hl:=HI.o;have l0:=hl.lm;have l1:=hl.l1;have l2:=hl.l2;have l3:=hl.l3;have l4:=hl.l4;omega
   case stop=>
    rintro D cd W3 hD ⟨rfl,O,h1,h2,Xb⟩ hK;have Jw:=ι Xb;have HK:=ι hK;have Zp:=ι O;have Jm:=O.size;clear Xb hK O;gi_wp2;refine⟨by simp,.inl ⟨_,_,rfl,run_takeDeferred HK.o,?_⟩⟩;have Zk:=cell_kept h1 (grownBy_putObj' _ D (.deferred none)) (λr e=>by cases e;exact⟨_,HK.o,rfl⟩);have Ys:=cell_kept h2 (grownBy_putObj' _ D (.deferred none)) (λr e=>by cases e;exact⟨_,HK.o,rfl⟩);rw[show w.heap.size+2=w.heap.size+1+1 from rfl]at Ys;have tD:AB (λi=>W1.heap.size<=i) W3 (W3.putObj D (.deferred none)):=DB _ D _ Ω;refine⟨.tuple #[.pointer none,iI 25],?_,?_,?_,.inr ⟨λL' h=>?_,rfl⟩⟩
    ·simp[results,f157,go_sem,Zk,Ys]
    ·exact(((HI.o.t.trans (V.touch _)).trans' Zp.o (λi hi h=>by omega))).trans' tD (λi hi h=>by omega)
    ·exact((HI.o.vm.gr V).touch Zp.o (λi hi _ h=>by have:=hi.2;omega)).touch tD (λi hi _ h=>by have:=hi.2;omega)
    ·have e:=h.1.unique Zq.o;subst e;obtain⟨o,ho,Xb⟩:=Jw.o;have:=h.2 o ho;exact Xb Ω
  ·have q0:=Xp.cc 0;have q1:=Xp.free 0;have ql:=Xp.lt;have p0:=Xg.cc 0;have Jt:=Xg.free 0;have pl:=Xg.lt;have Jz:=ι Zr;have Zi:=ι Xp;have Zf:=ι Xg;clear Xp Xg Zr Zh;gi_wp2
   have tg:AB (λi=>i=w.heap.size+1\/i=w.heap.size+2) wc ((wc.setCell ⟨w.heap.size+1,0,none⟩ (.pointer none)).setCell ⟨w.heap.size+1+1,0,none⟩ (.int .i64 25)):=
    ((AB.refl _ wc).setCell (a:=⟨w.heap.size+1,0,none⟩) (λ_=>.inl rfl) _).setCell (a:=⟨w.heap.size+1+1,0,none⟩) (λ_=>.inr rfl) _
   have b6:Rec ((wc.setCell ⟨w.heap.size+1,0,none⟩ (.pointer none)).setCell ⟨w.heap.size+1+1,0,none⟩ (.int .i64 25)) (w.heap.size+1) 93 [.pointer none]:=
    (Zi.o.set 0 (.pointer none)).touch ((AB.refl (λi=>i=w.heap.size+1+1) _).setCell (a:=⟨w.heap.size+1+1,0,none⟩) (λ_=>rfl) _) Ω
   have b7:Rec ((wc.setCell ⟨w.heap.size+1,0,none⟩ (.pointer none)).setCell ⟨w.heap.size+1+1,0,none⟩ (.int .i64 25)) (w.heap.size+2) 27 [iI 25]:=
    (Zf.o.touch ((AB.refl (λi=>i=w.heap.size+1) wc).setCell (a:=⟨w.heap.size+1,0,none⟩) (λ_=>rfl) (.pointer none)) Ω).set 0 (iI 25)
   generalize ((wc.setCell ⟨w.heap.size+1,0,none⟩ (.pointer none)).setCell ⟨w.heap.size+1+1,0,none⟩ (.int .i64 25))=W5 at *
   have k6:=b6.cc 0;have k7:=b7.cc 0;rw[show w.heap.size+2=w.heap.size+1+1 from rfl]at k7;refine⟨.tuple #[.pointer none,iI 25],?_,?_,?_,.inr ⟨λL' h=>Jz.o h.1.sound,rfl⟩⟩
   ·simp[results,f157,go_sem,k6,k7]
   ·exact HI.o.t.trans' tg (λi hi h=>by omega)
   ·exact HI.o.vm.touch tg (λi hi _ h=>by have:=hi.2;omega)
end
end
section
attribute [local go_sem] Oper.semAt_some
theorem Qkw{b1 b2:Nat}(hE:Ext w m p1 b1 p2 b2 n L)(hT:AQ w){B:Nat}(hB:BM B=true)(hb:base<2147483648):
  Calls prog 158 #[pP m,iI B,iI base] w λe w'=>∃p,e=.returned (.tuple #[pP p,iI 0])/\Gr w w'/\Pln w' w.heap.size p n B base L:=by
 have hbp:=DI hB;refine(YGs hE hT (B:Int) (base:Int) Ω).mono ?_;have hbo:F3 (base:Int)=true:=by unfold F3;grind
 rintro e w' ⟨hg,(⟨h,-⟩|⟨-,p,B',base',e1,e2,rfl,hP⟩)⟩
 ·simp_all
 grind
def QC(w:World)(S:Nat->Prop)(q r g:Nat)(v:Vm)(rs:List Int)(c:Cf)(e:Ending)(w':World):Prop:=
 AB (λb=>b=g\/S b) w w' ∧
  (((∀L,¬FC v rs c.fr c.tp L)/\e=.returned (.tuple #[.pointer none,iI 25])/\AC w' S q v/\AS w' r g rs) ∨
  ∃L,FC v rs c.fr c.tp L ∧
   ((c.lm-c.to<sizes L/\e=.returned (.tuple #[.pointer none,iI 21])/\AC w' S q v/\AS w' r g rs) ∨
   (sizes L<=c.lm-c.to/\∃(y:Nat) (z:CB) (R S':Nat->Prop) (v':Vm) (j:Nat),e=.returned (.tuple #[pP y,iI 0])/\Cyc w' R y q z (AX v c L)/\AC w' S' q v'/\(∀b,S' b->S b\/w.heap.size<=b)/\(∀b,R b->w.heap.size<=b/\¬S' b) ∧
    EZ (AX v c L) v v' (c.fr/v.pl.pg) j/\c.tp<=(c.fr/v.pl.pg+j)*v.pl.pg/\(∀i,i<j->(c.fr/v.pl.pg+i)*v.pl.pg<c.tp)/\AS w' r g (rs.map (toV L c.to)))))
theorem ZHF:(prog.info? 4).map (λi=>(i.zero,i.size,i.bytes))=some (some (.bool false),1,1):=by kernel_rfl
structure OpJ(wa w:World)(D:Nat->Bool)(q p m nb:Nat)(c:Cf)(v55 v56 v57 v58 v59 v60 v61 v62 v63 v64 v65 v66 v67 v13:Value):Prop where
 e55:v55=pP q
 e56:v56=.agg #[iI c.fr,iI c.tp,iI c.to,iI c.lm,iI c.bk,iI c.st,iI c.ah]
 e57:v57=pP p
 e58:v58=pP m
 e59:v59=pP p
 e62:v62=pP p
 e60:D 5=true->v60=iI nb
 e61:D 6=true->∃b,v61=.slice (some ⟨b,0,none⟩) nb nb/\w.ownsRow 0 4 1 v61 nb (List.replicate nb (.bool false))/\wa.heap.size<=b
 e63:D 8=true->v63=iI nb
 e64:D 9=true->∃b,v64=.map (some b)/\BI prog 3 w b 0 (λ_=>none)/\wa.heap.size<=b
 e65:D 10=true->∃b,v65=.map (some b)/\BI prog 3 w b 0 (λ_=>none)/\wa.heap.size<=b
 ne:D 9=true->D 10=true->v64≠v65
 e66:D 11=true->D 6=true/\D 8=true/\D 9=true/\D 10=true/\v66=.agg #[v55,iI c.fr,iI c.tp,iI c.to,iI c.lm,iI c.bk,iI c.st,iI c.ah,v57,v58,v61,v63,iI 0,iI 0,v64,v65]
 e67:D 12=true->D 11=true/\∃b,v67=pP b/\wa.heap.size<=b/\Rec w b 149 [v55,iI c.fr,iI c.tp,iI c.to,iI c.lm,iI c.bk,iI c.st,iI c.ah,v57,v58,v61,v63,iI 0,iI 0,v64,v65]
 e13:D 13=true->∃b,v13=pP b/\wa.heap.size<=b/\Rec w b 81 [if D 14 then v67 else .pointer none]
 d14:D 14=true->D 12=true/\D 13=true
 t:AB (λi=>wa.heap.size<=i) wa w
theorem OpJ.gr{wa:World}{D:Nat->Bool}{c:Cf}{v55 v56 v57 v58 v59 v60 v61 v62 v63 v64 v65 v66 v67 v13:Value}(h:OpJ wa w D q p m nb c v55 v56 v57 v58 v59 v60 v61 v62 v63 v64 v65 v66 v67 v13)(g:Gr w w'):OpJ wa w' D q p m nb c v55 v56 v57 v58 v59 v60 v61 v62 v63 v64 v65 v66 v67 v13:=
 ⟨h.e55,h.e56,h.e57,h.e58,h.e59,h.e62,h.e60,λd=>by obtain⟨b,h1,h2,h3⟩:=h.e61 d;exact⟨b,h1,CM h2 g,h3⟩,h.e63,λd=>by obtain⟨b,h1,h2,h3⟩:=h.e64 d;exact⟨b,h1,h2.gr g,h3⟩,λd=>by obtain⟨b,h1,h2,h3⟩:=h.e65 d;exact⟨b,h1,h2.gr g,h3⟩,h.ne,h.e66,
  λd=>by obtain⟨h0,b,h1,h2,h3⟩:=h.e67 d;exact⟨h0,b,h1,h2,h3.gr g⟩,λd=>by obtain⟨b,h1,h2,h3⟩:=h.e13 d;exact⟨b,h1,h2,h3.gr g⟩,h.d14,h.t.trans (g.touch _)⟩
def OpI(wa:World)(q p m nb:Nat)(c:Cf)(a0:Act)(D:Nat->Bool)(a:Act)(w:World):Prop:=
 ∃v55 v56 v57 v58 v59 v60 v61 v62 v63 v64 v65 v66 v67 v13:Value,a=(((((((((((((a0.put (some 55) v55).put (some 56) v56).put (some 57) v57).put (some 58) v58).put (some 59) v59).put (some 60) v60).put (some 61) v61).put (some 62) v62).put (some 63) v63).put (some 64) v64).put (some 65) v65).put (some 66) v66).put (some 67) v67).put (some 13) v13/\OpJ wa w D q p m nb c v55 v56 v57 v58 v59 v60 v61 v62 v63 v64 v65 v66 v67 v13
theorem Sl.on_next(s:Sl)(hm:mm<sizes s.L)(q:Nat):s.on (λi=>decide (i<mm+1)) q=s.on (λi=>decide (i<mm)) q+(if AG s.L mm/s.pg=q then 1 else 0):=by
 have h:=Sl.on_but (s:=s) (U:=λi=>decide (i<mm+1)) (i:=mm) (q:=q) hm (by simp)
 have e:s.on (but (λi=>decide (i<mm+1)) mm) q=s.on (λi=>decide (i<mm)) q:=Sl.on_congr λj _=>by
  unfold but
  grind
 omega
theorem Y0x(hg:AP n L):L.length<=sizes L:=by
 have:∀l:List Ob,(∀o∈l,1<=o.2)->l.length<=sizes l:=λl=>by
  induction l with
  | nil=>simp_all
  | cons o r ih=>
   intro h;have h1:=ih (λx hx=>h x (ζl _ hx));have h2:=h o (ζh ..);simp only[ζB,sizes];omega
 exact this L (λo ho=>(hg.sz o ho).1)
structure OpA(W5 A:World)(b64 b65:Nat)(v:Vm)(s:Sl)(j mm:Nat):Prop where
 t:AB (λi=>(i=b64\/i=b65)\/W5.heap.size<=i) W5 A
 sh:∃n f,BI prog 3 A b65 n f/\n<=j/\∀i (h:i<s.L.length),i<j->f (s.L[i].1:Nat)=some (AJ (v.rdH (s.L[i].1:Nat)))
 wd:∃n f,BI prog 3 A b64 n f/\n<=mm/\∀q:Nat,(f (q:Nat)).getD (iI 0)=iI (s.on (λi=>decide (i<mm)) q:Nat)
theorem OpA.win{s:Sl}{K:Nat}(h:OpA W5 A b64 b65 v s j mm)(h4:b64<W5.heap.size)(h5:b65<W5.heap.size)(t:AB (λk=>W5.heap.size<=k/\k<K) A B):OpA W5 B b64 b65 v s j mm:=by
 obtain⟨n1,f1,a1,a2,a3⟩:=h.sh;obtain⟨n2,f2,c1,c2,c3⟩:=h.wd;exact⟨h.t.trans (t.mono (λi _ h=>.inr h.1)),⟨n1,f1,a1.touch t (λh=>by omega),a2,a3⟩,⟨n2,f2,c1.touch t (λh=>by omega),c2,c3⟩⟩
theorem OpA.zero{s:Sl}(h4:BI prog 3 W5 b64 0 (λ_=>none))(h5:BI prog 3 W5 b65 0 (λ_=>none)):OpA W5 W5 b64 b65 v s 0 0:=
 ⟨AB.refl _ _,⟨0,_,h5,ϑ _,λi _ h=>absurd h (ζC _)⟩,⟨0,_,h4,ϑ _,λq=>by
  have:s.on (λi=>decide (i<0)) q=0:=Sl.on_iff.2 (λj _ h=>by simp at h)
  simp_all⟩⟩
theorem OpA.hdr{s:Sl}(h:OpA W5 A b64 b65 v s j mm)(hj:j<s.L.length)(hne:b64≠b65)(hn:n<=j)(hf:∀i (h:i<s.L.length),i<j->f (s.L[i].1:Nat)=some (AJ (v.rdH (s.L[i].1:Nat))))(_:AP s.n s.L)
  (hm:BI prog 3 B b65 (n+1) (λy=>if y=((s.L[j].1:Nat):Int)then some (AJ (v.rdH (s.L[j].1:Nat)))else f y)) (t:AB (λi=>i=b65) A B):OpA W5 B b64 b65 v s (j+1) mm:=by
 obtain⟨n2,f2,c1,c2,c3⟩:=h.wd;refine⟨h.t.trans (t.mono (λi _ h=>.inl (.inr h))),⟨n+1,_,hm,by omega,λi hi hij=>?_⟩,⟨n2,f2,c1.touch t hne,c2,c3⟩⟩
 grind
theorem OpA.word{s:Sl}(h:OpA W5 A b64 b65 v s j mm)(hm:mm<sizes s.L)(hne:b64≠b65)(hn:n<=mm)(hf:∀q:Nat,(f (q:Nat)).getD (iI 0)=iI (s.on (λi=>decide (i<mm)) q:Nat))
  (hx:x=s.on (λi=>decide (i<mm)) (AG s.L mm/s.pg)+1) (hM:BI prog 3 B b64 (n+1) (λy=>if y=((AG s.L mm/s.pg:Nat):Int)then some (iI x)else f y)) (t:AB (λi=>i=b64) A B):OpA W5 B b64 b65 v s j (mm+1):=by
 obtain⟨n1,f1,a1,a2,a3⟩:=h.sh;refine⟨h.t.trans (t.mono (λi _ h=>.inl (.inl h))),⟨n1,f1,a1.touch t (λe=>hne e.symm),a2,a3⟩,⟨n+1,_,hM,by omega,λq=>?_⟩⟩;rw[s.on_next hm q];by_cases e:AG s.L mm/s.pg=q
 ·simp_all
 grind
theorem VLI{w3 W7:World}{b1 b2 b61 lo:Nat}{c:Cf}{T:Nat->Prop}
  (hE2:Ext w2 m p1 b1 p2 b2 v.n L) (hg:Gr w2 w3) (hP:Pln w3 w2.heap.size p v.n c.bk c.to L) (hlo:lo<=w2.heap.size/\lo<=m/\lo<=p1/\lo<=b1/\lo<=p2/\lo<=b2)
  (t3:AB (λi=>w3.heap.size<=i) w3 W5) (hge:w3.heap.size<=y/\w3.heap.size<=b61/\w3.heap.size<=b64/\w3.heap.size<=b65) (hnb:nb=nbl (sizes L) c.bk)
  (hY:Rec W5 y 149 [pP q,iI c.fr,iI c.tp,iI c.to,iI c.lm,iI c.bk,iI c.st,iI c.ah,pP p,pP m,.slice (some ⟨b61,0,none⟩) nb nb,iI nb,iI 0,iI 0,.map (some b64),.map (some b65)])
  (hO:W5.ownsRow 0 4 1 (.slice (some ⟨b61,0,none⟩) nb nb) nb (List.replicate nb (.bool false))) (h4:BI prog 3 W5 b64 0 (λ_=>none)) (h5:BI prog 3 W5 b65 0 (λ_=>none)) (hne:b64≠b65)
  (hA:OpA W5 W7 b64 b65 v (AX v c L) L.length (sizes L)) (hT:∀i,i<W5.heap.size->i≠b64->i≠b65->¬T i) (t7:AB T W5 W7):
  Cyc W7 (λb=>lo<=b/\b<W5.heap.size) y q ⟨w2.heap.size,w3.heap.size,p,m,p1,b1,p2,b2,b65,b61,nb,b64⟩ (AX v c L):=by
 obtain⟨l1,l2,l3,l4,l5,l6⟩:=hlo;obtain⟨g1,g2,g3,g4⟩:=hge;have D:=hg.size;have s35:=t3.size;have s57:=t7.size;have hm:=hE2.hm;have B:=hE2.v1.hp;have E:=hE2.v1.hb;have I:=hE2.v2.hp;have O:=hE2.v2.hb;have J:=hY.lt;have Y:=(BE hO rfl).2;have M:=h4.lt;have U:=h5.lt;have n1:b61≠y:=AO hO hY (by decide) rfl rfl;have n2:=h4.ne (IM hY);have n3:=h5.ne (IM hY);obtain⟨V,Z⟩:=QF hO rfl;have n4:=h4.ne (q:=b61) ⟨V,_,Z⟩;have n5:=h5.ne (q:=b61) ⟨V,_,Z⟩;have N:Gr w3 W5:=(t3.mono (T:=λ_=>False) (λi hi h=>absurd hi (ξf h))).gr;obtain⟨nh,fh,a1,a2,a3⟩:=hA.sh;obtain⟨nw,fw,d1,d2,d3⟩:=hA.wd;refine⟨⟨hm,B,E,I,O,D,by show w3.heap.size<=_;omega,g1,g2,g3,g4,n1.symm,n2.symm,n3.symm,n4.symm,n5.symm,hne,⟨by omega,J⟩,⟨by show lo<=b61;omega,Y⟩,⟨by show lo<=b64;omega,M⟩,⟨by show lo<=b65;omega,U⟩,⟨l2,by show m<_;omega⟩,⟨l3,by show p1<_;omega⟩,⟨l4,by show b1<_;omega⟩,⟨l5,by show p2<_;omega⟩,⟨l6,by show b2<_;omega⟩,λk h1 h2=>⟨by have:w2.heap.size<=k:=h1;omega,by have:k<w3.heap.size:=h2;omega⟩,λk hk=>by omega⟩,?_,λW tW=>hP.touch ((t3.mono (λi _ h=>.inr h)).trans ((t7.mono (λi hi h=>?_)).trans tW)) (λk h1 h2 h=>by rcases h with h|h;(have:k<w2.heap.size:=h;omega);(have:w3.heap.size<=k:=h;omega)),?_,⟨nh,fh,a1,λj hj=>a3 j hj hj⟩,⟨nw,fw,d1,?_,λqq=>?_⟩,?_⟩
 ·have h:=hY.touch t7 (hT _ J n2.symm n3.symm);rw[Y8,Q20,SF];have hl:(AX v c L).mv.length=nb:=by rw[hnb];exact ζI
  rw[hl,<-hnb];exact h
 ·right
  show w3.heap.size<=i
  refine ξV λh'=>?_;exact hT i Ω Ω Ω h
 ·exact(((hE2.gr hg).gr N).touch t7 (hT _ Ω Ω Ω) (hT _ Ω Ω Ω) (hT _ Ω Ω Ω) (hT _ Ω Ω Ω) (hT _ Ω Ω Ω))
 ·have h1:cnt (λi=>!(AX v c L).is i) (sizes (AX v c L).L)<=sizes (AX v c L).L:=EJ _ _;have h2:nw<=sizes (AX v c L).L:=d2;omega
 ·rw[d3 qq]
  have:(AX v c L).on (λi=>decide (i<sizes L)) qq=(AX v c L).on (λi=>!(AX v c L).is i) qq:=Sl.on_congr λi hi=>by
   have G:i<sizes L:=hi;rw[LV,ξ G];rfl
  rw[this]
 ·have h:=BV hO t7 (λg hg=>by cases hg;exact hT _ Y n4.symm n5.symm);have hl:(AX v c L).mv.length=nb:=by rw[hnb];exact ζI
  have hb:bls (AX v c L).mv=List.replicate nb (.bool false):=by
   show (List.replicate (nbl (sizes L) c.bk) false).map Value.bool=_
   rw[List.map_replicate,hnb]
  rw[hl,hb];exact h
structure UmO(w8 wx:World)(S5:Nat->Prop)(q:Nat)(s:Sl)(v:Vm)(q0 j pg tp:Nat):Prop where
 t:AB S5 w8 wx
 vm:∃Sj v',(∀b,Sj b->plus S5 w8 b)/\AC wx Sj q v'/\EZ s v v' q0 j
 q1:∀i,i<j->(q0+i)*pg<tp
section
variable{g:Nat}{c:Cf}
theorem VBz(hV:AC w S q v)(hR:AS w r g rs)(hT:AQ w)(htS:¬S 1)(hrS:¬S r)(hgS:¬S g)(hcf:H6 v.pl.pg v.n c)(htr:1≠g):
  Calls prog 112 #[pP q,pP r,cfV c] w (QC w S q r g v rs c):=by
 have HV:=ι hV.cut;have HR:=ι hR;have HT:=ι hT;have Yb:=ι (ψ htS (ψ hrS (ψ hgS htr)));have Nv:=hT.lt;have hrl:=hR.lt;have hn2:=hV.ok.n2;have Od:=hV.ok.page;have Mp:=ι hV.ok;have Vr:=ι hcf;have Ek:1<=v.n:=by have:=hcf.fr;have:=hcf.tp;have:=hcf.tn;omega
 have Vo:rs.length≠0:=λe=>hR.ne (ζw e);have Ey:=hR.le;have hcb:c.lm<=v.n/\c.to<=c.lm/\c.fr<=c.tp/\c.tp<=v.n:=⟨hcf.ln,hcf.lm,hcf.tp,hcf.tn⟩;have Jz:=ι (λ(W:World) (gW:Gr w W)=>WU (hR.gr gW));have No:=ι (λ(W:World) (gW:Gr w W)=>QzK (hV.gr gW) hcf);have Of:=ι (λ(W:World) (gW:Gr w W)=>YeD (c:=c) (hV.cut.gr gW) Ek (hR.gr gW) (gW.tab Nv hT) (λh=>htS h.1) hcf.st);unfold cfV at No Of⊢;obtain⟨n,Vw⟩:∃n,n=rs.length:=⟨_,rfl⟩;have HN:=ι Vw;rw[<-Vw]at Vo Ey Jz;have d0:((n:Int)==0)=false:=by simp;omega
 have Ic:=ι (((Gr.refl w).alloc (.cells #[.pointer (some ⟨q,0,none⟩)] 78)).alloc (.cells #[.int .i64 c.fr,.int .i64 c.tp,.int .i64 c.to,.int .i64 c.lm,.int .i64 c.bk,.int .i64 c.st,.int .i64 c.ah] 143));have Nf:=(Rec.new w 78 [pP q]).gr ((Gr.refl _).alloc (.cells #[.int .i64 c.fr,.int .i64 c.tp,.int .i64 c.to,.int .i64 c.lm,.int .i64 c.bk,.int .i64 c.st,.int .i64 c.ah] 143));have Mv:=KY w (.cells #[.pointer (some ⟨q,0,none⟩)] 78) 143 [.int .i64 c.fr,.int .i64 c.tp,.int .i64 c.to,.int .i64 c.lm,.int .i64 c.bk,.int .i64 c.st,.int .i64 c.ah];obtain⟨W0,Zk⟩:∃W0,W0=(w.alloc (.cells #[.pointer (some ⟨q,0,none⟩)] 78)).alloc (.cells #[.int .i64 c.fr,.int .i64 c.tp,.int .i64 c.to,.int .i64 c.lm,.int .i64 c.bk,.int .i64 c.st,.int .i64 c.ah] 143):=⟨_,rfl⟩;have Uf:W0.heap.size=w.heap.size+2:=by rw[Zk];simp only[χ]
 have Vz:Hid (Rec W0 w.heap.size 78 [pP q]):=⟨by rw[Zk];exact Nf⟩;have Yg:Hid (Rec W0 (w.heap.size+1) 143 [.int .i64 c.fr,.int .i64 c.tp,.int .i64 c.to,.int .i64 c.lm,.int .i64 c.bk,.int .i64 c.st,.int .i64 c.ah]):=⟨by rw[Zk];exact Mv⟩;have Ux:Hid (Gr w W0):=⟨by rw[Zk];exact Ic.o⟩;have HS0:=ι Uf;clear hV hR hT htS hrS hgS htr hcf Vw Nf Mv Ic Uf;refine(τ (n:=5)).1 ?_;refine callsIn_of_wp_marks func112 rfl trivial ?_ rfl;simp only[ntmps112,ζT,ζB,ζX,Nat.reduceAdd,Nat.reduceSub,ζL,ζK,ζZ,ζR,ζU,ζr];gi_upto_region 1 with(fail);rw[<-Zk];clear Zk;have z3:=Vz.o.cc 0;have Jn:=Yg.o.cc 0;have Jp:=Yg.o.cc 1;have Zg:=Yg.o.cc 2;have Js:=Yg.o.cc 3;have Zf:=Yg.o.cc 4;have Jj:=Yg.o.cc 5;have Jl:=Yg.o.cc 6;have Jq:=Vz.o.lt;have Zi:=Yg.o.lt
 gi_upto_region 6 with(first
  | (refine⟨trivial,?_⟩;gi_at_call 155;refine(τ.2 (Jz.o _ Ux.o)).mono ?_;rintro e w1 ⟨rfl,rfl⟩)
  | (refine⟨trivial,?_⟩;gi_at_call 156;refine(τ.2 (No.o _ Ux.o)).mono ?_;rintro e w1 ⟨rfl,Jo⟩;have Xr:=ι (Ux.o.trans Jo);have Zn:=ι (Vz.o.gr Jo);have Xq:=ι (Yg.o.gr Jo);clear Jo))
 clear z3 Jn Jp Zg Js Zf Jj Jl Jq Zi;have z3:=Zn.o.cc 0;have Jn:=Xq.o.cc 0;have Jp:=Xq.o.cc 1;have Zg:=Xq.o.cc 2;have Js:=Xq.o.cc 3;have Zf:=Xq.o.cc 4;have Jj:=Xq.o.cc 5;have Jl:=Xq.o.cc 6;have Jq:=Zn.o.lt;have Zi:=Xq.o.lt;have Oe:=Xr.o.size;gi_upto_region 7 with(refine⟨trivial,?_⟩;gi_at_call 157;refine(τ.2 (Of.o _ Xr.o)).mono ?_;rintro e w2 ⟨Nm,Ow,(⟨L,m,p1,b1,p2,b2,hI,rfl,hE,Nc,Op,Or,Zm,Jb⟩|⟨Mu,rfl⟩)⟩ <;> (have Yc:=ι Nm;have Vx:=ι Ow;clear Nm Ow))
 ·clear z3 Jn Jp Zg Js Zf Jj Jl Jq Zi;have HI:=ι hI;have HX:=ι hE;have Je:=ι (ψ Nc (ψ Op (ψ Or (ψ Zm Jb))));clear hI hE Nc Op Or Zm Jb;have Uk:=ι (Zn.o.touch Yc.o (λh=>by have:=h.2;omega));have Yy:=ι (Xq.o.touch Yc.o (λh=>by have:=h.2;omega));have Yk:Hid (AQ w2):=⟨(Xr.o.tab Nv HT.o).touch' Yc.o (λh=>Yb.o.1 h.1)⟩;have Ed:=ι (Qkw HX.o Yk.o Vr.o.bk (base:=c.to) Ω);have z3:=Uk.o.cc 0;have Zg:=Yy.o.cc 2;have Zf:=Yy.o.cc 4;have Zi:=Yy.o.lt;have Lc:=Yc.o.size;gi_upto_region 10 with(refine⟨trivial,?_⟩;gi_at_call 158;refine(τ.2 (Ed.o)).mono ?_;rintro e w3 ⟨p,rfl,Ni,hP⟩;have Xt:=ι Ni;have Vk:=ι hP;clear Ni hP);clear z3 Zg Zf Zi;have Ye:=ι (Uk.o.gr Xt.o);have E:=ι (Yy.o.gr Xt.o);obtain⟨Mc,Eq,Ee,f,c0,c1,hF⟩:=Vk.o;have Mg:=ι (λ(W:World) (gW:Gr w3 W)=>RV ((gW.cell Mc 0).trans c0));have Vp:=ι (λ(W:World) (gW:Gr w3 W)=>ZJ (hF.gr gW));obtain⟨N,hN⟩:∃N,N=sizes L:=⟨_,rfl⟩;have Ji:=ι hN;have hNb:N<=1048576:=by rw[hN];have:=FW HX.o.good;omega
  rw[<-hN]at Vp;have x3:=E.o.cc 3;have x2:=E.o.cc 2;have xl:=E.o.lt;have hpl:=Mc;clear Mc Eq Ee c0 c1 hF hN;by_cases Za:c.lm-c.to<N
  ·have d9:decide ((c.lm:Int)-(c.to:Int)<(N:Int))=true:=ξ Ω;have Zd:=ι Za;clear Za;obtain⟨Sx,Z,HS⟩:=AA.start λW'=>W'.cell? ⟨w.heap.size+1,3,none⟩=some (.int .i64 c.lm)/\W'.cell? ⟨w.heap.size+1,2,none⟩=some (.int .i64 c.to);have y1:=AA.fact Z λ_ h=>h.1;have y2:=AA.fact Z λ_ h=>h.2;have U:=HS.o (w3.drew) (⟨x3,x2⟩);have O:Inhabited (AA Sx):=⟨⟨_,U⟩⟩;clear Z;refine GG Sx 9 [([0,3,4,5,6,7],1),([],2)] [8] GM U ?_;refine DW ?_;gi_wp2_with((refine⟨trivial,?_⟩;gi_at_call 159;refine(τ.2 (Mg.o _ (Gr.refl w3).drew)).mono ?_;rintro e w4 ⟨rfl,rfl⟩));refine⟨.inr (AA.of (HS.o _ (⟨x3,x2⟩))),?_⟩;refine DW ?_;gi_wp2_with((refine⟨trivial,?_⟩;gi_at_call 160;refine(τ.2 (Vp.o _ (Gr.refl w3).drew)).mono ?_;rintro e w4 ⟨rfl,rfl⟩));refine⟨.inr (AA.of (HS.o _ (⟨x3,x2⟩))),?_⟩;refine GB ?_;clear y1 y2 U O;clear HS Sx;clear x3 x2 xl;gi_wp2;have Ec:=((HR.o.gr Xr.o).touch Yc.o (λh=>Yb.o.2.1 h.1) (λh=>Yb.o.2.2.1 h.1)).gr Xt.o;refine⟨.tuple #[.pointer none,.int .i64 21],?_,?_,.inr ⟨L,HI.o,.inl ⟨by rw[<-Ji.o];exact Zd.o,rfl,((Vx.o.gr Xt.o).gr (Gr.refl w3).drew).mono (λb hb=>hb.1.1),Ec.gr (Gr.refl w3).drew⟩⟩⟩
   ·simp[results,f112,go_sem]
   ·have a1:AB (λb=>b=g\/S b) w w1:=Xr.o.touch _;have a2:=a1.trans (Yc.o.mono (λi _ h=>.inr h.1));exact a2.trans ((Xt.o.trans (Gr.refl w3).drew).touch _)
  ·have d9:decide ((c.lm:Int)-(c.to:Int)<(N:Int))=false:=ζ Ω;have Zd:=ι Za;clear Za;obtain⟨Sx,Z,HS⟩:=AA.start λW'=>W'.cell? ⟨w.heap.size+1,3,none⟩=some (.int .i64 c.lm)/\W'.cell? ⟨w.heap.size+1,2,none⟩=some (.int .i64 c.to);have y1:=AA.fact Z λ_ h=>h.1;have y2:=AA.fact Z λ_ h=>h.2;have U:=HS.o (w3.drew) (⟨x3,x2⟩);have O:Inhabited (AA Sx):=⟨⟨_,U⟩⟩;clear Z;refine GG Sx 9 [([0,3,4,5,6,7],1),([],2)] [8] GM U ?_;refine DW ?_;gi_wp2_with((refine⟨trivial,?_⟩;gi_at_call 159;refine(τ.2 (Mg.o _ (Gr.refl w3).drew)).mono ?_;rintro e w4 ⟨rfl,rfl⟩));refine⟨.inr (AA.of (HS.o _ (⟨x3,x2⟩))),?_⟩;refine DW ?_;gi_wp2_with((refine⟨trivial,?_⟩;gi_at_call 160;refine(τ.2 (Vp.o _ (Gr.refl w3).drew)).mono ?_;rintro e w4 ⟨rfl,rfl⟩));refine⟨.inr (AA.of (HS.o _ (⟨x3,x2⟩))),?_⟩;refine GB ?_;clear y1 y2 U O;clear HS Sx;clear x3 x2 xl;gi_upto_region 12 with(fail);obtain⟨nb,Mb⟩:∃nb,nb=nbl (sizes L) c.bk:=⟨_,rfl⟩;have Ex:=ι Mb
   have hnbb:nb<=1048576:=by
    have:=Vr.o.bk;have h1:=DI this;have h2:=LQ (n:=sizes L) (B:=c.bk) Ω;have h3:=Ji.o;omega
   have Zt:=ι (λ(W:World) (gW:Gr w3 W)=>W8 (Vk.o.gr gW));rw[<-Mb]at Zt;clear Mb;have HTW:Hid (∀(W:World),AB (λi=>w3.drew.heap.size<=i) w3.drew W->Gr w3 W):=⟨λW t=>(Gr.refl w3).drew.trans (t.mono (T:=λ_=>False) (λi hi h=>absurd hi (ξf h))).gr⟩;have x3:=Ye.o.cc 0;have Mt:=E.o.cc 0;have Mh:=E.o.cc 1;have Nd:=E.o.cc 2;have Ib:=E.o.cc 3;have Oj:=E.o.cc 4;have Ne:=E.o.cc 5;have On:=E.o.cc 6;obtain⟨Sx,Z⟩:∃Sx:World->Prop,Sx=λW'=>(W'.cell? ⟨w.heap.size,0,none⟩=some (pP q)/\W'.cell? ⟨w.heap.size+1,0,none⟩=some (.int .i64 c.fr))/\(W'.cell? ⟨w.heap.size+1,1,none⟩=some (.int .i64 c.tp)/\W'.cell? ⟨w.heap.size+1,2,none⟩=some (.int .i64 c.to))/\(W'.cell? ⟨w.heap.size+1,3,none⟩=some (.int .i64 c.lm)/\W'.cell? ⟨w.heap.size+1,4,none⟩=some (.int .i64 c.bk))/\W'.cell? ⟨w.heap.size+1,5,none⟩=some (.int .i64 c.st)/\W'.cell? ⟨w.heap.size+1,6,none⟩=some (.int .i64 c.ah):=⟨_,rfl⟩;have y3:∀p':AA Sx,p'.w.cell? ⟨w.heap.size,0,none⟩=some (pP q):=λp=>(AA.get Z p).1.1;have Ew:∀p':AA Sx,p'.w.cell? ⟨w.heap.size+1,0,none⟩=some (.int .i64 c.fr):=λp=>(AA.get Z p).1.2;have Lb:∀p':AA Sx,p'.w.cell? ⟨w.heap.size+1,1,none⟩=some (.int .i64 c.tp):=λp=>(AA.get Z p).2.1.1;have En:∀p':AA Sx,p'.w.cell? ⟨w.heap.size+1,2,none⟩=some (.int .i64 c.to):=λp=>(AA.get Z p).2.1.2;have Lj:∀p':AA Sx,p'.w.cell? ⟨w.heap.size+1,3,none⟩=some (.int .i64 c.lm):=λp=>(AA.get Z p).2.2.1.1;have Ej:∀p':AA Sx,p'.w.cell? ⟨w.heap.size+1,4,none⟩=some (.int .i64 c.bk):=λp=>(AA.get Z p).2.2.1.2;have In:∀p':AA Sx,p'.w.cell? ⟨w.heap.size+1,5,none⟩=some (.int .i64 c.st):=λp=>(AA.get Z p).2.2.2.1;have Er:∀p':AA Sx,p'.w.cell? ⟨w.heap.size+1,6,none⟩=some (.int .i64 c.ah):=λp=>(AA.get Z p).2.2.2.2;have Ev:=ι Z
   have Uw:Hid (∀W,Gr w3 W->∃p:AA Sx,W=p.w):=⟨λW gW=>by
    have l3:=Ye.o.lt;have l5:=E.o.lt;refine AA.of ?_;rw[Ev.o]
    exact⟨⟨(gW.cell l3 0).trans x3,(gW.cell l5 0).trans Mt⟩,⟨(gW.cell l5 1).trans Mh,(gW.cell l5 2).trans Nd⟩,⟨(gW.cell l5 3).trans Ib,(gW.cell l5 4).trans Oj⟩,(gW.cell l5 5).trans Ne,(gW.cell l5 6).trans On⟩⟩
   have Yi:Hid (∀W,AB (λi=>w3.heap.size<=i) w3 W->∃p:AA Sx,W=p.w):=⟨λW tW=>Uw.o W ((tW.mono (T:=λ_=>False) (λi hi h=>absurd hi (ξf h))).gr)⟩;have Xh:Hid (∀W,AB (λi=>w3.heap.size<=i) w3 W->Gr w3 W):=⟨λW tW=>(tW.mono (T:=λ_=>False) (λi hi h=>absurd hi (ξf h))).gr⟩;obtain⟨i0,Lf,Iw,Oe,Oh⟩:=info_parts ZHF;have Il:Hid (i0.bytes*nb<=281474976710656):=⟨by rw[Oh];omega⟩;have Ld:Hid (nb<=maxLen):=⟨by unfold maxLen;omega⟩;have Mq:Hid (nb*1<=16777216):=⟨by omega⟩;have U:Sx w3.drew:=by obtain⟨p,hp⟩:=Uw.o _ (Gr.refl w3).drew;rw[hp];exact p.h
   have O:Inhabited (AA Sx):=⟨⟨_,U⟩⟩;have Nr:Sx w3.drew.drew:=by obtain⟨p,hp⟩:=Uw.o _ ((Gr.refl w3).drew.drew);rw[hp];exact p.h
   clear Z x3 Mt Mh Nd Ib Oj Ne On;refine VMF Sx [0,1,2,3,4,7] #[true,true,true,true,true,false,false,true,false,false,false,false,false,false,false] [(5,[]),(6,[5]),(8,[5]),(9,[]),(10,[]),(11,[6,8,9,10]),(12,[11]),(13,[]),(14,[12,13])] (OpI w3 q p m nb c) GM (by kernel_rfl) (by kernel_rfl) Nr ?_ ⟨?_,?_,?_,?_,?_,?_,?_,?_,?_,trivial⟩ ?_
   ·refine Vqh ?_;refine⟨pP q,.agg #[.int .i64 c.fr,.int .i64 c.tp,.int .i64 c.to,.int .i64 c.lm,.int .i64 c.bk,.int .i64 c.st,.int .i64 c.ah],pP p,pP m,pP p,undef,undef,pP p,undef,undef,undef,undef,undef,undef,by simp only[Act.put,ζf,ζq,ζs],?_⟩;refine⟨rfl,rfl,rfl,rfl,rfl,rfl,(λh=>by cases h),(λh=>by cases h),(λh=>by cases h),(λh=>by cases h),(λh=>by cases h),(λh=>by cases h),(λh=>by cases h),(λh=>by cases h),(λh=>by cases h),(λh=>by cases h),?_⟩;exact((Gr.refl w3).drew.drew).touch _
   ·rintro D a W ⟨Xj,Xg,Xk,Xf,G,Xi,Xm,Xa,Xl,Xo,Xn,Xc,Xd,Xe,rfl,hJ⟩ I hk hd;clear I;simp only[AF,ν,π,Act.put,ζf,ζq,ζs];have HJ:=ι hJ;have HK:=ι hk;have HD:=ι hd;have Xp:=ι (Xh.o W hJ.t);obtain rfl:=hJ.e59;clear hJ hk hd;gi_wp2_with(refine⟨trivial,?_⟩;gi_at_call 161;refine(τ.2 (Zt.o W Xp.o)).mono ?_;rintro e w4 ⟨rfl,Xb⟩);refine⟨Yi.o _ ?_,Xj,Xg,Xk,Xf,pP p,.int .i64 nb,Xm,Xa,Xl,Xo,Xn,Xc,Xd,Xe,by simp only[Act.put,ζf,ζq,ζs],?_⟩
    ·exact HJ.o.t.trans (Xb.touch _)
    ·have Y:=HJ.o.gr Xb;have hk:=HK.o;have hd:=HD.o;exact⟨Y.e55,Y.e56,Y.e57,Y.e58,Y.e59,Y.e62,(λ_=>rfl),Y.e61,Y.e63,Y.e64,Y.e65,Y.ne,Y.e66,Y.e67,Y.e13,Y.d14,Y.t⟩
   ·rintro D a W ⟨Xj,Xg,Xk,Xf,G,Xi,Xm,Xa,Xl,Xo,Xn,Xc,Xd,Xe,rfl,hJ⟩ I hk hd;clear I;simp only[AF,ν,π,Act.put,ζf,ζq,ζs];have HJ:=ι hJ;have HK:=ι hk;have HD:=ι hd;have Xp:=ι (Xh.o W hJ.t);obtain rfl:=hJ.e60 (hd 5 (by simp));clear hJ hk hd;gi_wp2_with(gi_at_make;refine V63 _ rfl _ _ 145 rfl 0 4 i0 (.bool false) 1 underlying145 Lf Iw Oe .i64 .i64 nb rfl rfl Mq.o Il.o Ld.o (ζc _) ?_;intro w4 Zo Ja);have Xb:Gr W w4:=(J3 Ja (λ_=>False) (λk e _=>by cases e)).gr;rw[show (Value.bool false).cells=#[.bool false]from rfl,J0U,ξD]at Zo;have La:=ι Zo;clear Zo Ja;gi_wp2;refine⟨Yi.o _ ?_,Xj,Xg,Xk,Xf,G,.int .i64 nb,.slice (some ⟨W.heap.size,0,none⟩) nb nb,Xa,Xl,Xo,Xn,Xc,Xd,Xe,by simp only[Act.put,ζf,ζq,ζs],?_⟩
    ·exact HJ.o.t.trans (Xb.touch _)
    ·have Y:=HJ.o.gr Xb;have hk:=HK.o;have hd:=HD.o;exact⟨Y.e55,Y.e56,Y.e57,Y.e58,Y.e59,Y.e62,Y.e60,(λ_=>⟨W.heap.size,rfl,La.o,Xp.o.size⟩),Y.e63,Y.e64,Y.e65,Y.ne,(λd=>by have h:=(HJ.o.e66 d).1;rw[hk]at h;cases h),(λd=>by have h:=(HJ.o.e66 (HJ.o.e67 d).1).1;rw[hk]at h;cases h),Y.e13,Y.d14,Y.t⟩
   ·rintro D a W ⟨Xj,Xg,Xk,Xf,G,Xi,Xm,Xa,Xl,Xo,Xn,Xc,Xd,Xe,rfl,hJ⟩ I hk hd;clear I;simp only[AF,ν,π,Act.put,ζf,ζq,ζs];have HJ:=ι hJ;have HK:=ι hk;have HD:=ι hd;have Xp:=ι (Xh.o W hJ.t);obtain rfl:=hJ.e62;clear hJ hk hd;gi_wp2_with(refine⟨trivial,?_⟩;gi_at_call 161;refine(τ.2 (Zt.o W Xp.o)).mono ?_;rintro e w4 ⟨rfl,Xb⟩);refine⟨Yi.o _ ?_,Xj,Xg,Xk,Xf,G,Xi,Xm,pP p,.int .i64 nb,Xo,Xn,Xc,Xd,Xe,by simp only[Act.put,ζf,ζq,ζs],?_⟩
    ·exact HJ.o.t.trans (Xb.touch _)
    ·have Y:=HJ.o.gr Xb;have hk:=HK.o;have hd:=HD.o;exact⟨Y.e55,Y.e56,Y.e57,Y.e58,Y.e59,Y.e62,Y.e60,Y.e61,(λ_=>rfl),Y.e64,Y.e65,Y.ne,(λd=>by have h:=(HJ.o.e66 d).2.1;rw[hk]at h;cases h),(λd=>by have h:=(HJ.o.e66 (HJ.o.e67 d).1).2.1;rw[hk]at h;cases h),Y.e13,Y.d14,Y.t⟩
   ·rintro D a W ⟨Xj,Xg,Xk,Xf,G,Xi,Xm,Xa,Xl,Xo,Xn,Xc,Xd,Xe,rfl,hJ⟩ I hk hd;clear I;simp only[AF,ν,π,Act.put,ζf,ζq,ζs];have HJ:=ι hJ;have HK:=ι hk;have HD:=ι hd;have Xp:=ι (Xh.o W hJ.t);clear hJ hk hd;refine Ya9 W rfl _ rfl ?_;gi_wp2;have Xb:Gr W (W.alloc (.map #[] 0)):=(Gr.refl W).alloc _;refine⟨Yi.o _ ?_,Xj,Xg,Xk,Xf,G,Xi,Xm,Xa,Xl,.map (some W.heap.size),Xn,Xc,Xd,Xe,by simp only[Act.put,ζf,ζq,ζs],?_⟩
    ·exact HJ.o.t.trans (Xb.touch _)
    ·have Y:=HJ.o.gr Xb;have hk:=HK.o;have hd:=HD.o;exact⟨Y.e55,Y.e56,Y.e57,Y.e58,Y.e59,Y.e62,Y.e60,Y.e61,Y.e63,(λ_=>⟨W.heap.size,rfl,BI.made W,Xp.o.size⟩),Y.e65,(λ_ d e=>by obtain⟨b,h1,h2,-⟩:=HJ.o.e65 d;rw[h1]at e;have:=h2.lt;simp only[Value.map.injEq,Option.some.injEq]at e;omega),(λd=>by have h:=(HJ.o.e66 d).2.2.1;rw[hk]at h;cases h),(λd=>by have h:=(HJ.o.e66 (HJ.o.e67 d).1).2.2.1;rw[hk]at h;cases h),Y.e13,Y.d14,Y.t⟩
   ·rintro D a W ⟨Xj,Xg,Xk,Xf,G,Xi,Xm,Xa,Xl,Xo,Xn,Xc,Xd,Xe,rfl,hJ⟩ I hk hd;clear I;simp only[AF,ν,π,Act.put,ζf,ζq,ζs];have HJ:=ι hJ;have HK:=ι hk;have HD:=ι hd;have Xp:=ι (Xh.o W hJ.t);clear hJ hk hd;refine Ya9 W rfl _ rfl ?_;gi_wp2;have Xb:Gr W (W.alloc (.map #[] 0)):=(Gr.refl W).alloc _;refine⟨Yi.o _ ?_,Xj,Xg,Xk,Xf,G,Xi,Xm,Xa,Xl,Xo,.map (some W.heap.size),Xc,Xd,Xe,by simp only[Act.put,ζf,ζq,ζs],?_⟩
    ·exact HJ.o.t.trans (Xb.touch _)
    ·have Y:=HJ.o.gr Xb;have hk:=HK.o;have hd:=HD.o;exact⟨Y.e55,Y.e56,Y.e57,Y.e58,Y.e59,Y.e62,Y.e60,Y.e61,Y.e63,Y.e64,(λ_=>⟨W.heap.size,rfl,BI.made W,Xp.o.size⟩),(λd _ e=>by obtain⟨b,h1,h2,-⟩:=HJ.o.e64 d;rw[h1]at e;have:=h2.lt;simp only[Value.map.injEq,Option.some.injEq]at e;omega),(λd=>by have h:=(HJ.o.e66 d).2.2.2.1;rw[hk]at h;cases h),(λd=>by have h:=(HJ.o.e66 (HJ.o.e67 d).1).2.2.2.1;rw[hk]at h;cases h),Y.e13,Y.d14,Y.t⟩
   ·rintro D a W ⟨Xj,Xg,Xk,Xf,G,Xi,Xm,Xa,Xl,Xo,Xn,Xc,Xd,Xe,rfl,hJ⟩ I hk hd;clear I;simp only[AF,ν,π,Act.put,ζf,ζq,ζs];have HJ:=ι hJ;have HK:=ι hk;have HD:=ι hd;have Xp:=ι (Xh.o W hJ.t);obtain rfl:=hJ.e56;obtain rfl:=hJ.e55;obtain rfl:=hJ.e57;obtain rfl:=hJ.e58;obtain rfl:=hJ.e63 (hd 8 (by simp));obtain⟨Yh,rfl,-,-⟩:=hJ.e61 (hd 6 (by simp));obtain⟨J,rfl,-,-⟩:=hJ.e64 (hd 9 (by simp));obtain⟨V,rfl,-,-⟩:=hJ.e65 (hd 10 (by simp));clear hJ hk hd;gi_wp2;have Xb:Gr W W:=Gr.refl W;refine⟨Yi.o _ ?_,pP q,.agg #[.int .i64 c.fr,.int .i64 c.tp,.int .i64 c.to,.int .i64 c.lm,.int .i64 c.bk,.int .i64 c.st,.int .i64 c.ah],pP p,pP m,G,Xi,.slice (some ⟨Yh,0,none⟩) nb nb,Xa,.int .i64 nb,.map (some J),.map (some V),.agg #[pP q,.int .i64 c.fr,.int .i64 c.tp,.int .i64 c.to,.int .i64 c.lm,.int .i64 c.bk,.int .i64 c.st,.int .i64 c.ah,pP p,pP m,.slice (some ⟨Yh,0,none⟩) nb nb,.int .i64 nb,.int .i64 0,.int .i64 0,.map (some J),.map (some V)],Xd,Xe,by simp only[Act.put,ζf,ζq,ζs],?_⟩
    ·exact HJ.o.t.trans (Xb.touch _)
    ·have Y:=HJ.o.gr Xb;have hk:=HK.o;have hd:=HD.o;exact⟨Y.e55,Y.e56,Y.e57,Y.e58,Y.e59,Y.e62,Y.e60,Y.e61,Y.e63,Y.e64,Y.e65,Y.ne,(λ_=>⟨hd 6 (by simp),hd 8 (by simp),hd 9 (by simp),hd 10 (by simp),rfl⟩),(λd=>by have h:=(HJ.o.e67 d).1;rw[hk]at h;cases h),Y.e13,Y.d14,Y.t⟩
   ·rintro D a W ⟨Xj,Xg,Xk,Xf,G,Xi,Xm,Xa,Xl,Xo,Xn,Xc,Xd,Xe,rfl,hJ⟩ I hk hd;clear I;simp only[AF,ν,π,Act.put,ζf,ζq,ζs];have HJ:=ι hJ;have HK:=ι hk;have HD:=ι hd;have Xp:=ι (Xh.o W hJ.t);obtain⟨d6,d8,Mr,Ie,rfl⟩:=hJ.e66 (hd 11 (by simp));obtain rfl:=hJ.e56;obtain rfl:=hJ.e55;obtain rfl:=hJ.e57;obtain rfl:=hJ.e58;obtain rfl:=hJ.e63 d8;obtain⟨Yh,rfl,-,-⟩:=hJ.e61 d6;obtain⟨J,rfl,-,-⟩:=hJ.e64 Mr;obtain⟨V,rfl,-,-⟩:=hJ.e65 Ie;have Vg:=ι (Rec.new W 149 [pP q,.int .i64 c.fr,.int .i64 c.tp,.int .i64 c.to,.int .i64 c.lm,.int .i64 c.bk,.int .i64 c.st,.int .i64 c.ah,pP p,pP m,.slice (some ⟨Yh,0,none⟩) nb nb,.int .i64 nb,.int .i64 0,.int .i64 0,.map (some J),.map (some V)]);have Zs:=ι ((Gr.refl W).alloc (.cells #[.pointer (some ⟨q,0,none⟩),.int .i64 c.fr,.int .i64 c.tp,.int .i64 c.to,.int .i64 c.lm,.int .i64 c.bk,.int .i64 c.st,.int .i64 c.ah,.pointer (some ⟨p,0,none⟩),.pointer (some ⟨m,0,none⟩),.slice (some ⟨Yh,0,none⟩) nb nb,.int .i64 nb,.int .i64 0,.int .i64 0,.map (some J),.map (some V)] 149));clear d6 d8 Mr Ie;clear hJ hk hd;gi_wp2;refine⟨Yi.o _ ?_,pP q,.agg #[.int .i64 c.fr,.int .i64 c.tp,.int .i64 c.to,.int .i64 c.lm,.int .i64 c.bk,.int .i64 c.st,.int .i64 c.ah],pP p,pP m,G,Xi,.slice (some ⟨Yh,0,none⟩) nb nb,Xa,.int .i64 nb,.map (some J),.map (some V),.agg #[pP q,.int .i64 c.fr,.int .i64 c.tp,.int .i64 c.to,.int .i64 c.lm,.int .i64 c.bk,.int .i64 c.st,.int .i64 c.ah,pP p,pP m,.slice (some ⟨Yh,0,none⟩) nb nb,.int .i64 nb,.int .i64 0,.int .i64 0,.map (some J),.map (some V)],pP W.heap.size,Xe,by simp only[Act.put,ζf,ζq,ζs],?_⟩
    ·exact HJ.o.t.trans (Zs.o.touch _)
    ·have Y:=HJ.o.gr Zs.o;have hk:=HK.o;have hd:=HD.o;exact⟨Y.e55,Y.e56,Y.e57,Y.e58,Y.e59,Y.e62,Y.e60,Y.e61,Y.e63,Y.e64,Y.e65,Y.ne,Y.e66,(λ_=>⟨hd 11 (by simp),W.heap.size,rfl,Xp.o.size,Vg.o⟩),(λd=>by obtain⟨b,h1,h2,h3⟩:=Y.e13 d;refine⟨b,h1,h2,?_⟩;cases h14:D 14 with|true=>(have:=(HJ.o.d14 h14).1;rw[hk]at this;cases this)|false=>(have e:upD D 12 14=false:=h14;rw[h14]at h3;rw[e];exact h3)),(λd=>⟨rfl,(Y.d14 d).2⟩),Y.t⟩
   ·rintro D a W ⟨Xj,Xg,Xk,Xf,G,Xi,Xm,Xa,Xl,Xo,Xn,Xc,Xd,Xe,rfl,hJ⟩ I hk hd;clear I;simp only[AF,ν,π,Act.put,ζf,ζq,ζs];have HJ:=ι hJ;have HK:=ι hk;have HD:=ι hd;have Xp:=ι (Xh.o W hJ.t);have Vg:=ι (Rec.new W 81 [.pointer none]);have Zs:=ι ((Gr.refl W).alloc (.cells #[.pointer none] 81));clear hJ hk hd;gi_wp2;refine⟨Yi.o _ ?_,Xj,Xg,Xk,Xf,G,Xi,Xm,Xa,Xl,Xo,Xn,Xc,Xd,pP W.heap.size,by simp only[Act.put,ζf,ζq,ζs],?_⟩
    ·exact HJ.o.t.trans (Zs.o.touch _)
    ·have Y:=HJ.o.gr Zs.o;have hk:=HK.o;have hd:=HD.o;exact⟨Y.e55,Y.e56,Y.e57,Y.e58,Y.e59,Y.e62,Y.e60,Y.e61,Y.e63,Y.e64,Y.e65,Y.ne,Y.e66,Y.e67,(λ_=>⟨W.heap.size,rfl,Xp.o.size,by cases h14:D 14 with|true=>(have:=(HJ.o.d14 h14).2;rw[hk]at this;cases this)|false=>(have e:upD D 13 14=false:=h14;rw[e];exact Vg.o)⟩),(λd=>⟨(Y.d14 d).1,rfl⟩),Y.t⟩
   ·rintro D a W ⟨Xj,Xg,Xk,Xf,G,Xi,Xm,Xa,Xl,Xo,Xn,Xc,Xd,Xe,rfl,hJ⟩ I hk hd;clear I;simp only[AF,ν,π,Act.put,ζf,ζq,ζs];have HJ:=ι hJ;have HK:=ι hk;have HD:=ι hd;obtain⟨Ys,rfl,Un,Yd⟩:=hJ.e13 (hd 13 (by simp));obtain⟨Iy,Jr,rfl,Ns,Ov⟩:=hJ.e67 (hd 12 (by simp));have Yp:=ι Yd;rw[hk]at Yd;have q0:=Yd.cc 0;have qf:=Yd.free 0;have ql:=Yd.lt;have Ue:=ι Un;clear hJ hk hd Yd Ov Iy Ns Un;gi_wp2;have tS:AB (λi=>i=Ys) W (W.setCell ⟨Ys,0,none⟩ (.pointer (some ⟨Jr,0,none⟩))):=(AB.refl (λi=>i=Ys) W).setCell (a:=⟨Ys,0,none⟩) (λ_=>rfl) _;have Im:=Yp.o.set 0 (pP Jr);have tT:AB (λi=>w3.heap.size<=i) w3 (W.setCell ⟨Ys,0,none⟩ (.pointer (some ⟨Jr,0,none⟩))):=HJ.o.t.trans (tS.mono (λi _ h=>by rw[h];exact Ue.o));have hJ:=HJ.o;refine⟨Yi.o _ tT,Xj,Xg,Xk,Xf,G,Xi,Xm,Xa,Xl,Xo,Xn,Xc,pP Jr,pP Ys,by simp only[Act.put,ζf,ζq,ζs],?_⟩;exact⟨hJ.e55,hJ.e56,hJ.e57,hJ.e58,hJ.e59,hJ.e62,hJ.e60,(λd=>by obtain⟨b,h1,h2,h3⟩:=hJ.e61 d;exact⟨b,h1,BV h2 tS (λg' hg=>by rw[h1]at hg;cases hg;exact AO (by rw[h1]at h2;exact h2) Yp.o (by decide) rfl rfl),h3⟩),hJ.e63,(λd=>by obtain⟨b,h1,h2,h3⟩:=hJ.e64 d;exact⟨b,h1,h2.touch tS (h2.ne (IM Yp.o)),h3⟩),(λd=>by obtain⟨b,h1,h2,h3⟩:=hJ.e65 d;exact⟨b,h1,h2.touch tS (h2.ne (IM Yp.o)),h3⟩),hJ.ne,hJ.e66,(λd=>by obtain⟨h0,b,h1,h2,h3⟩:=hJ.e67 d;exact⟨h0,b,h1,h2,h3.touch tS (AO h3 Yp.o (by decide) rfl rfl)⟩),(λ_=>⟨Ys,rfl,Ue.o,Im⟩),(λ_=>⟨HD.o 12 (by simp),HD.o 13 (by simp)⟩),tT⟩
   ·rintro D a W ⟨Xj,Xg,Xk,Xf,G,Xi,Xm,Xa,Xl,Xo,Xn,Xc,Xd,Xe,rfl,hJ⟩ I Uo;clear I;have M:∀j,j<15->D j=true:=Uo;obtain⟨Yh,rfl,Jx,Up⟩:=hJ.e61 (M 6 Ω);obtain rfl:=hJ.e60 (M 5 Ω);obtain rfl:=hJ.e63 (M 8 Ω);obtain⟨J,rfl,Uu,Ui⟩:=hJ.e64 (M 9 Ω);obtain⟨V,rfl,Jt,Ut⟩:=hJ.e65 (M 10 Ω);obtain⟨-,-,-,-,rfl⟩:=hJ.e66 (M 11 Ω);obtain⟨-,y,rfl,Id,Mm⟩:=hJ.e67 (M 12 Ω);obtain⟨bx,rfl,Ny,Vb⟩:=hJ.e13 (M 13 Ω);rw[M 14 Ω]at Vb;obtain rfl:=hJ.e55;obtain rfl:=hJ.e56;obtain rfl:=hJ.e57;obtain rfl:=hJ.e58;obtain rfl:=hJ.e59;obtain rfl:=hJ.e62;have Ug:J≠V:=λe=>hJ.ne (M 9 Ω) (M 10 Ω) (by rw[e]);have Jh:=ι hJ.t;have Mx:=ι Jx;have Yq:=ι Uu;have Ym:=ι Jt;have Zr:=ι Mm;have Yr:=ι Vb;have Ez:=ι (ψ Up (ψ Ui (ψ Ut (ψ Id (ψ Ny Ug)))));clear hJ Uo M Jx Up Uu Ui Jt Ut Id Mm Ny Vb Ug;refine ζA ?_;simp only[Act.put,ζf,ζq,ζs];clear y3 Ew Lb En Lj Ej In Er U O Nr;have hzW:=Jh.o.size;have HG3W:Hid (Gr w3 W):=⟨Xh.o W Jh.o⟩;have Vc:=Yr.o.cc 0;have Uv:=Yr.o.lt;gi_wp2_with(refine⟨trivial,?_⟩;gi_at_call 144;refine(τ.2 (J5 (some ⟨m,0,none⟩))).mono ?_;rintro e w5 ⟨rfl,rfl⟩);obtain⟨W5,Jc⟩:∃W5,W5=W.alloc (.cells #[.pointer (some ⟨m,0,none⟩)] 93):=⟨_,rfl⟩;have Xu:Gr W W5:=by rw[Jc];exact(Gr.refl W).alloc _
    have hs5:W5.heap.size=W.heap.size+1:=by rw[Jc,χ]
    have k5:W5.cell? ⟨W.heap.size,0,none⟩=some (pP m):=by rw[Jc];exact(Boxed.new W 93 (pP m)).cell
    rw[<-Jc];clear Jc Vc Uv;obtain⟨Ik,Ii,Ll,gy,gx,Vo⟩:=Ez.o;have l64:=Yq.o.lt;have l65:=Ym.o.lt;have ly:=Zr.o.lt;have lx:=Yr.o.lt;have n64y:=Yq.o.ne (IM Zr.o);have n65y:=Ym.o.ne (IM Zr.o);have n64x:=Yq.o.ne (IM Yr.o);have n65x:=Ym.o.ne (IM Yr.o);have hml:=HX.o.hm;have hp1l:=HX.o.v1.hp;have hb1l:=HX.o.v1.hb;have hp2l:=HX.o.v2.hp;have hb2l:=HX.o.v2.hb;have hz3:=Xt.o.size;obtain⟨s,Jf⟩:∃s,s=AX v c L:=⟨_,rfl⟩;have Vs:s.L=L:=by rw[Jf];rfl
    have Jy:s.pg=v.pl.pg:=by rw[Jf];rfl
    have Vi:s.n=v.n:=by rw[Jf];rfl
    have Zh:=ι (ψ Vs (ψ Jy (ψ Vi Jf)));have Ml:Hid (AP s.n s.L):=⟨by rw[Vi,Vs];exact HX.o.good⟩;have Em:=ι (Vx.o.gr Xt.o);have Yu:Hid (∀A,AB (λi=>(i=J\/i=V)\/W5.heap.size<=i) W5 A->AB (λi=>w3.heap.size<=i) w3 A):=⟨λA t=>(Jh.o.trans (Xu.touch _)).trans (t.mono (λi _ h=>by omega))⟩
    have HK:Hid (∀A,AB (λi=>(i=J\/i=V)\/W5.heap.size<=i) W5 A->((A.cell? ⟨bx,0,none⟩=some (pP y)/\A.cell? ⟨y,14,none⟩=some (.map (some J)))/\A.cell? ⟨y,15,none⟩=some (.map (some V))/\A.cell? ⟨w.heap.size,0,none⟩=some (pP q))):=⟨λA t=>by
     have r1:=(Yr.o.gr Xu).touch t Ω;have r2:=(Zr.o.gr Xu).touch t Ω;have g3:=Xh.o A (Yu.o A t)
     exact⟨⟨r1.cc 0,r2.cc 14⟩,r2.cc 15,(g3.cell Ye.o.lt 0).trans (Ye.o.cc 0)⟩⟩
    have Va:Hid (∀A,AB (λi=>(i=J\/i=V)\/W5.heap.size<=i) W5 A->AC A (AD (AD S w) w1) q v):=⟨λA t=>Em.o.gr (Xh.o A (Yu.o A t))⟩
    have Nq:Hid (∀A,AB (λi=>(i=J\/i=V)\/W5.heap.size<=i) W5 A->Ext A m p1 b1 p2 b2 v.n L/\AQ A):=⟨λA t=>by
     have g3:=Xh.o A (Yu.o A t)
     exact⟨(HX.o.gr Xt.o).gr g3,g3.tab (Xt.o.tab Yk.o.lt Yk.o).lt (Xt.o.tab Yk.o.lt Yk.o)⟩⟩
    have Eg:Hid (OpA W5 W5 J V v s 0 0):=⟨OpA.zero (Yq.o.gr Xu) (Ym.o.gr Xu)⟩;have Yj:Hid (J<W5.heap.size/\V<W5.heap.size/\J≠V):=⟨by omega⟩;have HZ0:Hid (sizes (L.take 0)=0):=⟨rfl⟩;have Iz:=ι k5;have hwl:w.heap.size<w3.heap.size:=Ye.o.lt;clear Jf Vs Jy Vi k5
    refine LU (K:=4) (s0:=0) rfl Ω (gf:=187) (lb:=#[pP W.heap.size]) rfl trivial (enters_of func187 (by kernel_rfl) rfl)
     (OY _ W.heap.size m p1 b1 p2 b2 v.n L _) (λ_=>rfl)
     (λ(j:Nat) A=>j<=L.length/\OpA W5 A J V v s j (sizes (L.take j))) (λ_ _=>False) (λj A B h t=>⟨h.1,h.2.win Yj.o.1 Yj.o.2.1 t⟩) (λ_ _ _ h _=>h)
     (λj A h=>⟨(Nq.o A h.2.t).1,(Nq.o A h.2.t).2,(h.2.t.cell Ω Ω 0).trans Iz.o,h.1⟩)
     ⟨ζc _,Eg.o⟩ ?round ?done (λ_ _ _ _ h _=>h.elim)
    case round=>
     intro lp j x W6 Mo Lh Yt;dsimp only[GQ];gi_wp2;refine⟨Gr.refl _,λW7 ht7 Zl=>?_⟩
     have Xz:j<L.length:=by
      rcases δ j L.length with h|h
      ·exact h
      ·unfold EU at Yt;rw[ζJ h]at Yt;cases Yt
     obtain rfl:x=L[j]:=by unfold EU at Yt;rw[ω Xz]at Yt;exact(Option.some.inj Yt).symm
     obtain⟨Nh,Zp,-⟩:=HI.o.1.mkd.ats _ (μ Xz);obtain⟨-,-,Li,Iu,Eh,Vn,Is⟩:=F5 Zp;have Yn:=ι Zl.2;have Ve:=(HX.o.good.sz _ (μ Xz)).2;have Xy:=ι (FF Xz);have Og:j<s.L.length:=by rw[Zh.o.1];exact Xz
     have Ij:=ι Og;have Ia:s.L[j]=L[j]:=by simp only[Zh.o.1]
     have Yx:Hid (∀t,t<L[j].2->AG s.L (sizes (L.take j)+t)=L[j].1+t/\sizes (L.take j)+t<sizes s.L):=⟨λt ht=>by
      have h1:=JP Xz;rw[Zh.o.1]
      exact⟨YZF Xz ht,by omega⟩⟩
     obtain⟨n5,f5,Jb,Mz,Ok⟩:=Zl.2.sh;have Ef:=ι Jb;have Ot:=ι (ψ Mz Ok);have Zz:∀B,BI prog 3 B V (n5+1) (λy=>if y=((L[j].1:Nat):Int)then some (AJ (v.rdH (L[j].1:Nat)))else f5 y)->AB (λi=>i=V) W7 B->OpA W5 B J V v s (j+1) (sizes (L.take j)):=λB hm t=>Yn.o.hdr Ij.o Yj.o.2.2 Ot.o.1 Ot.o.2 Ml.o (by rw[Ia];exact hm) t;rw[Vn]at Zz;have Zy:=ι Zz;have Zw:=ι (λ(W:World) (gW:Gr W7 W)=>PC ((Va.o W7 Yn.o.t).gr gW) ((L[j].1:Nat):Int));rw[Zp,Vn]at Zw;unfold AJ at Zw;unfold spV at Zw
     have hn5b:n5<=1048576:=by
      have h2:=FW HX.o.good;have h4:=Y0x HX.o.good;omega
     have Ol:Hid (n5<maxLen):=⟨by unfold maxLen;omega⟩;have Zv:Hid (sizes (L.take j)+L[j].2<=1048576):=⟨by have h1:=JP Xz;have h2:=FW HX.o.good;omega⟩;obtain⟨sa,Ma⟩:∃sa,sa=L[j].1:=⟨_,rfl⟩;obtain⟨sz,Jg⟩:∃sz,sz=L[j].2:=⟨_,rfl⟩;obtain⟨mm,Vl⟩:∃mm,mm=sizes (L.take j):=⟨_,rfl⟩;have HSA:=ι (ψ Ma (ψ Jg Vl));rw[<-Ma]at Zw Yx Zy Ve⊢;rw[<-Jg]at Yx Ve Xy Zv⊢;rw[<-Vl]at Yx Zy Xy Zv Yn;have Na:Hid ((Lit.int .i64 (sa:Int)).wf=true):=⟨WalkArith.wf_i64 Ω⟩;have Ou:=ι (ψ Mo ht7.size);have HJL:=ι Xz;have hsab:sa+sz<=524288:=Ω
     clear Lh Zl Yt ht7 Ma Jg Vl Og Ia Nh Zp Vn Is Jb Mz Ok Zz Ve;have kk:=HK.o _ Yn.o.t;have k1:=kk.1.1;have k3:=kk.2.1;have k4:=kk.2.2;clear kk
     have If:Hid (∀W',Gr W7 W'->W'.cell? ⟨bx,0,none⟩=some (pP y)/\W'.cell? ⟨y,15,none⟩=some (.map (some V))/\W'.cell? ⟨w.heap.size,0,none⟩=some (pP q)):=⟨λW' gW=>by
      have h:=HK.o W' (Yn.o.t.trans (gW.touch _))
      exact⟨h.1.1,h.2⟩⟩
     gi_upto_region 16 with(fail);obtain⟨Sx,Z,HS⟩:=AA.start λW'=>W'.cell? ⟨bx,0,none⟩=some (pP y)/\W'.cell? ⟨y,15,none⟩=some (.map (some V))/\W'.cell? ⟨w.heap.size,0,none⟩=some (pP q);have y1:=AA.fact Z λ_ h=>h.1;have y2:=AA.fact Z λ_ h=>h.2.1;have y3:=AA.fact Z λ_ h=>h.2.2;have U:=HS.o (W7.drew) (If.o _ (Gr.refl W7).drew);have O:Inhabited (AA Sx):=⟨⟨_,U⟩⟩;clear Z;refine GG Sx 13 [([0,1,2,3,4,5,6,7],8),([9,10,11],12)] [] (λ_=>trivial) U ?_;refine DW ?_;gi_wp2_with((refine⟨trivial,?_⟩;gi_at_call 104;refine(CallsIn.inRound lp (τ.2 (Zw.o _ (Gr.refl W7).drew))).mono ?_;rintro e w8 ⟨rfl,Me⟩;have Jd:=ι ((Gr.refl W7).drew.trans Me);clear Me));refine⟨.inr (AA.of (HS.o _ (If.o _ Jd.o))),?_⟩;refine DW ?_;gi_wp2_with((gi_at_mapUpdate;refine Y7w _ rfl _ _ _ 147 rfl 3 72 JE underlying147 underlying3 V n5 f5 rfl (Ef.o.gr Jd.o) Ol.o (sa:Int) (.agg #[.int .i64 Li,.int .i64 Iu,.int .i64 Eh]) rfl rfl Na.o ?_;intro w9 Nl Oc;have It:=ι Nl;have Vq:=ι Oc;clear Nl Oc));refine⟨.inr (AA.of (HS.o _ ((by have h:=HK.o w9 (Yn.o.t.trans ((Jd.o.touch _).trans (Vq.o.mono (λi _ h=>.inl (.inr h)))));exact⟨h.1.1,h.2⟩)))),?_⟩;refine GB ?_;clear y1 y2 y3 U O;clear HS Sx;clear k1 k3 k4;have Iq:Hid (OpA W5 w9 J V v s (j+1) (mm+0)):=⟨Zy.o w9 It.o ((Jd.o.touch _).trans Vq.o)⟩;have Mw:Hid (AB (λi=>i=J\/i=V) W7 w9):=⟨(Jd.o.touch _).trans (Vq.o.mono (λi _ h=>.inr h))⟩;gi_wp2
     gi_loopw [16] (λs16 wr=>∃t A:Nat,t<=sz/\Hid (A=sa+t)/\Hid (OpA W5 wr J V v s (j+1) (mm+t))/\Hid (AB (λi=>i=J\/i=V) W7 wr)/\s16=.int .i64 A) (λs16 _=>sa+sz-(intOf s16).toNat)
     case atStart=>exact⟨0,sa,ζc _,⟨rfl⟩,Iq,Mw,rfl⟩
     case round=>
      obtain⟨t,A,ht,Zj,HA,Oz,rfl⟩:=hrel;by_cases Xv:t<sz
      ·have Yf:=ι Xv;have Eb:(A:Int)<(sa:Int)+(sz:Int):=by have:=Zj.o;omega
       have Le:A<=1048576:=by have:=Zj.o;omega
       obtain⟨e1,e2⟩:=Yx.o t Xv;obtain⟨n4,f4,Zm,Oi,Uy⟩:=HA.o.wd;have Os:=ι (λ(W:World) (gW:Gr wr W)=>IY ((Va.o wr HA.o.t).gr gW));obtain⟨pg,Xw⟩:∃pg,pg=v.pl.pg:=⟨_,rfl⟩;rw[<-Xw]at Os Od;obtain⟨Q,hQ⟩:∃Q,Q=A/pg:=⟨_,rfl⟩;have g1:((A:Int).tdiv (pg:Int))=(Q:Int):=by rw[hQ];rfl
       have g2:((A:Int)/(pg:Int))=(Q:Int):=by rw[hQ];rfl
       have Ng:(pg:Int)≠0:=Ω
       have hQb:Q<=1048576:=by rw[hQ];exact γ (ζ4 _ _) Le
       have Vu:AG s.L (mm+t)/s.pg=Q:=by rw[e1,hQ,Zj.o,Xw,Zh.o.2.1]
       obtain⟨N1,Yl⟩:∃N1,N1=s.on (λi=>decide (i<mm+t)) Q:=⟨_,rfl⟩
       have hN1b:N1<=1048576:=by
        rw[Yl];have h1:=s.on_le (λi=>decide (i<mm+t)) Q;have h2:=FW Ml.o;have h3:=Zh.o.2.2.1;omega
       have Vt:Hid (∀W',Gr wr W'->(Instr.lookup 146 (.map (some J)) (.int .i64 Q) false).run prog W'=.ok (.int .i64 N1) W'):=⟨λW' gW=>by
        rw[(Zm.gr gW).look JE underlying146 underlying3 (XB W') (WalkArith.wf_i64 Ω),Uy Q,Yl]⟩
       have My:Hid (∀B,BI prog 3 B J (n4+1) (λy=>if y=(Q:Int)then some (.int .i64 ((N1+1:Nat):Int))else f4 y)->AB (λi=>i=J) wr B->OpA W5 B J V v s (j+1) (mm+(t+1))):=⟨λB hmB tB=>by
        have:=HA.o.word e2 Yj.o.2.2 Oi Uy (x:=N1+1) (B:=B) (by rw[Vu,Yl]) (by rw[Vu];exact hmB) tB
        rw[<-ξE];exact this⟩
       have Ep:=ι Zm;have Mn:Hid (n4<maxLen):=⟨by have:=Zv.o;unfold maxLen;omega⟩;have Nt:Hid ((Lit.int .i64 (Q:Int)).wf=true):=⟨WalkArith.wf_i64 Ω⟩;have Ea:(N1:Int)+1=((N1+1:Nat):Int):=by push_cast;rfl
       obtain⟨N2,Uq⟩:∃N2,N2=N1+1:=⟨_,rfl⟩;rw[<-Uq]at Ea My
       have Nb:Hid (∀W',Gr wr W'->(W'.cell? ⟨bx,0,none⟩=some (pP y)/\W'.cell? ⟨y,14,none⟩=some (.map (some J)))/\W'.cell? ⟨w.heap.size,0,none⟩=some (pP q)/\(Instr.lookup 146 (.map (some J)) (.int .i64 Q) false).run prog W'=.ok (.int .i64 N1) W'):=⟨λW' gW=>by
        have h:=HK.o W' (HA.o.t.trans (gW.touch _))
        exact⟨h.1,h.2.2,Vt.o W' gW⟩⟩
       clear e1 e2 Zm Oi Uy Xw hQ Vu Yl Uq Xv;gi_upto_region 20 with(fail);obtain⟨Sx,Z,HS⟩:=AA.start λW'=>(W'.cell? ⟨bx,0,none⟩=some (pP y)/\W'.cell? ⟨y,14,none⟩=some (.map (some J)))/\W'.cell? ⟨w.heap.size,0,none⟩=some (pP q)/\(Instr.lookup 146 (.map (some J)) (.int .i64 Q) false).run prog W'=.ok (.int .i64 N1) W';have y1:=AA.fact Z λ_ h=>h.1.1;have y2:=AA.fact Z λ_ h=>h.1.2;have y3:=AA.fact Z λ_ h=>h.2.1;have y4:∀p:AA Sx,(Instr.lookup 146 (.map (some J)) (.int .i64 Q) false).run prog p.w=.ok (.int .i64 N1) p.w:=λp=>by have h:=AA.get Z p;exact h.2.2
       have U:=HS.o (wr.drew) (Nb.o _ (Gr.refl wr).drew);have O:Inhabited (AA Sx):=⟨⟨_,U⟩⟩;clear Z;refine GG Sx 10 [([0,1,2,3,4,5],6),([7,8,9],10)] [] (λ_=>trivial) U ?_;refine DW ?_;gi_wp2_with((refine⟨trivial,?_⟩;gi_at_call 138;refine(CallsIn.inRound lp (τ.2 (Os.o _ (Gr.refl wr).drew))).mono ?_;rintro e w8 ⟨rfl,rfl⟩));refine⟨.inr (AA.of (HS.o _ (Nb.o _ (Gr.refl wr).drew))),?_⟩;refine DW ?_;gi_wp2_with((gi_at_mapUpdate;refine Y7w _ rfl _ _ _ 146 rfl 3 3 JE underlying146 underlying3 J n4 f4 rfl (Ep.o.gr (Gr.refl wr).drew) Mn.o (Q:Int) (.int .i64 N2) rfl rfl Nt.o ?_;intro Jm Us Ub;have Ih:=ι Us;have Oo:=ι Ub;clear Us Ub));refine⟨.inl trivial,?_⟩;refine GB ?_;clear y1 y2 y3 y4 U O;clear HS Sx;have Yv:Hid (AB (λi=>i=J) wr Jm):=⟨((Gr.refl wr).drew.touch _).trans Oo.o⟩;gi_wp2;go_roundw
       case rel=>exact⟨t+1,A+1,Yf.o,⟨by have:=Zj.o;omega⟩,⟨My.o Jm Ih.o Yv.o⟩,⟨Oz.o.trans (Yv.o.mono (λi _ h=>.inl h))⟩,by go_num⟩
       case measure=>have:=Zj.o;have:=Yf.o;simp[intOf];omega
      ·obtain rfl:t=sz:=Ω
       have Eb:¬(A:Int)<(sa:Int)+(t:Int):=by have:=Zj.o;omega
       clear Xv;gi_wp2;have Jg:=Ou.o;have l4:=Yj.o;refine⟨Oz.o.mono (λi _ h=>.inl (by rcases h with rfl|rfl <;> omega)),j+1,rfl,Xz,?_⟩;rw[Xy.o];exact HA.o
    case done=>
     rintro D j W7 hD rfl Zl hK;have Xx:=Zl.2;rw[ζ8]at Xx;have Yn:=ι Xx;have HKK:=ι (HK.o W7 Xx.t);have hz7:=Xx.t.size;have Iv:=ι Zh.o.2.2.2
     have Mj:Hid (Cyc W7 (λb=>w1.heap.size<=b/\b<W5.heap.size) y q ⟨w2.heap.size,w3.heap.size,p,m,p1,b1,p2,b2,V,Yh,nb,J⟩ (AX v c L)):=⟨by
      have hA:=Xx;rw[Iv.o]at hA
      exact VLI HX.o Xt.o Vk.o ⟨Lc,Je.o.1,Je.o.2.1,Je.o.2.2.1,Je.o.2.2.2.1,Je.o.2.2.2.2⟩ (Jh.o.trans (Xu.touch _)) ⟨gy,Ik,Ii,Ll⟩ Ex.o (Zr.o.gr Xu) (CM Mx.o Xu) (Yq.o.gr Xu) (Ym.o.gr Xu) Vo hA (λi h1 h2 h3 h=>by omega) hA.t⟩
     have Ix:Hid (AS W7 r g rs):=⟨by
      have h1:=(HR.o.gr Xr.o).touch Yc.o (λh=>Yb.o.2.1 h.1) (λh=>Yb.o.2.2.1 h.1)
      exact(h1.gr Xt.o).gr (Xh.o W7 (Yu.o W7 Xx.t))⟩
     have Lk:=ι (PF Mp.o Vr.o HI.o (by rw[<-Ji.o];exact ξV Zd.o));have hgl:g<w1.heap.size:=Ω
     have Et:=ι (X9b (λW tW=>Mj.o.touch tW (λk hk e=>by have:=hk.1;omega)) Lk.o Ix.o);have hmf:∀(fn:Fn) (first cap:Array Value) (w:World),(Instr.makeFunc fn first cap).run prog w=.ok (.func fn first cap) w:=λ_ _ _ _=>rfl;have Uh:=Va.o W7 Xx.t;have El:=ι Uh;have Ju:=(Ye.o.gr (Xh.o W7 (Yu.o W7 Xx.t)));have Ul:=(E.o.gr (Xh.o W7 (Yu.o W7 Xx.t)));have Yw:=(Yr.o.gr Xu).touch Xx.t Ω;have Ip:=ι (ψ Ju (ψ Ul Yw));have Vc:=Yw.cc 0;have Uv:=Yw.lt;have Mf:=ι hK;have Nj:Hid (D=W5.heap.size):=⟨hD⟩;clear Xx Zl Uh Ju Ul Yw hK hD;gi_upto_region 22 with(refine⟨trivial,?_⟩;gi_at_call 135;refine(τ.2 (Et.o)).mono ?_;rintro e w8 ⟨rfl,Oq,Nx⟩;have Yo:=ι Oq;have Eu:=ι Nx;clear Oq Nx);clear Vc Uv;obtain⟨Om,Ms,Oa⟩:=Ip.o;have Um:=ι (Om.touch Yo.o (λh=>by omega));have Ur:=ι (Ms.touch Yo.o (λh=>by omega));have Ei:=ι (Oa.touch Yo.o (λh=>by omega));have Nz:=ι (Mj.o.touch Yo.o (λk hk e=>by have:=hk.1;omega));have hz8:=Yo.o.size;obtain⟨S5,Uz⟩:∃S5,S5=AD (AD S w) w1:=⟨_,rfl⟩;have Ya:Hid (∀b,S5 b->S b/\b<w.heap.size):=⟨λb hb=>by rw[Uz]at hb;exact hb.1⟩;have Md:AC w8 S5 q v:=by rw[Uz];exact El.o.touch Yo.o (λb hb _ h=>Yb.o.2.2.1 (h▸hb.1.1))
     have Oy:=ι Md
     have Jk:Hid (w8.heap[D]?=some (.deferred (some []))/\D<w8.heap.size/\W5.heap.size<=D):=⟨by
      have h1:=(ζp.1 Mf.o).1;have h2:=Nj.o
      exact⟨(Yo.o.block D h1 Ω).trans Mf.o,by omega,by omega⟩⟩
     have Mi:=ι (λ(W:World) (g':Gr w8 W)=>IY (Oy.o.gr g'));obtain⟨pg,Xw⟩:∃pg,pg=v.pl.pg:=⟨_,rfl⟩;have Zb:=ι Xw;rw[<-Xw]at Mi Od;obtain⟨q0,Zq⟩:∃q0,q0=c.fr/pg:=⟨_,rfl⟩;have Uj:q0*pg<=c.fr:=by rw[Zq];exact ζj c.fr pg
     have Vv:=ι Zq;have Ir:=ι Uj;have g1:((c.fr:Int).tdiv (pg:Int))=(q0:Int):=by rw[Zq];rfl
     have g2:((c.fr:Int)/(pg:Int))=(q0:Int):=by rw[Zq];rfl
     have Ng:(pg:Int)≠0:=Ω
     have hq0n:q0<=524288:=by have:=ζ4 c.fr pg;omega
     have Nu:Hid (UmO w8 w8.drew S5 q (AX v c L) v q0 0 pg c.tp):=⟨(Gr.refl w8).drew.touch _,⟨S5,v,λb h=>.inl h,Oy.o.gr (Gr.refl w8).drew,EZ.zero Mp.o q0⟩,λi hi=>absurd hi (ζC _)⟩;have u1:=Um.o.cc 0;have u2:=Ur.o.cc 0;clear Om Ms Oa Md Xw Zq Uj Uz;obtain⟨Sx,Z,HS⟩:=AA.start λW'=>W'.cell? ⟨w.heap.size,0,none⟩=some (pP q)/\W'.cell? ⟨w.heap.size+1,0,none⟩=some (.int .i64 c.fr);have x1:=AA.fact Z λ_ h=>h.1;have x2:=AA.fact Z λ_ h=>h.2;have U:=HS.o (w8.drew) (⟨u1,u2⟩);have O:Inhabited (AA Sx):=⟨⟨_,U⟩⟩;clear Z;refine GG Sx 6 [([0,1,2],3)] [4,5] GM U ?_;refine DW ?_;gi_wp2_with((refine⟨trivial,?_⟩;gi_at_call 138;refine(τ.2 (Mi.o _ (Gr.refl w8).drew)).mono ?_;rintro e w9 ⟨rfl,rfl⟩));refine⟨.inr (AA.of (HS.o _ (⟨u1,u2⟩))),?_⟩;refine GB ?_;clear x1 x2 U O;clear HS Sx;clear u1 u2;gi_wp2
     gi_loopw [17] (λs17 wx=>∃j:Nat,Hid (UmO w8 wx S5 q (AX v c L) v q0 j pg c.tp)/\s17=.int .i64 ((q0+j:Nat):Int)) (λs17 _=>c.tp-(intOf s17).toNat*pg)
     case atStart=>exact⟨0,Nu,rfl⟩
     case round=>
      clear Nu;obtain⟨j,HU,rfl⟩:=hrel;obtain⟨Sj,v',Ox,Vj,Vd⟩:=HU.o.vm;have Vh:=λ(W:World) (g':Gr wr W)=>IY (Vj.gr g');rw[Vd.pg,<-Zb.o]at Vh;have Jv:=ι Vh;have Vy:=ι Vj;have Xy:=ι Ox;have Vf:=ι Vd;have Ua:=ι (Um.o.touch HU.o.t (λh=>by have:=(Ya.o _ h).2;omega));have Np:=ι (Ur.o.touch HU.o.t (λh=>by have:=(Ya.o _ h).2;omega));have Yz:=ι (Ei.o.touch HU.o.t (λh=>by have:=(Ya.o _ h).2;omega));have Zc:=ι (Nz.o.touch HU.o.t (λk hk h=>by have:=hk.1;have:=(Ya.o _ h).2;omega));obtain⟨qq,Zu⟩:∃qq,qq=q0+j:=⟨_,rfl⟩;obtain⟨pp,Ze⟩:∃pp,pp=qq*pg:=⟨_,rfl⟩
      have hppb:pp<=1048576:=by
       rcases ζG j with h0|h0
       ·rw[Ze,Zu,h0,ξm];have:=Ir.o;omega
       ·have:=HU.o.q1 (j-1) Ω;have e:pp=(q0+(j-1))*pg+pg:=by rw[Ze,Zu,show q0+j=(q0+(j-1))+1 by omega,ξg,ξC]
        omega
      have hqb:qq<=pp:=by rw[Ze];exact ξ3 _ Ω
      have hmul:((qq:Int)*(pg:Int))=(pp:Int):=by rw[Ze];push_cast;rfl
      have Xs:=ι (ψ Zu Ze);rw[<-Zu];have u1:=Ua.o.cc 0;have u2:=Np.o.cc 1;clear Vh Vj Ox Zu Ze Vd;by_cases Xv:pp<c.tp
      ·have e1:decide ((pp:Int)<(c.tp:Int))=true:=ξ Ω;have e2:decide (pp<c.tp)=true:=ξ Xv;have Yf:=ι Xv;have Zx:=TG (Zc.o.gr (Gr.refl wr).drew).wd (q:=qq) Ω;have Nw:(AX v c L).on (λi=>!(AX v c L).is i) qq=(AX v c L).on (λ_=>true) qq:=Sl.on_congr λi _=>by rw[LV];rfl
       rw[Nw]at Zx;obtain⟨N1,Yl⟩:∃N1,N1=(AX v c L).on (λ_=>true) qq:=⟨_,rfl⟩;have Ig:=ι Yl;rw[<-Yl]at Zx;have Vt:=ι Zx;clear Xv Yl Nw Zx;gi_upto_region 23 with(fail);obtain⟨Sx,Z,HS⟩:=AA.start λW'=>W'.cell? ⟨w.heap.size,0,none⟩=some (pP q)/\W'.cell? ⟨w.heap.size+1,1,none⟩=some (.int .i64 c.tp);have x1:=AA.fact Z λ_ h=>h.1;have x2:=AA.fact Z λ_ h=>h.2;have U:=HS.o (wr.drew) (⟨u1,u2⟩);have O:Inhabited (AA Sx):=⟨⟨_,U⟩⟩;clear Z;refine GG Sx 7 [([0,1,4,5],2)] [3,6] GM U ?_;refine DW ?_;gi_wp2_with((refine⟨trivial,?_⟩;gi_at_call 138;refine(τ.2 (Jv.o _ (Gr.refl wr).drew)).mono ?_;rintro e Jm ⟨rfl,rfl⟩));refine⟨.inr (AA.of (HS.o _ (⟨u1,u2⟩))),?_⟩;refine GB ?_;clear x1 x2 U O;clear HS Sx;have z1:=(Yz.o.gr (Gr.refl wr).drew).cell (j:=0) rfl;have zl:=(Yz.o.gr (Gr.refl wr).drew).lt;have z2:=(Zc.o.gr (Gr.refl wr).drew).rc.cell (j:=14) rfl;have zl2:=(Zc.o.gr (Gr.refl wr).drew).rc.lt;have Zx:=Vt.o;have u3:=Ua.o.lt;have Es:=(Gr.refl wr).drew.size;have Eo:=HU.o.t.size;by_cases hz:N1=0
       ·have d0:((N1:Int)==0)=true:=by simp[hz]
        have HZ:=ι hz;clear hz;gi_wp2_with(refine⟨trivial,?_⟩;gi_at_call 139;refine(τ.2 (NB (Vy.o.gr (Gr.refl wr).drew) (qq:Int))).mono ?_;rintro e w11 ⟨rfl,Jw,Uc⟩;have Yv:=ι Jw;have Nn:=ι Uc;clear Jw Uc);go_roundw
        case rel=>
         refine⟨j+1,⟨⟨?_,⟨plus Sj wr.drew,_,λb hb=>?_,Nn.o,?_⟩,λi hi=>?_⟩⟩,?_⟩
         ·exact(HU.o.t.trans ((Gr.refl wr).drew.touch _)).trans' Yv.o (λb hb h=>(Xy.o b h).elim id (λh=>by omega))
         ·rcases hb with h|h
          ·exact Xy.o b h
          ·right;omega
         ·have:=Vf.o.drop (j:=j) (by rw[<-Xs.o.1,<-Ig.o];exact HZ.o);rw[<-Xs.o.1]at this;exact this
         ·rcases δ i j with h|h
          ·exact HU.o.q1 i h
          ·obtain rfl:i=j:=Ω
           rw[<-Xs.o.1,<-Xs.o.2];exact Yf.o
         ·rw[show q0+(j+1)=qq+1 by rw[Xs.o.1];omega]
          go_num
        case measure=>
         have h1:=Yf.o;have h2:=Xs.o.2;simp only[intOf];rw[show ((qq:Int)+1).toNat=qq+1 by omega,υ,ξg,ξC,<-h2];omega
       ·have d0:((N1:Int)==0)=false:=by simp;exact hz
        have HZ:=ι hz;clear hz;gi_wp2;go_roundw
        case rel=>
         refine⟨j+1,⟨⟨HU.o.t.trans ((Gr.refl wr).drew.touch _),⟨Sj,_,Xy.o,Vy.o.gr (Gr.refl wr).drew,?_⟩,λi hi=>?_⟩⟩,?_⟩
         ·exact Vf.o.keep (j:=j) (by rw[<-Xs.o.1,<-Ig.o];exact HZ.o)
         ·rcases δ i j with h|h
          ·exact HU.o.q1 i h
          ·obtain rfl:i=j:=Ω
           rw[<-Xs.o.1,<-Xs.o.2];exact Yf.o
         ·rw[show q0+(j+1)=qq+1 by rw[Xs.o.1];omega]
          go_num
        case measure=>
         have h1:=Yf.o;have h2:=Xs.o.2;simp only[intOf];rw[show ((qq:Int)+1).toNat=qq+1 by omega,υ,ξg,ξC,<-h2];omega
      ·have e1:decide ((pp:Int)<(c.tp:Int))=false:=ζ Ω;have e2:decide (pp<c.tp)=false:=ζ Xv;have Yf:=ι Xv;clear Xv;gi_upto_region 23 with(fail);obtain⟨Sx,Z,HS⟩:=AA.start λW'=>W'.cell? ⟨w.heap.size,0,none⟩=some (pP q)/\W'.cell? ⟨w.heap.size+1,1,none⟩=some (.int .i64 c.tp);have x1:=AA.fact Z λ_ h=>h.1;have x2:=AA.fact Z λ_ h=>h.2;have U:=HS.o (wr.drew) (⟨u1,u2⟩);have O:Inhabited (AA Sx):=⟨⟨_,U⟩⟩;clear Z;refine GG Sx 7 [([0,1,4,5],2)] [3,6] GM U ?_;refine DW ?_;gi_wp2_with((refine⟨trivial,?_⟩;gi_at_call 138;refine(τ.2 (Jv.o _ (Gr.refl wr).drew)).mono ?_;rintro e Jm ⟨rfl,rfl⟩));refine⟨.inr (AA.of (HS.o _ (⟨u1,u2⟩))),?_⟩;refine GB ?_;clear x1 x2 U O;clear HS Sx;clear u1 u2;have z1:=(Yz.o.gr (Gr.refl wr).drew).cell (j:=0) rfl;have zl:=(Yz.o.gr (Gr.refl wr).drew).lt;gi_wp2;have Eo:=HU.o.t.size;have Es:=(Gr.refl wr).drew.size;have Ud:¬S5 D:=λh=>by have:=(Ya.o _ h).2;have:=Jk.o.2.2;omega
       have Io:wr.drew.heap[D]?=some (.deferred (some [])):=by
        have h2:=Jk.o.2.1;rw[(Gr.refl wr).drew.block Ω,HU.o.t.block D h2 Ud];exact Jk.o.1
       refine⟨by simp,.inl ⟨_,_,rfl,run_takeDeferred Io,?_⟩⟩;have tt:=DX wr.drew D (.deferred none);have hD0:=Nj.o;refine⟨.tuple #[pP y,.int .i64 0],?_,?_,.inr ⟨L,HI.o,.inr ⟨by have h1:=Zd.o;have h2:=Ji.o;omega,y,_,_,Sj,v',j,rfl,(Zc.o.gr (Gr.refl wr).drew).touch tt (λk hk e=>by have:=hk.2;omega),(Vy.o.gr (Gr.refl wr).drew).touch tt (λb hb _ h=>?_),λb hb=>?_,λb hb=>⟨?_,λh=>?_⟩,?_,?_,?_,?_⟩⟩⟩
       ·simp[results,f112,go_sem]
       ·have a1:AB (λb=>b=g\/S b) w w1:=Xr.o.touch _;have a2:=a1.trans (Yc.o.mono (λi _ h=>.inr h.1));have a3:=a2.trans ((Xt.o.trans (Xh.o W7 (Yu.o W7 Yn.o.t))).touch _);have a4:=a3.trans (Yo.o.mono (λi _ h=>.inl h));have a5:=a4.trans (HU.o.t.mono (λi _ h=>.inr (Ya.o i h).1));exact(a5.trans ((Gr.refl wr).drew.touch _)).trans' tt (λb hb h=>by omega)
       ·rcases Xy.o b hb with h'|h'
        ·exact Ud (h▸h')
        ·have:=Jk.o.2.1;omega
       ·rcases Xy.o b hb with h'|h'
        ·exact .inl (Ya.o b h').1
        ·right;omega
       ·have:=hb.1;omega
       ·rcases Xy.o b h with h'|h'
        ·have:=(Ya.o b h').2;have:=hb.1;omega
        ·have:=hb.2;omega
       ·rw[<-Zb.o,<-Vv.o];exact Vf.o
       ·rw[<-Zb.o,<-Vv.o,<-Xs.o.1,<-Xs.o.2];have:=Yf.o;omega
       ·intro i hi;rw[<-Zb.o,<-Vv.o];exact HU.o.q1 i hi
       ·exact((Eu.o.touch HU.o.t (λh=>Yb.o.2.1 (Ya.o r h).1) (λh=>Yb.o.2.2.1 (Ya.o g h).1)).gr (Gr.refl wr).drew).touch tt (λh=>by omega) (λh=>by omega)
 ·clear z3 Jn Jp Zg Js Zf Jj Jl Jq Zi;have Nk:=ι Mu;clear Mu;gi_wp2;refine⟨.tuple #[.pointer none,.int .i64 25],?_,?_,.inl ⟨Nk.o,rfl,Vx.o.mono (λb hb=>hb.1.1),(HR.o.gr Xr.o).touch Yc.o (λh=>Yb.o.2.1 h.1) (λh=>Yb.o.2.2.1 h.1)⟩⟩
  ·simp[results,f112,go_sem]
  ·have a1:AB (λb=>b=g\/S b) w w1:=Xr.o.touch _;exact a1.trans (Yc.o.mono (λi _ h=>.inr h.1))
end
end
end Go.Proofs.YtggjoonlcjjgkaaGreatDoor
