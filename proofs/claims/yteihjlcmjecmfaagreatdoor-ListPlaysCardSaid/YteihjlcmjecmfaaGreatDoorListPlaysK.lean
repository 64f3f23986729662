/- Part 11 of what ListPlays leans on: my own lemmas, merged by shake.py. -/
import Derived.Test.YteihjlcmjecmfaaGreatDoorListPlaysJ
namespace Go.Proofs.YteihjlcmjecmfaaGreatDoor
open _root_.Go.Proofs.Tryz
set_option maxHeartbeats 12800000
set_option maxRecDepth 100000
open Go.RowKit Go.Shelf Word
theorem XSy(n:Nat)(a:Addr)(w:World):(method (n+1) 90 (.pointer (some a)) "Store").run prog w=.ok (262,.pointer (some a)) w:=by kernel_rfl
theorem XgO(n:Nat)(a:Addr)(w:World):(nilAhead (n+1) 90 (.pointer (some a)) "Store").run prog w=.ok (some false) w:=by kernel_rfl
section
variable {w w':World} {X:Nat->Prop} {A:HAd} {c:HCf} {base top:Nat} {u:Vm} {o:Option Nat} {lf nb:Nat}
theorem ShA.st{v:Vm}(h:ShA base top v)(a:Int){x:Nat}(hx:x<18446744073709551616):ShA base top (v.st a x):=by
 have hs:=BQ.st v a x;exact⟨h.ok.st a hx,by rw[hs.pg];exact h.al,by rw[hs.n];exact h.bt,λb hb=>by rw[hs.n]at hb;rw[FN,hs.pg];exact h.pg b hb⟩
theorem HVm.st{v:Vm}(h:HVm c v)(a:Int)(x:Nat):HVm c (v.st a x):=by
 have hs:=BQ.st v a x;exact⟨hs.n.trans h.n,hs.pg.trans h.pg,hs.rm.trans h.rm⟩
theorem VU(A:HAd)(c:HCf)(base top:Nat)(o:Option Nat)(lf nb:Nat):(spH A c base top o lf nb).Wr (fnH 177 262 o):=by
 refine⟨λn w=>?_,λn w=>?_,λargs w=>?_,λ{u S w} h a x ha hx=>?_⟩
 ·cases o with
  | none=>exact PZ n _ w
  | some y=>exact XgO n _ w
 ·cases o with
  | none=>exact O5 n _ w
  | some y=>exact XSy n _ w
 ·cases o with
  | none=>kernel_rfl
  | some y=>kernel_rfl
 ·obtain⟨⟨l,hl,hm⟩,h2⟩:=h;obtain⟨n,rfl,h3,h4⟩:=ha
  match o,hm with
  | none,⟨h5,h6,h7,h8⟩=>
   refine(KP h5 (n:Int) hx).mono ?_;rintro e w' ⟨rfl,t,hv⟩;exact⟨rfl,t,⟨l,hl,hv.mono (λ_ h=>.inl h),h6.st _ _,h7.st _ hx,h8⟩,υ h2 t.size⟩
  | some y,⟨z,s,v,R,Sv,h,e1,e2⟩=>
   have hs:=h.ok.st;have hlm:=h.a.lm;have hln:=hs.cf.ln;have hn2:=hs.n2;refine(ZaI (T8 c.fr top u) h.cy h.ok ⟨h.a,h.hv.rm⟩ h.tab h.t2 h.t1 h.vm h.d (n:Int) Ω hx).mono ?_;rintro e w' ⟨v',rfl,t,M,N,Z,hA⟩;have J:s.cf.to<=n:=by rw[h.bs];exact h3
   have U:∀i,i<sizes (s.tch n).L->n=(s.tch n).cf.to+i->(s.tch n).is i=true:=λi hi e=>by
    have e':n=s.cf.to+i:=e;have:=Sl.tch_is hs (i:=i) hi
    grind
   have d1:=(hA.1.ld Z (a:=n) J h4 U).1;have d3:=h.a.un n Ω;obtain⟨c',p1,p2⟩:=hA.1.put Z (a:=n) J h4 U hx;have V:=h.tab.lt;refine⟨by rw[d1,d3],t.mono (λk _ hk=>h.x k hk),⟨(s.tch n).lf,?_,z,{s.tch n with c:=c'},v'.st n x,R,plus Sv w,⟨M.same rfl rfl rfl rfl rfl,N,?_,p1,p2,λk hk=>?_,λk hk Y=>?_,t.tab V (λhk=>hk.elim h.t1 h.t2) h.tab,h.t1,λhk=>hk.elim h.t2 (λhk=>by omega),h.bs,h.lm,h.bk,h.ah,h.kd⟩,rfl,?_⟩,υ h2 t.size⟩
   ·have:=Sl.lf_mono (Sl.tch_mono s (n:Int));omega
   ·refine HVm.st ⟨?_,?_,hA.2⟩ _ _
    ·rw[Z.mid.n,<-h.hv.n,h.ok.mid.n];rfl
    ·rw[Z.mid.pg,<-h.hv.pg,h.ok.mid.pg];rfl
   ·rcases hk with hk|hk|hk
    ·exact .inl (h.x k (.inl hk))
    ·exact .inl (h.x k (.inr hk))
    ·exact .inr hk
   ·rcases Y with Y|Y
    ·exact h.d k hk Y
    ·have:=h.cy.od.lt k hk;omega
   ·rw[(Sl.tch_mono s (n:Int)).1];exact e2
end
section
variable {w w':World} {c:HCf} {g g':Gph} {s:HSt}
theorem HIn.sp(h:HIn w c g s):(s.sp c).I s.u s.X w:=⟨⟨s.lf,π _,h.mem⟩,h.com.tab.lt⟩
theorem HIn.hi(h:HIn w c g s):s.base+c.wd<=2147483647:=by
 have h1:=h.cok.wd;have h2:=h.cok.pw;rcases h.bs with e|⟨e,-⟩ <;> omega
theorem HIn.aft(h:HIn w c g s){u':Vm}(hW:(s.sp c).W u' s.X w w')(hi:Img u' g' s.F s.base s.top)(hg:g'.Ok)(hS:g'.S=g.S):∃l,l<=s.lf/\HIn w' c g' {s with X:=plus s.X w,u:=u',lf:=l}:=by
 obtain⟨t,⟨l,hl,hm⟩,-⟩:=hW;refine⟨l,hl,?_,hm,hi,hg,h.cok,h.bt,h.bs,by rw[hS];exact h.sl⟩;have:=h.com.mem t
 show CD w' (plus s.X w) s.A c s.base s.top (g'.S.map λx=>(s.F x:Int)) s.o s.cyc s.blk
 rw[hS];exact this
structure BE(w:World)(c:HCf)(s:HSt)(g':Gph)(s':HSt)(w':World):Prop where
 t:AB s.S w w'
 i:HIn w' c g' s'
 hp:s'.A.hp=s.A.hp
 S:∀k,s'.S k->plus s.S w k
 o:s'.o=none↔s'.lf=0
theorem Zis(h:HIn w c g s){u':Vm}(hW:(s.sp c).W u' s.X w w')(hi:Img u' g' s.F s.base s.top)(hg:g'.Ok)(hS:g'.S=g.S):
  Calls prog 71 #[pP s.A.hp] w' λe w2=>e=.returned (.tuple #[])/\∃s',BE w c s g' s' w2/\s'.A=s.A/\s'.lf<=s.lf/\s'.cyc=(if s.o≠none/\s'.lf=0 then wrap64 (s.cyc+1)else s.cyc)/\HKp s s'/\AB (λk=>k=s.A.hp) w' w2:=by
 obtain⟨l,hl,hI⟩:=h.aft hW hi hg hS;refine(UK hI).mono ?_;rintro e w2 ⟨rfl,s',h1⟩;refine⟨rfl,s',⟨?_,h1.i,by rw[h1.A],λk hk=>?_,h1.o⟩,h1.A,by rw[h1.lf];exact hl,by rw[h1.cyc,h1.lf],⟨h1.K.F,h1.K.base,h1.K.top⟩,h1.t⟩
 ·exact(hW.1.mono (λk _ hk=>.inl hk)).trans' h1.t (λk _ hk=>.inr (.inl hk))
 ·rcases hk with hk|hk|hk|hk|hk
  ·rcases h1.X k hk with h2|h2
   ·exact .inl (.inl h2)
   ·exact .inr h2
  ·rw[h1.A]at hk;exact .inl (.inr (.inl hk))
  ·rw[h1.A]at hk;exact .inl (.inr (.inr (.inl hk)))
  ·rw[h1.A]at hk;exact .inl (.inr (.inr (.inr (.inl hk))))
  ·rw[h1.A]at hk;exact .inl (.inr (.inr (.inr (.inr hk))))
end
section
variable {w w':World} {c:HCf} {g g':Gph} {s:HSt}
def HSt.cut(s:HSt)(w:World):HSt:={s with X:=AE s.X w}
theorem HIn.cut(h:HIn w c g s):HIn w c g (s.cut w):=⟨h.com.sub (λ_ _ hk=>hk.1),h.mem.cut,h.img,h.gok,h.cok,h.bt,h.bs,h.sl⟩
structure DP(s s':HSt):Prop where
 lf:s'.lf<=s.lf
 cyc:s'.cyc=if s.lf≠0/\s'.lf=0 then wrap64 (s.cyc+1)else s.cyc
theorem DP.same(s:HSt):DP s s:=⟨π _,by omega⟩
def HOp(w:World)(c:HCf)(s:HSt)(g':Gph)(w':World):Prop:=∃s',BE w c s g' s' w'/\DP s s'
theorem HOp.same(h:HIn w c g s)(hn:s.o=none↔s.lf=0)(gr:Gr w w'):HOp w c s g w':=⟨s,⟨gr.touch _,h.gr gr,rfl,λ_ h=>.inl h,hn⟩,DP.same s⟩
theorem YKV{w1 w2:World}(h:HIn w c g s)(hn:s.o=none↔s.lf=0)(gr:Gr w w1){u':Vm}(hW:((s.cut w).sp c).W u' (s.cut w).X w1 w2)(hi:Img u' g' s.F s.base s.top)(hg:g'.Ok)(hS:g'.S=g.S):
  Calls prog 71 #[pP s.A.hp] w2 λe w3=>e=.returned (.tuple #[])/\∃s',BE w c s g' s' w3/\DP s s'/\HKp s s'/\AB (λk=>k=s.A.hp) w2 w3:=by
 refine(Zis (h.cut.gr gr) hW hi hg hS).mono ?_;rintro e w3 ⟨rfl,s',hr,hA,hl,hc,hF,hT⟩;refine⟨rfl,s',⟨(gr.touch _).trans' (hr.t.mono (λk _ hk=>hk.imp (λh=>h.1) id)) (λ_ _ h=>h),hr.i,hr.hp,λk hk=>?_,hr.o⟩,⟨hl,?_⟩,⟨hF.F,hF.base,hF.top⟩,hT⟩
 ·rcases hr.S k hk with h1|h1
  ·exact .inl (h1.imp (λh=>h.1) id)
  ·exact .inr (ζa gr.size h1)
 ·rw[hc];by_cases h0:s.lf=0
  ·rw[κ (λhh=>hh.1 (hn.2 h0)),κ (λhh=>hh.1 h0)];rfl
  ·have Y:(s.cut w).o≠none:=λe=>h0 (hn.1 e);by_cases h1:s'.lf=0
   ·rw[μ ⟨Y,h1⟩,μ ⟨h0,h1⟩];rfl
   ·rw[κ (λhh=>h1 hh.2),κ (λhh=>h1 hh.2)];rfl
theorem ZWm{w1 w2:World}(h:HIn w c g s)(hn:s.o=none↔s.lf=0)(gr:Gr w w1){u':Vm}(hW:((s.cut w).sp c).W u' (s.cut w).X w1 w2)(hi:Img u' g' s.F s.base s.top)(hg:g'.Ok)(hS:g'.S=g.S):
  Calls prog 71 #[pP s.A.hp] w2 λe w3=>e=.returned (.tuple #[])/\∃s',BE w c s g' s' w3/\DP s s'/\HKp s s':=
 (YKV h hn gr hW hi hg hS).mono λ_ _ ⟨h1,s',h2,h3,h4,_⟩=>⟨h1,s',h2,h3,h4⟩
theorem LP{w1 w2:World}(h:HIn w c g s)(hn:s.o=none↔s.lf=0)(gr:Gr w w1){u':Vm}(hW:((s.cut w).sp c).W u' (s.cut w).X w1 w2)(hi:Img u' g' s.F s.base s.top)(hg:g'.Ok)(hS:g'.S=g.S):
  Calls prog 71 #[pP s.A.hp] w2 λe w3=>e=.returned (.tuple #[])/\HOp w c s g' w3:=
 (ZWm h hn gr hW hi hg hS).mono λ_ _ ⟨h1,s',h2,h3,_⟩=>⟨h1,s',h2,h3⟩
theorem HIn.rdP(h:HIn w c g s){x:Nat}(hx:g.Ro x):0<((s.F x:Nat):Int)->(s.sp c).P (s.F x:Nat):=λh0=>by
 have h1:=h.img.z;rcases hx with rfl|hx
 ·omega
 ·have h2:=h.img.lo x hx;have h3:1<=(g.ob x).size:=by unfold GOb.size;omega
  exact⟨s.F x,rfl,h2.1,by omega⟩
theorem HIn.fdP(h:HIn w c g s){x:Nat}(hx:g.Ro x)(i:Int){kd:Int}(hk:kd≠0):s.u.plE (s.F x:Nat) i kd=0->(s.sp c).P ((s.F x:Nat)+1+i):=λh0=>by
 rw[h.img.plE hx i hk]at h0;obtain⟨-,n,-,-,-,e,h1,h2⟩:=h.img.inP h.gok hx hk h0;exact⟨s.F x+1+n,e,h1,h2⟩
theorem NZ(h:HIn w c g s)(a:Int):(g.sl a=false->Calls prog 68 #[pP s.A.hp,.slice (some ⟨w.heap.size,0,none⟩) 1 1] (w.alloc (.cells #[.int .i64 a] 3)) λe w'=>e=.returned (.tuple #[.slice none 0 0,iI 17])/\Gr w w') ∧
  (g.sl a=true->Calls prog 68 #[pP s.A.hp,.slice (some ⟨w.heap.size,0,none⟩) 1 1] (w.alloc (.cells #[.int .i64 a] 3)) λe w'=>∃gb cp,e=.returned (.tuple #[.slice (some ⟨gb,0,none⟩) 1 cp,iI 0])/\Gr w w'/\w.heap.size<=gb/\w'.cell? ⟨gb,0,none⟩=some (iI (s.F (g.at a):Nat))):=by
 have Y:=(Gr.refl w).alloc (.cells #[.int .i64 a] 3)
 have hf:=XEM (h.gr Y) (b:=w.heap.size) (l:=[a]) (by simp) (λj hj=>by
  have:j=0:=by simpa using hj
  simp_all) (by simp)
 refine⟨λhs=>hf.mono ?_,λhs=>hf.mono ?_⟩
 ·rintro e w' ⟨hg,(⟨h1,-⟩|⟨-,h1⟩)⟩
  ·simp_all
  ·exact⟨h1,Y.trans hg⟩
 ·rintro e w' ⟨hg,(⟨-,v,rfl,ho⟩|⟨⟨x,hx,h1⟩,-⟩)⟩
  ·obtain⟨gb,cp,rfl,h2,-,-,-⟩:=E7 ho (by simp);exact⟨gb,cp,rfl,Y.trans hg,ζa Y.size h2,BM ho (j:=0) rfl⟩
  simp_all
theorem J4u(h:HIn w c g s)(hn:s.o=none↔s.lf=0)(a i:Int):Calls prog 72 #[pP s.A.hp,iI a,iI i] w λe w'=>e=.returned (.tuple #[uU (g.fdV a i 3:Nat),iI (g.fdE a i 3)])/\HOp w c s g w':=by
 obtain⟨F0,F1⟩:=NZ h a;have HN:=hn;cases hsl:g.sl a with
 | false=>
  have HF:=(F0 hsl)
  have HE:Hid (g.fdE a i 3=17/\g.fdV a i 3=0):=⟨by
   have e:g.fdE a i 3=17:=by unfold Gph.fdE;rw[hsl];rfl
   exact⟨e,by unfold Gph.fdV;rw[e];rfl⟩⟩
  generalize s.A.hp=ap at HF⊢;go_enter func72,ntmps72;go_wp2_with(go_at_call 68;refine(HF).mono ?_;rintro e w1 ⟨rfl,hg⟩;have HG:=hg);go_ret2;exact⟨BI (congrArg (λn:Nat=>uU (n:Int)) HE.o.2.symm) (BL HE.o.1.symm),HOp.same h HN HG⟩
 | true=>
  have HF:=(F1 hsl);have Y:=Gph.at_ro hsl;have M:=(λ(W:World) (gg:Gr w W)=>LG (h.cut.gr gg));have Z:=(λ(W:World) (gg:Gr w W)=>QV8 (IR ..) (h.cut.gr gg).sp (s.F (g.at a):Nat) i (h.cut.rdP Y) (h.cut.fdP Y i (by decide)));have e1:s.u.gtE (s.F (g.at a):Nat) i 3=g.fdE a i 3:=by rw[h.img.gtE h.gok Y i (by decide),Gph.fdE_er hsl]
  have e2:s.u.gtV (s.F (g.at a):Nat) i 3=g.fdV a i 3:=by rw[h.img.gtV h.gok Y i (by decide) (by decide)];unfold Gph.fdV;rw[Gph.fdE_er hsl]
  have e3:(s.cut w).u=s.u:=rfl;rw[e3,e1,e2]at Z;have I:(s.cut w).A.hp=s.A.hp:=rfl;rw[I]at M;have N:=(λ(w1 w2:World) (gr:Gr w w1) (he:((s.cut w).sp c).E s.u (s.cut w).X w1 w2)=>LP h hn gr he.toW h.img h.gok rfl);generalize g.fdV a i 3=rv at Z⊢;generalize g.fdE a i 3=re at Z⊢;skip;generalize (s.F (g.at a):Nat)=ad at HF Z;obtain⟨ap,hp⟩:∃ap,ap=s.A.hp:=⟨_,rfl⟩;rw[<-hp]at HF M N⊢;clear hn hsl F0 F1 Y e1 e2 e3 I hp;go_enter func72,ntmps72;go_upto_region 4 with(go_at_call 68;refine(HF).mono ?_;rintro e w1 ⟨gb,cp,rfl,V,G,L⟩;have J:=L;have Xa:=G;clear L G);obtain⟨Sx,D,HS⟩:=AA.start λW'=>W'.cell? ⟨gb,0,none⟩=some (iI (ad:Nat));have y0:=AA.fact D λ_ h=>h;have U:=HS.o (w1.drew) (J);have B:Inhabited (AA Sx):=⟨⟨_,U⟩⟩;clear D;refine AR Sx 12 [([0,2,3,4,5],1),([],6)] [7,8,9,10,11] (by kernel_rfl) (by kernel_rfl) U ?_;refine AG ?_
  try simp only[AC,ζ,ξ]
  repeat(go_big_quiet_step (fail))
  refine ψ ?_;go_wp2_with((go_at_call 70;refine AT (M _ V.drew) ?_));refine⟨.inr (AA.of (HS.o _ (J))),?_⟩;refine AG ?_
  try simp only[AC,ζ,ξ]
  repeat(go_big_quiet_step (fail))
  refine ψ ?_;go_wp2_with((go_at_call 113;refine(Z _ V.drew).mono ?_;rintro e w2 ⟨rfl,he⟩;have O:=he;clear he));refine⟨.inr (AA.of (HS.o _ ((O.1.cell (AV J) (λhk=>ζS _ (υ hk.2.2 Xa)) 0).trans J))),?_⟩;refine AS ?_
  try simp only[AC,ζ,ξ]
  repeat(go_big_quiet_step (fail))
  refine ψ ?_;refine τ ?_;clear y0 U B;clear HS Sx;go_wp2_with(go_at_call 71;refine(N _ _ V.drew O).mono ?_;rintro e w3 ⟨rfl,ho⟩;have Xb:=ho;clear ho);go_ret2;exact⟨rfl,Xb⟩
theorem QNL(h:HIn w c g s)(hn:s.o=none↔s.lf=0)(a i:Int):Calls prog 73 #[pP s.A.hp,iI a,iI i] w λe w'=>e=.returned (.tuple #[.float .f64 (g.fdV a i 2),iI (g.fdE a i 2)])/\HOp w c s g w':=by
 obtain⟨F0,F1⟩:=NZ h a;have HN:=hn;cases hsl:g.sl a with
 | false=>
  have HF:=(F0 hsl)
  have HE:Hid (g.fdE a i 2=17/\g.fdV a i 2=0):=⟨by
   have e:g.fdE a i 2=17:=by unfold Gph.fdE;rw[hsl];rfl
   exact⟨e,by unfold Gph.fdV;rw[e];rfl⟩⟩
  generalize s.A.hp=ap at HF⊢;clear hn hsl F0 F1;go_enter func73,ntmps73;go_wp2_with(go_at_call 68;refine(HF).mono ?_;rintro e w1 ⟨rfl,hg⟩;have HG:=hg;clear hg);go_ret2;exact⟨BI (congrArg (λn:Nat=>Value.float .f64 n) HE.o.2.symm) (BL HE.o.1.symm),HOp.same h HN HG⟩
 | true=>
  have HF:=(F1 hsl);have Y:=Gph.at_ro hsl;have M:=(λ(W:World) (gg:Gr w W)=>LG (h.cut.gr gg));have Z:=(λ(W:World) (gg:Gr w W)=>QUr (IR ..) (h.cut.gr gg).sp (s.F (g.at a):Nat) i (h.cut.rdP Y) (h.cut.fdP Y i (by decide)));have e1:s.u.gtE (s.F (g.at a):Nat) i 2=g.fdE a i 2:=by rw[h.img.gtE h.gok Y i (by decide),Gph.fdE_er hsl]
  have e2:s.u.gtV (s.F (g.at a):Nat) i 2=g.fdV a i 2:=by rw[h.img.gtV h.gok Y i (by decide) (by decide)];unfold Gph.fdV;rw[Gph.fdE_er hsl]
  have e3:(s.cut w).u=s.u:=rfl;rw[e3,e1,e2]at Z;have I:(s.cut w).A.hp=s.A.hp:=rfl;rw[I]at M;have N:=(λ(w1 w2:World) (gr:Gr w w1) (he:((s.cut w).sp c).E s.u (s.cut w).X w1 w2)=>LP h hn gr he.toW h.img h.gok rfl);generalize g.fdV a i 2=rv at Z⊢;generalize g.fdE a i 2=re at Z⊢;skip;generalize (s.F (g.at a):Nat)=ad at HF Z;obtain⟨ap,hp⟩:∃ap,ap=s.A.hp:=⟨_,rfl⟩;rw[<-hp]at HF M N⊢;clear hn hsl F0 F1 Y e1 e2 e3 I hp;go_enter func73,ntmps73;go_upto_region 4 with(go_at_call 68;refine(HF).mono ?_;rintro e w1 ⟨gb,cp,rfl,V,G,L⟩;have J:=L;have Xa:=G;clear L G);obtain⟨Sx,D,HS⟩:=AA.start λW'=>W'.cell? ⟨gb,0,none⟩=some (iI (ad:Nat));have y0:=AA.fact D λ_ h=>h;have U:=HS.o (w1.drew) (J);have B:Inhabited (AA Sx):=⟨⟨_,U⟩⟩;clear D;refine AR Sx 12 [([0,2,3,4,5],1),([],6)] [7,8,9,10,11] (by kernel_rfl) (by kernel_rfl) U ?_;refine AG ?_
  try simp only[AC,ζ,ξ]
  repeat(go_big_quiet_step (fail))
  refine ψ ?_;go_wp2_with((go_at_call 70;refine AT (M _ V.drew) ?_));refine⟨.inr (AA.of (HS.o _ (J))),?_⟩;refine AG ?_
  try simp only[AC,ζ,ξ]
  repeat(go_big_quiet_step (fail))
  refine ψ ?_;go_wp2_with((go_at_call 114;refine(Z _ V.drew).mono ?_;rintro e w2 ⟨rfl,he⟩;have O:=he;clear he));refine⟨.inr (AA.of (HS.o _ ((O.1.cell (AV J) (λhk=>ζS _ (υ hk.2.2 Xa)) 0).trans J))),?_⟩;refine AS ?_
  try simp only[AC,ζ,ξ]
  repeat(go_big_quiet_step (fail))
  refine ψ ?_;refine τ ?_;clear y0 U B;clear HS Sx;go_wp2_with(go_at_call 71;refine(N _ _ V.drew O).mono ?_;rintro e w3 ⟨rfl,ho⟩;have Xb:=ho;clear ho);go_ret2;exact⟨rfl,Xb⟩
theorem X3(g:Gph)(a i kd:Int)(x:Nat):(g.wrG a i kd x).S=g.S:=by unfold Gph.wrG;split <;> rfl
theorem HIn.wrI(h:HIn w c g s){a:Int}(hs:g.sl a=true)(i:Int){kd:Int}(hk:kd≠0)(hk1:kd≠1)(x:Nat):Img (s.u.seV (s.F (g.at a):Nat) i kd x) (g.wrG a i kd x) s.F s.base s.top:=by
 have Y:=Gph.at_ro hs;unfold Gph.wrG;by_cases he:g.fdE a i kd=0
 ·rw[μ he];have Z:g.erE (g.at a) i kd=0:=by rw[<-Gph.fdE_er hs];exact he
  have:=h.img.seV h.mem.ok h.gok Y i hk x (λe=>absurd e hk1) (by have:=h.hi;have:=h.bt;omega) Z;rw[κ hk1]at this;exact this
 ·rw[κ he]
  have e:s.u.seV (s.F (g.at a):Nat) i kd x=s.u:=by
   unfold Vm.seV;rw[h.img.plE Y i hk,<-Gph.fdE_er hs,κ he]
  rw[e];exact h.img
theorem HIn.wrO(h:HIn w c g s){a:Int}(hs:g.sl a=true)(i:Int){kd:Int}(hk:kd≠0)(hk1:kd≠1)(x:Nat):(g.wrG a i kd x).Ok:=by
 have Z:=Gph.at_ro hs;unfold Gph.wrG;by_cases he:g.fdE a i kd=0
 ·rw[μ he];have Y:g.erE (g.at a) i kd=0:=by rw[<-Gph.fdE_er hs];exact he
  obtain⟨hr,n,rfl,h1,h2,-⟩:=h.img.inP h.gok Z hk Y;obtain⟨q1,q2⟩:=h.gok.rd hr;exact h.gok.put q1 q2 (λhn=>absurd (h2.2 Ω) hk1)
 ·rw[κ he];exact h.gok
theorem Vld(h:HIn w c g s)(hn:s.o=none↔s.lf=0)(a i:Int){x:Nat}(hx:x<18446744073709551616):Calls prog 77 #[pP s.A.hp,iI a,iI i,uU x] w λe w'=>e=.returned (iI (g.fdE a i 3))/\HOp w c s (g.wrG a i 3 x) w':=by
 obtain⟨F0,F1⟩:=NZ h a;have HN:=hn;cases hsl:g.sl a with
 | false=>
  have HF:=(F0 hsl)
  have HE:Hid (g.fdE a i 3=17/\g.wrG a i 3 x=g):=⟨by
   have e:g.fdE a i 3=17:=by unfold Gph.fdE;rw[hsl];rfl
   exact⟨e,by unfold Gph.wrG;rw[e];rfl⟩⟩
  generalize s.A.hp=ap at HF⊢;clear hn hsl F0 F1 hx;go_enter func77,ntmps77;go_wp2_with(go_at_call 68;refine(HF).mono ?_;rintro e w1 ⟨rfl,hg⟩;have HG:=hg;clear hg);go_ret;exact⟨AL HE.o.1.symm,by rw[HE.o.2];exact HOp.same h HN HG⟩
 | true=>
  have HF:=(F1 hsl);have J:=Gph.at_ro hsl;have N:=(λ(W:World) (gg:Gr w W)=>LG (h.cut.gr gg));have Y:=(λ(W:World) (gg:Gr w W)=>XXd (IR ..) (VU ..) (h.cut.gr gg).sp (s.F (g.at a):Nat) i (h.cut.rdP J) (h.cut.fdP J i (by decide)) hx);have e1:s.u.gtE (s.F (g.at a):Nat) i 3=g.fdE a i 3:=by rw[h.img.gtE h.gok J i (by decide),Gph.fdE_er hsl]
  have e3:(s.cut w).u=s.u:=rfl;rw[e3,e1]at Y;have I:(s.cut w).A.hp=s.A.hp:=rfl;rw[I]at N;have V:=(λ(w1 w2:World) (gr:Gr w w1) (he:((s.cut w).sp c).W (s.u.seV (s.F (g.at a):Nat) i 3 x) (s.cut w).X w1 w2)=>LP h hn gr he (h.wrI hsl i (by decide) (by decide) x) (h.wrO hsl i (by decide) (by decide) x) (X3 ..));generalize g.fdE a i 3=re at Y⊢;generalize s.u.seV (s.F (g.at a):Nat) i 3 x=un at Y V;generalize (s.F (g.at a):Nat)=ad at HF Y;obtain⟨ap,hp⟩:∃ap,ap=s.A.hp:=⟨_,rfl⟩;rw[<-hp]at HF N V⊢;clear hn hsl F0 F1 J e1 e3 I hp hx;go_enter func77,ntmps77;go_upto_region 4 with(go_at_call 68;refine(HF).mono ?_;rintro e w1 ⟨gb,cp,rfl,M,D,E⟩;have Z:=E;have B:=D;clear E D);obtain⟨Sx,L,HS⟩:=AA.start λW'=>W'.cell? ⟨gb,0,none⟩=some (iI (ad:Nat));have y0:=AA.fact L λ_ h=>h;have U:=HS.o (w1.drew) (Z);have G:Inhabited (AA Sx):=⟨⟨_,U⟩⟩;clear L;refine AR Sx 9 [([0,2,3,4,5,6],1),([],7)] [8] (by kernel_rfl) (by kernel_rfl) U ?_;refine AG ?_
  try simp only[AC,ζ,ξ]
  repeat(go_big_quiet_step (fail))
  refine ψ ?_;go_wp2_with((go_at_call 70;refine AT (N _ M.drew) ?_));refine⟨.inr (AA.of (HS.o _ (Z))),?_⟩;refine AG ?_
  try simp only[AC,ζ,ξ]
  repeat(go_big_quiet_step (fail))
  refine ψ ?_;go_wp2_with((go_at_call 117;refine(Y _ M.drew).mono ?_;rintro e w2 ⟨rfl,he⟩;have O:=he;clear he));refine⟨.inr (AA.of (HS.o _ ((O.1.cell (AV Z) (λhk=>ζS _ (υ hk.2 B)) 0).trans Z))),?_⟩;refine AS ?_
  try simp only[AC,ζ,ξ]
  repeat(go_big_quiet_step (fail))
  refine ψ ?_;refine τ ?_;clear y0 U G;clear HS Sx;go_wp2_with(go_at_call 71;refine(V _ _ M.drew O).mono ?_;rintro e w3 ⟨rfl,ho⟩;have Xa:=ho;clear ho);go_ret;exact⟨rfl,Xa⟩
theorem Xe2(h:HIn w c g s)(hn:s.o=none↔s.lf=0)(a i:Int){x:Nat}(hx:x<18446744073709551616):Calls prog 78 #[pP s.A.hp,iI a,iI i,.float .f64 x] w λe w'=>e=.returned (iI (g.fdE a i 2))/\HOp w c s (g.wrG a i 2 x) w':=by
 obtain⟨F0,F1⟩:=NZ h a;have HN:=hn;cases hsl:g.sl a with
 | false=>
  have HF:=(F0 hsl)
  have HE:Hid (g.fdE a i 2=17/\g.wrG a i 2 x=g):=⟨by
   have e:g.fdE a i 2=17:=by unfold Gph.fdE;rw[hsl];rfl
   exact⟨e,by unfold Gph.wrG;rw[e];rfl⟩⟩
  generalize s.A.hp=ap at HF⊢;clear hn hsl F0 F1 hx;go_enter func78,ntmps78;go_wp2_with(go_at_call 68;refine(HF).mono ?_;rintro e w1 ⟨rfl,hg⟩;have HG:=hg;clear hg);go_ret;exact⟨AL HE.o.1.symm,by rw[HE.o.2];exact HOp.same h HN HG⟩
 | true=>
  have HF:=(F1 hsl);have J:=Gph.at_ro hsl;have N:=(λ(W:World) (gg:Gr w W)=>LG (h.cut.gr gg));have Y:=(λ(W:World) (gg:Gr w W)=>Ycv (IR ..) (VU ..) (h.cut.gr gg).sp (s.F (g.at a):Nat) i (h.cut.rdP J) (h.cut.fdP J i (by decide)) hx);have e1:s.u.gtE (s.F (g.at a):Nat) i 2=g.fdE a i 2:=by rw[h.img.gtE h.gok J i (by decide),Gph.fdE_er hsl]
  have e3:(s.cut w).u=s.u:=rfl;rw[e3,e1]at Y;have I:(s.cut w).A.hp=s.A.hp:=rfl;rw[I]at N;have V:=(λ(w1 w2:World) (gr:Gr w w1) (he:((s.cut w).sp c).W (s.u.seV (s.F (g.at a):Nat) i 2 x) (s.cut w).X w1 w2)=>LP h hn gr he (h.wrI hsl i (by decide) (by decide) x) (h.wrO hsl i (by decide) (by decide) x) (X3 ..));generalize g.fdE a i 2=re at Y⊢;generalize s.u.seV (s.F (g.at a):Nat) i 2 x=un at Y V;generalize (s.F (g.at a):Nat)=ad at HF Y;obtain⟨ap,hp⟩:∃ap,ap=s.A.hp:=⟨_,rfl⟩;rw[<-hp]at HF N V⊢;clear hn hsl F0 F1 J e1 e3 I hp hx;go_enter func78,ntmps78;go_upto_region 4 with(go_at_call 68;refine(HF).mono ?_;rintro e w1 ⟨gb,cp,rfl,M,D,E⟩;have Z:=E;have B:=D;clear E D);obtain⟨Sx,L,HS⟩:=AA.start λW'=>W'.cell? ⟨gb,0,none⟩=some (iI (ad:Nat));have y0:=AA.fact L λ_ h=>h;have U:=HS.o (w1.drew) (Z);have G:Inhabited (AA Sx):=⟨⟨_,U⟩⟩;clear L;refine AR Sx 9 [([0,2,3,4,5,6],1),([],7)] [8] (by kernel_rfl) (by kernel_rfl) U ?_;refine AG ?_
  try simp only[AC,ζ,ξ]
  repeat(go_big_quiet_step (fail))
  refine ψ ?_;go_wp2_with((go_at_call 70;refine AT (N _ M.drew) ?_));refine⟨.inr (AA.of (HS.o _ (Z))),?_⟩;refine AG ?_
  try simp only[AC,ζ,ξ]
  repeat(go_big_quiet_step (fail))
  refine ψ ?_;go_wp2_with((go_at_call 118;refine(Y _ M.drew).mono ?_;rintro e w2 ⟨rfl,he⟩;have O:=he;clear he));refine⟨.inr (AA.of (HS.o _ ((O.1.cell (AV Z) (λhk=>ζS _ (υ hk.2 B)) 0).trans Z))),?_⟩;refine AS ?_
  try simp only[AC,ζ,ξ]
  repeat(go_big_quiet_step (fail))
  refine ψ ?_;refine τ ?_;clear y0 U G;clear HS Sx;go_wp2_with(go_at_call 71;refine(V _ _ M.drew O).mono ?_;rintro e w3 ⟨rfl,ho⟩;have Xa:=ho;clear ho);go_ret;exact⟨rfl,Xa⟩
end
section
variable {w w':World} {c:HCf} {g g':Gph} {s:HSt}
theorem VXS(h:HIn w c g s)(a b:Int):((g.sl a&&g.sl b)=false->Calls prog 68 #[pP s.A.hp,.slice (some ⟨w.heap.size,0,none⟩) 2 2] (w.alloc (.cells #[.int .i64 a,.int .i64 b] 3)) λe w'=>e=.returned (.tuple #[.slice none 0 0,iI 17])/\Gr w w') ∧
  ((g.sl a&&g.sl b)=true->Calls prog 68 #[pP s.A.hp,.slice (some ⟨w.heap.size,0,none⟩) 2 2] (w.alloc (.cells #[.int .i64 a,.int .i64 b] 3)) λe w'=>∃gb cp,e=.returned (.tuple #[.slice (some ⟨gb,0,none⟩) 2 cp,iI 0])/\Gr w w'/\w.heap.size<=gb/\w'.cell? ⟨gb,0,none⟩=some (iI (s.F (g.at a):Nat))/\w'.cell? ⟨gb,1,none⟩=some (iI (s.F (g.at b):Nat))):=by
 have Y:=(Gr.refl w).alloc (.cells #[.int .i64 a,.int .i64 b] 3);have hr:=Rec.new w 3 [iI a,iI b]
 have hf:=XEM (h.gr Y) (b:=w.heap.size) (l:=[a,b]) (by simp) (λj hj=>by
  have:j=0\/j=1:=by have:j<2:=hj;omega
  rcases this with rfl|rfl
  ·exact hr.cc 0
  simp_all) (by simp)
 refine⟨λhs=>hf.mono ?_,λhs=>hf.mono ?_⟩
 ·rintro e w' ⟨hg,(⟨h1,-⟩|⟨-,h1⟩)⟩
  ·simp_all
  ·exact⟨h1,Y.trans hg⟩
 ·rintro e w' ⟨hg,(⟨-,v,rfl,ho⟩|⟨⟨x,hx,h1⟩,-⟩)⟩
  ·obtain⟨gb,cp,rfl,h2,-,-,-⟩:=E7 ho (by simp);exact⟨gb,cp,rfl,Y.trans hg,ζa Y.size h2,BM ho (j:=0) rfl,BM ho (j:=1) rfl⟩
  grind
theorem Gph.Ro.le(ho:g.Ok){y:Nat}(hy:g.Ro y):y<=g.L.length:=by
 rcases hy with rfl|hy
 ·omega
 ·exact(ho.rd hy).2
theorem X6(h:HIn w c g s){a:Int}(ha:g.sl a=true){y:Nat}(hy:g.Ro y):Calls prog 60 #[pP s.A.r,iI a,iI (s.F y:Nat)] w λe w'=>e=.returned (iI 0)/\AB (λk=>k=s.A.g) w w'/\HIn w' c (g.setSl a y) s:=by
 obtain⟨n,rfl,h1,h2⟩:=MJ ha;refine(VHr h.com.rt (i:=n) (by rw[s.len];exact h1) (ψc _)).mono ?_;rintro e w' ⟨rfl,t,hr⟩
 have Y:s.rs (g.setSl n y)=(s.rs g).set n (s.F y:Nat):=by
  unfold HSt.rs Gph.setSl
  simp_all
 refine⟨rfl,t,?_,h.mem.touch t (λk hk e=>⟨λhx=>h.com.x.2.2.1 (by simp_all),λe2=>h.com.n3.2.1 Ω⟩) (λ_ h=>h),h.img.slot hy,h.gok.slot (hy.le h.gok),h.cok,h.bt,h.bs,?_⟩
 ·rw[Y];exact h.com.root t hr
 ·show (g.S.set _ _).length=c.sl
  rw[ν];exact h.sl
theorem HIn.rcell(h:HIn w c g s):w.cell? ⟨s.A.hp,9,none⟩=some (pP s.A.r):=h.com.row.cc 9
theorem BE.slot{s':HSt}(h:BE w c s g s' w'){w2:World}(t:AB (λk=>k=s'.A.g) w' w2)(hi:HIn w2 c g' s'):BE w c s g' s' w2:=
 ⟨h.t.trans' t (λk hk e=>by
  have:=h.S k (.inr (.inr (.inl e)));rcases this with h1|h1
  ·exact h1
  ·omega),hi,h.hp,h.S,h.o⟩
theorem V9V(h:HIn w c g s)(hn:s.o=none↔s.lf=0)(a b i:Int):Calls prog 33 #[pP s.A.hp,iI a,iI b,iI i] w λe w'=>e=.returned (iI (g.loE a b i))/\HOp w c s (g.loG a b i) w':=by
 obtain⟨F0,F1⟩:=VXS h a b;have H:=h;have HN:=hn;cases hsl:(g.sl a&&g.sl b)with
 | false=>
  have HF:=(F0 hsl)
  have HE:Hid (g.loE a b i=17/\g.loG a b i=g):=⟨by
   have e:g.loE a b i=17:=by unfold Gph.loE Gph.two;rw[hsl];rfl
   exact⟨e,by unfold Gph.loG;rw[e];rfl⟩⟩
  generalize s.A.hp=ap at HF⊢;clear h hn hsl F0 F1;go_enter func33,ntmps33;go_wp2_with(go_at_call 68;refine(HF).mono ?_;rintro e w1 ⟨rfl,hg⟩;have HG:=hg;clear hg);go_ret;exact⟨AL HE.o.1.symm,by rw[HE.o.2];exact HOp.same H HN HG⟩
 | true=>
  have HF:=(F1 hsl);have hE:g.loE a b i=g.fdE b i 1:=by unfold Gph.loE Gph.two;rw[μ hsl]
  have hG:g.loG a b i=if g.fdE b i 1=0 then g.setSl a (g.fdV b i 1)else g:=by unfold Gph.loG;rw[hE]
  rw[hE,hG];rw[ζd]at hsl;have J:=Gph.at_ro hsl.2;have O:=(λ(W:World) (gg:Gr w W)=>LG (h.cut.gr gg));have Y:=(λ(W:World) (gg:Gr w W)=>XK (IR ..) (h.cut.gr gg).sp (s.F (g.at b):Nat) i (h.cut.rdP J) (h.cut.fdP J i (by decide)));obtain⟨q1,q2⟩:=h.img.ptE h.gok J i;have e1:s.u.ptE (s.F (g.at b):Nat) i=g.fdE b i 1:=by rw[q1,Gph.fdE_er hsl.2]
  have e3:(s.cut w).u=s.u:=rfl;rw[e3,e1]at Y;have L:(s.cut w).A.hp=s.A.hp:=rfl;rw[L]at O;have N:=(λ(w1 w2:World) (gr:Gr w w1) (he:((s.cut w).sp c).E s.u (s.cut w).X w1 w2)=>ZWm h hn gr he.toW h.img h.gok rfl)
  have HQ:=ι (λ(hz:g.fdE b i 1=0)=>(by
   have h0:g.erE (g.at b) i 1=0:=by rw[<-Gph.fdE_er hsl.2];exact hz
   have:=q2 h0;have e:g.fdV b i 1=(g.ob (g.at b)).w.getD i.toNat 0:=by unfold Gph.fdV;rw[μ hz]
   rw[<-e]at this
   exact this:s.u.ptV (s.F (g.at b):Nat) i=s.F (g.fdV b i 1)/\g.Ro (g.fdV b i 1)))
  have HA:=ι hsl.1;generalize s.u.ptV (s.F (g.at b):Nat) i=rv at Y HQ;generalize g.fdV b i 1=y at HQ⊢;generalize g.fdE b i 1=re at Y HQ⊢;generalize (s.F (g.at b):Nat)=ad at HF Y;generalize (s.F (g.at a):Nat)=ad2 at HF;obtain⟨ap,hp⟩:∃ap,ap=s.A.hp:=⟨_,rfl⟩;rw[<-hp]at HF O N⊢;have HP:=ι hp;obtain⟨gx,I⟩:∃gx,gx=if re=0 then g.setSl a y else g:=⟨_,rfl⟩
  rw[<-I];have Xd:=ι I;clear h hn hsl F0 F1 J e1 e3 L hp hE hG q1 q2 I;go_enter func33,ntmps33;go_upto_region 4 with(go_at_call 68;refine(HF).mono ?_;rintro e w1 ⟨gb,cp,rfl,Xa,Xe,-,Xc⟩;have U:=ι Xa;have Z:=ι Xc;have Xg:=ι Xe;clear Xa Xc Xe);obtain⟨Sx,Xf,HS⟩:=AA.start λW'=>W'.cell? ⟨gb,1,none⟩=some (iI (ad:Nat));have y0:=AA.fact Xf λ_ h=>h;have M:=HS.o (w1.drew) (Z.o);have B:Inhabited (AA Sx):=⟨⟨_,M⟩⟩;clear Xf;refine AR Sx 12 [([0,2,3,4,5],1),([],6)] [7,8,9,10,11] (by kernel_rfl) (by kernel_rfl) M ?_;refine AG ?_
  try simp only[AC,ζ,ξ]
  repeat(go_big_quiet_step (fail))
  refine ψ ?_;go_wp2_with((go_at_call 70;refine AT (O _ U.o.drew) ?_));refine⟨.inr (AA.of (HS.o _ (Z.o))),?_⟩;refine AG ?_
  try simp only[AC,ζ,ξ]
  repeat(go_big_quiet_step (fail))
  refine ψ ?_;go_wp2_with((go_at_call 74;refine(Y _ U.o.drew).mono ?_;rintro e w2 ⟨rfl,he⟩;have V:=ι he;clear he));refine⟨.inr (AA.of (HS.o _ ((V.o.1.cell (AV Z.o) (λhk=>ζS _ (υ hk.2.2 Xg.o)) 1).trans Z.o))),?_⟩;refine AS ?_
  try simp only[AC,ζ,ξ]
  repeat(go_big_quiet_step (fail))
  refine ψ ?_;refine τ ?_;clear y0 M B;clear HS Sx;by_cases hz:re=0
  ·subst hz;obtain⟨z1,z2⟩:=HQ.o rfl;have Xh:=ι z2;subst z1;clear z2;go_upto_region 8 with(go_at_call 71;refine(N _ _ U.o.drew V.o).mono ?_;rintro e w3 ⟨rfl,s',hr,hs,hF⟩;have HR:=ι (ϑ hr (ϑ hs hF));clear hr hs hF);have y9:=HR.o.1.i.rcell;rw[HR.o.1.hp,<-HP.o]at y9;have Xb:=ι (X6 HR.o.1.i HA.o Xh.o);rw[HR.o.2.2.F]at Xb;go_wp2_with(go_at_call 60;refine(Xb.o).mono ?_;rintro e w4 ⟨rfl,t4,h4⟩;have G:=ι (ϑ t4 h4);clear t4 h4);go_ret;rw[show gx=g.setSl a y from by have:=Xd.o;simpa using this];exact⟨rfl,s',HR.o.1.slot G.o.1 G.o.2,HR.o.2.1⟩
  ·have d1:(re==0)=false:=by simpa using hz
   have D:=ι hz;go_wp2_with(go_at_call 71;refine(N _ _ U.o.drew V.o).mono ?_;rintro e w3 ⟨rfl,s',hr,hs,hF⟩;have HR:=ι (ϑ hr (ϑ hs hF));clear hr hs hF);go_ret;rw[show gx=g from by have:=Xd.o;rw[κ D.o]at this;exact this];exact⟨rfl,s',HR.o.1,HR.o.2.1⟩
theorem HIn.wrP(h:HIn w c g s){a:Int}(hs:g.sl a=true)(i:Int){y:Nat}(hy:g.Ro y):g.fdE a i 1=0->Img (s.u.seV (s.F (g.at a):Nat) i 1 (s.F y)) (g.setFd a i y) s.F s.base s.top:=λhe=>by
 have Z:=Gph.at_ro hs;have Y:g.erE (g.at a) i 1=0:=by rw[<-Gph.fdE_er hs];exact he
 have:=h.img.seV h.mem.ok h.gok Z i (kd:=1) (by decide) y (λ_=>hy) (by have:=h.hi;have:=h.bt;omega) Y;exact this
theorem HIn.wrPO(h:HIn w c g s){a:Int}(hs:g.sl a=true)(i:Int){y:Nat}(hy:g.Ro y):g.fdE a i 1=0->(g.setFd a i y).Ok:=λhe=>by
 have Z:=Gph.at_ro hs;have Y:g.erE (g.at a) i 1=0:=by rw[<-Gph.fdE_er hs];exact he
 obtain⟨hr,n,rfl,h1,h2,-⟩:=h.img.inP h.gok Z (by decide) Y;obtain⟨q1,q2⟩:=h.gok.rd hr;exact h.gok.put q1 q2 (λ_=>hy.le h.gok)
theorem HIn.adr(h:HIn w c g s){y:Nat}(hy:g.Ro y):s.F y<=2147483647:=by
 rcases hy with rfl|hy
 ·rw[h.img.z];omega
 ·have h1:=h.img.lo y hy;have:=h.hi;have:=h.bt;omega
theorem QmE(h:HIn w c g s)(hn:s.o=none↔s.lf=0)(a i b:Int):Calls prog 36 #[pP s.A.hp,iI a,iI i,iI b] w λe w'=>e=.returned (iI (g.stE a i b))/\HOp w c s (g.stG a i b) w':=by
 obtain⟨F0,F1⟩:=VXS h a b;have HN:=hn;cases hsl:(g.sl a&&g.sl b)with
 | false=>
  have HF:=(F0 hsl)
  have HE:Hid (g.stE a i b=17/\g.stG a i b=g):=⟨by
   have e:g.stE a i b=17:=by unfold Gph.stE Gph.two;rw[hsl];rfl
   exact⟨e,by unfold Gph.stG;rw[e];rfl⟩⟩
  generalize s.A.hp=ap at HF⊢;clear hn hsl F0 F1;go_enter func36,ntmps36;go_wp2_with(go_at_call 68;refine(HF).mono ?_;rintro e w1 ⟨rfl,hg⟩;have HG:=hg;clear hg);go_ret;exact⟨AL HE.o.1.symm,by rw[HE.o.2];exact HOp.same h HN HG⟩
 | true=>
  have HF:=(F1 hsl);have hE:g.stE a i b=g.fdE a i 1:=by unfold Gph.stE Gph.two;rw[μ hsl]
  have hG:g.stG a i b=if g.fdE a i 1=0 then g.setFd a i (g.at b)else g:=by unfold Gph.stG;rw[hE]
  rw[hE,hG];rw[ζd]at hsl;have J:=Gph.at_ro hsl.1;have V:=Gph.at_ro hsl.2;have E:=(λ(W:World) (gg:Gr w W)=>LG (h.cut.gr gg));have Z:=(λ(W:World) (gg:Gr w W)=>Xz9 (IR ..) (VU ..) (h.cut.gr gg).sp (s.F (g.at a):Nat) i (h.cut.rdP J) (h.cut.fdP J i (by decide)) (h.adr V));have e1:s.u.gtE (s.F (g.at a):Nat) i 1=g.fdE a i 1:=by rw[h.img.gtE h.gok J i (by decide),Gph.fdE_er hsl.1]
  have e3:(s.cut w).u=s.u:=rfl;rw[e3,e1]at Z;have G:(s.cut w).A.hp=s.A.hp:=rfl;rw[G]at E
  have U:=(λ(w1 w2:World) (gr:Gr w w1) (he:((s.cut w).sp c).W (s.u.seV (s.F (g.at a):Nat) i 1 (s.F (g.at b))) (s.cut w).X w1 w2)=>(by
   by_cases hz:g.fdE a i 1=0
   ·rw[μ hz];exact LP h hn gr he (h.wrP hsl.1 i V hz) (h.wrPO hsl.1 i V hz) rfl
   ·rw[κ hz]
    have e:s.u.seV (s.F (g.at a):Nat) i 1 (s.F (g.at b))=s.u:=by
     unfold Vm.seV;rw[h.img.plE J i (by decide),<-Gph.fdE_er hsl.1,κ hz]
    rw[e]at he
    exact LP h hn gr he h.img h.gok rfl:Calls prog 71 #[pP s.A.hp] w2 λe w3=>e=.returned (.tuple #[])/\HOp w c s (if g.fdE a i 1=0 then g.setFd a i (g.at b)else g) w3))
  generalize (if g.fdE a i 1=0 then g.setFd a i (g.at b)else g)=gx at U⊢;generalize g.fdE a i 1=re at Z⊢;generalize s.u.seV (s.F (g.at a):Nat) i 1 (s.F (g.at b))=un at Z U;generalize (s.F (g.at a):Nat)=ad at HF Z;generalize (s.F (g.at b):Nat)=Xc at HF Z;obtain⟨ap,hp⟩:∃ap,ap=s.A.hp:=⟨_,rfl⟩;rw[<-hp]at HF E U⊢;clear hn hsl F0 F1 J V e1 e3 G hp hE hG;go_enter func36,ntmps36;go_upto_region 4 with(go_at_call 68;refine(HF).mono ?_;rintro e w1 ⟨gb,cp,rfl,N,Xa,B,D⟩;have Y:=(ϑ B D);have L:=Xa;clear B D Xa);obtain⟨Sx,I,HS⟩:=AA.start λW'=>(W'.cell? ⟨gb,0,none⟩=some (iI (ad:Nat))/\W'.cell? ⟨gb,1,none⟩=some (iI (Xc:Nat)))
  have y0:=AA.fact I λ_ h=>h.1;have y1:=AA.fact I λ_ h=>h.2;have M:=HS.o (w1.drew) (Y);have Xb:Inhabited (AA Sx):=⟨⟨_,M⟩⟩;clear I;refine AR Sx 11 [([0,2,3,4,5,6,7,8],1),([],9)] [10] (by kernel_rfl) (by kernel_rfl) M ?_;refine AG ?_
  try simp only[AC,ζ,ξ]
  repeat(go_big_quiet_step (fail))
  refine ψ ?_;go_wp2_with((go_at_call 70;refine AT (E _ N.drew) ?_));refine⟨.inr (AA.of (HS.o _ (Y))),?_⟩;refine AG ?_
  try simp only[AC,ζ,ξ]
  repeat(go_big_quiet_step (fail))
  refine ψ ?_;go_wp2_with((go_at_call 76;refine(Z _ N.drew).mono ?_;rintro e w2 ⟨rfl,he⟩;have O:=he;clear he));refine⟨.inr (AA.of (HS.o _ (⟨(O.1.cell (AV Y.1) (λhk=>ζS _ (υ hk.2 L)) 0).trans Y.1,(O.1.cell (AV Y.1) (λhk=>ζS _ (υ hk.2 L)) 1).trans Y.2⟩))),?_⟩;refine AS ?_
  try simp only[AC,ζ,ξ]
  repeat(go_big_quiet_step (fail))
  refine ψ ?_;refine τ ?_;clear y0 y1 M Xb;clear HS Sx;go_wp2_with(go_at_call 71;refine(U _ _ N.drew O).mono ?_;rintro e w3 ⟨rfl,ho⟩;have Xd:=ho;clear ho);go_ret;exact⟨rfl,Xd⟩
end
section
variable {w w':World} {c:HCf} {g g':Gph} {s:HSt}
theorem HOp.of(hn:s.o=none↔s.lf=0)(t:AB (λk=>k=s.A.g) w w')(hi:HIn w' c g' s):HOp w c s g' w':=
 ⟨s,⟨t.mono (λ_ _ e=>.inr (.inr (.inl e))),hi,rfl,λ_ h=>.inl h,hn⟩,DP.same s⟩
theorem HIn.rcpy(h:HIn w c g s)(a b:Int):Calls prog 75 #[pP s.A.r,iI a,iI b] w λe w'=>e=.returned (iI (g.two a b 0))/\AB (λk=>k=s.A.g) w w'/\HIn w' c (g.cpG a b) s:=by
 refine(Jv2 h.com.rt a b).mono ?_;rintro e w' ⟨rfl,t,hr⟩;have Y:EU w' s.X s.A c s.base s.top s.u s.o s.lf s.nb:=h.mem.touch t (λk hk e=>⟨λhx=>h.com.x.2.2.1 (by simp_all),λe2=>h.com.n3.2.1 Ω⟩) (λ_ h=>h);rw[LE,LE];unfold OS at hr;rw[LE,LE]at hr;unfold Gph.two Gph.cpG;cases ha:g.sl a with
 | false=>
  rw[ha]at hr;exact⟨by simp,t,h.com.root t (by simp_all),Y,h.img,h.gok,h.cok,h.bt,h.bs,h.sl⟩
 | true=>
  cases hb:g.sl b with
  | false=>
   rw[ha,hb]at hr;exact⟨by simp,t,h.com.root t (by simp_all),Y,by simpa using h.img,by simpa using h.gok,h.cok,h.bt,h.bs,by simpa using h.sl⟩
  | true=>
   obtain⟨n,rfl,h1,h2⟩:=MJ ha;obtain⟨m,rfl,h3,h4⟩:=MJ hb;rw[ha,hb]at hr;simp only[if_true,and_self,η,Bool.and_self]at hr⊢;have hy:=Gph.at_ro hb
   have Z:s.rs (g.setSl n (g.at m))=(s.rs g).set n ((s.rs g).getD m 0):=by
    rw[δ,ζb (by rw[s.len];exact h3),s.get g h3,<-h4];unfold HSt.rs Gph.setSl
    simp_all
   refine⟨trivial,t,?_,Y,h.img.slot hy,h.gok.slot (hy.le h.gok),h.cok,h.bt,h.bs,?_⟩
   ·rw[Z];exact h.com.root t hr
   ·show (g.S.set _ _).length=c.sl
    rw[ν];exact h.sl
theorem Xxc(h:HIn w c g s)(hn:s.o=none↔s.lf=0)(a b:Int):Calls prog 35 #[pP s.A.hp,iI a,iI b] w λe w'=>e=.returned (iI (g.two a b 0))/\HOp w c s (g.cpG a b) w':=by
 have HN:=(FK h);have HC:=(h.rcpy a b);have c9:=h.rcell;generalize s.A.hp=ap at HN c9⊢;go_enter func35,ntmps35;go_upto_region 3 with(go_at_call 50;refine AT (HN) ?_);go_wp2_with(go_at_call 75;refine(HC).mono ?_;rintro e w1 ⟨rfl,ht,hi⟩;have HT:=(ϑ ht hi));go_ret;exact⟨rfl,HOp.of hn HT.1 HT.2⟩
theorem HIn.rclr(h:HIn w c g s)(a:Int):Calls prog 60 #[pP s.A.r,iI a,iI 0] w λe w'=>e=.returned (iI (g.slE a))/\AB (λk=>k=s.A.g) w w'/\HIn w' c (g.clG a) s:=by
 unfold Gph.slE Gph.clG;cases ha:g.sl a with
 | false=>
  refine(QST h.com.rt (i:=a) (by rw[LE,ha];decide) 0).mono ?_;rintro e w' ⟨rfl,gr⟩;exact⟨rfl,gr.touch _,by grind [gr]⟩
 | true=>
  have:=X6 h ha (y:=0) (.inl rfl);rw[h.img.z]at this
  assumption
theorem JfK(h:HIn w c g s)(hn:s.o=none↔s.lf=0)(a:Int):Calls prog 28 #[pP s.A.hp,iI a] w λe w'=>e=.returned (iI (g.slE a))/\HOp w c s (g.clG a) w':=by
 have HN:=(FK h);have HC:=(h.rclr a);have c9:=h.rcell;generalize s.A.hp=ap at HN c9⊢;go_enter func28,ntmps28;go_upto_region 3 with(go_at_call 50;refine AT (HN) ?_);go_wp2_with(go_at_call 60;refine(HC).mono ?_;rintro e w1 ⟨rfl,ht,hi⟩;have HT:=(ϑ ht hi));go_ret;exact⟨rfl,HOp.of hn HT.1 HT.2⟩
end
section
variable {w w':World} {c:HCf} {g g':Gph} {s:HSt}
theorem BE.trans{g1 g2:Gph}{s1 s2:HSt}{w1 w2:World}(h:BE w c s g1 s1 w1)(k:BE w1 c s1 g2 s2 w2):BE w c s g2 s2 w2:=
 ⟨h.t.trans' k.t (λb hb e=>(h.S b e).elim id (λh2=>by omega)),k.i,k.hp.trans h.hp,λb hb=>by
  rcases k.S b hb with h1|h1
  ·exact h.S b h1
  ·exact .inr (ζa h.t.size h1),k.o⟩
theorem BE.gr{s':HSt}(h:BE w c s g' s' w'){w2:World}(gr:Gr w' w2):BE w c s g' s' w2:=⟨h.t.trans (gr.touch _),h.i.gr gr,h.hp,h.S,h.o⟩
theorem BE.refl(h:HIn w c g s)(hn:s.o=none↔s.lf=0):BE w c s g s w:=⟨AB.refl _ _,h,rfl,λ_ h=>.inl h,hn⟩
theorem DP.trans{s1 s2:HSt}(h:DP s s1)(k:DP s1 s2):DP s s2:=by
 have h1:=h.lf;have h2:=k.lf;refine⟨ζa h2 h1,?_⟩;rw[k.cyc,h.cyc]
 grind
theorem G2.stp{X:Nat->Prop}{A:HAd}{base top:Nat}{u:Vm}{y:Nat}{z:B8}{sl:Sl}{v v':Vm}{R Sv:Nat->Prop}(h:G2 w X A c base top u y z sl v R Sv)(hf:JH w w' R Sv y A.q z (HpB c.fr top u) sl.step v'):G2 w' (plus X w) A c base top u y z sl.step v' R (plus Sv w):=by
 have hl:=h.cy.od.lt;have J:=h.tab.lt;have Z:=hf.ok;refine⟨hf.cy,hf.vm,⟨?_,?_,?_⟩,hf.ok,hf.j.1,λk hk=>?_,λk hk Y=>?_,hf.t.tab J (λhk=>hk.elim h.t1 h.t2) h.tab,h.t1,λhk=>hk.elim h.t2 (λhk=>by omega),h.bs,h.lm,h.bk,h.ah,h.kd⟩
 ·rw[Z.mid.n,<-h.hv.n,h.ok.mid.n];rfl
 ·rw[Z.mid.pg,<-h.hv.pg,h.ok.mid.pg];rfl
 ·exact hf.j.2
 ·rcases hk with hk|hk|hk
  ·exact .inl (h.x k (.inl hk))
  ·exact .inl (h.x k (.inr hk))
  ·exact .inr hk
 ·rcases Y with Y|Y
  ·exact h.d k hk Y
  grind
def YF5(w:World)(c:HCf)(g:Gph)(s:HSt)(w':World):Prop:=∃s',BE w c s g s' w'/\DP s s'/\HKp s s'/\s'.lf+1=s.lf
theorem HIn.stp(h:HIn w c g s)(hn:s.o=none↔s.lf=0)(hl:s.lf≠0):∃y,s.o=some y/\Calls prog 91 #[pP y] w λe w1=>e=.returned (.tuple #[.bool true,iI 0]) ∧
  Calls prog 71 #[pP s.A.hp] w1 λe w'=>e=.returned (.tuple #[])/\YF5 w c g s w':=by
 have hm:=h.mem;cases ho:s.o with
 | none=>simp_all
 | some y=>
  rw[ho]at hm;obtain⟨z,sl,v,R,Sv,Y,e1,e2⟩:=hm;refine⟨y,rfl,(XP (T8 c.fr s.top s.u) Y.cy Y.ok ⟨Y.a,Y.hv.rm⟩ Y.tab Y.t2 Y.t1 Y.vm Y.d).mono ?_⟩;rintro e w1 ⟨v',rfl,hf⟩
  have Z:sl.ft<sl.mv.length:=by
   refine Decidable.byContradiction λhh=>hl ?_;rw[<-e1];exact sl.lf_zero.2 hh
  have J:=Sl.lf_step Z;rw[θ Z];refine⟨rfl,?_⟩;have t1:AB s.X w w1:=hf.t.mono (λk _ hk=>Y.x k hk)
  have hI:HIn w1 c g {s with X:=plus s.X w,lf:=sl.step.lf}:=by
   refine⟨h.com.mem t1,?_,h.img,h.gok,h.cok,h.bt,h.bs,h.sl⟩;rw[ho];exact⟨z,sl.step,v',R,plus Sv w,Y.stp hf,rfl,by show (CZ sl.mv).length=s.nb;rw[QZ];exact e2⟩
  refine(UK hI).mono ?_;rintro e w2 ⟨rfl,s',h1⟩;refine⟨rfl,s',⟨?_,h1.i,by rw[h1.A],λk hk=>?_,h1.o⟩,⟨?_,?_⟩,⟨h1.K.F,h1.K.base,h1.K.top⟩,?_⟩
  ·exact(t1.mono (λk _ hk=>.inl hk)).trans' h1.t (λk _ hk=>.inr (.inl hk))
  ·rcases hk with hk|hk|hk|hk|hk
   ·rcases h1.X k hk with h2|h2
    ·exact .inl (.inl h2)
    ·exact .inr h2
   ·rw[h1.A]at hk;exact .inl (.inr (.inl hk))
   ·rw[h1.A]at hk;exact .inl (.inr (.inr (.inl hk)))
   ·rw[h1.A]at hk;exact .inl (.inr (.inr (.inr (.inl hk))))
   ·rw[h1.A]at hk;exact .inl (.inr (.inr (.inr (.inr hk))))
  ·rw[h1.lf,<-e1];grind
  ·rw[h1.cyc,h1.lf]
   simp_all
  ·rw[h1.lf,<-e1];exact J
theorem V7(h:HIn w c g s)(hn:s.o=none↔s.lf=0)(hl:s.lf≠0):Calls prog 47 #[pP s.A.hp] w λe w'=>e=.returned (.bool true)/\YF5 w c g s w':=by
 have HN:=(FK h);obtain⟨y,hy,hs⟩:=h.stp hn hl;have c11:=h.cc 11;go_enter func47,ntmps47;go_upto_region 3 with(go_at_call 50;refine AT (HN) ?_);go_upto_region 4 with(go_at_call 91;refine(hs).mono ?_;rintro e w1 ⟨rfl,he⟩;have HE:=he);go_wp2_with(go_at_call 71;refine(HE).mono ?_;rintro e w2 ⟨rfl,h2⟩;have HH:=h2);go_ret
 simp_all
theorem ZK(h:HIn w c g s)(hn:s.o=none↔s.lf=0)(hl:s.lf=0):cQ 47 #[pP s.A.hp] w (.bool false):=by
 have HN:=(FK h);have Y:=h.cc 11;rw[hn.2 hl]at Y;go_enter func47,ntmps47;go_wp2_with(go_at_call 50;refine AT (HN) ?_);go_ret
 simp_all
def QX(w:World)(ap:Nat):Nat:=match w.cell? ⟨ap,11,none⟩with
 | some (.pointer (some a))=>LF w a.block 11
 | _=>0
theorem HIn.left(h:HIn w c g s):QX w s.A.hp=s.lf:=by
 have Y:=h.cc 11;have hm:=h.mem;unfold QX;cases ho:s.o with
 | none=>
  rw[ho]at Y hm;rw[Y];exact hm.2.2.2.symm
 | some y=>
  rw[ho]at Y hm;obtain⟨z,sl,v,R,Sv,Z,e1,e2⟩:=hm;have c:=Z.cy.rc.cc 11;rw[Y]
  show LF w y 11=s.lf
  unfold LF;rw[c,<-e1];rfl
theorem XO(h:HIn w c g s)(hn:s.o=none↔s.lf=0):Calls prog 83 #[pP s.A.hp] w λe w'=>e=.returned (.tuple #[])/\∃s',BE w c s g s' w'/\DP s s'/\HKp s s'/\s'.lf=0:=by
 have H0:Hid (BE w c s g s w/\DP s s/\HKp s s):=⟨BE.refl h hn,DP.same s,HKp.refl s⟩;obtain⟨ap,hp⟩:∃ap,ap=s.A.hp:=⟨_,rfl⟩;have HP:=ι hp;rw[<-hp];clear h hn hp;go_enter func83,ntmps83;go_wp2
 go_loopw [] (λwr=>∃s',Hid (BE w c s g s' wr/\DP s s'/\HKp s s')) (λwr=>QX wr ap)
 case atStart=>exact⟨s,H0⟩
 case round=>
  obtain⟨s',HR⟩:=hrel;have Z:ap=s'.A.hp:=HP.o.trans HR.o.1.hp.symm;by_cases hl:s'.lf=0
  ·have HZ:=(ZK HR.o.1.i HR.o.1.o hl);rw[<-Z]at HZ;clear Z;go_wp2_with(go_at_call 47;refine AT (HZ) ?_);refine ζw (ζl rfl _ _ _) rfl ?_;exact⟨rfl,s',HR.o.1,HR.o.2.1,HR.o.2.2,hl⟩
  ·have HZ:=(V7 HR.o.1.i HR.o.1.o hl);have hl:=(HR.o.1.i.left);rw[<-Z]at HZ hl;have J:=ι Z;clear Z;go_wp2_with(go_at_call 47;refine(HZ).mono ?_;rintro e w1 ⟨rfl,s2,h1,h2,h3,h4⟩;have Y:=(ϑ h1 (ϑ h2 (ϑ h3 h4)));clear h1 h2 h3 h4);go_round
   case rel=>exact⟨s2,⟨HR.o.1.trans Y.1,HR.o.2.1.trans Y.2.1,HR.o.2.2.trans Y.2.2.1⟩⟩
   case measure=>
    have e1:=Y.1.i.left;rw[Y.1.hp,<-J.o]at e1;have:=hl;have:=Y.2.2.2;omega
end
section
attribute [local go_sem] Oper.semAt_some
structure VNZ(w wx:World)(S:Nat->Prop)(q m p1 b1 p2 b2:Nat)(v:Vm)(rs:List Int)(c:Cf)(why:Int):Prop where
 t:AB S w wx
 vm:AD wx (AE S w) q v
 rs:(why=0/\∃L,Ext wx m p1 b1 p2 b2 v.n L/\BH v rs v.n L)\/(why=25/\¬CE v rs v.n)
 bx:Rec wx w.heap.size 156 [iI c.fr,iI c.tp,iI c.to,iI c.lm,iI c.bk,iI c.st,iI c.ah]
 r6:Rec wx (w.heap.size+1) 103 [.pointer none]
 r7:Rec wx (w.heap.size+2) 27 [iI 0]
 lm:w.heap.size+3<=m
 l1:w.heap.size+3<=p1
 l2:w.heap.size+3<=b1
 l3:w.heap.size+3<=p2
 l4:w.heap.size+3<=b2
section
variable {w:World} {S:Nat->Prop} {q r g:Nat} {v:Vm} {rs:List Int} {c:Cf}
theorem YeD(hV:AD w S q v)(hn1:1<=v.n)(hR:AU w r g rs)(hT:AP w)(htS:¬S 1)(hst:1<=c.st/\c.st<=4096):
  Calls prog 154 #[pP q,pP r,cfV c] w (Zt3 w S q v rs c.fr c.tp):=by
 have HV:=hV.cut;have HR:=hR;have HT:=hT;have Zp:=htS;have Jq:=hT.lt;have hn2:=hV.ok.n2;have Jn:rs.length≠0:=λe=>hR.ne (ζz e);have Jm:=hR.le;have HX:=(λW=>N8 v.n hn1 Ω W);have Jo:=hst;obtain⟨n,Xz⟩:∃n,n=rs.length:=⟨_,rfl⟩;have HN:=ι Xz;rw[<-Xz]at Jn Jm;have g1:Gr w (((w.alloc (.cells #[.int .i64 c.fr,.int .i64 c.tp,.int .i64 c.to,.int .i64 c.lm,.int .i64 c.bk,.int .i64 c.st,.int .i64 c.ah] 156)).alloc (.cells #[.pointer none] 103)).alloc (.cells #[.int .i64 0] 27)):=(((Gr.refl w).alloc _).alloc _).alloc _;have Zs:=ι g1;clear hV hR hT htS hst Xz g1;refine(β (n:=5)).1 ?_;refine callsIn_of_wp_marks func154 rfl trivial ?_ rfl;simp only[ntmps154,ζV,ζH,ζ7,Nat.reduceAdd,Nat.reduceSub,ζL,ζK,ζZ,ζQ,ζN,ζu];unfold cfV;gi_upto_region 1 with(fail);obtain⟨W0,Xj⟩:∃W0,W0=(((w.alloc (.cells #[.int .i64 c.fr,.int .i64 c.tp,.int .i64 c.to,.int .i64 c.lm,.int .i64 c.bk,.int .i64 c.st,.int .i64 c.ah] 156)).alloc (.cells #[.pointer none] 103)).alloc (.cells #[.int .i64 0] 27)):=⟨_,rfl⟩;have Jg:W0.heap.size=w.heap.size+3:=by rw[Xj];simp only[γ]
 have Zv:Gr w W0:=by rw[Xj];exact Zs.o
 have rb:Rec W0 w.heap.size 156 [iI c.fr,iI c.tp,iI c.to,iI c.lm,iI c.bk,iI c.st,iI c.ah]:=by rw[Xj];exact(Rec.new w _ [iI c.fr,iI c.tp,iI c.to,iI c.lm,iI c.bk,iI c.st,iI c.ah]).gr (((Gr.refl _).alloc _).alloc _)
 have r6:Rec W0 (w.heap.size+1) 103 [.pointer none]:=by rw[Xj];exact(KW w _ 103 [.pointer none]).gr ((Gr.refl _).alloc _)
 have r7:Rec W0 (w.heap.size+2) 27 [iI 0]:=by
  rw[Xj];have:=KW (w.alloc (.cells #[.int .i64 c.fr,.int .i64 c.tp,.int .i64 c.to,.int .i64 c.lm,.int .i64 c.bk,.int .i64 c.st,.int .i64 c.ah] 156)) (.cells #[.pointer none] 103) 27 [iI 0];rw[γ]at this;exact this
 rw[<-Xj];clear Xj Zs;have Jc:=ι Zv;have Jd:=ι rb;have Zi:=ι r6;have Zg:=ι r7;have Jz:=ι (λ(W:World) (g:Gr w W)=>I3 (HV.gr g));clear rb r6 r7 Zv
 gi_upto_region 2 with(first
  | (refine⟨trivial,?_⟩;gi_at_call 52;refine(β.2 (Jz.o _ Jc.o)).mono ?_;rintro e w2 ⟨rfl,rfl⟩)
  | (refine⟨trivial,?_⟩;gi_at_call 51;refine(β.2 (HX _)).mono ?_;rintro e w3 ⟨m,p1,b1,p2,b2,rfl,Zf,Jf,Xl,Xu,Xk,Xp,Xh⟩;have Yd:=ι Zf;have E:=ι (Jc.o.trans Zf);have Xq:=ι Jf;have HB:=ι (ϑ Xl (ϑ Xu (ϑ Xk (ϑ Xp Xh))));clear Zf Jf Xl Xu Xk Xp Xh))
 gi_cut [10,11]from 14 (λs10 s11 wx=>∃(Xm:Nat) (Y:Int),s10=pP Xm/\s11=iI Y/\Hid (VNZ w wx S q m p1 b1 p2 b2 v rs c Y))
 case first=>
  have Jt:=HB.o;obtain⟨Xl,Xu,Xk,Xp,Xh⟩:=Jt;rw[Jg]at Xl Xu Xk Xp Xh;have Zh:=Xq.o.hm;have Za:=Xq.o.v1.hp;have Yn:=Xq.o.v1.hb;have Zb:=Xq.o.v2.hp;have Ye:=Xq.o.v2.hb
  have Xn:∀i,AM m b1 b2 i->w.heap.size+3<=i/\i<w3.heap.size:=λi hi=>by
   rcases hi with rfl|rfl|rfl
   ·exact⟨Xl,Zh⟩
   ·exact⟨Xk,Yn⟩
   ·exact⟨Xh,Ye⟩
  have Zj:=ι Xn;have Xv:=ι (λ(W:World) (g:Gr w3 W)=>R7 (HR.gr ((E.o).trans g)));rw[<-HN.o]at Xv
  have Yj:Hid (∀(W:World) (g1 cp:Nat),Gr w3 W->w3.heap.size<=g1->W.ownsRow 0 3 1 (.slice (some ⟨g1,0,none⟩) n cp) n (zs rs)->Calls prog 53 #[.iface 87 (pP q),.slice (some ⟨g1,0,none⟩) n cp,pP m,iI c.st] W λe w'=>
    ∃(a1 a2 a3 a4 Y:Int),e=.returned (.tuple #[.agg #[iI a1,iI a2,iI a3,iI a4],iI Y])/\AB (λi=>AM m b1 b2 i\/AE S w i) W w'/\AD w' (AE S w) q v/\((Y=0/\∃L,Ext w' m p1 b1 p2 b2 v.n L/\BH v rs v.n L)\/(Y=25/\¬CE v rs v.n))):=⟨λW g1 cp hg V ho=>by
   rw[HN.o]at ho⊢;have Yw:=E.o.trans hg;refine(VO (HV.gr Yw) (Xq.o.gr hg) (Yw.tab HT.lt HT) (λi hi=>?_) (by unfold maxLen;have:=HN.o;omega) (λi hi h=>by have:=(Xn i h).1;have:=hi.2;omega) (λh=>by have:=h.2;omega) (λh=>by have:=h.2;omega) (λh=>Zp h.1) (λh=>by have:=(Xn _ h).1;omega) (c.st:Int)).mono ?_
   ·exact⟨g1,0,rfl,(A9 ho rfl).2,λh=>by have:=(Xn _ h).2;omega,by rw[ξs];exact BM ho (LS hi)⟩
   ·rintro e w' (⟨h,-⟩|⟨-,-,ht,hv,(⟨L,r',vi,rfl,he,hm,-⟩|⟨rfl,-,hs⟩)⟩)
    ·have:=Jo;omega
    ·exact⟨_,_,r',vi,0,rfl,ht,hv,.inl ⟨rfl,L,he,hm⟩⟩
    ·exact⟨0,0,0,0,25,rfl,ht,hv,.inr ⟨rfl,hs⟩⟩⟩
  have Xc:Hid (∀(W1 W2 W3:World) (Xm:Nat) (Y:Int),Gr w3 W1->AB (λi=>AM m b1 b2 i\/AE S w i) W1 W2->AD W2 (AE S w) q v->((Y=0/\∃L,Ext W2 m p1 b1 p2 b2 v.n L/\BH v rs v.n L)\/(Y=25/\¬CE v rs v.n))->AB (λi=>i=Xm) W2 W3->w3.heap.size<=Xm →
    VNZ w W3 S q m p1 b1 p2 b2 v rs c Y):=⟨λW1 W2 W3 Xm Y hg ht hv hres I hb=>by
   have Ji:=E.o.size;have hz13:=Yd.o.size;have Yw:=E.o.trans hg
   have Xf:∀i,i<w.heap.size+3->w.heap.size<=i->¬(AM m b1 b2 i\/AE S w i):=λi h1 h2 h=>by
    rcases h with h|h
    ·have:=(Xn i h).1;omega
    ·have:=h.2;omega
   refine⟨((Yw.touch _).trans (ht.mono (T:=λi=>AM m b1 b2 i\/S i) (λi _ h=>h.imp id (λh=>h.1)))).trans' (T:=λi=>i=Xm) I (λi hi h=>by omega) |>.mono (λi hi h=>h.elim (λh=>by have:=(Xn i h).1;omega) id),hv.touch I (λi hi _ h=>by have:=hi.2;omega),?_,?_,?_,?_,Xl,Xu,Xk,Xp,Xh⟩
   ·rcases hres with⟨h,L,he,hm⟩|h
    ·exact .inl ⟨h,L,he.touch I Ω Ω Ω Ω Ω,hm⟩
    ·exact .inr h
   ·exact((Jd.o.gr (Yd.o.trans hg)).touch ht (Xf _ Ω Ω)).touch I Ω
   ·exact((Zi.o.gr (Yd.o.trans hg)).touch ht (Xf _ Ω Ω)).touch I Ω
   ·exact((Zg.o.gr (Yd.o.trans hg)).touch ht (Xf _ Ω Ω)).touch I Ω⟩
  have Zd:=Jd.o.gr Yd.o;have x5:=Zd.cc 5;have Zn:=Zd.lt;have KS:Hid (∀W',Gr w3 W'->W'.cell? ⟨w.heap.size,5,none⟩=some (iI c.st)):=⟨λW' h=>(h.cell Zn 5).trans x5⟩
  have KT:Hid (∀W1 W',Gr w3 W1->AB (λi=>AM m b1 b2 i\/AE S w i) W1 W'->W'.cell? ⟨w.heap.size,5,none⟩=some (iI c.st)):=⟨λW1 W' h t=>(t.cell (υ Zn h.size) (λh=>by
   rcases h with h|h
   ·have:=(Zj.o _ h).1;omega
   ·have:=h.2;omega) 5).trans ((h.cell Zn 5).trans x5)⟩
  obtain⟨Sx,Yq⟩:∃Sx:World->Prop,Sx=λW'=>W'.cell? ⟨w.heap.size,5,none⟩=some (iI c.st):=⟨_,rfl⟩;have y1:∀p':AA Sx,p'.w.cell? ⟨w.heap.size,5,none⟩=some (iI c.st):=λp=>AA.get Yq p;have Zo:Sx w3.drew:=by rw[Yq];exact x5
  have N:=ι Yq;have inst:Inhabited (AA Sx):=⟨⟨_,Zo⟩⟩;clear Yq x5 Zd Xn Xl Xu Xk Xp Xh Zh Za Yn Zb Ye;refine YI Sx (.two [0,1,2,4,5,6] 3 (.two [] 7 (.one [8,9,10] 11 (.one [] 12 (.fin [13]))) 11 (.one [] 7 (.one [8,9,10] 12 (.fin [13])))) 11 (.one [] 3 (.one [] 7 (.one [8,9,10] 12 (.fin [13]))))) GM (by kernel_rfl) (by kernel_rfl) Zo ?_;refine P6 ?_;simp only[AC,ζ,ξ]
  repeat(go_big_quiet_step (fail))
  refine ψ ⟨?_,?_⟩
  ·gi_wp2_with(refine⟨trivial,?_⟩;gi_at_call 54;refine(β.2 (Xv.o _ (Gr.refl w3).drew)).mono ?_;rintro e w4 ⟨g1,c1,rfl,Xs,Yh,Xx⟩;have Z:=ι ((Gr.refl w3).drew.trans Xs);have Yv:=ι Xx;have Yz:=ι Yh;clear Xs Xx Yh);refine⟨AA.of (by rw[N.o];exact KS.o _ Z.o),?_⟩;refine P6 ?_;simp only[AC,ζ,ξ];refine ψ ⟨?_,?_⟩
   ·gi_wp2_with(refine⟨trivial,?_⟩;gi_at_call 53;refine(β.2 (Yj.o _ g1 c1 Z.o Yz.o Yv.o)).mono ?_;rintro e w5 ⟨a1,a2,a3,a4,Y,rfl,O,Xa,Xe⟩;have J:=ι O;have Ya:=ι Xa;have Yg:=ι Xe;clear O Xa Xe);refine⟨AA.of (by rw[N.o];exact KT.o _ _ Z.o J.o),?_⟩;refine FI ?_;simp only[AC,ζ,ξ]
    repeat(go_big_quiet_step (fail))
    refine ψ ?_;have u5:=KT.o _ _ Z.o J.o;have Zx:=AV u5;gi_wp2;refine⟨AA.of (by rw[N.o];exact(((Gr.refl w5).alloc _).cell Zx 5).trans u5),?_⟩;refine FI ?_;simp only[AC,ζ,ξ];refine ψ ?_;gi_wp2;refine⟨AA.of (by rw[N.o];exact(((Gr.refl w5).alloc _).cell Zx 5).trans u5),?_⟩;refine MO ?_;simp only[AC,ζ,ξ]
    repeat(go_big_quiet_step (fail))
    refine ψ ?_;refine τ ?_;gi_wp2
    gi_meet
    exact⟨_,Y,rfl,rfl,⟨Xc.o _ _ _ _ Y Z.o J.o Ya.o Yg.o (((Gr.refl w5).alloc _).touch _) (ζa Z.o.size J.o.size)⟩⟩
   ·have x4:=KS.o _ Z.o;have Zy:=AV x4;gi_wp2;refine⟨AA.of (by rw[N.o];exact(((Gr.refl w4).alloc _).cell Zy 5).trans x4),?_⟩;refine FI ?_;simp only[AC,ζ,ξ];refine ψ ?_;have G:=ι (Rec.new w4 107 [iI 0,iI 0,iI 0,iI 0]);have M:=ι (Z.o.alloc (.cells #[.int .i64 0,.int .i64 0,.int .i64 0,.int .i64 0] 107))
    have Xy:Hid (¬(AM m b1 b2 w4.heap.size\/AE S w w4.heap.size)):=⟨λh=>by
     have:=Z.o.size;rcases h with h|h
     ·have:=(Zj.o _ h).2;omega
     ·have:=h.2;have:=(E.o).size;omega⟩
    have Yf:Hid (¬w.heap.size=w4.heap.size):=⟨by have:=Z.o.size;omega⟩;have Jb:=ι (CK Yv.o ((Gr.refl w4).alloc (.cells #[.int .i64 0,.int .i64 0,.int .i64 0,.int .i64 0] 107)));have Yc:Hid (w3.heap.size<=w4.heap.size):=⟨Z.o.size⟩;obtain⟨bA,Xg⟩:∃bA,bA=w4.heap.size:=⟨_,rfl⟩;obtain⟨WA,Xi⟩:∃WA,WA=w4.alloc (.cells #[.int .i64 0,.int .i64 0,.int .i64 0,.int .i64 0] 107):=⟨_,rfl⟩;rw[show w4.alloc (.cells ([.int .i64 0,.int .i64 0,.int .i64 0,.int .i64 0]:List Value).toArray 107)=WA from Xi.symm]at G;rw[<-Xi]at M Jb⊢;rw[<-Xg]at G Xy Yf Yc⊢;clear Xg Xi x4 Zy;gi_wp2_with(refine⟨trivial,?_⟩;gi_at_call 53;refine(β.2 (Yj.o _ g1 c1 M.o Yz.o Jb.o)).mono ?_;rintro e w5 ⟨a1,a2,a3,a4,Y,rfl,O,Xa,Xe⟩;have J:=ι O;have Ya:=ι Xa;have Yg:=ι Xe;have U:=ι (G.o.touch O (Xy.o));have q0:=U.o.cc 0;have q1:=U.o.cc 1;have q2:=U.o.cc 2;have q3:=U.o.cc 3;have qf:=U.o.free;have ql:=U.o.lt;clear O Xa Xe);refine⟨AA.of (by rw[N.o];exact KT.o _ _ M.o J.o),?_⟩;refine FI ?_;simp only[AC,ζ,ξ]
    repeat(go_big_quiet_step (fail))
    refine ψ ?_;gi_wp2;have t5:=MP w5 bA (iI a1) (iI a2) (iI a3) (iI a4);have KF:=(t5.cell (AV (KT.o _ _ M.o J.o)) Yf.o 5).trans (KT.o _ _ M.o J.o);refine⟨AA.of (by rw[N.o];exact KF),?_⟩;refine MO ?_;simp only[AC,ζ,ξ]
    repeat(go_big_quiet_step (fail))
    refine ψ ?_;refine τ ?_;gi_wp2
    gi_meet
    exact⟨_,Y,rfl,rfl,⟨Xc.o _ _ _ _ Y M.o J.o Ya.o Yg.o t5 Yc.o⟩⟩
  ·gi_wp2;have x3:=KS.o _ (Gr.refl w3);have Jr:=AV x3;refine⟨AA.of (by rw[N.o];exact KS.o _ ((Gr.refl w3).alloc _).drew),?_⟩;refine FI ?_;simp only[AC,ζ,ξ];refine ψ ?_;have G:=ι ((Rec.new w3 107 [iI 0,iI 0,iI 0,iI 0]).gr (Gr.refl _).drew);have M:=ι ((Gr.refl w3).alloc (.cells #[.int .i64 0,.int .i64 0,.int .i64 0,.int .i64 0] 107)).drew
   have Xy:Hid (¬(AM m b1 b2 w3.heap.size\/AE S w w3.heap.size)):=⟨λh=>by
    rcases h with h|h
    ·have:=(Zj.o _ h).2;omega
    ·have:=h.2;have:=(E.o).size;omega⟩
   have Yf:Hid (¬w.heap.size=w3.heap.size):=⟨by omega⟩;have Yc:Hid (w3.heap.size<=w3.heap.size):=⟨π _⟩;obtain⟨WA,Xi⟩:∃WA,WA=(w3.alloc (.cells #[.int .i64 0,.int .i64 0,.int .i64 0,.int .i64 0] 107)).drew:=⟨_,rfl⟩;rw[show (w3.alloc (.cells ([.int .i64 0,.int .i64 0,.int .i64 0,.int .i64 0]:List Value).toArray 107)).drew=WA from Xi.symm]at G;rw[<-Xi]at M⊢;clear Xi;obtain⟨bA,Xg⟩:∃bA,bA=w3.heap.size:=⟨_,rfl⟩;rw[<-Xg]at G Xy Yf;rw[show w3.heap.size<=w3.heap.size↔w3.heap.size<=bA by rw[Xg]]at Yc;rw[show w3.heap.size=bA from Xg.symm];clear Xg x3 Jr;gi_wp2_with(refine⟨trivial,?_⟩;gi_at_call 54;refine(β.2 (Xv.o _ M.o)).mono ?_;rintro e w4 ⟨g1,c1,rfl,Xs,Yh,Xx⟩;have Z:=ι (M.o.trans Xs);have Ja:=ι (G.o.gr Xs);have Yv:=ι Xx;have Yz:=ι (ζa M.o.size Yh);clear Xs Xx Yh);refine⟨AA.of (by rw[N.o];exact KS.o _ Z.o),?_⟩;refine FI ?_;simp only[AC,ζ,ξ];refine ψ ?_;gi_wp2_with(refine⟨trivial,?_⟩;gi_at_call 53;refine(β.2 (Yj.o _ g1 c1 Z.o Yz.o Yv.o)).mono ?_;rintro e w5 ⟨a1,a2,a3,a4,Y,rfl,O,Xa,Xe⟩;have J:=ι O;have Ya:=ι Xa;have Yg:=ι Xe;have U:=ι (Ja.o.touch O (Xy.o));have q0:=U.o.cc 0;have q1:=U.o.cc 1;have q2:=U.o.cc 2;have q3:=U.o.cc 3;have qf:=U.o.free;have ql:=U.o.lt;clear O Xa Xe);refine⟨AA.of (by rw[N.o];exact KT.o _ _ Z.o J.o),?_⟩;refine FI ?_;simp only[AC,ζ,ξ]
   repeat(go_big_quiet_step (fail))
   refine ψ ?_;gi_wp2;have t5:=MP w5 bA (iI a1) (iI a2) (iI a3) (iI a4);have KF:=(t5.cell (AV (KT.o _ _ Z.o J.o)) Yf.o 5).trans (KT.o _ _ Z.o J.o);refine⟨AA.of (by rw[N.o];exact KF),?_⟩;refine MO ?_;simp only[AC,ζ,ξ]
   repeat(go_big_quiet_step (fail))
   refine ψ ?_;refine τ ?_;gi_wp2
   gi_meet
   exact⟨_,Y,rfl,rfl,⟨Xc.o _ _ _ _ Y Z.o J.o Ya.o Yg.o t5 Yc.o⟩⟩
 case rest=>
  obtain⟨Xm,Y,rfl,rfl,HI⟩:=hcut;have Xr:=HI.o.r6;have Xo:=HI.o.r7;have Zc:=HI.o.bx;have hwz:=HI.o.t.size;have hr7l:=Xo.lt;rcases HI.o.rs with⟨rfl,L,hex,Zq⟩|⟨rfl,Je⟩
  ·have Zm:=ι hex;have Zz:=ι Zq;clear Xr Xo hex Zq;gi_wp2_with(refine⟨trivial,?_⟩;gi_at_call 132;refine(β.2 (J3 (some ⟨m,0,none⟩))).mono ?_;rintro e w1 ⟨rfl,rfl⟩);obtain⟨W1,Ym⟩:∃W1,W1=wc.alloc (.cells #[.pointer (some ⟨m,0,none⟩)] 103):=⟨_,rfl⟩;have V:Gr wc W1:=by rw[Ym];exact(Gr.refl wc).alloc _
   have Zr:W1.heap.size=wc.heap.size+1:=by rw[Ym,γ]
   have k4:W1.cell? ⟨wc.heap.size,0,none⟩=some (pP m):=by
    rw[Ym];exact(Boxed.new wc 103 (pP m)).cell
   rw[<-Ym];have hex:=Zm.o;have Zh:=hex.hm;have Za:=hex.v1.hp;have Yn:=hex.v1.hb;have Zb:=hex.v2.hp;have Ye:=hex.v2.hb;have Zw:Hid (AP wc):=⟨HI.o.t.tab Jq Zp HT⟩;have Jh:=Zw.o.lt;have hrl:=Zc.lt;have Jk:=ι hex.good;clear Ym hex;have tI:∀(j:Nat) A B,(AB (λi=>W1.heap.size<=i) W1 A/\j<=L.length/\∀i (h:i<L.length),i<j->c.fr<=L[i].1/\L[i].1+L[i].2<=c.tp)->AB (λi=>W1.heap.size<=i/\i<W1.heap.size+2+4) A B->(AB (λi=>W1.heap.size<=i) W1 B/\j<=L.length/\∀i (h:i<L.length),i<j->c.fr<=L[i].1/\L[i].1+L[i].2<=c.tp):=λj A B h t=>⟨h.1.trans (t.mono (λi _ h=>h.1)),h.2⟩
   refine LQ (K:=4) (s0:=0) rfl Ω (gf:=173) (lb:=#[pP wc.heap.size]) rfl trivial (enters_of func173 (by kernel_rfl) rfl)
    (OO _ wc.heap.size m p1 b1 p2 b2 v.n L _) (λ_=>rfl)
    (λ(j:Nat) A=>AB (λi=>W1.heap.size<=i) W1 A/\j<=L.length/\∀i (h:i<L.length),i<j->c.fr<=L[i].1/\L[i].1+L[i].2<=c.tp)
    (λcd A=>cd=.ret/\AB (λi=>(i=w.heap.size+1\/i=w.heap.size+2)\/W1.heap.size<=i) W1 A/\A.cell? ⟨w.heap.size+1,0,none⟩=some (.pointer none)/\A.cell? ⟨w.heap.size+2,0,none⟩=some (iI 25)/\∃o∈L,¬(c.fr<=o.1/\o.1+o.2<=c.tp))
    tI
    (λcd A B h t=>⟨h.1,h.2.1.trans (t.mono (λi _ h=>.inr h.1)),(t.cell (AV h.2.2.1) (by show ¬(W1.heap.size<=w.heap.size+1/\_);omega) 0).trans h.2.2.1,(t.cell (AV h.2.2.2.1) (by show ¬(W1.heap.size<=w.heap.size+2/\_);omega) 0).trans h.2.2.2.1,h.2.2.2.2⟩)
    (λj A h=>⟨(Zm.o.gr V).touch h.1 Ω Ω Ω Ω Ω,(V.tab Jh Zw.o).touch' h.1 Ω,(h.1.cell Ω Ω 0).trans k4,h.2.1⟩)
    ⟨AB.refl _ _,ζe _,λi _ h=>absurd h (ζI _)⟩ ?round ?done ?stop
   case round=>
    have Yy:=ι Zr;clear Zr;intro lp j x W3 hsz3 Xd Xb;dsimp only[GQ];gi_wp2;refine⟨Gr.refl _,λW4 ht4 hI4=>?_⟩
    have Yt:j<L.length:=by
     rcases ω j L.length with h|h
     ·exact h
     ·unfold EQ at Xb;rw[ζv h]at Xb;cases Xb
    obtain rfl:x=L[j]:=by unfold EQ at Xb;rw[ζb Yt]at Xb;exact(Option.some.inj Xb).symm
    have Xw:=(Zc.gr V).touch hI4.1 (by have:=Yy.o;omega);obtain⟨c0,c1,cl⟩:=Xw.k2;have Ju:=(Jk.o.sz _ (χ Yt)).2;have Zt:=ι (χ Yt);obtain⟨sa,Yo⟩:∃s,s=L[j].1:=⟨_,rfl⟩;obtain⟨sz,Ys⟩:∃s,s=L[j].2:=⟨_,rfl⟩;have Yr:=ι (ϑ Yo Ys);rw[<-Yo,<-Ys]at Ju⊢;have Ze:=ι hI4;have Yk:=(HI.o.r6.gr V).touch hI4.1 (by have:=Yy.o;omega);have Xt:=(HI.o.r7.gr V).touch hI4.1 (by have:=Yy.o;omega);have Jx:=ι Yt;by_cases Yb:c.fr<=sa/\sa+sz<=c.tp
    ·have e0:decide ((sa:Int)<(c.fr:Int))=false:=φ Ω;have e1:decide ((c.tp:Int)<(sa:Int)+(sz:Int))=false:=φ Ω;have e2:decide (sa<c.fr)=false:=φ Ω;have Jl:=ι Yb;clear Xd hI4 Xb ht4 Yo Ys Yb Yk Xt;gi_wp2;refine⟨AB.refl _ _,j+1,rfl,Ze.o.1,Jx.o,λi h hij=>?_⟩;rcases ω i j with h'|h'
     ·exact Ze.o.2.2 i h h'
     ·obtain rfl:i=j:=Ω
      rw[<-Yr.o.1,<-Yr.o.2];exact Jl.o
    ·have Jp:Hid (∃o∈L,¬(c.fr<=o.1/\o.1+o.2<=c.tp)):=⟨L[j],Zt.o,by rw[<-Yr.o.1,<-Yr.o.2];exact Yb⟩;have Ua:=ι Yk;have Jw:=ι Xt;have z6:=Yk.cc 0;have z7:=Xt.cc 0;have zf6:=Yk.free 0;have zf7:=Xt.free 0;have zl7:=Xt.lt
     have Xc:Hid (∀W5,W5=(W4.setCell ⟨w.heap.size+1,0,none⟩ (.pointer none)).setCell ⟨w.heap.size+1+1,0,none⟩ (.int .i64 25)->AB (λk=>k<W1.heap.size\/W1.heap.size+(2+4)<=k) W4 W5/\(AB (λi=>(i=w.heap.size+1\/i=w.heap.size+2)\/W1.heap.size<=i) W1 W5/\W5.cell? ⟨w.heap.size+1,0,none⟩=some (.pointer none)/\W5.cell? ⟨w.heap.size+2,0,none⟩=some (iI 25)/\∃o∈L,¬(c.fr<=o.1/\o.1+o.2<=c.tp))):=⟨λW5 hW5=>by
      have tg:AB (λi=>i=w.heap.size+1\/i=w.heap.size+2) W4 W5:=by
       rw[hW5];exact((AB.refl _ W4).setCell (a:=⟨w.heap.size+1,0,none⟩) (λ_=>.inl rfl) _).setCell (a:=⟨w.heap.size+1+1,0,none⟩) (λ_=>.inr rfl) _
      have b6:Rec W5 (w.heap.size+1) 103 [.pointer none]:=by
       rw[hW5];exact(Ua.o.set 0 (.pointer none)).touch ((AB.refl (λi=>i=w.heap.size+1+1) _).setCell (a:=⟨w.heap.size+1+1,0,none⟩) (λ_=>rfl) _) Ω
      have b7:Rec W5 (w.heap.size+2) 27 [iI 25]:=by
       rw[hW5];exact(Jw.o.touch ((AB.refl (λi=>i=w.heap.size+1) W4).setCell (a:=⟨w.heap.size+1,0,none⟩) (λ_=>rfl) (.pointer none)) Ω).set 0 (iI 25)
      refine⟨tg.mono (λb _ h=>.inl (by have:=Yy.o;omega)),(Ze.o.1.mono (λ_ _ h=>.inr h)).trans (tg.mono (λ_ _ h=>.inl h)),b6.cc 0,b7.cc 0,Jp.o⟩⟩
     clear Xd hI4 Xb ht4 Yk Xt Yo Ys;by_cases Yx:sa<c.fr
     ·have e0:decide ((sa:Int)<(c.fr:Int))=true:=θ Ω;have e2:decide (sa<c.fr)=true:=θ Yx;clear Yb Yx;gi_wp2;exact⟨(Xc.o _ rfl).1,rfl,(Xc.o _ rfl).2⟩
     ·have e0:decide ((sa:Int)<(c.fr:Int))=false:=φ Ω;have e2:decide (sa<c.fr)=false:=φ Yx;have e1:decide ((c.tp:Int)<(sa:Int)+(sz:Int))=true:=θ Ω;clear Yb Yx;gi_wp2;exact⟨(Xc.o _ rfl).1,rfl,(Xc.o _ rfl).2⟩
   case done=>
    rintro D j W3 hD rfl Xd hK;have Yi:=(HI.o.r6.gr V).touch Xd.1 (by have:=HI.o.r6.lt;omega);have Yl:=(HI.o.r7.gr V).touch Xd.1 (by have:=HI.o.r7.lt;omega);have q0:=Yi.cc 0;have q1:=Yi.free 0;have ql:=Yi.lt;have p0:=Yl.cc 0;have Js:=Yl.free 0;have pl:=Yl.lt;have HK:=ι hK;have HD:=ι hD;have Yp:=ι Xd;have G:=ι Yi;have Jy:=ι Yl;have hs3:=Xd.1.size;clear hK hD Xd Yi Yl;gi_wp2
    have tg:AB (λi=>i=w.heap.size+1\/i=w.heap.size+2) W3 ((W3.setCell ⟨w.heap.size+1,0,none⟩ (.pointer (some ⟨m,0,none⟩))).setCell ⟨w.heap.size+1+1,0,none⟩ (.int .i64 0)):=
     ((AB.refl _ W3).setCell (a:=⟨w.heap.size+1,0,none⟩) (λ_=>.inl rfl) _).setCell (a:=⟨w.heap.size+1+1,0,none⟩) (λ_=>.inr rfl) _
    have b6:Rec ((W3.setCell ⟨w.heap.size+1,0,none⟩ (.pointer (some ⟨m,0,none⟩))).setCell ⟨w.heap.size+1+1,0,none⟩ (.int .i64 0)) (w.heap.size+1) 103 [pP m]:=
     (G.o.set 0 (pP m)).touch ((AB.refl (λi=>i=w.heap.size+1+1) _).setCell (a:=⟨w.heap.size+1+1,0,none⟩) (λ_=>rfl) _) Ω
    have b7:Rec ((W3.setCell ⟨w.heap.size+1,0,none⟩ (.pointer (some ⟨m,0,none⟩))).setCell ⟨w.heap.size+1+1,0,none⟩ (.int .i64 0)) (w.heap.size+2) 27 [iI 0]:=
     (Jy.o.touch ((AB.refl (λi=>i=w.heap.size+1) W3).setCell (a:=⟨w.heap.size+1,0,none⟩) (λ_=>rfl) (pP m)) Ω).set 0 (iI 0)
    have hD:=HD.o;have Zl:=(tg.block D (ζn.1 HK.o).1 Ω).trans HK.o;generalize ((W3.setCell ⟨w.heap.size+1,0,none⟩ (.pointer (some ⟨m,0,none⟩))).setCell ⟨w.heap.size+1+1,0,none⟩ (.int .i64 0))=W5 at *
    have k6:=b6.cc 0;have k7:=b7.cc 0;rw[show w.heap.size+2=w.heap.size+1+1 from rfl]at k7;refine⟨by simp,.inl ⟨_,_,rfl,run_takeDeferred Zl,?_⟩⟩;have Zk:=cell_kept k6 (grownBy_putObj' _ D (.deferred none)) (λr e=>by cases e;exact⟨_,Zl,rfl⟩);have Yu:=cell_kept k7 (grownBy_putObj' _ D (.deferred none)) (λr e=>by cases e;exact⟨_,Zl,rfl⟩);have tD:AB (λi=>W1.heap.size<=i) W5 (W5.putObj D (.deferred none)):=DB _ D _ Ω;refine⟨.tuple #[pP m,iI 0],?_,?_,?_,.inl ⟨L,m,p1,b1,p2,b2,⟨Zz.o,λo ho=>?_⟩,rfl,?_,?_⟩⟩
    ·simp[results,f154,go_sem,Zk,Yu]
    ·exact(((HI.o.t.trans (V.touch _)).trans' Yp.o.1 (λi hi h=>by omega)).trans' tg (λi hi h=>by omega)).trans' tD (λi hi h=>by omega)
    ·exact(((HI.o.vm.gr V).touch Yp.o.1 (λi hi _ h=>by have:=hi.2;omega)).touch tg (λi hi _ h=>by have:=hi.2;omega)).touch tD (λi hi _ h=>by have:=hi.2;omega)
    ·obtain⟨i,hi,rfl⟩:=ζr ho;have:=Yp.o.2.2 i hi hi;omega
    ·have hl:=HI.o;have l0:=hl.lm;have l1:=hl.l1;have l2:=hl.l2;have l3:=hl.l3;have l4:=hl.l4;exact((((Zm.o.gr V).touch Yp.o.1 Ω Ω Ω Ω Ω)).touch tg Ω Ω Ω Ω Ω).touch tD Ω Ω Ω Ω Ω
    ·have hl:=HI.o;have l0:=hl.lm;have l1:=hl.l1;have l2:=hl.l2;have l3:=hl.l3;have l4:=hl.l4;omega
   case stop=>
    rintro D cd W3 hD ⟨rfl,I,h1,h2,Xf⟩ hK;have Jv:=ι Xf;have HK:=ι hK;have Zu:=ι I;have Ji:=I.size;clear Xf hK I;gi_wp2;refine⟨by simp,.inl ⟨_,_,rfl,run_takeDeferred HK.o,?_⟩⟩;have Zk:=cell_kept h1 (grownBy_putObj' _ D (.deferred none)) (λr e=>by cases e;exact⟨_,HK.o,rfl⟩);have Yu:=cell_kept h2 (grownBy_putObj' _ D (.deferred none)) (λr e=>by cases e;exact⟨_,HK.o,rfl⟩);rw[show w.heap.size+2=w.heap.size+1+1 from rfl]at Yu;have tD:AB (λi=>W1.heap.size<=i) W3 (W3.putObj D (.deferred none)):=DB _ D _ Ω;refine⟨.tuple #[.pointer none,iI 25],?_,?_,?_,.inr ⟨λL' h=>?_,rfl⟩⟩
    ·simp[results,f154,go_sem,Zk,Yu]
    ·exact(((HI.o.t.trans (V.touch _)).trans' Zu.o (λi hi h=>by omega))).trans' tD (λi hi h=>by omega)
    ·exact((HI.o.vm.gr V).touch Zu.o (λi hi _ h=>by have:=hi.2;omega)).touch tD (λi hi _ h=>by have:=hi.2;omega)
    ·have e:=h.1.unique Zz.o;subst e;obtain⟨o,ho,Xf⟩:=Jv.o;have:=h.2 o ho;exact Xf Ω
  ·have q0:=Xr.cc 0;have q1:=Xr.free 0;have ql:=Xr.lt;have p0:=Xo.cc 0;have Js:=Xo.free 0;have pl:=Xo.lt;have Jj:=ι Je;have Zi:=ι Xr;have Zg:=ι Xo;clear Xr Xo Je Zc;gi_wp2
   have tg:AB (λi=>i=w.heap.size+1\/i=w.heap.size+2) wc ((wc.setCell ⟨w.heap.size+1,0,none⟩ (.pointer none)).setCell ⟨w.heap.size+1+1,0,none⟩ (.int .i64 25)):=
    ((AB.refl _ wc).setCell (a:=⟨w.heap.size+1,0,none⟩) (λ_=>.inl rfl) _).setCell (a:=⟨w.heap.size+1+1,0,none⟩) (λ_=>.inr rfl) _
   have b6:Rec ((wc.setCell ⟨w.heap.size+1,0,none⟩ (.pointer none)).setCell ⟨w.heap.size+1+1,0,none⟩ (.int .i64 25)) (w.heap.size+1) 103 [.pointer none]:=
    (Zi.o.set 0 (.pointer none)).touch ((AB.refl (λi=>i=w.heap.size+1+1) _).setCell (a:=⟨w.heap.size+1+1,0,none⟩) (λ_=>rfl) _) Ω
   have b7:Rec ((wc.setCell ⟨w.heap.size+1,0,none⟩ (.pointer none)).setCell ⟨w.heap.size+1+1,0,none⟩ (.int .i64 25)) (w.heap.size+2) 27 [iI 25]:=
    (Zg.o.touch ((AB.refl (λi=>i=w.heap.size+1) wc).setCell (a:=⟨w.heap.size+1,0,none⟩) (λ_=>rfl) (.pointer none)) Ω).set 0 (iI 25)
   generalize ((wc.setCell ⟨w.heap.size+1,0,none⟩ (.pointer none)).setCell ⟨w.heap.size+1+1,0,none⟩ (.int .i64 25))=W5 at *
   have k6:=b6.cc 0;have k7:=b7.cc 0;rw[show w.heap.size+2=w.heap.size+1+1 from rfl]at k7;refine⟨.tuple #[.pointer none,iI 25],?_,?_,?_,.inr ⟨λL' h=>Jj.o h.1.sound,rfl⟩⟩
   ·simp[results,f154,go_sem,k6,k7]
   ·exact HI.o.t.trans' tg (λi hi h=>by omega)
   ·exact HI.o.vm.touch tg (λi hi _ h=>by have:=hi.2;omega)
end
end
section
attribute [local go_sem] Oper.semAt_some
theorem Qkw{w:World}{m p1 b1 p2 b2 n:Nat}{L:List Ob}(hE:Ext w m p1 b1 p2 b2 n L)(hT:AP w){B base:Nat}(hB:BJ B=true)(hb:base<2147483648):
  Calls prog 155 #[pP m,iI B,iI base] w λe w'=>∃p,e=.returned (.tuple #[pP p,iI 0])/\Gr w w'/\Pln w' w.heap.size p n B base L:=by
 have hbp:=DE hB;refine(YGs hE hT (B:Int) (base:Int) Ω).mono ?_;have hbo:F2 (base:Int)=true:=by unfold F2;grind
 rintro e w' ⟨hg,(⟨h,-⟩|⟨-,p,B',base',e1,e2,rfl,hP⟩)⟩
 ·simp_all
 grind
def PY(w:World)(S:Nat->Prop)(q r g:Nat)(v:Vm)(rs:List Int)(c:Cf)(e:Ending)(w':World):Prop:=
 AB (λb=>b=g\/S b) w w' ∧
  (((∀L,¬FB v rs c.fr c.tp L)/\e=.returned (.tuple #[.pointer none,iI 25])/\AD w' S q v/\AU w' r g rs) ∨
  ∃L,FB v rs c.fr c.tp L ∧
   ((c.lm-c.to<sizes L/\e=.returned (.tuple #[.pointer none,iI 21])/\AD w' S q v/\AU w' r g rs) ∨
   (sizes L<=c.lm-c.to/\∃(y:Nat) (z:B8) (R S':Nat->Prop) (v':Vm) (j:Nat),e=.returned (.tuple #[pP y,iI 0])/\Cyc w' R y q z (AY v c L)/\AD w' S' q v'/\(∀b,S' b->S b\/w.heap.size<=b)/\(∀b,R b->w.heap.size<=b/\¬S' b) ∧
    EZ (AY v c L) v v' (c.fr/v.pl.pg) j/\c.tp<=(c.fr/v.pl.pg+j)*v.pl.pg/\(∀i,i<j->(c.fr/v.pl.pg+i)*v.pl.pg<c.tp)/\AU w' r g (rs.map (toV L c.to)))))
theorem ZHF:(prog.info? 4).map (λi=>(i.zero,i.size,i.bytes))=some (some (.bool false),1,1):=by kernel_rfl
structure OpJ(wa w:World)(D:Nat->Bool)(q p m nb:Nat)(c:Cf)(v55 v56 v57 v58 v59 v60 v61 v62 v63 v64 v65 v66 v67 v13:Value):Prop where
 e55:v55=pP q
 e56:v56=.agg #[iI c.fr,iI c.tp,iI c.to,iI c.lm,iI c.bk,iI c.st,iI c.ah]
 e57:v57=pP p
 e58:v58=pP m
 e59:v59=pP p
 e62:v62=pP p
 e60:D 5=true->v60=iI nb
 e61:D 6=true->∃b,v61=.slice (some ⟨b,0,none⟩) nb nb/\w.ownsRow 0 4 1 v61 nb (List.replicate nb (.bool false))/\wa.heap.size<=b
 e63:D 8=true->v63=iI nb
 e64:D 9=true->∃b,v64=.map (some b)/\BF prog 3 w b 0 (λ_=>none)/\wa.heap.size<=b
 e65:D 10=true->∃b,v65=.map (some b)/\BF prog 3 w b 0 (λ_=>none)/\wa.heap.size<=b
 ne:D 9=true->D 10=true->v64≠v65
 e66:D 11=true->D 6=true/\D 8=true/\D 9=true/\D 10=true/\v66=.agg #[v55,iI c.fr,iI c.tp,iI c.to,iI c.lm,iI c.bk,iI c.st,iI c.ah,v57,v58,v61,v63,iI 0,iI 0,v64,v65]
 e67:D 12=true->D 11=true/\∃b,v67=pP b/\wa.heap.size<=b/\Rec w b 220 [v55,iI c.fr,iI c.tp,iI c.to,iI c.lm,iI c.bk,iI c.st,iI c.ah,v57,v58,v61,v63,iI 0,iI 0,v64,v65]
 e13:D 13=true->∃b,v13=pP b/\wa.heap.size<=b/\Rec w b 90 [if D 14 then v67 else .pointer none]
 d14:D 14=true->D 12=true/\D 13=true
 t:AB (λi=>wa.heap.size<=i) wa w
theorem OpJ.gr{wa w w':World}{D:Nat->Bool}{q p m nb:Nat}{c:Cf}{v55 v56 v57 v58 v59 v60 v61 v62 v63 v64 v65 v66 v67 v13:Value}(h:OpJ wa w D q p m nb c v55 v56 v57 v58 v59 v60 v61 v62 v63 v64 v65 v66 v67 v13)(g:Gr w w'):OpJ wa w' D q p m nb c v55 v56 v57 v58 v59 v60 v61 v62 v63 v64 v65 v66 v67 v13:=
 ⟨h.e55,h.e56,h.e57,h.e58,h.e59,h.e62,h.e60,λd=>by obtain⟨b,h1,h2,h3⟩:=h.e61 d;exact⟨b,h1,CK h2 g,h3⟩,h.e63,λd=>by obtain⟨b,h1,h2,h3⟩:=h.e64 d;exact⟨b,h1,h2.gr g,h3⟩,λd=>by obtain⟨b,h1,h2,h3⟩:=h.e65 d;exact⟨b,h1,h2.gr g,h3⟩,h.ne,h.e66,
  λd=>by obtain⟨h0,b,h1,h2,h3⟩:=h.e67 d;exact⟨h0,b,h1,h2,h3.gr g⟩,λd=>by obtain⟨b,h1,h2,h3⟩:=h.e13 d;exact⟨b,h1,h2,h3.gr g⟩,h.d14,h.t.trans (g.touch _)⟩
def OpI(wa:World)(q p m nb:Nat)(c:Cf)(a0:Act)(D:Nat->Bool)(a:Act)(w:World):Prop:=
 ∃v55 v56 v57 v58 v59 v60 v61 v62 v63 v64 v65 v66 v67 v13:Value,a=(((((((((((((a0.put (some 55) v55).put (some 56) v56).put (some 57) v57).put (some 58) v58).put (some 59) v59).put (some 60) v60).put (some 61) v61).put (some 62) v62).put (some 63) v63).put (some 64) v64).put (some 65) v65).put (some 66) v66).put (some 67) v67).put (some 13) v13/\OpJ wa w D q p m nb c v55 v56 v57 v58 v59 v60 v61 v62 v63 v64 v65 v66 v67 v13
theorem Sl.on_next(s:Sl){mm:Nat}(hm:mm<sizes s.L)(q:Nat):s.on (λi=>decide (i<mm+1)) q=s.on (λi=>decide (i<mm)) q+(if AH s.L mm/s.pg=q then 1 else 0):=by
 have h:=Sl.on_but (s:=s) (U:=λi=>decide (i<mm+1)) (i:=mm) (q:=q) hm (by simp)
 have e:s.on (but (λi=>decide (i<mm+1)) mm) q=s.on (λi=>decide (i<mm)) q:=Sl.on_congr λj _=>by
  unfold but
  grind
 omega
theorem Y0x{n:Nat}{L:List Ob}(hg:AO n L):L.length<=sizes L:=by
 have:∀l:List Ob,(∀o∈l,1<=o.2)->l.length<=sizes l:=λl=>by
  induction l with
  | nil=>simp_all
  | cons o r ih=>
   intro h;have h1:=ih (λx hx=>h x (ζA _ hx));have h2:=h o (ζq ..);simp only[ζH,sizes];omega
 exact this L (λo ho=>(hg.sz o ho).1)
structure OpA(W5 A:World)(b64 b65:Nat)(v:Vm)(s:Sl)(j mm:Nat):Prop where
 t:AB (λi=>(i=b64\/i=b65)\/W5.heap.size<=i) W5 A
 sh:∃n f,BF prog 3 A b65 n f/\n<=j/\∀i (h:i<s.L.length),i<j->f (s.L[i].1:Nat)=some (AJ (v.rdH (s.L[i].1:Nat)))
 wd:∃n f,BF prog 3 A b64 n f/\n<=mm/\∀q:Nat,(f (q:Nat)).getD (iI 0)=iI (s.on (λi=>decide (i<mm)) q:Nat)
theorem OpA.win{W5 A B:World}{b64 b65:Nat}{v:Vm}{s:Sl}{j mm K:Nat}(h:OpA W5 A b64 b65 v s j mm)(h4:b64<W5.heap.size)(h5:b65<W5.heap.size)(t:AB (λk=>W5.heap.size<=k/\k<K) A B):OpA W5 B b64 b65 v s j mm:=by
 obtain⟨n1,f1,a1,a2,a3⟩:=h.sh;obtain⟨n2,f2,c1,c2,c3⟩:=h.wd;exact⟨h.t.trans (t.mono (λi _ h=>.inr h.1)),⟨n1,f1,a1.touch t (λh=>by omega),a2,a3⟩,⟨n2,f2,c1.touch t (λh=>by omega),c2,c3⟩⟩
theorem OpA.zero{W5:World}{b64 b65:Nat}{v:Vm}{s:Sl}(h4:BF prog 3 W5 b64 0 (λ_=>none))(h5:BF prog 3 W5 b65 0 (λ_=>none)):OpA W5 W5 b64 b65 v s 0 0:=
 ⟨AB.refl _ _,⟨0,_,h5,π _,λi _ h=>absurd h (ζI _)⟩,⟨0,_,h4,π _,λq=>by
  have:s.on (λi=>decide (i<0)) q=0:=Sl.on_iff.2 (λj _ h=>by simp at h)
  simp_all⟩⟩
theorem OpA.hdr{W5 A B:World}{b64 b65 n:Nat}{v:Vm}{s:Sl}{j mm:Nat}{f:Int->Option Value}(h:OpA W5 A b64 b65 v s j mm)(hj:j<s.L.length)(hne:b64≠b65)(hn:n<=j)(hf:∀i (h:i<s.L.length),i<j->f (s.L[i].1:Nat)=some (AJ (v.rdH (s.L[i].1:Nat))))(hg:AO s.n s.L)
  (hm:BF prog 3 B b65 (n+1) (λy=>if y=((s.L[j].1:Nat):Int)then some (AJ (v.rdH (s.L[j].1:Nat)))else f y)) (t:AB (λi=>i=b65) A B):OpA W5 B b64 b65 v s (j+1) mm:=by
 obtain⟨n2,f2,c1,c2,c3⟩:=h.wd;refine⟨h.t.trans (t.mono (λi _ h=>.inl (.inr h))),⟨n+1,_,hm,by omega,λi hi hij=>?_⟩,⟨n2,f2,c1.touch t hne,c2,c3⟩⟩
 grind
theorem OpA.word{W5 A B:World}{b64 b65 n x:Nat}{v:Vm}{s:Sl}{j mm:Nat}{f:Int->Option Value}(h:OpA W5 A b64 b65 v s j mm)(hm:mm<sizes s.L)(hne:b64≠b65)(hn:n<=mm)(hf:∀q:Nat,(f (q:Nat)).getD (iI 0)=iI (s.on (λi=>decide (i<mm)) q:Nat))
  (hx:x=s.on (λi=>decide (i<mm)) (AH s.L mm/s.pg)+1) (hM:BF prog 3 B b64 (n+1) (λy=>if y=((AH s.L mm/s.pg:Nat):Int)then some (iI x)else f y)) (t:AB (λi=>i=b64) A B):OpA W5 B b64 b65 v s j (mm+1):=by
 obtain⟨n1,f1,a1,a2,a3⟩:=h.sh;refine⟨h.t.trans (t.mono (λi _ h=>.inl (.inl h))),⟨n1,f1,a1.touch t (λe=>hne e.symm),a2,a3⟩,⟨n+1,_,hM,by omega,λq=>?_⟩⟩;rw[s.on_next hm q];by_cases e:AH s.L mm/s.pg=q
 ·simp_all
 grind
theorem VLI{w2 w3 W5 W7:World}{q m p1 b1 p2 b2 p y b61 b64 b65 nb lo:Nat}{v:Vm}{c:Cf}{L:List Ob}{T:Nat->Prop}
  (hE2:Ext w2 m p1 b1 p2 b2 v.n L) (hg:Gr w2 w3) (hP:Pln w3 w2.heap.size p v.n c.bk c.to L) (hlo:lo<=w2.heap.size/\lo<=m/\lo<=p1/\lo<=b1/\lo<=p2/\lo<=b2)
  (t3:AB (λi=>w3.heap.size<=i) w3 W5) (hge:w3.heap.size<=y/\w3.heap.size<=b61/\w3.heap.size<=b64/\w3.heap.size<=b65) (hnb:nb=nbl (sizes L) c.bk)
  (hY:Rec W5 y 220 [pP q,iI c.fr,iI c.tp,iI c.to,iI c.lm,iI c.bk,iI c.st,iI c.ah,pP p,pP m,.slice (some ⟨b61,0,none⟩) nb nb,iI nb,iI 0,iI 0,.map (some b64),.map (some b65)])
  (hO:W5.ownsRow 0 4 1 (.slice (some ⟨b61,0,none⟩) nb nb) nb (List.replicate nb (.bool false))) (h4:BF prog 3 W5 b64 0 (λ_=>none)) (h5:BF prog 3 W5 b65 0 (λ_=>none)) (hne:b64≠b65)
  (hA:OpA W5 W7 b64 b65 v (AY v c L) L.length (sizes L)) (hT:∀i,i<W5.heap.size->i≠b64->i≠b65->¬T i) (t7:AB T W5 W7):
  Cyc W7 (λb=>lo<=b/\b<W5.heap.size) y q ⟨w2.heap.size,w3.heap.size,p,m,p1,b1,p2,b2,b65,b61,nb,b64⟩ (AY v c L):=by
 obtain⟨l1,l2,l3,l4,l5,l6⟩:=hlo;obtain⟨g1,g2,g3,g4⟩:=hge;have E:=hg.size;have s35:=t3.size;have s57:=t7.size;have hm:=hE2.hm;have O:=hE2.v1.hp;have B:=hE2.v1.hb;have I:=hE2.v2.hp;have N:=hE2.v2.hb;have J:=hY.lt;have Z:=(A9 hO rfl).2;have V:=h4.lt;have U:=h5.lt;have n1:b61≠y:=AN hO hY (by decide) rfl rfl;have n2:=h4.ne (IK hY);have n3:=h5.ne (IK hY);obtain⟨M,Y⟩:=P4 hO rfl;have n4:=h4.ne (q:=b61) ⟨M,_,Y⟩;have n5:=h5.ne (q:=b61) ⟨M,_,Y⟩;have G:Gr w3 W5:=(t3.mono (T:=λ_=>False) (λi hi h=>absurd hi (ξh h))).gr;obtain⟨nh,fh,a1,a2,a3⟩:=hA.sh;obtain⟨nw,fw,d1,d2,d3⟩:=hA.wd;refine⟨⟨hm,O,B,I,N,E,by show w3.heap.size<=_;omega,g1,g2,g3,g4,n1.symm,n2.symm,n3.symm,n4.symm,n5.symm,hne,⟨by omega,J⟩,⟨by show lo<=b61;omega,Z⟩,⟨by show lo<=b64;omega,V⟩,⟨by show lo<=b65;omega,U⟩,⟨l2,by show m<_;omega⟩,⟨l3,by show p1<_;omega⟩,⟨l4,by show b1<_;omega⟩,⟨l5,by show p2<_;omega⟩,⟨l6,by show b2<_;omega⟩,λk h1 h2=>⟨by have:w2.heap.size<=k:=h1;omega,by have:k<w3.heap.size:=h2;omega⟩,λk hk=>by omega⟩,?_,λW tW=>hP.touch ((t3.mono (λi _ h=>.inr h)).trans ((t7.mono (λi hi h=>?_)).trans tW)) (λk h1 h2 h=>by rcases h with h|h;(have:k<w2.heap.size:=h;omega);(have:w3.heap.size<=k:=h;omega)),?_,⟨nh,fh,a1,λj hj=>a3 j hj hj⟩,⟨nw,fw,d1,?_,λqq=>?_⟩,?_⟩
 ·have h:=hY.touch t7 (hT _ J n2.symm n3.symm);rw[YP,Q20,RW];have hl:(AY v c L).mv.length=nb:=by rw[hnb];exact ζG
  rw[hl,<-hnb];exact h
 ·right
  show w3.heap.size<=i
  refine ξU λh'=>?_;exact hT i Ω Ω Ω h
 ·exact(((hE2.gr hg).gr G).touch t7 (hT _ Ω Ω Ω) (hT _ Ω Ω Ω) (hT _ Ω Ω Ω) (hT _ Ω Ω Ω) (hT _ Ω Ω Ω))
 ·have h1:cnt (λi=>!(AY v c L).is i) (sizes (AY v c L).L)<=sizes (AY v c L).L:=EG _ _;have h2:nw<=sizes (AY v c L).L:=d2;omega
 ·rw[d3 qq]
  have:(AY v c L).on (λi=>decide (i<sizes L)) qq=(AY v c L).on (λi=>!(AY v c L).is i) qq:=Sl.on_congr λi hi=>by
   have D:i<sizes L:=hi;rw[LR,θ D];rfl
  rw[this]
 ·have h:=BS hO t7 (λg hg=>by cases hg;exact hT _ Z n4.symm n5.symm);have hl:(AY v c L).mv.length=nb:=by rw[hnb];exact ζG
  have hb:bls (AY v c L).mv=List.replicate nb (.bool false):=by
   show (List.replicate (nbl (sizes L) c.bk) false).map Value.bool=_
   rw[List.map_replicate,hnb]
  rw[hl,hb];exact h
structure UmO(w8 wx:World)(S5:Nat->Prop)(q:Nat)(s:Sl)(v:Vm)(q0 j pg tp:Nat):Prop where
 t:AB S5 w8 wx
 vm:∃Sj v',(∀b,Sj b->plus S5 w8 b)/\AD wx Sj q v'/\EZ s v v' q0 j
 q1:∀i,i<j->(q0+i)*pg<tp
section
variable {w:World} {S:Nat->Prop} {q r g:Nat} {v:Vm} {rs:List Int} {c:Cf}
theorem VBz(hV:AD w S q v)(hR:AU w r g rs)(hT:AP w)(htS:¬S 1)(hrS:¬S r)(hgS:¬S g)(hcf:G8 v.pl.pg v.n c)(htr:1≠g):
  Calls prog 107 #[pP q,pP r,cfV c] w (PY w S q r g v rs c):=by
 have HV:=ι hV.cut;have HR:=ι hR;have HT:=ι hT;have Yb:=ι (ϑ htS (ϑ hrS (ϑ hgS htr)));have Nx:=hT.lt;have hrl:=hR.lt;have hn2:=hV.ok.n2;have Mz:=hV.ok.page;have Ie:=ι hV.ok;have Uz:=ι hcf;have Ir:1<=v.n:=by have:=hcf.fr;have:=hcf.tp;have:=hcf.tn;omega
 have Vg:rs.length≠0:=λe=>hR.ne (ζz e);have Eb:=hR.le;have hcb:c.lm<=v.n/\c.to<=c.lm/\c.fr<=c.tp/\c.tp<=v.n:=⟨hcf.ln,hcf.lm,hcf.tp,hcf.tn⟩;have Jt:=ι (λ(W:World) (gW:Gr w W)=>WI (hR.gr gW));have Nh:=ι (λ(W:World) (gW:Gr w W)=>Z4 (hV.gr gW) hcf);have Ne:=ι (λ(W:World) (gW:Gr w W)=>YeD (c:=c) (hV.cut.gr gW) Ir (hR.gr gW) (gW.tab Nx hT) (λh=>htS h.1) hcf.st);unfold cfV at Nh Ne⊢;obtain⟨n,Vz⟩:∃n,n=rs.length:=⟨_,rfl⟩;have HN:=ι Vz;rw[<-Vz]at Vg Eb Jt;have d0:((n:Int)==0)=false:=by simp;omega
 have Mt:=ι (((Gr.refl w).alloc (.cells #[.pointer (some ⟨q,0,none⟩)] 87)).alloc (.cells #[.int .i64 c.fr,.int .i64 c.tp,.int .i64 c.to,.int .i64 c.lm,.int .i64 c.bk,.int .i64 c.st,.int .i64 c.ah] 156));have Ml:=(Rec.new w 87 [pP q]).gr ((Gr.refl _).alloc (.cells #[.int .i64 c.fr,.int .i64 c.tp,.int .i64 c.to,.int .i64 c.lm,.int .i64 c.bk,.int .i64 c.st,.int .i64 c.ah] 156));have Nq:=KW w (.cells #[.pointer (some ⟨q,0,none⟩)] 87) 156 [.int .i64 c.fr,.int .i64 c.tp,.int .i64 c.to,.int .i64 c.lm,.int .i64 c.bk,.int .i64 c.st,.int .i64 c.ah];obtain⟨W0,Zg⟩:∃W0,W0=(w.alloc (.cells #[.pointer (some ⟨q,0,none⟩)] 87)).alloc (.cells #[.int .i64 c.fr,.int .i64 c.tp,.int .i64 c.to,.int .i64 c.lm,.int .i64 c.bk,.int .i64 c.st,.int .i64 c.ah] 156):=⟨_,rfl⟩;have Un:W0.heap.size=w.heap.size+2:=by rw[Zg];simp only[γ]
 have Vr:Hid (Rec W0 w.heap.size 87 [pP q]):=⟨by rw[Zg];exact Ml⟩;have Yf:Hid (Rec W0 (w.heap.size+1) 156 [.int .i64 c.fr,.int .i64 c.tp,.int .i64 c.to,.int .i64 c.lm,.int .i64 c.bk,.int .i64 c.st,.int .i64 c.ah]):=⟨by rw[Zg];exact Nq⟩;have Vs:Hid (Gr w W0):=⟨by rw[Zg];exact Mt.o⟩;have HS0:=ι Un;clear hV hR hT htS hrS hgS htr hcf Vz Ml Nq Mt Un;refine(β (n:=5)).1 ?_;refine callsIn_of_wp_marks func107 rfl trivial ?_ rfl;simp only[ntmps107,ζV,ζH,ζ7,Nat.reduceAdd,Nat.reduceSub,ζL,ζK,ζZ,ζQ,ζN,ζu];gi_upto_region 1 with(fail);rw[<-Zg];clear Zg;have z3:=Vr.o.cc 0;have Jj:=Yf.o.cc 0;have Jo:=Yf.o.cc 1;have Zm:=Yf.o.cc 2;have Jr:=Yf.o.cc 3;have Zi:=Yf.o.cc 4;have Ji:=Yf.o.cc 5;have Jm:=Yf.o.cc 6;have Js:=Vr.o.lt;have Zh:=Yf.o.lt
 gi_upto_region 6 with(first
  | (refine⟨trivial,?_⟩;gi_at_call 152;refine(β.2 (Jt.o _ Vs.o)).mono ?_;rintro e w1 ⟨rfl,rfl⟩)
  | (refine⟨trivial,?_⟩;gi_at_call 153;refine(β.2 (Nh.o _ Vs.o)).mono ?_;rintro e w1 ⟨rfl,Jp⟩;have Xr:=ι (Vs.o.trans Jp);have Je:=ι (Vr.o.gr Jp);have Xq:=ι (Yf.o.gr Jp);clear Jp))
 clear z3 Jj Jo Zm Jr Zi Ji Jm Js Zh;have z3:=Je.o.cc 0;have Jj:=Xq.o.cc 0;have Jo:=Xq.o.cc 1;have Zm:=Xq.o.cc 2;have Jr:=Xq.o.cc 3;have Zi:=Xq.o.cc 4;have Ji:=Xq.o.cc 5;have Jm:=Xq.o.cc 6;have Js:=Je.o.lt;have Zh:=Xq.o.lt;have Mp:=Xr.o.size;gi_upto_region 7 with(refine⟨trivial,?_⟩;gi_at_call 154;refine(β.2 (Ne.o _ Xr.o)).mono ?_;rintro e w2 ⟨Mj,Nw,(⟨L,m,p1,b1,p2,b2,hI,rfl,hE,Ot,Mg,Or,Ze,Jd⟩|⟨Ic,rfl⟩)⟩ <;> (have Yc:=ι Mj;have Vk:=ι Nw;clear Mj Nw))
 ·clear z3 Jj Jo Zm Jr Zi Ji Jm Js Zh;have HI:=ι hI;have HX:=ι hE;have Zs:=ι (ϑ Ot (ϑ Mg (ϑ Or (ϑ Ze Jd))));clear hI hE Ot Mg Or Ze Jd;have Ul:=ι (Je.o.touch Yc.o (λh=>by have:=h.2;omega));have Yv:=ι (Xq.o.touch Yc.o (λh=>by have:=h.2;omega));have Yl:Hid (AP w2):=⟨(Xr.o.tab Nx HT.o).touch' Yc.o (λh=>Yb.o.1 h.1)⟩;have Ef:=ι (Qkw HX.o Yl.o Uz.o.bk (base:=c.to) Ω);have z3:=Ul.o.cc 0;have Zm:=Yv.o.cc 2;have Zi:=Yv.o.cc 4;have Zh:=Yv.o.lt;have Iq:=Yc.o.size;gi_upto_region 10 with(refine⟨trivial,?_⟩;gi_at_call 155;refine(β.2 (Ef.o)).mono ?_;rintro e w3 ⟨p,rfl,Mu,hP⟩;have Xs:=ι Mu;have Ve:=ι hP;clear Mu hP);clear z3 Zm Zi Zh;have Yd:=ι (Ul.o.gr Xs.o);have E:=ι (Yv.o.gr Xs.o);obtain⟨Ux,Il,Iy,f,c0,c1,hF⟩:=Ve.o;have Ms:=ι (λ(W:World) (gW:Gr w3 W)=>RD ((gW.cell Ux 0).trans c0));have Vt:=ι (λ(W:World) (gW:Gr w3 W)=>Y1 (hF.gr gW));obtain⟨N,hN⟩:∃N,N=sizes L:=⟨_,rfl⟩;have Jh:=ι hN;have hNb:N<=1048576:=by rw[hN];have:=FW HX.o.good;omega
  rw[<-hN]at Vt;have x3:=E.o.cc 3;have x2:=E.o.cc 2;have xl:=E.o.lt;have hpl:=Ux;clear Ux Il Iy c0 c1 hF hN;by_cases Yw:c.lm-c.to<N
  ·have d9:decide ((c.lm:Int)-(c.to:Int)<(N:Int))=true:=θ Ω;have Yz:=ι Yw;clear Yw;obtain⟨Sx,Z,HS⟩:=AA.start λW'=>W'.cell? ⟨w.heap.size+1,3,none⟩=some (.int .i64 c.lm)/\W'.cell? ⟨w.heap.size+1,2,none⟩=some (.int .i64 c.to);have y1:=AA.fact Z λ_ h=>h.1;have y2:=AA.fact Z λ_ h=>h.2;have U:=HS.o (w3.drew) (⟨x3,x2⟩);have O:Inhabited (AA Sx):=⟨⟨_,U⟩⟩;clear Z;refine GB Sx 9 [([0,3,4,5,6,7],1),([],2)] [8] GM (by kernel_rfl) (by kernel_rfl) U ?_;refine C4 ?_
   try simp only[AC,ζ,ξ]
   repeat(go_big_quiet_step (fail))
   refine ψ ?_;gi_wp2_with((refine⟨trivial,?_⟩;gi_at_call 156;refine(β.2 (Ms.o _ (Gr.refl w3).drew)).mono ?_;rintro e w4 ⟨rfl,rfl⟩));refine⟨.inr (AA.of (HS.o _ (⟨x3,x2⟩))),?_⟩;refine C4 ?_
   try simp only[AC,ζ,ξ]
   repeat(go_big_quiet_step (fail))
   refine ψ ?_;gi_wp2_with((refine⟨trivial,?_⟩;gi_at_call 157;refine(β.2 (Vt.o _ (Gr.refl w3).drew)).mono ?_;rintro e w4 ⟨rfl,rfl⟩));refine⟨.inr (AA.of (HS.o _ (⟨x3,x2⟩))),?_⟩;refine GE ?_
   try simp only[AC,ζ,ξ]
   repeat(go_big_quiet_step (fail))
   refine ψ ?_;refine τ ?_;clear y1 y2 U O;clear HS Sx;clear x3 x2 xl;gi_wp2;have Li:=((HR.o.gr Xr.o).touch Yc.o (λh=>Yb.o.2.1 h.1) (λh=>Yb.o.2.2.1 h.1)).gr Xs.o;refine⟨.tuple #[.pointer none,.int .i64 21],?_,?_,.inr ⟨L,HI.o,.inl ⟨by rw[<-Jh.o];exact Yz.o,rfl,((Vk.o.gr Xs.o).gr (Gr.refl w3).drew).mono (λb hb=>hb.1.1),Li.gr (Gr.refl w3).drew⟩⟩⟩
   ·simp[results,f107,go_sem]
   ·have a1:AB (λb=>b=g\/S b) w w1:=Xr.o.touch _;have a2:=a1.trans (Yc.o.mono (λi _ h=>.inr h.1));exact a2.trans ((Xs.o.trans (Gr.refl w3).drew).touch _)
  ·have d9:decide ((c.lm:Int)-(c.to:Int)<(N:Int))=false:=φ Ω;have Yz:=ι Yw;clear Yw;obtain⟨Sx,Z,HS⟩:=AA.start λW'=>W'.cell? ⟨w.heap.size+1,3,none⟩=some (.int .i64 c.lm)/\W'.cell? ⟨w.heap.size+1,2,none⟩=some (.int .i64 c.to);have y1:=AA.fact Z λ_ h=>h.1;have y2:=AA.fact Z λ_ h=>h.2;have U:=HS.o (w3.drew) (⟨x3,x2⟩);have O:Inhabited (AA Sx):=⟨⟨_,U⟩⟩;clear Z;refine GB Sx 9 [([0,3,4,5,6,7],1),([],2)] [8] GM (by kernel_rfl) (by kernel_rfl) U ?_;refine C4 ?_
   try simp only[AC,ζ,ξ]
   repeat(go_big_quiet_step (fail))
   refine ψ ?_;gi_wp2_with((refine⟨trivial,?_⟩;gi_at_call 156;refine(β.2 (Ms.o _ (Gr.refl w3).drew)).mono ?_;rintro e w4 ⟨rfl,rfl⟩));refine⟨.inr (AA.of (HS.o _ (⟨x3,x2⟩))),?_⟩;refine C4 ?_
   try simp only[AC,ζ,ξ]
   repeat(go_big_quiet_step (fail))
   refine ψ ?_;gi_wp2_with((refine⟨trivial,?_⟩;gi_at_call 157;refine(β.2 (Vt.o _ (Gr.refl w3).drew)).mono ?_;rintro e w4 ⟨rfl,rfl⟩));refine⟨.inr (AA.of (HS.o _ (⟨x3,x2⟩))),?_⟩;refine GE ?_
   try simp only[AC,ζ,ξ]
   repeat(go_big_quiet_step (fail))
   refine ψ ?_;refine τ ?_;clear y1 y2 U O;clear HS Sx;clear x3 x2 xl;gi_upto_region 12 with(fail);obtain⟨nb,Vi⟩:∃nb,nb=nbl (sizes L) c.bk:=⟨_,rfl⟩;have In:=ι Vi
   have hnbb:nb<=1048576:=by
    have:=Uz.o.bk;have h1:=DE this;have h2:=LL (n:=sizes L) (B:=c.bk) Ω;have h3:=Jh.o;omega
   have Zx:=ι (λ(W:World) (gW:Gr w3 W)=>WM (Ve.o.gr gW));rw[<-Vi]at Zx;clear Vi;have HTW:Hid (∀(W:World),AB (λi=>w3.drew.heap.size<=i) w3.drew W->Gr w3 W):=⟨λW t=>(Gr.refl w3).drew.trans (t.mono (T:=λ_=>False) (λi hi h=>absurd hi (ξh h))).gr⟩;have x3:=Yd.o.cc 0;have Mi:=E.o.cc 0;have Od:=E.o.cc 1;have Ok:=E.o.cc 2;have Nl:=E.o.cc 3;have Ow:=E.o.cc 4;have Nn:=E.o.cc 5;have Mo:=E.o.cc 6;obtain⟨Sx,Z⟩:∃Sx:World->Prop,Sx=λW'=>(W'.cell? ⟨w.heap.size,0,none⟩=some (pP q)/\W'.cell? ⟨w.heap.size+1,0,none⟩=some (.int .i64 c.fr))/\(W'.cell? ⟨w.heap.size+1,1,none⟩=some (.int .i64 c.tp)/\W'.cell? ⟨w.heap.size+1,2,none⟩=some (.int .i64 c.to))/\(W'.cell? ⟨w.heap.size+1,3,none⟩=some (.int .i64 c.lm)/\W'.cell? ⟨w.heap.size+1,4,none⟩=some (.int .i64 c.bk))/\W'.cell? ⟨w.heap.size+1,5,none⟩=some (.int .i64 c.st)/\W'.cell? ⟨w.heap.size+1,6,none⟩=some (.int .i64 c.ah):=⟨_,rfl⟩;have y3:∀p':AA Sx,p'.w.cell? ⟨w.heap.size,0,none⟩=some (pP q):=λp=>(AA.get Z p).1.1;have Im:∀p':AA Sx,p'.w.cell? ⟨w.heap.size+1,0,none⟩=some (.int .i64 c.fr):=λp=>(AA.get Z p).1.2;have Lj:∀p':AA Sx,p'.w.cell? ⟨w.heap.size+1,1,none⟩=some (.int .i64 c.tp):=λp=>(AA.get Z p).2.1.1;have Ep:∀p':AA Sx,p'.w.cell? ⟨w.heap.size+1,2,none⟩=some (.int .i64 c.to):=λp=>(AA.get Z p).2.1.2;have Ey:∀p':AA Sx,p'.w.cell? ⟨w.heap.size+1,3,none⟩=some (.int .i64 c.lm):=λp=>(AA.get Z p).2.2.1.1;have Eh:∀p':AA Sx,p'.w.cell? ⟨w.heap.size+1,4,none⟩=some (.int .i64 c.bk):=λp=>(AA.get Z p).2.2.1.2;have En:∀p':AA Sx,p'.w.cell? ⟨w.heap.size+1,5,none⟩=some (.int .i64 c.st):=λp=>(AA.get Z p).2.2.2.1;have Io:∀p':AA Sx,p'.w.cell? ⟨w.heap.size+1,6,none⟩=some (.int .i64 c.ah):=λp=>(AA.get Z p).2.2.2.2;have Em:=ι Z
   have Mc:Hid (∀W,Gr w3 W->∃p:AA Sx,W=p.w):=⟨λW gW=>by
    have l3:=Yd.o.lt;have l5:=E.o.lt;refine AA.of ?_;rw[Em.o]
    exact⟨⟨(gW.cell l3 0).trans x3,(gW.cell l5 0).trans Mi⟩,⟨(gW.cell l5 1).trans Od,(gW.cell l5 2).trans Ok⟩,⟨(gW.cell l5 3).trans Nl,(gW.cell l5 4).trans Ow⟩,(gW.cell l5 5).trans Nn,(gW.cell l5 6).trans Mo⟩⟩
   have Yi:Hid (∀W,AB (λi=>w3.heap.size<=i) w3 W->∃p:AA Sx,W=p.w):=⟨λW tW=>Mc.o W ((tW.mono (T:=λ_=>False) (λi hi h=>absurd hi (ξh h))).gr)⟩;have Xg:Hid (∀W,AB (λi=>w3.heap.size<=i) w3 W->Gr w3 W):=⟨λW tW=>(tW.mono (T:=λ_=>False) (λi hi h=>absurd hi (ξh h))).gr⟩;obtain⟨i0,Ip,Ld,Mp,Ns⟩:=info_parts ZHF;have Iz:Hid (i0.bytes*nb<=281474976710656):=⟨by rw[Ns];omega⟩;have Ew:Hid (nb<=maxLen):=⟨by unfold maxLen;omega⟩;have Me:Hid (nb*1<=16777216):=⟨by omega⟩;have U:Sx w3.drew:=by obtain⟨p,hp⟩:=Mc.o _ (Gr.refl w3).drew;rw[hp];exact p.h
   have O:Inhabited (AA Sx):=⟨⟨_,U⟩⟩;have Nf:Sx w3.drew.drew:=by obtain⟨p,hp⟩:=Mc.o _ ((Gr.refl w3).drew.drew);rw[hp];exact p.h
   clear Z x3 Mi Od Ok Nl Ow Nn Mo;refine VMF Sx [0,1,2,3,4,7] #[true,true,true,true,true,false,false,true,false,false,false,false,false,false,false] [(5,[]),(6,[5]),(8,[5]),(9,[]),(10,[]),(11,[6,8,9,10]),(12,[11]),(13,[]),(14,[12,13])] (OpI w3 q p m nb c) GM (by kernel_rfl) (by kernel_rfl) Nf ?_ ⟨?_,?_,?_,?_,?_,?_,?_,?_,?_,trivial⟩ ?_
   ·simp only[AC,ζ,ξ]
    repeat(go_big_quiet_step (fail))
    refine ψ ?_;refine⟨pP q,.agg #[.int .i64 c.fr,.int .i64 c.tp,.int .i64 c.to,.int .i64 c.lm,.int .i64 c.bk,.int .i64 c.st,.int .i64 c.ah],pP p,pP m,pP p,undef,undef,pP p,undef,undef,undef,undef,undef,undef,by simp only[Act.put,ζg,ζs,ζm],?_⟩;refine⟨rfl,rfl,rfl,rfl,rfl,rfl,(λh=>by cases h),(λh=>by cases h),(λh=>by cases h),(λh=>by cases h),(λh=>by cases h),(λh=>by cases h),(λh=>by cases h),(λh=>by cases h),(λh=>by cases h),(λh=>by cases h),?_⟩;exact((Gr.refl w3).drew.drew).touch _
   ·rintro D a W ⟨Xe,Xi,Xk,Xj,Xb,Xc,Xm,Xa,Xn,Xl,Xo,Xf,Xh,Xd,rfl,hJ⟩ I hk hd;clear I;simp only[AC,ζ,ξ,Act.put,ζg,ζs,ζm];have HJ:=ι hJ;have HK:=ι hk;have HD:=ι hd;have Xp:=ι (Xg.o W hJ.t);obtain rfl:=hJ.e59;clear hJ hk hd;gi_wp2_with(refine⟨trivial,?_⟩;gi_at_call 158;refine(β.2 (Zx.o W Xp.o)).mono ?_;rintro e w4 ⟨rfl,G⟩);refine⟨Yi.o _ ?_,Xe,Xi,Xk,Xj,pP p,.int .i64 nb,Xm,Xa,Xn,Xl,Xo,Xf,Xh,Xd,by simp only[Act.put,ζg,ζs,ζm],?_⟩
    ·exact HJ.o.t.trans (G.touch _)
    ·have Y:=HJ.o.gr G;have hk:=HK.o;have hd:=HD.o;exact⟨Y.e55,Y.e56,Y.e57,Y.e58,Y.e59,Y.e62,(λ_=>rfl),Y.e61,Y.e63,Y.e64,Y.e65,Y.ne,Y.e66,Y.e67,Y.e13,Y.d14,Y.t⟩
   ·rintro D a W ⟨Xe,Xi,Xk,Xj,Xb,Xc,Xm,Xa,Xn,Xl,Xo,Xf,Xh,Xd,rfl,hJ⟩ I hk hd;clear I;simp only[AC,ζ,ξ,Act.put,ζg,ζs,ζm];have HJ:=ι hJ;have HK:=ι hk;have HD:=ι hd;have Xp:=ι (Xg.o W hJ.t);obtain rfl:=hJ.e60 (hd 5 (by simp));clear hJ hk hd;gi_wp2_with(gi_at_make;refine V63 _ rfl _ _ 198 rfl 0 4 i0 (.bool false) 1 underlying198 Ip Ld Mp .i64 .i64 nb rfl rfl Me.o Iz.o Ew.o (ζe _) ?_;intro w4 Zy Ja);have G:Gr W w4:=(J1 Ja (λ_=>False) (λk e _=>by cases e)).gr;rw[show (Value.bool false).cells=#[.bool false]from rfl,J0U,ξz]at Zy;have Is:=ι Zy;clear Zy Ja;gi_wp2;refine⟨Yi.o _ ?_,Xe,Xi,Xk,Xj,Xb,.int .i64 nb,.slice (some ⟨W.heap.size,0,none⟩) nb nb,Xa,Xn,Xl,Xo,Xf,Xh,Xd,by simp only[Act.put,ζg,ζs,ζm],?_⟩
    ·exact HJ.o.t.trans (G.touch _)
    ·have Y:=HJ.o.gr G;have hk:=HK.o;have hd:=HD.o;exact⟨Y.e55,Y.e56,Y.e57,Y.e58,Y.e59,Y.e62,Y.e60,(λ_=>⟨W.heap.size,rfl,Is.o,Xp.o.size⟩),Y.e63,Y.e64,Y.e65,Y.ne,(λd=>by have h:=(HJ.o.e66 d).1;rw[hk]at h;cases h),(λd=>by have h:=(HJ.o.e66 (HJ.o.e67 d).1).1;rw[hk]at h;cases h),Y.e13,Y.d14,Y.t⟩
   ·rintro D a W ⟨Xe,Xi,Xk,Xj,Xb,Xc,Xm,Xa,Xn,Xl,Xo,Xf,Xh,Xd,rfl,hJ⟩ I hk hd;clear I;simp only[AC,ζ,ξ,Act.put,ζg,ζs,ζm];have HJ:=ι hJ;have HK:=ι hk;have HD:=ι hd;have Xp:=ι (Xg.o W hJ.t);obtain rfl:=hJ.e62;clear hJ hk hd;gi_wp2_with(refine⟨trivial,?_⟩;gi_at_call 158;refine(β.2 (Zx.o W Xp.o)).mono ?_;rintro e w4 ⟨rfl,G⟩);refine⟨Yi.o _ ?_,Xe,Xi,Xk,Xj,Xb,Xc,Xm,pP p,.int .i64 nb,Xl,Xo,Xf,Xh,Xd,by simp only[Act.put,ζg,ζs,ζm],?_⟩
    ·exact HJ.o.t.trans (G.touch _)
    ·have Y:=HJ.o.gr G;have hk:=HK.o;have hd:=HD.o;exact⟨Y.e55,Y.e56,Y.e57,Y.e58,Y.e59,Y.e62,Y.e60,Y.e61,(λ_=>rfl),Y.e64,Y.e65,Y.ne,(λd=>by have h:=(HJ.o.e66 d).2.1;rw[hk]at h;cases h),(λd=>by have h:=(HJ.o.e66 (HJ.o.e67 d).1).2.1;rw[hk]at h;cases h),Y.e13,Y.d14,Y.t⟩
   ·rintro D a W ⟨Xe,Xi,Xk,Xj,Xb,Xc,Xm,Xa,Xn,Xl,Xo,Xf,Xh,Xd,rfl,hJ⟩ I hk hd;clear I;simp only[AC,ζ,ξ,Act.put,ζg,ζs,ζm];have HJ:=ι hJ;have HK:=ι hk;have HD:=ι hd;have Xp:=ι (Xg.o W hJ.t);clear hJ hk hd;refine Ya9 W rfl _ rfl ?_;gi_wp2;have G:Gr W (W.alloc (.map #[] 0)):=(Gr.refl W).alloc _;refine⟨Yi.o _ ?_,Xe,Xi,Xk,Xj,Xb,Xc,Xm,Xa,Xn,.map (some W.heap.size),Xo,Xf,Xh,Xd,by simp only[Act.put,ζg,ζs,ζm],?_⟩
    ·exact HJ.o.t.trans (G.touch _)
    ·have Y:=HJ.o.gr G;have hk:=HK.o;have hd:=HD.o;exact⟨Y.e55,Y.e56,Y.e57,Y.e58,Y.e59,Y.e62,Y.e60,Y.e61,Y.e63,(λ_=>⟨W.heap.size,rfl,BF.made W,Xp.o.size⟩),Y.e65,(λ_ d e=>by obtain⟨b,h1,h2,-⟩:=HJ.o.e65 d;rw[h1]at e;have:=h2.lt;simp only[Value.map.injEq,Option.some.injEq]at e;omega),(λd=>by have h:=(HJ.o.e66 d).2.2.1;rw[hk]at h;cases h),(λd=>by have h:=(HJ.o.e66 (HJ.o.e67 d).1).2.2.1;rw[hk]at h;cases h),Y.e13,Y.d14,Y.t⟩
   ·rintro D a W ⟨Xe,Xi,Xk,Xj,Xb,Xc,Xm,Xa,Xn,Xl,Xo,Xf,Xh,Xd,rfl,hJ⟩ I hk hd;clear I;simp only[AC,ζ,ξ,Act.put,ζg,ζs,ζm];have HJ:=ι hJ;have HK:=ι hk;have HD:=ι hd;have Xp:=ι (Xg.o W hJ.t);clear hJ hk hd;refine Ya9 W rfl _ rfl ?_;gi_wp2;have G:Gr W (W.alloc (.map #[] 0)):=(Gr.refl W).alloc _;refine⟨Yi.o _ ?_,Xe,Xi,Xk,Xj,Xb,Xc,Xm,Xa,Xn,Xl,.map (some W.heap.size),Xf,Xh,Xd,by simp only[Act.put,ζg,ζs,ζm],?_⟩
    ·exact HJ.o.t.trans (G.touch _)
    ·have Y:=HJ.o.gr G;have hk:=HK.o;have hd:=HD.o;exact⟨Y.e55,Y.e56,Y.e57,Y.e58,Y.e59,Y.e62,Y.e60,Y.e61,Y.e63,Y.e64,(λ_=>⟨W.heap.size,rfl,BF.made W,Xp.o.size⟩),(λd _ e=>by obtain⟨b,h1,h2,-⟩:=HJ.o.e64 d;rw[h1]at e;have:=h2.lt;simp only[Value.map.injEq,Option.some.injEq]at e;omega),(λd=>by have h:=(HJ.o.e66 d).2.2.2.1;rw[hk]at h;cases h),(λd=>by have h:=(HJ.o.e66 (HJ.o.e67 d).1).2.2.2.1;rw[hk]at h;cases h),Y.e13,Y.d14,Y.t⟩
   ·rintro D a W ⟨Xe,Xi,Xk,Xj,Xb,Xc,Xm,Xa,Xn,Xl,Xo,Xf,Xh,Xd,rfl,hJ⟩ I hk hd;clear I;simp only[AC,ζ,ξ,Act.put,ζg,ζs,ζm];have HJ:=ι hJ;have HK:=ι hk;have HD:=ι hd;have Xp:=ι (Xg.o W hJ.t);obtain rfl:=hJ.e56;obtain rfl:=hJ.e55;obtain rfl:=hJ.e57;obtain rfl:=hJ.e58;obtain rfl:=hJ.e63 (hd 8 (by simp));obtain⟨Yh,rfl,-,-⟩:=hJ.e61 (hd 6 (by simp));obtain⟨J,rfl,-,-⟩:=hJ.e64 (hd 9 (by simp));obtain⟨V,rfl,-,-⟩:=hJ.e65 (hd 10 (by simp));clear hJ hk hd;gi_wp2;have G:Gr W W:=Gr.refl W;refine⟨Yi.o _ ?_,pP q,.agg #[.int .i64 c.fr,.int .i64 c.tp,.int .i64 c.to,.int .i64 c.lm,.int .i64 c.bk,.int .i64 c.st,.int .i64 c.ah],pP p,pP m,Xb,Xc,.slice (some ⟨Yh,0,none⟩) nb nb,Xa,.int .i64 nb,.map (some J),.map (some V),.agg #[pP q,.int .i64 c.fr,.int .i64 c.tp,.int .i64 c.to,.int .i64 c.lm,.int .i64 c.bk,.int .i64 c.st,.int .i64 c.ah,pP p,pP m,.slice (some ⟨Yh,0,none⟩) nb nb,.int .i64 nb,.int .i64 0,.int .i64 0,.map (some J),.map (some V)],Xh,Xd,by simp only[Act.put,ζg,ζs,ζm],?_⟩
    ·exact HJ.o.t.trans (G.touch _)
    ·have Y:=HJ.o.gr G;have hk:=HK.o;have hd:=HD.o;exact⟨Y.e55,Y.e56,Y.e57,Y.e58,Y.e59,Y.e62,Y.e60,Y.e61,Y.e63,Y.e64,Y.e65,Y.ne,(λ_=>⟨hd 6 (by simp),hd 8 (by simp),hd 9 (by simp),hd 10 (by simp),rfl⟩),(λd=>by have h:=(HJ.o.e67 d).1;rw[hk]at h;cases h),Y.e13,Y.d14,Y.t⟩
   ·rintro D a W ⟨Xe,Xi,Xk,Xj,Xb,Xc,Xm,Xa,Xn,Xl,Xo,Xf,Xh,Xd,rfl,hJ⟩ I hk hd;clear I;simp only[AC,ζ,ξ,Act.put,ζg,ζs,ζm];have HJ:=ι hJ;have HK:=ι hk;have HD:=ι hd;have Xp:=ι (Xg.o W hJ.t);obtain⟨d6,d8,Na,Ov,rfl⟩:=hJ.e66 (hd 11 (by simp));obtain rfl:=hJ.e56;obtain rfl:=hJ.e55;obtain rfl:=hJ.e57;obtain rfl:=hJ.e58;obtain rfl:=hJ.e63 d8;obtain⟨Yh,rfl,-,-⟩:=hJ.e61 d6;obtain⟨J,rfl,-,-⟩:=hJ.e64 Na;obtain⟨V,rfl,-,-⟩:=hJ.e65 Ov;have Vx:=ι (Rec.new W 220 [pP q,.int .i64 c.fr,.int .i64 c.tp,.int .i64 c.to,.int .i64 c.lm,.int .i64 c.bk,.int .i64 c.st,.int .i64 c.ah,pP p,pP m,.slice (some ⟨Yh,0,none⟩) nb nb,.int .i64 nb,.int .i64 0,.int .i64 0,.map (some J),.map (some V)]);have Zv:=ι ((Gr.refl W).alloc (.cells #[.pointer (some ⟨q,0,none⟩),.int .i64 c.fr,.int .i64 c.tp,.int .i64 c.to,.int .i64 c.lm,.int .i64 c.bk,.int .i64 c.st,.int .i64 c.ah,.pointer (some ⟨p,0,none⟩),.pointer (some ⟨m,0,none⟩),.slice (some ⟨Yh,0,none⟩) nb nb,.int .i64 nb,.int .i64 0,.int .i64 0,.map (some J),.map (some V)] 220));clear d6 d8 Na Ov;clear hJ hk hd;gi_wp2;refine⟨Yi.o _ ?_,pP q,.agg #[.int .i64 c.fr,.int .i64 c.tp,.int .i64 c.to,.int .i64 c.lm,.int .i64 c.bk,.int .i64 c.st,.int .i64 c.ah],pP p,pP m,Xb,Xc,.slice (some ⟨Yh,0,none⟩) nb nb,Xa,.int .i64 nb,.map (some J),.map (some V),.agg #[pP q,.int .i64 c.fr,.int .i64 c.tp,.int .i64 c.to,.int .i64 c.lm,.int .i64 c.bk,.int .i64 c.st,.int .i64 c.ah,pP p,pP m,.slice (some ⟨Yh,0,none⟩) nb nb,.int .i64 nb,.int .i64 0,.int .i64 0,.map (some J),.map (some V)],pP W.heap.size,Xd,by simp only[Act.put,ζg,ζs,ζm],?_⟩
    ·exact HJ.o.t.trans (Zv.o.touch _)
    ·have Y:=HJ.o.gr Zv.o;have hk:=HK.o;have hd:=HD.o;exact⟨Y.e55,Y.e56,Y.e57,Y.e58,Y.e59,Y.e62,Y.e60,Y.e61,Y.e63,Y.e64,Y.e65,Y.ne,Y.e66,(λ_=>⟨hd 11 (by simp),W.heap.size,rfl,Xp.o.size,Vx.o⟩),(λd=>by obtain⟨b,h1,h2,h3⟩:=Y.e13 d;refine⟨b,h1,h2,?_⟩;cases h14:D 14 with|true=>(have:=(HJ.o.d14 h14).1;rw[hk]at this;cases this)|false=>(have e:upD D 12 14=false:=h14;rw[h14]at h3;rw[e];exact h3)),(λd=>⟨rfl,(Y.d14 d).2⟩),Y.t⟩
   ·rintro D a W ⟨Xe,Xi,Xk,Xj,Xb,Xc,Xm,Xa,Xn,Xl,Xo,Xf,Xh,Xd,rfl,hJ⟩ I hk hd;clear I;simp only[AC,ζ,ξ,Act.put,ζg,ζs,ζm];have HJ:=ι hJ;have HK:=ι hk;have HD:=ι hd;have Xp:=ι (Xg.o W hJ.t);have Vx:=ι (Rec.new W 90 [.pointer none]);have Zv:=ι ((Gr.refl W).alloc (.cells #[.pointer none] 90));clear hJ hk hd;gi_wp2;refine⟨Yi.o _ ?_,Xe,Xi,Xk,Xj,Xb,Xc,Xm,Xa,Xn,Xl,Xo,Xf,Xh,pP W.heap.size,by simp only[Act.put,ζg,ζs,ζm],?_⟩
    ·exact HJ.o.t.trans (Zv.o.touch _)
    ·have Y:=HJ.o.gr Zv.o;have hk:=HK.o;have hd:=HD.o;exact⟨Y.e55,Y.e56,Y.e57,Y.e58,Y.e59,Y.e62,Y.e60,Y.e61,Y.e63,Y.e64,Y.e65,Y.ne,Y.e66,Y.e67,(λ_=>⟨W.heap.size,rfl,Xp.o.size,by cases h14:D 14 with|true=>(have:=(HJ.o.d14 h14).2;rw[hk]at this;cases this)|false=>(have e:upD D 13 14=false:=h14;rw[e];exact Vx.o)⟩),(λd=>⟨(Y.d14 d).1,rfl⟩),Y.t⟩
   ·rintro D a W ⟨Xe,Xi,Xk,Xj,Xb,Xc,Xm,Xa,Xn,Xl,Xo,Xf,Xh,Xd,rfl,hJ⟩ I hk hd;clear I;simp only[AC,ζ,ξ,Act.put,ζg,ζs,ζm];have HJ:=ι hJ;have HK:=ι hk;have HD:=ι hd;obtain⟨Yr,rfl,Uu,Ye⟩:=hJ.e13 (hd 13 (by simp));obtain⟨Ej,Jg,rfl,Nc,Oc⟩:=hJ.e67 (hd 12 (by simp));have Yo:=ι Ye;rw[hk]at Ye;have q0:=Ye.cc 0;have qf:=Ye.free 0;have ql:=Ye.lt;have Uk:=ι Uu;clear hJ hk hd Ye Oc Ej Nc Uu;gi_wp2;have tS:AB (λi=>i=Yr) W (W.setCell ⟨Yr,0,none⟩ (.pointer (some ⟨Jg,0,none⟩))):=(AB.refl (λi=>i=Yr) W).setCell (a:=⟨Yr,0,none⟩) (λ_=>rfl) _;have Ex:=Yo.o.set 0 (pP Jg);have tT:AB (λi=>w3.heap.size<=i) w3 (W.setCell ⟨Yr,0,none⟩ (.pointer (some ⟨Jg,0,none⟩))):=HJ.o.t.trans (tS.mono (λi _ h=>by rw[h];exact Uk.o));have hJ:=HJ.o;refine⟨Yi.o _ tT,Xe,Xi,Xk,Xj,Xb,Xc,Xm,Xa,Xn,Xl,Xo,Xf,pP Jg,pP Yr,by simp only[Act.put,ζg,ζs,ζm],?_⟩;exact⟨hJ.e55,hJ.e56,hJ.e57,hJ.e58,hJ.e59,hJ.e62,hJ.e60,(λd=>by obtain⟨b,h1,h2,h3⟩:=hJ.e61 d;exact⟨b,h1,BS h2 tS (λg' hg=>by rw[h1]at hg;cases hg;exact AN (by rw[h1]at h2;exact h2) Yo.o (by decide) rfl rfl),h3⟩),hJ.e63,(λd=>by obtain⟨b,h1,h2,h3⟩:=hJ.e64 d;exact⟨b,h1,h2.touch tS (h2.ne (IK Yo.o)),h3⟩),(λd=>by obtain⟨b,h1,h2,h3⟩:=hJ.e65 d;exact⟨b,h1,h2.touch tS (h2.ne (IK Yo.o)),h3⟩),hJ.ne,hJ.e66,(λd=>by obtain⟨h0,b,h1,h2,h3⟩:=hJ.e67 d;exact⟨h0,b,h1,h2,h3.touch tS (AN h3 Yo.o (by decide) rfl rfl)⟩),(λ_=>⟨Yr,rfl,Uk.o,Ex⟩),(λ_=>⟨HD.o 12 (by simp),HD.o 13 (by simp)⟩),tT⟩
   ·rintro D a W ⟨Xe,Xi,Xk,Xj,Xb,Xc,Xm,Xa,Xn,Xl,Xo,Xf,Xh,Xd,rfl,hJ⟩ I Uo;clear I;have M:∀j,j<15->D j=true:=Uo;obtain⟨Yh,rfl,Uq,Ud⟩:=hJ.e61 (M 6 Ω);obtain rfl:=hJ.e60 (M 5 Ω);obtain rfl:=hJ.e63 (M 8 Ω);obtain⟨J,rfl,Uf,Ua⟩:=hJ.e64 (M 9 Ω);obtain⟨V,rfl,Ju,Ui⟩:=hJ.e65 (M 10 Ω);obtain⟨-,-,-,-,rfl⟩:=hJ.e66 (M 11 Ω);obtain⟨-,y,rfl,Mw,Mq⟩:=hJ.e67 (M 12 Ω);obtain⟨bx,rfl,Ii,Vv⟩:=hJ.e13 (M 13 Ω);rw[M 14 Ω]at Vv;obtain rfl:=hJ.e55;obtain rfl:=hJ.e56;obtain rfl:=hJ.e57;obtain rfl:=hJ.e58;obtain rfl:=hJ.e59;obtain rfl:=hJ.e62;have Uh:J≠V:=λe=>hJ.ne (M 9 Ω) (M 10 Ω) (by rw[e]);have Jk:=ι hJ.t;have Ox:=ι Uq;have Yk:=ι Uf;have Yj:=ι Ju;have Zr:=ι Mq;have Yu:=ι Vv;have Iv:=ι (ϑ Ud (ϑ Ua (ϑ Ui (ϑ Mw (ϑ Ii Uh)))));clear hJ Uo M Uq Ud Uf Ua Ju Ui Mw Mq Ii Vv Uh;refine τ ?_;simp only[Act.put,ζg,ζs,ζm];clear y3 Im Lj Ep Ey Eh En Io U O Nf;have hzW:=Jk.o.size;have HG3W:Hid (Gr w3 W):=⟨Xg.o W Jk.o⟩;have Vh:=Yu.o.cc 0;have Uv:=Yu.o.lt;gi_wp2_with(refine⟨trivial,?_⟩;gi_at_call 132;refine(β.2 (J3 (some ⟨m,0,none⟩))).mono ?_;rintro e w5 ⟨rfl,rfl⟩);obtain⟨W5,Jf⟩:∃W5,W5=W.alloc (.cells #[.pointer (some ⟨m,0,none⟩)] 103):=⟨_,rfl⟩;have Xx:Gr W W5:=by rw[Jf];exact(Gr.refl W).alloc _
    have hs5:W5.heap.size=W.heap.size+1:=by rw[Jf,γ]
    have k5:W5.cell? ⟨W.heap.size,0,none⟩=some (pP m):=by rw[Jf];exact(Boxed.new W 103 (pP m)).cell
    rw[<-Jf];clear Jf Vh Uv;obtain⟨Ik,Lc,Lb,gy,gx,Vg⟩:=Iv.o;have l64:=Yk.o.lt;have l65:=Yj.o.lt;have ly:=Zr.o.lt;have lx:=Yu.o.lt;have n64y:=Yk.o.ne (IK Zr.o);have n65y:=Yj.o.ne (IK Zr.o);have n64x:=Yk.o.ne (IK Yu.o);have n65x:=Yj.o.ne (IK Yu.o);have hml:=HX.o.hm;have hp1l:=HX.o.v1.hp;have hb1l:=HX.o.v1.hb;have hp2l:=HX.o.v2.hp;have hb2l:=HX.o.v2.hb;have hz3:=Xs.o.size;obtain⟨s,Zu⟩:∃s,s=AY v c L:=⟨_,rfl⟩;have Mb:s.L=L:=by rw[Zu];rfl
    have Us:s.pg=v.pl.pg:=by rw[Zu];rfl
    have Uw:s.n=v.n:=by rw[Zu];rfl
    have Zk:=ι (ϑ Mb (ϑ Us (ϑ Uw Zu)));have Ou:Hid (AO s.n s.L):=⟨by rw[Uw,Mb];exact HX.o.good⟩;have Iw:=ι (Vk.o.gr Xs.o);have Yt:Hid (∀A,AB (λi=>(i=J\/i=V)\/W5.heap.size<=i) W5 A->AB (λi=>w3.heap.size<=i) w3 A):=⟨λA t=>(Jk.o.trans (Xx.touch _)).trans (t.mono (λi _ h=>by omega))⟩
    have HK:Hid (∀A,AB (λi=>(i=J\/i=V)\/W5.heap.size<=i) W5 A->((A.cell? ⟨bx,0,none⟩=some (pP y)/\A.cell? ⟨y,14,none⟩=some (.map (some J)))/\A.cell? ⟨y,15,none⟩=some (.map (some V))/\A.cell? ⟨w.heap.size,0,none⟩=some (pP q))):=⟨λA t=>by
     have r1:=(Yu.o.gr Xx).touch t Ω;have r2:=(Zr.o.gr Xx).touch t Ω;have g3:=Xg.o A (Yt.o A t)
     exact⟨⟨r1.cc 0,r2.cc 14⟩,r2.cc 15,(g3.cell Yd.o.lt 0).trans (Yd.o.cc 0)⟩⟩
    have Vb:Hid (∀A,AB (λi=>(i=J\/i=V)\/W5.heap.size<=i) W5 A->AD A (AE (AE S w) w1) q v):=⟨λA t=>Iw.o.gr (Xg.o A (Yt.o A t))⟩
    have Nb:Hid (∀A,AB (λi=>(i=J\/i=V)\/W5.heap.size<=i) W5 A->Ext A m p1 b1 p2 b2 v.n L/\AP A):=⟨λA t=>by
     have g3:=Xg.o A (Yt.o A t)
     exact⟨(HX.o.gr Xs.o).gr g3,g3.tab (Xs.o.tab Yl.o.lt Yl.o).lt (Xs.o.tab Yl.o.lt Yl.o)⟩⟩
    have Lh:Hid (OpA W5 W5 J V v s 0 0):=⟨OpA.zero (Yk.o.gr Xx) (Yj.o.gr Xx)⟩;have Yq:Hid (J<W5.heap.size/\V<W5.heap.size/\J≠V):=⟨by omega⟩;have HZ0:Hid (sizes (L.take 0)=0):=⟨rfl⟩;have Eo:=ι k5;have hwl:w.heap.size<w3.heap.size:=Yd.o.lt;clear Zu Mb Us Uw k5
    refine LQ (K:=4) (s0:=0) rfl Ω (gf:=173) (lb:=#[pP W.heap.size]) rfl trivial (enters_of func173 (by kernel_rfl) rfl)
     (OO _ W.heap.size m p1 b1 p2 b2 v.n L _) (λ_=>rfl)
     (λ(j:Nat) A=>j<=L.length/\OpA W5 A J V v s j (sizes (L.take j))) (λ_ _=>False) (λj A B h t=>⟨h.1,h.2.win Yq.o.1 Yq.o.2.1 t⟩) (λ_ _ _ h _=>h)
     (λj A h=>⟨(Nb.o A h.2.t).1,(Nb.o A h.2.t).2,(h.2.t.cell Ω Ω 0).trans Eo.o,h.1⟩)
     ⟨ζe _,Lh.o⟩ ?round ?done (λ_ _ _ _ h _=>h.elim)
    case round=>
     intro lp j x W6 Nt Le Ys;dsimp only[GQ];gi_wp2;refine⟨Gr.refl _,λW7 ht7 Zl=>?_⟩
     have Xy:j<L.length:=by
      rcases ω j L.length with h|h
      ·exact h
      ·unfold EQ at Ys;rw[ζv h]at Ys;cases Ys
     obtain rfl:x=L[j]:=by unfold EQ at Ys;rw[ζb Xy]at Ys;exact(Option.some.inj Ys).symm
     obtain⟨Mm,Zq,-⟩:=HI.o.1.mkd.ats _ (χ Xy);obtain⟨-,-,Et,Lm,Ev,Vo,Eu⟩:=F4 Zq;have Yp:=ι Zl.2;have Vq:=(HX.o.good.sz _ (χ Xy)).2;have Xz:=ι (FF Xy);have Nm:j<s.L.length:=by rw[Zk.o.1];exact Xy
     have Lf:=ι Nm;have My:s.L[j]=L[j]:=by simp only[Zk.o.1]
     have Za:Hid (∀t,t<L[j].2->AH s.L (sizes (L.take j)+t)=L[j].1+t/\sizes (L.take j)+t<sizes s.L):=⟨λt ht=>by
      have h1:=JN Xy;rw[Zk.o.1]
      exact⟨YZF Xy ht,by omega⟩⟩
     obtain⟨n5,f5,Jd,Oq,Op⟩:=Zl.2.sh;have Lk:=ι Jd;have Nk:=ι (ϑ Oq Op);have Jb:∀B,BF prog 3 B V (n5+1) (λy=>if y=((L[j].1:Nat):Int)then some (AJ (v.rdH (L[j].1:Nat)))else f5 y)->AB (λi=>i=V) W7 B->OpA W5 B J V v s (j+1) (sizes (L.take j)):=λB hm t=>Yp.o.hdr Lf.o Yq.o.2.2 Nk.o.1 Nk.o.2 Ou.o (by rw[My];exact hm) t;rw[Vo]at Jb;have Zp:=ι Jb;have Zo:=ι (λ(W:World) (gW:Gr W7 W)=>O1 ((Vb.o W7 Yp.o.t).gr gW) ((L[j].1:Nat):Int));rw[Zq,Vo]at Zo;unfold AJ at Zo;unfold spV at Zo
     have hn5b:n5<=1048576:=by
      have h2:=FW HX.o.good;have h4:=Y0x HX.o.good;omega
     have Oz:Hid (n5<maxLen):=⟨by unfold maxLen;omega⟩;have Jc:Hid (sizes (L.take j)+L[j].2<=1048576):=⟨by have h1:=JN Xy;have h2:=FW HX.o.good;omega⟩;obtain⟨sa,Va⟩:∃sa,sa=L[j].1:=⟨_,rfl⟩;obtain⟨sz,Jn⟩:∃sz,sz=L[j].2:=⟨_,rfl⟩;obtain⟨mm,Ma⟩:∃mm,mm=sizes (L.take j):=⟨_,rfl⟩;have HSA:=ι (ϑ Va (ϑ Jn Ma));rw[<-Va]at Zo Za Zp Vq⊢;rw[<-Jn]at Za Vq Xz Jc⊢;rw[<-Ma]at Za Zp Xz Jc Yp;have Oh:Hid ((Lit.int .i64 (sa:Int)).wf=true):=⟨WalkArith.wf_i64 Ω⟩;have Mx:=ι (ϑ Nt ht7.size);have HJL:=ι Xy;have hsab:sa+sz<=524288:=Ω
     clear Le Zl Ys ht7 Va Jn Ma Nm My Mm Zq Vo Eu Jd Oq Op Jb Vq;have kk:=HK.o _ Yp.o.t;have k1:=kk.1.1;have k3:=kk.2.1;have k4:=kk.2.2;clear kk
     have Oj:Hid (∀W',Gr W7 W'->W'.cell? ⟨bx,0,none⟩=some (pP y)/\W'.cell? ⟨y,15,none⟩=some (.map (some V))/\W'.cell? ⟨w.heap.size,0,none⟩=some (pP q)):=⟨λW' gW=>by
      have h:=HK.o W' (Yp.o.t.trans (gW.touch _))
      exact⟨h.1.1,h.2⟩⟩
     gi_upto_region 16 with(fail);obtain⟨Sx,Z,HS⟩:=AA.start λW'=>W'.cell? ⟨bx,0,none⟩=some (pP y)/\W'.cell? ⟨y,15,none⟩=some (.map (some V))/\W'.cell? ⟨w.heap.size,0,none⟩=some (pP q);have y1:=AA.fact Z λ_ h=>h.1;have y2:=AA.fact Z λ_ h=>h.2.1;have y3:=AA.fact Z λ_ h=>h.2.2;have U:=HS.o (W7.drew) (Oj.o _ (Gr.refl W7).drew);have O:Inhabited (AA Sx):=⟨⟨_,U⟩⟩;clear Z;refine GB Sx 13 [([0,1,2,3,4,5,6,7],8),([9,10,11],12)] [] (λ_=>trivial) (by kernel_rfl) (by kernel_rfl) U ?_;refine C4 ?_
     try simp only[AC,ζ,ξ]
     repeat(go_big_quiet_step (fail))
     refine ψ ?_;gi_wp2_with((refine⟨trivial,?_⟩;gi_at_call 69;refine(CallsIn.inRound lp (β.2 (Zo.o _ (Gr.refl W7).drew))).mono ?_;rintro e w8 ⟨rfl,On⟩;have Zn:=ι ((Gr.refl W7).drew.trans On);clear On));refine⟨.inr (AA.of (HS.o _ (Oj.o _ Zn.o))),?_⟩;refine C4 ?_
     try simp only[AC,ζ,ξ]
     repeat(go_big_quiet_step (fail))
     refine ψ ?_;gi_wp2_with((gi_at_mapUpdate;refine Y7w _ rfl _ _ _ 218 rfl 3 63 JD underlying218 underlying3 V n5 f5 rfl (Lk.o.gr Zn.o) Oz.o (sa:Int) (.agg #[.int .i64 Et,.int .i64 Lm,.int .i64 Ev]) rfl rfl Oh.o ?_;intro w9 Nj Oe;have Ez:=ι Nj;have Vn:=ι Oe;clear Nj Oe));refine⟨.inr (AA.of (HS.o _ ((by have h:=HK.o w9 (Yp.o.t.trans ((Zn.o.touch _).trans (Vn.o.mono (λi _ h=>.inl (.inr h)))));exact⟨h.1.1,h.2⟩)))),?_⟩;refine GE ?_
     try simp only[AC]
     repeat(go_big_quiet_step (fail))
     refine ψ ?_;refine τ ?_;clear y1 y2 y3 U O;clear HS Sx;clear k1 k3 k4;have El:Hid (OpA W5 w9 J V v s (j+1) (mm+0)):=⟨Zp.o w9 Ez.o ((Zn.o.touch _).trans Vn.o)⟩;have Mf:Hid (AB (λi=>i=J\/i=V) W7 w9):=⟨(Zn.o.touch _).trans (Vn.o.mono (λi _ h=>.inr h))⟩;gi_wp2
     gi_loopw [16] (λs16 wr=>∃t A:Nat,t<=sz/\Hid (A=sa+t)/\Hid (OpA W5 wr J V v s (j+1) (mm+t))/\Hid (AB (λi=>i=J\/i=V) W7 wr)/\s16=.int .i64 A) (λs16 _=>sa+sz-(intOf s16).toNat)
     case atStart=>exact⟨0,sa,ζe _,⟨rfl⟩,El,Mf,rfl⟩
     case round=>
      obtain⟨t,A,ht,Zj,HA,Oa,rfl⟩:=hrel;by_cases Xw:t<sz
      ·have Yg:=ι Xw;have Ed:(A:Int)<(sa:Int)+(sz:Int):=by have:=Zj.o;omega
       have La:A<=1048576:=by have:=Zj.o;omega
       obtain⟨e1,e2⟩:=Za.o t Xw;obtain⟨n4,f4,Ze,Ig,Vf⟩:=HA.o.wd;have Mv:=ι (λ(W:World) (gW:Gr wr W)=>IY ((Vb.o wr HA.o.t).gr gW));obtain⟨pg,Xu⟩:∃pg,pg=v.pl.pg:=⟨_,rfl⟩;rw[<-Xu]at Mv Mz;obtain⟨Q,hQ⟩:∃Q,Q=A/pg:=⟨_,rfl⟩;have g1:((A:Int).tdiv (pg:Int))=(Q:Int):=by rw[hQ];rfl
       have g2:((A:Int)/(pg:Int))=(Q:Int):=by rw[hQ];rfl
       have Ol:(pg:Int)≠0:=Ω
       have hQb:Q<=1048576:=by rw[hQ];exact ζa (ζ2 _ _) La
       have Vc:AH s.L (mm+t)/s.pg=Q:=by rw[e1,hQ,Zj.o,Xu,Zk.o.2.1]
       obtain⟨N1,Yn⟩:∃N1,N1=s.on (λi=>decide (i<mm+t)) Q:=⟨_,rfl⟩
       have hN1b:N1<=1048576:=by
        rw[Yn];have h1:=s.on_le (λi=>decide (i<mm+t)) Q;have h2:=FW Ou.o;have h3:=Zk.o.2.2.1;omega
       have Uy:Hid (∀W',Gr wr W'->(Instr.lookup 119 (.map (some J)) (.int .i64 Q) false).run prog W'=.ok (.int .i64 N1) W'):=⟨λW' gW=>by
        rw[(Ze.gr gW).look JD underlying119 underlying3 (WO W') (WalkArith.wf_i64 Ω),Vf Q,Yn]⟩
       have Id:Hid (∀B,BF prog 3 B J (n4+1) (λy=>if y=(Q:Int)then some (.int .i64 ((N1+1:Nat):Int))else f4 y)->AB (λi=>i=J) wr B->OpA W5 B J V v s (j+1) (mm+(t+1))):=⟨λB hmB tB=>by
        have:=HA.o.word e2 Yq.o.2.2 Ig Vf (x:=N1+1) (B:=B) (by rw[Vc,Yn]) (by rw[Vc];exact hmB) tB
        rw[<-ξA];exact this⟩
       have Eg:=ι Ze;have Np:Hid (n4<maxLen):=⟨by have:=Jc.o;unfold maxLen;omega⟩;have No:Hid ((Lit.int .i64 (Q:Int)).wf=true):=⟨WalkArith.wf_i64 Ω⟩;have Ll:(N1:Int)+1=((N1+1:Nat):Int):=by push_cast;rfl
       obtain⟨N2,Jy⟩:∃N2,N2=N1+1:=⟨_,rfl⟩;rw[<-Jy]at Ll Id
       have Oi:Hid (∀W',Gr wr W'->(W'.cell? ⟨bx,0,none⟩=some (pP y)/\W'.cell? ⟨y,14,none⟩=some (.map (some J)))/\W'.cell? ⟨w.heap.size,0,none⟩=some (pP q)/\(Instr.lookup 119 (.map (some J)) (.int .i64 Q) false).run prog W'=.ok (.int .i64 N1) W'):=⟨λW' gW=>by
        have h:=HK.o W' (HA.o.t.trans (gW.touch _))
        exact⟨h.1,h.2.2,Uy.o W' gW⟩⟩
       clear e1 e2 Ze Ig Vf Xu hQ Vc Yn Jy Xw;gi_upto_region 20 with(fail);obtain⟨Sx,Z,HS⟩:=AA.start λW'=>(W'.cell? ⟨bx,0,none⟩=some (pP y)/\W'.cell? ⟨y,14,none⟩=some (.map (some J)))/\W'.cell? ⟨w.heap.size,0,none⟩=some (pP q)/\(Instr.lookup 119 (.map (some J)) (.int .i64 Q) false).run prog W'=.ok (.int .i64 N1) W';have y1:=AA.fact Z λ_ h=>h.1.1;have y2:=AA.fact Z λ_ h=>h.1.2;have y3:=AA.fact Z λ_ h=>h.2.1;have y4:∀p:AA Sx,(Instr.lookup 119 (.map (some J)) (.int .i64 Q) false).run prog p.w=.ok (.int .i64 N1) p.w:=λp=>by have h:=AA.get Z p;exact h.2.2
       have U:=HS.o (wr.drew) (Oi.o _ (Gr.refl wr).drew);have O:Inhabited (AA Sx):=⟨⟨_,U⟩⟩;clear Z;refine GB Sx 10 [([0,1,2,3,4,5],6),([7,8,9],10)] [] (λ_=>trivial) (by kernel_rfl) (by kernel_rfl) U ?_;refine C4 ?_
       try simp only[AC,ζ,ξ]
       repeat(go_big_quiet_step (fail))
       refine ψ ?_;gi_wp2_with((refine⟨trivial,?_⟩;gi_at_call 126;refine(CallsIn.inRound lp (β.2 (Mv.o _ (Gr.refl wr).drew))).mono ?_;rintro e w8 ⟨rfl,rfl⟩));refine⟨.inr (AA.of (HS.o _ (Oi.o _ (Gr.refl wr).drew))),?_⟩;refine C4 ?_
       try simp only[AC,ζ,ξ]
       repeat(go_big_quiet_step (fail))
       refine ψ ?_;gi_wp2_with((gi_at_mapUpdate;refine Y7w _ rfl _ _ _ 119 rfl 3 3 JD underlying119 underlying3 J n4 f4 rfl (Eg.o.gr (Gr.refl wr).drew) Np.o (Q:Int) (.int .i64 N2) rfl rfl No.o ?_;intro Jl Uc Ug;have Ng:=ι Uc;have Mr:=ι Ug;clear Uc Ug));refine⟨.inl trivial,?_⟩;refine GE ?_
       try simp only[AC]
       repeat(go_big_quiet_step (fail))
       refine ψ ?_;refine τ ?_;clear y1 y2 y3 y4 U O;clear HS Sx;have Yx:Hid (AB (λi=>i=J) wr Jl):=⟨((Gr.refl wr).drew.touch _).trans Mr.o⟩;gi_wp2;go_roundw
       case rel=>exact⟨t+1,A+1,Yg.o,⟨by have:=Zj.o;omega⟩,⟨Id.o Jl Ng.o Yx.o⟩,⟨Oa.o.trans (Yx.o.mono (λi _ h=>.inl h))⟩,by go_num⟩
       case measure=>have:=Zj.o;have:=Yg.o;simp[intOf];omega
      ·obtain rfl:t=sz:=Ω
       have Ed:¬(A:Int)<(sa:Int)+(t:Int):=by have:=Zj.o;omega
       clear Xw;gi_wp2;have Jn:=Mx.o;have l4:=Yq.o;refine⟨Oa.o.mono (λi _ h=>.inl (by rcases h with rfl|rfl <;> omega)),j+1,rfl,Xy,?_⟩;rw[Xz.o];exact HA.o
    case done=>
     rintro D j W7 hD rfl Zl hK;have Xv:=Zl.2;rw[ζ3]at Xv;have Yp:=ι Xv;have HKK:=ι (HK.o W7 Xv.t);have hz7:=Xv.t.size;have Ec:=ι Zk.o.2.2.2
     have Nz:Hid (Cyc W7 (λb=>w1.heap.size<=b/\b<W5.heap.size) y q ⟨w2.heap.size,w3.heap.size,p,m,p1,b1,p2,b2,V,Yh,nb,J⟩ (AY v c L)):=⟨by
      have hA:=Xv;rw[Ec.o]at hA
      exact VLI HX.o Xs.o Ve.o ⟨Iq,Zs.o.1,Zs.o.2.1,Zs.o.2.2.1,Zs.o.2.2.2.1,Zs.o.2.2.2.2⟩ (Jk.o.trans (Xx.touch _)) ⟨gy,Ik,Lc,Lb⟩ In.o (Zr.o.gr Xx) (CK Ox.o Xx) (Yk.o.gr Xx) (Yj.o.gr Xx) Vg hA (λi h1 h2 h3 h=>by omega) hA.t⟩
     have It:Hid (AU W7 r g rs):=⟨by
      have h1:=(HR.o.gr Xr.o).touch Yc.o (λh=>Yb.o.2.1 h.1) (λh=>Yb.o.2.2.1 h.1)
      exact(h1.gr Xs.o).gr (Xg.o W7 (Yt.o W7 Xv.t))⟩
     have Ee:=ι (O4 Ie.o Uz.o HI.o (by rw[<-Jh.o];exact ξU Yz.o));have hgl:g<w1.heap.size:=Ω
     have Es:=ι (X9b (λW tW=>Nz.o.touch tW (λk hk e=>by have:=hk.1;omega)) Ee.o It.o);have hmf:∀(fn:Fn) (first cap:Array Value) (w:World),(Instr.makeFunc fn first cap).run prog w=.ok (.func fn first cap) w:=λ_ _ _ _=>rfl;have Uj:=Vb.o W7 Xv.t;have Ix:=ι Uj;have Ub:=(Yd.o.gr (Xg.o W7 (Yt.o W7 Xv.t)));have Ue:=(E.o.gr (Xg.o W7 (Yt.o W7 Xv.t)));have Zc:=(Yu.o.gr Xx).touch Xv.t Ω;have Ei:=ι (ϑ Ub (ϑ Ue Zc));have Vh:=Zc.cc 0;have Uv:=Zc.lt;have Os:=ι hK;have Ny:Hid (D=W5.heap.size):=⟨hD⟩;clear Xv Zl Uj Ub Ue Zc hK hD;gi_upto_region 22 with(refine⟨trivial,?_⟩;gi_at_call 123;refine(β.2 (Es.o)).mono ?_;rintro e w8 ⟨rfl,Ih,Md⟩;have Ym:=ι Ih;have Iu:=ι Md;clear Ih Md);clear Vh Uv;obtain⟨Nr,Ib,Ni⟩:=Ei.o;have Up:=ι (Nr.touch Ym.o (λh=>by omega));have Jw:=ι (Ib.touch Ym.o (λh=>by omega));have Ea:=ι (Ni.touch Ym.o (λh=>by omega));have Og:=ι (Nz.o.touch Ym.o (λk hk e=>by have:=hk.1;omega));have hz8:=Ym.o.size;obtain⟨S5,Vj⟩:∃S5,S5=AE (AE S w) w1:=⟨_,rfl⟩;have Ya:Hid (∀b,S5 b->S b/\b<w.heap.size):=⟨λb hb=>by rw[Vj]at hb;exact hb.1⟩;have Of:AD w8 S5 q v:=by rw[Vj];exact Ix.o.touch Ym.o (λb hb _ h=>Yb.o.2.2.1 (h▸hb.1.1))
     have Om:=ι Of
     have Jq:Hid (w8.heap[D]?=some (.deferred (some []))/\D<w8.heap.size/\W5.heap.size<=D):=⟨by
      have h1:=(ζn.1 Os.o).1;have h2:=Ny.o
      exact⟨(Ym.o.block D h1 Ω).trans Os.o,by omega,by omega⟩⟩
     have Mn:=ι (λ(W:World) (g':Gr w8 W)=>IY (Om.o.gr g'));obtain⟨pg,Xu⟩:∃pg,pg=v.pl.pg:=⟨_,rfl⟩;have Zb:=ι Xu;rw[<-Xu]at Mn Mz;obtain⟨q0,Zz⟩:∃q0,q0=c.fr/pg:=⟨_,rfl⟩;have Ut:q0*pg<=c.fr:=by rw[Zz];exact ζj c.fr pg
     have Vw:=ι Zz;have Er:=ι Ut;have g1:((c.fr:Int).tdiv (pg:Int))=(q0:Int):=by rw[Zz];rfl
     have g2:((c.fr:Int)/(pg:Int))=(q0:Int):=by rw[Zz];rfl
     have Ol:(pg:Int)≠0:=Ω
     have hq0n:q0<=524288:=by have:=ζ2 c.fr pg;omega
     have Mh:Hid (UmO w8 w8.drew S5 q (AY v c L) v q0 0 pg c.tp):=⟨(Gr.refl w8).drew.touch _,⟨S5,v,λb h=>.inl h,Om.o.gr (Gr.refl w8).drew,EZ.zero Ie.o q0⟩,λi hi=>absurd hi (ζI _)⟩;have u1:=Up.o.cc 0;have u2:=Jw.o.cc 0;clear Nr Ib Ni Of Xu Zz Ut Vj;obtain⟨Sx,Z,HS⟩:=AA.start λW'=>W'.cell? ⟨w.heap.size,0,none⟩=some (pP q)/\W'.cell? ⟨w.heap.size+1,0,none⟩=some (.int .i64 c.fr);have x1:=AA.fact Z λ_ h=>h.1;have x2:=AA.fact Z λ_ h=>h.2;have U:=HS.o (w8.drew) (⟨u1,u2⟩);have O:Inhabited (AA Sx):=⟨⟨_,U⟩⟩;clear Z;refine GB Sx 6 [([0,1,2],3)] [4,5] GM (by kernel_rfl) (by kernel_rfl) U ?_;refine C4 ?_
     try simp only[AC,ζ,ξ]
     repeat(go_big_quiet_step (fail))
     refine ψ ?_;gi_wp2_with((refine⟨trivial,?_⟩;gi_at_call 126;refine(β.2 (Mn.o _ (Gr.refl w8).drew)).mono ?_;rintro e w9 ⟨rfl,rfl⟩));refine⟨.inr (AA.of (HS.o _ (⟨u1,u2⟩))),?_⟩;refine GE ?_
     try simp only[AC,ζ,ξ]
     repeat(go_big_quiet_step (fail))
     refine ψ ?_;refine τ ?_;clear x1 x2 U O;clear HS Sx;clear u1 u2;gi_wp2
     gi_loopw [17] (λs17 wx=>∃j:Nat,Hid (UmO w8 wx S5 q (AY v c L) v q0 j pg c.tp)/\s17=.int .i64 ((q0+j:Nat):Int)) (λs17 _=>c.tp-(intOf s17).toNat*pg)
     case atStart=>exact⟨0,Mh,rfl⟩
     case round=>
      clear Mh;obtain⟨j,HU,rfl⟩:=hrel;obtain⟨Sj,v',Nv,Vy,Vp⟩:=HU.o.vm;have Vu:=λ(W:World) (g':Gr wr W)=>IY (Vy.gr g');rw[Vp.pg,<-Zb.o]at Vu;have Jv:=ι Vu;have Vd:=ι Vy;have Xz:=ι Nv;have Vl:=ι Vp;have Jx:=ι (Up.o.touch HU.o.t (λh=>by have:=(Ya.o _ h).2;omega));have If:=ι (Jw.o.touch HU.o.t (λh=>by have:=(Ya.o _ h).2;omega));have Yy:=ι (Ea.o.touch HU.o.t (λh=>by have:=(Ya.o _ h).2;omega));have Zd:=ι (Og.o.touch HU.o.t (λk hk h=>by have:=hk.1;have:=(Ya.o _ h).2;omega));obtain⟨qq,Zw⟩:∃qq,qq=q0+j:=⟨_,rfl⟩;obtain⟨pp,Zf⟩:∃pp,pp=qq*pg:=⟨_,rfl⟩
      have hppb:pp<=1048576:=by
       rcases ζB j with h0|h0
       ·rw[Zf,Zw,h0,ξn];have:=Er.o;omega
       ·have:=HU.o.q1 (j-1) Ω;have e:pp=(q0+(j-1))*pg+pg:=by rw[Zf,Zw,show q0+j=(q0+(j-1))+1 by omega,ξj,ξF]
        omega
      have hqb:qq<=pp:=by rw[Zf];exact ξ3 _ Ω
      have hmul:((qq:Int)*(pg:Int))=(pp:Int):=by rw[Zf];push_cast;rfl
      have Xt:=ι (ϑ Zw Zf);rw[<-Zw];have u1:=Jx.o.cc 0;have u2:=If.o.cc 1;clear Vu Vy Nv Zw Zf Vp;by_cases Xw:pp<c.tp
      ·have e1:decide ((pp:Int)<(c.tp:Int))=true:=θ Ω;have e2:decide (pp<c.tp)=true:=θ Xw;have Yg:=ι Xw;have Zt:=S6 (Zd.o.gr (Gr.refl wr).drew).wd (q:=qq) Ω;have Nu:(AY v c L).on (λi=>!(AY v c L).is i) qq=(AY v c L).on (λ_=>true) qq:=Sl.on_congr λi _=>by rw[LR];rfl
       rw[Nu]at Zt;obtain⟨N1,Yn⟩:∃N1,N1=(AY v c L).on (λ_=>true) qq:=⟨_,rfl⟩;have Oy:=ι Yn;rw[<-Yn]at Zt;have Uy:=ι Zt;clear Xw Yn Nu Zt;gi_upto_region 23 with(fail);obtain⟨Sx,Z,HS⟩:=AA.start λW'=>W'.cell? ⟨w.heap.size,0,none⟩=some (pP q)/\W'.cell? ⟨w.heap.size+1,1,none⟩=some (.int .i64 c.tp);have x1:=AA.fact Z λ_ h=>h.1;have x2:=AA.fact Z λ_ h=>h.2;have U:=HS.o (wr.drew) (⟨u1,u2⟩);have O:Inhabited (AA Sx):=⟨⟨_,U⟩⟩;clear Z;refine GB Sx 7 [([0,1,4,5],2)] [3,6] GM (by kernel_rfl) (by kernel_rfl) U ?_;refine C4 ?_
       try simp only[AC,ζ,ξ]
       repeat(go_big_quiet_step (fail))
       refine ψ ?_;gi_wp2_with((refine⟨trivial,?_⟩;gi_at_call 126;refine(β.2 (Jv.o _ (Gr.refl wr).drew)).mono ?_;rintro e Jl ⟨rfl,rfl⟩));refine⟨.inr (AA.of (HS.o _ (⟨u1,u2⟩))),?_⟩;refine GE ?_
       try simp only[AC,ζ,ξ]
       repeat(go_big_quiet_step (fail))
       refine ψ ?_;refine τ ?_;clear x1 x2 U O;clear HS Sx;have z1:=(Yy.o.gr (Gr.refl wr).drew).cell (j:=0) rfl;have zl:=(Yy.o.gr (Gr.refl wr).drew).lt;have z2:=(Zd.o.gr (Gr.refl wr).drew).rc.cell (j:=14) rfl;have zl2:=(Zd.o.gr (Gr.refl wr).drew).rc.lt;have Zt:=Uy.o;have u3:=Jx.o.lt;have Eq:=(Gr.refl wr).drew.size;have Ij:=HU.o.t.size;by_cases hz:N1=0
       ·have d0:((N1:Int)==0)=true:=by simp[hz]
        have HZ:=ι hz;clear hz;gi_wp2_with(refine⟨trivial,?_⟩;gi_at_call 127;refine(β.2 (NB (Vd.o.gr (Gr.refl wr).drew) (qq:Int))).mono ?_;rintro e w11 ⟨rfl,Um,Ur⟩;have Yx:=ι Um;have Oo:=ι Ur;clear Um Ur);go_roundw
        case rel=>
         refine⟨j+1,⟨⟨?_,⟨plus Sj wr.drew,_,λb hb=>?_,Oo.o,?_⟩,λi hi=>?_⟩⟩,?_⟩
         ·exact(HU.o.t.trans ((Gr.refl wr).drew.touch _)).trans' Yx.o (λb hb h=>(Xz.o b h).elim id (λh=>by omega))
         ·rcases hb with h|h
          ·exact Xz.o b h
          ·right;omega
         ·have:=Vl.o.drop (j:=j) (by rw[<-Xt.o.1,<-Oy.o];exact HZ.o);rw[<-Xt.o.1]at this;exact this
         ·rcases ω i j with h|h
          ·exact HU.o.q1 i h
          ·obtain rfl:i=j:=Ω
           rw[<-Xt.o.1,<-Xt.o.2];exact Yg.o
         ·rw[show q0+(j+1)=qq+1 by rw[Xt.o.1];omega]
          go_num
        case measure=>
         have h1:=Yg.o;have h2:=Xt.o.2;simp only[intOf];rw[show ((qq:Int)+1).toNat=qq+1 by omega,η,ξj,ξF,<-h2];omega
       ·have d0:((N1:Int)==0)=false:=by simp;exact hz
        have HZ:=ι hz;clear hz;gi_wp2;go_roundw
        case rel=>
         refine⟨j+1,⟨⟨HU.o.t.trans ((Gr.refl wr).drew.touch _),⟨Sj,_,Xz.o,Vd.o.gr (Gr.refl wr).drew,?_⟩,λi hi=>?_⟩⟩,?_⟩
         ·exact Vl.o.keep (j:=j) (by rw[<-Xt.o.1,<-Oy.o];exact HZ.o)
         ·rcases ω i j with h|h
          ·exact HU.o.q1 i h
          ·obtain rfl:i=j:=Ω
           rw[<-Xt.o.1,<-Xt.o.2];exact Yg.o
         ·rw[show q0+(j+1)=qq+1 by rw[Xt.o.1];omega]
          go_num
        case measure=>
         have h1:=Yg.o;have h2:=Xt.o.2;simp only[intOf];rw[show ((qq:Int)+1).toNat=qq+1 by omega,η,ξj,ξF,<-h2];omega
      ·have e1:decide ((pp:Int)<(c.tp:Int))=false:=φ Ω;have e2:decide (pp<c.tp)=false:=φ Xw;have Yg:=ι Xw;clear Xw;gi_upto_region 23 with(fail);obtain⟨Sx,Z,HS⟩:=AA.start λW'=>W'.cell? ⟨w.heap.size,0,none⟩=some (pP q)/\W'.cell? ⟨w.heap.size+1,1,none⟩=some (.int .i64 c.tp);have x1:=AA.fact Z λ_ h=>h.1;have x2:=AA.fact Z λ_ h=>h.2;have U:=HS.o (wr.drew) (⟨u1,u2⟩);have O:Inhabited (AA Sx):=⟨⟨_,U⟩⟩;clear Z;refine GB Sx 7 [([0,1,4,5],2)] [3,6] GM (by kernel_rfl) (by kernel_rfl) U ?_;refine C4 ?_
       try simp only[AC,ζ,ξ]
       repeat(go_big_quiet_step (fail))
       refine ψ ?_;gi_wp2_with((refine⟨trivial,?_⟩;gi_at_call 126;refine(β.2 (Jv.o _ (Gr.refl wr).drew)).mono ?_;rintro e Jl ⟨rfl,rfl⟩));refine⟨.inr (AA.of (HS.o _ (⟨u1,u2⟩))),?_⟩;refine GE ?_
       try simp only[AC,ζ,ξ]
       repeat(go_big_quiet_step (fail))
       refine ψ ?_;refine τ ?_;clear x1 x2 U O;clear HS Sx;clear u1 u2;have z1:=(Yy.o.gr (Gr.refl wr).drew).cell (j:=0) rfl;have zl:=(Yy.o.gr (Gr.refl wr).drew).lt;gi_wp2;have Ij:=HU.o.t.size;have Eq:=(Gr.refl wr).drew.size;have Jz:¬S5 D:=λh=>by have:=(Ya.o _ h).2;have:=Jq.o.2.2;omega
       have Ek:wr.drew.heap[D]?=some (.deferred (some [])):=by
        have h2:=Jq.o.2.1;rw[(Gr.refl wr).drew.block Ω,HU.o.t.block D h2 Jz];exact Jq.o.1
       refine⟨by simp,.inl ⟨_,_,rfl,run_takeDeferred Ek,?_⟩⟩;have tt:=DU wr.drew D (.deferred none);have hD0:=Ny.o;refine⟨.tuple #[pP y,.int .i64 0],?_,?_,.inr ⟨L,HI.o,.inr ⟨by have h1:=Yz.o;have h2:=Jh.o;omega,y,_,_,Sj,v',j,rfl,(Zd.o.gr (Gr.refl wr).drew).touch tt (λk hk e=>by have:=hk.2;omega),(Vd.o.gr (Gr.refl wr).drew).touch tt (λb hb _ h=>?_),λb hb=>?_,λb hb=>⟨?_,λh=>?_⟩,?_,?_,?_,?_⟩⟩⟩
       ·simp[results,f107,go_sem]
       ·have a1:AB (λb=>b=g\/S b) w w1:=Xr.o.touch _;have a2:=a1.trans (Yc.o.mono (λi _ h=>.inr h.1));have a3:=a2.trans ((Xs.o.trans (Xg.o W7 (Yt.o W7 Yp.o.t))).touch _);have a4:=a3.trans (Ym.o.mono (λi _ h=>.inl h));have a5:=a4.trans (HU.o.t.mono (λi _ h=>.inr (Ya.o i h).1));exact(a5.trans ((Gr.refl wr).drew.touch _)).trans' tt (λb hb h=>by omega)
       ·rcases Xz.o b hb with h'|h'
        ·exact Jz (h▸h')
        ·have:=Jq.o.2.1;omega
       ·rcases Xz.o b hb with h'|h'
        ·exact .inl (Ya.o b h').1
        ·right;omega
       ·have:=hb.1;omega
       ·rcases Xz.o b h with h'|h'
        ·have:=(Ya.o b h').2;have:=hb.1;omega
        ·have:=hb.2;omega
       ·rw[<-Zb.o,<-Vw.o];exact Vl.o
       ·rw[<-Zb.o,<-Vw.o,<-Xt.o.1,<-Xt.o.2];have:=Yg.o;omega
       ·intro i hi;rw[<-Zb.o,<-Vw.o];exact HU.o.q1 i hi
       ·exact((Iu.o.touch HU.o.t (λh=>Yb.o.2.1 (Ya.o r h).1) (λh=>Yb.o.2.2.1 (Ya.o g h).1)).gr (Gr.refl wr).drew).touch tt (λh=>by omega) (λh=>by omega)
 ·clear z3 Jj Jo Zm Jr Zi Ji Jm Js Zh;have Ia:=ι Ic;clear Ic;gi_wp2;refine⟨.tuple #[.pointer none,.int .i64 25],?_,?_,.inl ⟨Ia.o,rfl,Vk.o.mono (λb hb=>hb.1.1),(HR.o.gr Xr.o).touch Yc.o (λh=>Yb.o.2.1 h.1) (λh=>Yb.o.2.2.1 h.1)⟩⟩
  ·simp[results,f107,go_sem]
  ·have a1:AB (λb=>b=g\/S b) w w1:=Xr.o.touch _;exact a1.trans (Yc.o.mono (λi _ h=>.inr h.1))
end
end
end Go.Proofs.YteihjlcmjecmfaaGreatDoor
