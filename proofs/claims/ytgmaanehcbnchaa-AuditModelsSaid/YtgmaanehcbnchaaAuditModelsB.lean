/- Part 2 of what AuditModels leans on: my own lemmas, merged by shake.py. -/
import Derived.Test.YtgmaanehcbnchaaAuditModelsA
import Derived.Deep.MidRow
import Derived.Defers
import Derived.Recover
import Derived.Laws.Pointers
import Derived.Maps.OwnSet
import Derived.Maps.OwnIn
namespace Go.Proofs.Ytgmaanehcbnchaa
open _root_.Go.Proofs.Try
set_option maxHeartbeats 3200000
set_option maxRecDepth 100000
section
section
open Go.RowKit Word
theorem Ym8{m by':Nat}(hb:by'<=4096)(w:World):Calls prog 74 #[.int .u64 m,.int .i64 by'] w λe w'=>e=.returned (.tuple #[.int .i64 (by' / 64:Nat),.int .u64 (m*2 ^ (by' % 64)%18446744073709551616:Nat),.int .u64 (m/2 ^ (64-by' % 64):Nat)])/\Gr w w':=by
 have e1:((by':Int).tdiv 64)=((by' / 64:Nat):Int):=rfl;have e2:((by':Int).tmod 64)=((by' % 64:Nat):Int):=rfl;have ho:by' % 64<64:=ζn _ (by decide)
 have ha:by' / 64<=64:=Ω
 generalize by' / 64=at' at e1 ha⊢
 generalize by' % 64=off at e2 ho⊢
 have e3:IntKind.u64.wrap ((m:Int)*2 ^ off)=((m*2 ^ off%18446744073709551616:Nat):Int):=by
  rw[ζx,Int.natCast_emod,ξB,Int.natCast_pow];rfl
 have e4:((m:Int)/2 ^ (64-off))=((m/2 ^ (64-off):Nat):Int):=by rw[Int.natCast_ediv,Int.natCast_pow];rfl
 have H3:=hid e3;have H4:=hid e4;clear e3 e4;go_enter func74,ntmps74;go_upto_region 2 with(fail);go_quiet (fail);go_wp2;rw[H3.o,H4.o];refine ζt (v:=.tuple #[.int .i64 at',.int .u64 (m*2 ^ off%18446744073709551616:Nat),.int .u64 (m/2 ^ (64-off):Nat)]) ?_ rfl ⟨rfl,(Gr.refl w).drewN _⟩;simp[results,results74,go_sem]
def QHK(w:World)(p:Nat)(s:SmS)(b:Nat)(w':World):Prop:=if sgN<=b then VZM w p s (JHm (b-sgN)) w' else XPU w p s (JHm b) w'
theorem Qbi{b:Nat}(h:b<QXS):Qub b/64+1<35/\Yf9 b*2 ^ (Qub b%64)%18446744073709551616<18446744073709551616/\Yf9 b/2 ^ (64-Qub b%64)<18446744073709551616 ∧
  (Yf9 b*2 ^ (Qub b%64)%18446744073709551616+18446744073709551616*(Yf9 b/2 ^ (64-Qub b%64)))*18446744073709551616 ^ (Qub b/64)=JHm b:=by
 have h1:=Vyu (ζG h);have h2:=V6a b;have h3:Yf9 b/2 ^ (64-Qub b%64)<=Yf9 b:=ζ5 _ _;have h4:=ZW9 (m:=Yf9 b) (off:=Qub b%64) (ζn _ (by decide));have h5:=Xll (Yf9 b) (Qub b);refine⟨by omega,ζn _ (by decide),by omega,?_⟩;rw[Z2l]
 show (_%2 ^ 64+2 ^ 64*_)*(2 ^ 64) ^ _=_
 rw[h4,h5]
theorem Y51{b x:Nat}(hx:x=b%sgN)(h:x<QXS):b/4503599627370496%2048=x/4503599627370496/\b%4503599627370496=x%4503599627370496/\x/4503599627370496<=2046:=by
 unfold sgN at hx;unfold QXS at h;omega
theorem QFO{w:World}{p:Nat}{s:SmS}(h:Qnw w p s){b:Nat}(hb:b<18446744073709551616)(hf:b%sgN<QXS):Calls prog 63 #[.pointer (some ⟨p,0,none⟩),.float .f64 b] w λe w'=>e=.returned (.tuple #[])/\QHK w p s b w':=by
 obtain⟨x,hx⟩:∃x,x=b%sgN:=⟨_,rfl⟩;rw[<-hx]at hf;obtain⟨q1,q2,q3⟩:=Y51 hx hf;obtain⟨i1,i2,i3,i4⟩:=Qbi hf
 have HE:Hid (QHK w p s b=if sgN<=b then VZM w p s (JHm x)else XPU w p s (JHm x)):=⟨by
  funext w'
  unfold QHK;by_cases hs:sgN<=b
  ·rw[χ hs,χ hs,show x=b-sgN by unfold sgN at hx hs⊢;omega]
  ·rw[ν hs,ν hs,show x=b by unfold sgN at hx hs;omega]⟩
 have HS:=hid (λ(W:World)=>Ym8 (m:=Yf9 x) (by':=Qub x) (by have:=Vyu (ζG hf);omega) W);have HP:=hid (λ(W:World) (gg:Gr w W)=>Qmn (h.gr gg) i1 i2 i3);have HM:=hid (λ(W:World) (gg:Gr w W)=>Yk8 (h.gr gg) i1 i2 i3);rw[i4]at HP HM;clear i4;obtain⟨at',hat⟩:∃at',at'=Qub x/64:=⟨_,rfl⟩;obtain⟨lo,hlo⟩:∃lo,lo=Yf9 x*2 ^ (Qub x%64)%18446744073709551616:=⟨_,rfl⟩;obtain⟨hi,hhi⟩:∃hi,hi=Yf9 x/2 ^ (64-Qub x%64):=⟨_,rfl⟩;rw[<-hat,<-hlo,<-hhi]at HS HP HM;clear hat hlo hhi i1 i2 i3;have hm1:Yf9 x=if x/4503599627370496=0 then x%4503599627370496 else x%4503599627370496+4503599627370496:=rfl
 have he1:Qub x=x/4503599627370496-1:=rfl;have g1:=VsF hb;have g2:bits .and .u64 (((b/4503599627370496:Nat):Int)) 2047=((b/4503599627370496%2048:Nat):Int):=Y5q Ω;rw[q2]at g1;rw[q1]at g2;have g3:((b:Int)/4503599627370496)=((b/4503599627370496:Nat):Int):=rfl;have hmm:=ζn x (show 0<4503599627370496 by decide);generalize b/4503599627370496=q at g2 g3;generalize x%4503599627370496=mm at g1 hm1 hmm;generalize x/4503599627370496=ee at g2 hm1 he1 q3
 have g4:bits .or .u64 (mm:Int) 4503599627370496=((mm+4503599627370496:Nat):Int):=by
  have e:(4503599627370496:Int)=((1*4503599627370496:Nat):Int):=rfl;rw[e,bits_or_u64_nat mm _ Ω Ω,XEA mm 1 52 4503599627370496 (by decide) hmm,ξl,ξd]
 have g5:IntKind.i64.wrap (ee:Int)=(ee:Int):=ξF _ Ω;generalize Yf9 x=mt at hm1 HS;generalize Qub x=ex at he1 HS;generalize JHm x=V at HE HP HM;have HB:=hid (λW=>ZYt b W);have HG:=hid (λW=>Zvp b hb W)
 have hcs:(ee=0/\mt=mm/\ex=0)\/(0<ee/\mt=mm+4503599627370496/\ex=ee-1):=by
  by_cases h0:ee=0
  ·rw[χ h0]at hm1;exact .inl ⟨h0,hm1,by omega⟩
  ·rw[ν h0]at hm1;exact .inr ⟨by omega,hm1,he1⟩
 rw[HE.o]
 have hsg:(sgN<=b/\decide (sgN<=b)=true)\/(¬sgN<=b/\decide (sgN<=b)=false):=by
  by_cases hs:sgN<=b
  ·exact .inl ⟨hs,υ hs⟩
  ·exact .inr ⟨hs,π hs⟩
 generalize decide (sgN<=b)=sb at HG hsg;have HW:Hid (∀W W',Gr w W->XPU W p s V W'->XPU w p s V W'):=⟨λW W' gg hh=>⟨(gg.touch _).trans hh.1,hh.2⟩⟩;have HW2:Hid (∀W W',Gr w W->VZM W p s V W'->VZM w p s V W'):=⟨λW W' gg hh=>⟨(gg.touch _).trans hh.1,hh.2⟩⟩;clear hx hm1 he1 HE hf h;rcases hcs with⟨rfl,rfl,rfl⟩|⟨h0,rfl,rfl⟩
 ·have HS0:Hid (∀W,Calls prog 74 #[.int .u64 mt,.int .i64 0] W λe w'=>e=.returned (.tuple #[.int .i64 at',.int .u64 lo,.int .u64 hi])/\Gr W w'):=⟨HS.o⟩;have g20:bits .and .u64 (q:Int) 2047=0:=g2;clear HS g2;rcases hsg with⟨hs,rfl⟩|⟨hs,rfl⟩
  ·rw[χ hs];clear hs hb;go_enter func63,ntmps63
   go_wp2_with(first
    | (go_at_call 9;refine(HB.o _).mono ?_;rintro e w1 ⟨rfl,rfl⟩)
    | (go_at_call 74;refine(HS0.o _).mono ?_;rintro e w1 ⟨rfl,hg⟩;have HGG:=hid hg;clear hg)
    | (go_at_call 62;refine(HG.o _).mono ?_;rintro e w2 ⟨rfl,rfl⟩)
    | (go_at_call 75;refine(HM.o _ HGG.o).mono ?_;rintro e w2 ⟨rfl,hend⟩;have HEN:=hid hend;clear hend))
   exact ζK (ζJ rfl _ _ _) rfl ⟨rfl,HW2.o _ _ HGG.o HEN.o⟩
  ·rw[ν hs];clear hs hb;go_enter func63,ntmps63
   go_wp2_with(first
    | (go_at_call 9;refine(HB.o _).mono ?_;rintro e w1 ⟨rfl,rfl⟩)
    | (go_at_call 74;refine(HS0.o _).mono ?_;rintro e w1 ⟨rfl,hg⟩;have HGG:=hid hg;clear hg)
    | (go_at_call 62;refine(HG.o _).mono ?_;rintro e w2 ⟨rfl,rfl⟩)
    | (go_at_call 76;refine(HP.o _ HGG.o).mono ?_;rintro e w2 ⟨rfl,hend⟩;have HEN:=hid hend;clear hend))
   exact ζK (ζJ rfl _ _ _) rfl ⟨rfl,HW.o _ _ HGG.o HEN.o⟩
 ·have e0:(0:Int)<ee:=Ω
  have e1:((ee:Int)-1)=((ee-1:Nat):Int):=Ω
  generalize ee-1=ex at e1 HS;generalize mm+4503599627370496=mt at g4 HS;rcases hsg with⟨hs,rfl⟩|⟨hs,rfl⟩
  ·rw[χ hs];clear hs hb h0;go_enter func63,ntmps63
   go_wp2_with(first
    | (go_at_call 9;refine(HB.o _).mono ?_;rintro e w1 ⟨rfl,rfl⟩)
    | (go_at_call 74;refine(HS.o _).mono ?_;rintro e w1 ⟨rfl,hg⟩;have HGG:=hid hg;clear hg)
    | (go_at_call 62;refine(HG.o _).mono ?_;rintro e w2 ⟨rfl,rfl⟩)
    | (go_at_call 75;refine(HM.o _ HGG.o).mono ?_;rintro e w2 ⟨rfl,hend⟩;have HEN:=hid hend;clear hend))
   exact ζK (ζJ rfl _ _ _) rfl ⟨rfl,HW2.o _ _ HGG.o HEN.o⟩
  ·rw[ν hs];clear hs hb h0;go_enter func63,ntmps63
   go_wp2_with(first
    | (go_at_call 9;refine(HB.o _).mono ?_;rintro e w1 ⟨rfl,rfl⟩)
    | (go_at_call 74;refine(HS.o _).mono ?_;rintro e w1 ⟨rfl,hg⟩;have HGG:=hid hg;clear hg)
    | (go_at_call 62;refine(HG.o _).mono ?_;rintro e w2 ⟨rfl,rfl⟩)
    | (go_at_call 76;refine(HP.o _ HGG.o).mono ?_;rintro e w2 ⟨rfl,hend⟩;have HEN:=hid hend;clear hend))
   exact ζK (ζJ rfl _ _ _) rfl ⟨rfl,HW.o _ _ HGG.o HEN.o⟩
end
end
section
section
open Go.RowKit Word
def smT(s:SmS):List Value:=[.bool s.na,.bool s.pl,.bool s.mi,.int .i64 s.ct,.int .i64 s.ze]
section
variable {w w':World} {p:Nat} {s:SmS}
theorem Jgb(s:SmS):smL s=.bool true :: ((s.n.map λx:Nat=>Value.int .u64 x)++smT s):=rfl
theorem Qnw.tail(h:Qnw w p s){k:Nat}{v:Value}(hv:(smT s)[k]?=some v):w.cell? ⟨p,36+k,none⟩=some v:=by
 refine h.row.cell ?_;rw[Jgb,show 36+k=(35+k)+1 by omega,ζ,ξE (by rw[ζc,h.len];omega),ζc,h.len,show 35+k-35=k by omega];exact hv
theorem Qnw.setT(h:Qnw w p s){k:Nat}{v:Value}{s':SmS}(hn:s'.n=s.n)(hv:(smT s).set k v=smT s'):Qnw (w.setCell ⟨p,36+k,none⟩ v) p s':=by
 refine⟨?_,by rw[hn];exact h.len,by rw[hn];exact h.dig⟩;have:=h.row.set (36+k) v;rw[Jgb,show 36+k=(35+k)+1 by omega,ϑ,List.set_append_right _ _ (by rw[ζc,h.len];omega),ζc,h.len,show 35+k-35=k by omega,hv,<-hn,<-Jgb]at this;rw[show 36+k=(35+k)+1 by omega];exact this
end
structure YA5(l:List Nat)(s:SmS):Prop where
 n:(lv 18446744073709551616 s.n:Int)=((Q6E l:Int)-VxH l)%((18446744073709551616 ^ 35:Nat):Int)
 na:s.na=l.any λb=>decide (QXS<b%sgN)
 pl:s.pl=l.any λb=>b==QXS
 mi:s.mi=l.any λb=>b==QXS+sgN
 ct:s.ct=(l.length:Nat)
 ze:s.ze=((l.filter λb=>b==sgN).length:Nat)
def smZ:SmS:=⟨List.replicate 35 0,false,false,false,0,0⟩
theorem YA5.zero:YA5 [] smZ:=by
 refine⟨?_,rfl,rfl,rfl,rfl,rfl⟩;have:lv 18446744073709551616 smZ.n=0:=(JYU (by decide)).2 (λx hx=>List.eq_of_mem_replicate hx);rw[this];rfl
theorem QFq(w:World):Calls prog 50 #[] w λe w'=>e=.returned (.pointer (some ⟨w.heap.size,0,none⟩))/\Gr w w'/\Qnw w' w.heap.size smZ:=by
 have HR:Hid (Qnw (w.alloc (.cells (smL smZ).toArray 127)) w.heap.size smZ):=⟨Rec.new w _ _,by decide,λx hx=>by rw[List.eq_of_mem_replicate hx];decide⟩;go_enter func50,ntmps50;go_wp2;go_ret;exact⟨rfl,(Gr.refl w).alloc _,HR.o⟩
theorem Z8X(l:List Nat)(b:Nat):Q6E (l++[b])=Q6E l+if b<QXS then JHm b else 0:=by simp[Q6E]
theorem Z4j(l:List Nat)(b:Nat):VxH (l++[b])=VxH l+if 9223372036854775808<=b/\b<9223372036854775808+QXS then JHm (b-9223372036854775808)else 0:=by simp[VxH]
theorem YA5.app{l:List Nat}{s s':SmS}(h:YA5 l s){b:Nat}(hn:(lv 18446744073709551616 s'.n:Int)=((Q6E (l++[b]):Int)-VxH (l++[b]))%((18446744073709551616 ^ 35:Nat):Int))(h1:s'.na=(s.na||decide (QXS<b%sgN)))(h2:s'.pl=(s.pl||b==QXS))(h3:s'.mi=(s.mi||b==QXS+sgN))(h4:s'.ct=s.ct+1)
  (h5:s'.ze=s.ze+if b=sgN then 1 else 0):YA5 (l++[b]) s':=by
 refine⟨hn,?_,?_,?_,?_,?_⟩
 ·rw[h1,h.na];simp
 ·rw[h2,h.pl];simp
 ·rw[h3,h.mi];simp
 ·rw[h4,h.ct];simp
 ·rw[h5,h.ze];by_cases hb:b=sgN
  ·simp[hb,List.filter_append]
  ·simp[hb,List.filter_append]
theorem VGu{l:List Nat}{s:SmS}(h:(lv 18446744073709551616 s.n:Int)=((Q6E l:Int)-VxH l)%((18446744073709551616 ^ 35:Nat):Int)){b:Nat}(hf:b%sgN<QXS)(hb:b<18446744073709551616){w w':World}{p:Nat}(he:QHK w p s b w'):XF4 (λk=>k=p) w w'/\∃n,Qnw w' p {s with n:=n}/\(lv 18446744073709551616 n:Int)=((Q6E (l++[b]):Int)-VxH (l++[b]))%((18446744073709551616 ^ 35:Nat):Int):=by
 unfold QHK at he;by_cases hs:sgN<=b
 ·rw[χ hs]at he;obtain⟨t,n,c,h1,h2⟩:=he;refine⟨t,n,h1,?_⟩;have:=Ye6 (K:=18446744073709551616 ^ 35) h (JiS h1.len h1.dig) h2;rw[Z8X,Z4j,ν (show ¬b<QXS by unfold sgN at hs;unfold QXS;omega),χ (show 9223372036854775808<=b/\b<9223372036854775808+QXS by unfold sgN at hs hf;omega),this];congr 1
  show _-(JHm (b-9223372036854775808):Int)=_
  omega
 ·rw[ν hs]at he;obtain⟨t,n,c,h1,h2⟩:=he;refine⟨t,n,h1,?_⟩;have:=XYn (K:=18446744073709551616 ^ 35) h (JiS h1.len h1.dig) h2;rw[Z8X,Z4j,χ (show b<QXS by unfold sgN at hs hf;omega),ν (show ¬(9223372036854775808<=b/\b<9223372036854775808+QXS)by unfold sgN at hs;omega),this];congr 1;omega
end
end
section
section
open Go.RowKit Word
theorem YcQ{l:List Nat}{s:SmS}(h:YA5 l s){b:Nat}(hf:QXS<=b%sgN\/b%sgN=0):(lv 18446744073709551616 s.n:Int)=((Q6E (l++[b]):Int)-VxH (l++[b]))%((18446744073709551616 ^ 35:Nat):Int):=by
 have v0:JHm 0=0:=by decide
 rw[Z8X,Z4j,h.n];congr 1;unfold sgN at hf
 have e1:(if b<QXS then JHm b else 0)=0:=by
  split
  ·rename_i hb;have:b=0:=by unfold QXS at hf hb;omega
   rw[this,v0]
  ·rfl
 have e2:(if 9223372036854775808<=b/\b<9223372036854775808+QXS then JHm (b-9223372036854775808)else 0)=0:=by
  split
  ·rename_i hb;have:b-9223372036854775808=0:=by unfold QXS at hf hb;omega
   rw[this,v0]
  ·rfl
 rw[e1,e2];omega
def QRH(w:World)(p:Nat)(l:List Nat)(w':World):Prop:=XF4 (λk=>k=p) w w'/\∃s',Qnw w' p s'/\YA5 l s'
theorem Zhn{b:Nat}:(ZNP b=4/\QXS<b%sgN)\/(ZNP b=3/\b%sgN=QXS)\/(ZNP b=0/\b%sgN=0)\/((ZNP b=1\/ZNP b=2)/\0<b%sgN/\b%sgN<QXS):=by
 unfold ZNP
 split
 ·exact .inl ⟨rfl,by assumption⟩
 ·split
  ·exact .inr (.inl ⟨rfl,by assumption⟩)
  ·split
   ·exact .inr (.inr (.inr ⟨.inr rfl,by omega,by omega⟩))
   ·split
    ·exact .inr (.inr (.inr ⟨.inl rfl,by omega,by omega⟩))
    ·exact .inr (.inr (.inl ⟨rfl,by omega⟩))
theorem XQS{w:World}{p:Nat}{s:SmS}{l:List Nat}(h:Qnw w p s)(hS:YA5 l s)(hl:l.length<=255){b:Nat}(hb:b<18446744073709551616):Calls prog 51 #[.pointer (some ⟨p,0,none⟩),.float .f64 b] w λe w'=>e=.returned (.tuple #[])/\QRH w p (l++[b]) w':=by
 have HK:=hid (λW=>Y8f b hb W);have HG:=hid (λW=>Zvp b hb W);have hk:=@Zhn b;have c0:w.cell? ⟨p,0,none⟩=some (.bool true):=h.row.cell (j:=0) rfl;have c39:w.cell? ⟨p,39,none⟩=some (.int .i64 s.ct):=h.tail (k:=3) rfl;have cl:=h.row.lt;have zf:=h.row.free;have hct:=hS.ct;have hc1:0<=s.ct/\s.ct<=255:=Ω
 have h1:Qnw (w.setCell ⟨p,39,none⟩ (.int .i64 (s.ct+1))) p {s with ct:=s.ct+1}:=h.setT (k:=3) rfl rfl;have HT0:=hid ((XF4.refl (λk=>k=p) w).setCell (a:=⟨p,39,none⟩) (λ_=>rfl) (.int .i64 (s.ct+1)));obtain⟨ct,hcc⟩:∃ct,ct=s.ct:=⟨_,rfl⟩;rw[<-hcc]at c39 hc1 h1 HT0;have HC:=hid hcc;have HS:=hid hS;clear hct hcc h hS;obtain⟨w1,hw1⟩:∃w1,w1=w.setCell ⟨p,39,none⟩ (.int .i64 (ct+1)):=⟨_,rfl⟩;rw[<-hw1]at h1 HT0;have HW1:=hid hw1;have H1:=hid h1;clear hw1;go_enter func51,ntmps51;go_upto_region 2 with(fail);rw[<-HW1.o];clear c0 c39 cl zf hc1;have cl:=h1.row.lt;have zf:=h1.row.free;have c36:w1.cell? ⟨p,36,none⟩=some (.bool s.na):=h1.tail (k:=0) rfl;have c37:w1.cell? ⟨p,37,none⟩=some (.bool s.pl):=h1.tail (k:=1) rfl;have c38:w1.cell? ⟨p,38,none⟩=some (.bool s.mi):=h1.tail (k:=2) rfl;have c40:w1.cell? ⟨p,40,none⟩=some (.int .i64 s.ze):=h1.tail (k:=4) rfl;clear h1;generalize ZNP b=kd at hk HK;rcases hk with⟨rfl,hx⟩|⟨rfl,hx⟩|⟨rfl,hx⟩|⟨hkd,hx1,hx2⟩
 ·have HX:=hid hx;clear hx;go_wp2_with(go_at_call 61;refine(HK.o _).mono ?_;rintro e w2 ⟨rfl,rfl⟩);refine ζK (ζJ rfl _ _ _) rfl ?_;refine⟨rfl,HT0.o.setCell (a:=⟨p,36,none⟩) (λ_=>rfl) _,{s with ct:=s.ct+1,na:=true},?_,?_⟩
  ·have:=H1.o;rw[HC.o]at this;exact this.setT (k:=0) rfl rfl
  ·have hx:=HX.o;refine HS.o.app (YcQ HS.o (.inl (ζG hx))) (by rw[υ hx,Bool.or_true]) ?_ ?_ rfl ?_
   ·rw[ξq (λe=>by rw[e]at hx;exact absurd hx (by decide)),ξa]
   ·rw[ξq (λe=>by rw[e]at hx;exact absurd hx (by decide)),ξa]
   ·rw[ν (λe=>by rw[e]at hx;exact absurd hx (by decide))];exact(Int.add_zero _).symm
 ·have hgt:∀W,(binOp BinOp.gtr 33 (.float .f64 9218868437227405312) (.float .f64 0)).run prog W=.ok (.bool true) W:=λW=>by kernel_rfl
  have hlt:∀W,(binOp BinOp.lss 33 (.float .f64 9218868437227405312) (.float .f64 0)).run prog W=.ok (.bool false) W:=λW=>by kernel_rfl
  have hgt2:∀W,(binOp BinOp.gtr 33 (.float .f64 18442240474082181120) (.float .f64 0)).run prog W=.ok (.bool false) W:=λW=>by kernel_rfl
  have hlt2:∀W,(binOp BinOp.lss 33 (.float .f64 18442240474082181120) (.float .f64 0)).run prog W=.ok (.bool true) W:=λW=>by kernel_rfl
  have hbv:b=9218868437227405312\/b=18442240474082181120:=by
   unfold sgN QXS at hx;omega
  have HX:=hid hx;clear hx;obtain⟨na,pl,mi,ze,hf⟩:∃na pl mi ze,na=s.na/\pl=s.pl/\mi=s.mi/\ze=s.ze:=⟨_,_,_,_,rfl,rfl,rfl,rfl⟩;rw[<-hf.1]at c36;rw[<-hf.2.1]at c37;rw[<-hf.2.2.1]at c38;rw[<-hf.2.2.2]at c40;have HF:=hid hf;clear hf
  have HFIN:Hid (∀W' pl' mi',XF4 (λk=>k=p) w W'->pl'=(pl||b==QXS)->mi'=(mi||b==QXS+sgN)->Qnw W' p {s with ct:=s.ct+1,pl:=pl',mi:=mi'}->QRH w p (l++[b]) W'):=⟨λW' pl' mi' t e1 e2 hm=>⟨t,_,hm,by
   have hx:=HX.o;refine HS.o.app (YcQ HS.o (.inl Ω)) ?_ (by rw[<-HF.o.2.1];exact e1) (by rw[<-HF.o.2.2.1];exact e2) rfl ?_
   ·rw[π Ω,ξa]
   ·rw[ν (λe=>by rw[e]at hx;exact absurd hx (by decide))];exact(Int.add_zero _).symm⟩⟩
  have HST:Hid (∀(W:World) (x y:Bool),W=(w1.setCell ⟨p,37,none⟩ (.bool x)).setCell ⟨p,38,none⟩ (.bool y)->XF4 (λk=>k=p) w W/\Qnw W p {s with ct:=s.ct+1,pl:=x,mi:=y}):=⟨λW x y e=>by
   subst e;refine⟨(HT0.o.setCell (a:=⟨p,37,none⟩) (λ_=>rfl) _).setCell (a:=⟨p,38,none⟩) (λ_=>rfl) _,?_⟩;have h:=H1.o;rw[HC.o]at h;have h2:Qnw _ p {s with ct:=s.ct+1,pl:=x}:=h.setT (k:=1) rfl rfl
   exact h2.setT (k:=2) rfl rfl⟩
  rcases hbv with rfl|rfl
  all_goals
   cases pl
   all_goals
    cases mi
    all_goals
     go_wp2_with(go_at_call 61;refine(HK.o _).mono ?_;rintro e w2 ⟨rfl,rfl⟩);obtain⟨t,hm⟩:=HST.o _ _ _ rfl;exact ζK (ζJ rfl _ _ _) rfl ⟨rfl,HFIN.o _ _ _ t (by decide) (by decide) hm⟩
 ·have hbv:(b=0/\decide (sgN<=b)=false)\/(b=sgN/\decide (sgN<=b)=true):=by
   unfold sgN at hx⊢;rcases(by omega:b=0\/b=9223372036854775808)with rfl|rfl
   ·exact .inl ⟨rfl,by decide⟩
   ·exact .inr ⟨rfl,by decide⟩
  have hz0:0<=s.ze/\s.ze<=255:=by
   have h1:=HS.o.ze;have h2:=List.length_filter_le (λb=>b==sgN) l;omega
  obtain⟨ze,hze⟩:∃ze,ze=s.ze:=⟨_,rfl⟩;rw[<-hze]at c40 hz0;have HZ:=hid hze;have HX:=hid hx;clear hx hze
  have HFIN:Hid (∀W' z',XF4 (λk=>k=p) w W'->z'=s.ze+(if b=sgN then 1 else 0)->Qnw W' p {s with ct:=s.ct+1,ze:=z'}->QRH w p (l++[b]) W'):=⟨λW' z' t e1 hm=>⟨t,_,hm,by
   have hx:=HX.o;refine HS.o.app (YcQ HS.o (.inr hx)) ?_ ?_ ?_ rfl e1
   ·rw[π (by unfold QXS;omega),ξa]
   ·rw[ξq (λe=>by rw[e]at hx;exact absurd hx (by decide)),ξa]
   ·rw[ξq (λe=>by rw[e]at hx;exact absurd hx (by decide)),ξa]⟩⟩
  rcases hbv with⟨rfl,hb2⟩|⟨rfl,hb2⟩
  ·rw[hb2]at HG;clear hb2
   go_wp2_with(first
    | (go_at_call 61;refine(HK.o _).mono ?_;rintro e w2 ⟨rfl,rfl⟩)
    | (go_at_call 62;refine(HG.o _).mono ?_;rintro e w2 ⟨rfl,rfl⟩))
   refine ζK (ζJ rfl _ _ _) rfl ?_;have h:=H1.o;rw[HC.o]at h;exact⟨rfl,HFIN.o _ s.ze HT0.o (by rw[ν (by decide)];omega) h⟩
  ·rw[hb2]at HG;clear hb2
   go_wp2_with(first
    | (go_at_call 61;refine(HK.o _).mono ?_;rintro e w2 ⟨rfl,rfl⟩)
    | (go_at_call 62;refine(HG.o _).mono ?_;rintro e w2 ⟨rfl,rfl⟩))
   refine ζK (ζJ rfl _ _ _) rfl ?_;have h:=H1.o;rw[HC.o]at h;exact⟨rfl,HFIN.o _ (ze+1) (HT0.o.setCell (a:=⟨p,40,none⟩) (λ_=>rfl) _) (by rw[χ trivial,HZ.o]) (h.setT (k:=4) rfl rfl)⟩
 ·have HN:=hid (QFO H1.o hb hx2);have HX:=hid (ζp hx1 hx2);have HB:=hid hb;clear hx1 hx2 hb c36 c37 c38 c40;rcases hkd with rfl|rfl
  all_goals
   go_wp2_with(first
    | (go_at_call 61;refine(HK.o _).mono ?_;rintro e w2 ⟨rfl,rfl⟩)
    | (go_at_call 63;refine(HN.o).mono ?_;rintro e w2 ⟨rfl,hn⟩;have HNE:=hid hn;clear hn))
   refine ζK (ζJ rfl _ _ _) rfl ?_;obtain⟨hx1,hx2⟩:=HX.o;obtain⟨t,n,h3,h4⟩:=VGu (s:={s with ct:=ct+1}) (l:=l) HS.o.n hx2 HB.o HNE.o;rw[HC.o]at h3;refine⟨rfl,HT0.o.trans t,{s with ct:=s.ct+1,n:=n},h3,?_⟩;refine HS.o.app h4 ?_ ?_ ?_ rfl ?_
   ·rw[π Ω,ξa]
   ·rw[ξq (λe=>by rw[e]at hx2;exact absurd hx2 (by decide)),ξa]
   ·rw[ξq (λe=>by rw[e]at hx2;exact absurd hx2 (by decide)),ξa]
   ·rw[ν (λe=>by rw[e]at hx1;exact absurd hx1 (by decide))];exact(Int.add_zero _).symm
end
end
section
section
open Go.RowKit Word
theorem ZaP{W:World}{b:Nat}{T:TypeId}{xs:List Value}(h:Rec W b T xs):∀(n i:Nat) (acc:Array Value),i+n=xs.length->(loadCellsFrom ⟨b,0,none⟩ i n acc).run prog W=.ok (acc++(xs.drop i).toArray) W:=by
 intro n
 induction n with
 | zero=>
  intro i acc hi;rw[ζY Ω];simp[loadCellsFrom,go_sem]
 | succ n ih=>
  intro i acc hi;have hc:=h.cell (j:=i) (u:=xs[i]' Ω) (μ _);have e:Addr.add ⟨b,0,none⟩ i=⟨b,i,none⟩:=by unfold Addr.add;split <;> simp_all
  unfold loadCellsFrom;simp only[Sem.run_bind];rw[show (load (Addr.add ⟨b,0,none⟩ i)).run prog W=.ok (xs[i]' Ω) W by rw[e];simp[go_sem,hc]];simp only[Result.andThen];rw[ih (i+1) _ Ω,ζ4 (show i<xs.length by omega)];simp
theorem XkM{W:World}{b:Nat}{T:TypeId}{xs:List Value}(h:Rec W b T xs)(hA:(isAgg T).run prog W=.ok true W)(hS:(sizeOf T).run prog W=.ok xs.length W):(loadVar T ⟨b,0,none⟩).run prog W=.ok (.agg xs.toArray) W:=by
 have:=ZaP h xs.length 0 #[] Ω;simp only[ξT,Array.empty_append]at this;simp[loadVar,Sem.run_bind,hA,hS,Result.andThen,loadCells,this,go_sem]
theorem Qwi(a:Addr)(k:FloatKind)(b:Nat)(w:World):(store a (.float k b)).run prog w=stored prog w a (.float k b) .plain:=run_store _ _ _ _ _ rfl
end
end
section
section
open Go.RowKit Word
def lbL(n:List Nat):List Value:=n.map λx:Nat=>Value.int .u64 x
structure Yl8(w:World)(b:Nat)(n:List Nat):Prop where
 row:Rec w b 125 (lbL n)
 len:n.length=35
 dig:∀x∈n,x<18446744073709551616
section
variable {w w':World} {b:Nat} {n:List Nat}
theorem Yl8.limb(h:Yl8 w b n){i:Nat}(hi:i<35):w.cell? ⟨b,i,none⟩=some (.int .u64 (n.getD i 0:Nat)):=by
 refine h.row.cell ?_;unfold lbL;rw[ζr,θ,μ (by rw[h.len];exact hi)];rfl
theorem Yl8.put(h:Yl8 w b n){i y:Nat}(hy:y<18446744073709551616):Yl8 (w.setCell ⟨b,i,none⟩ (.int .u64 (y:Nat))) b (n.set i y):=by
 refine⟨?_,by rw[ζf];exact h.len,JiW h.dig hy⟩;have:=h.row.set i (.int .u64 (y:Nat));unfold lbL at this⊢;rw[ζ8];exact this
theorem Yl8.gr(h:Yl8 w b n)(g:Gr w w'):Yl8 w' b n:=⟨h.row.gr g,h.len,h.dig⟩
theorem Yl8.new(w:World)(hl:n.length=35)(hd:∀x∈n,x<18446744073709551616):Yl8 (w.alloc (.cells (lbL n).toArray 125)) w.heap.size n:=⟨Rec.new w _ _,hl,hd⟩
def lbV(n:List Nat):Value:=.agg (lbL n).toArray
theorem Yaq(w:World):(sizeOf 125).run prog w=.ok 35 w:=by kernel_rfl
theorem Yl8.load(h:Yl8 w b n):(loadVar 125 ⟨b,0,none⟩).run prog w=.ok (lbV n) w:=by
 refine XkM h.row (by kernel_rfl) ?_;have:(lbL n).length=35:=by unfold lbL;rw[ζc];exact h.len
 rw[this];exact Yaq w
end
theorem ZR2{n:List Nat}(hl:n.length=35)(hd:∀x∈n,x<18446744073709551616){at':Nat}(ha:at' / 64<35)(w:World):Calls prog 79 #[lbV n,.int .i64 at'] w λe w'=>e=.returned (.int .u64 (frL n at':Nat))/\Gr w w':=by
 have H:=hid (Yl8.new w hl hd);have e1:((at':Int).tdiv 64)=((at' / 64:Nat):Int):=rfl;have e2:((at':Int).tmod 64)=((at' % 64:Nat):Int):=rfl;have ho:at' % 64<64:=ζn _ (by decide);have c1:=H.o.limb ha;have c2:at' / 64+1<35->(w.alloc (.cells (lbL n).toArray 125)).cell? ⟨w.heap.size,at' / 64+1,none⟩=some (.int .u64 (n.getD (at' / 64+1) 0:Nat)):=λh=>H.o.limb h;have HF:Hid (frL n at'=(n.getD (at' / 64) 0/2 ^ (at' % 64)+n.getD (at' / 64+1) 0*2 ^ (64-at' % 64)%18446744073709551616)%9007199254740992):=⟨rfl⟩;have hx:=XQI (B:=18446744073709551616) (by decide) hd (at' / 64);have hy:=XQI (B:=18446744073709551616) (by decide) hd (at' / 64+1);have hbig:¬at' / 64+1<35->n.getD (at' / 64+1) 0=0:=λh=>by rw[θ,ζO Ω];rfl
 generalize frL n at'=fr at HF⊢;generalize n.getD (at' / 64) 0=x at c1 HF hx;generalize n.getD (at' / 64+1) 0=y at c2 HF hy hbig;generalize at' / 64=q at e1 c1 c2 ha hbig;generalize at' % 64=off at e2 ho HF;have g1:IntKind.i64.wrap (q:Int)=(q:Int):=ξF _ Ω;have h1:((x:Int)/2 ^ off)=((x/2 ^ off:Nat):Int):=by rw[Int.natCast_ediv,Int.natCast_pow];rfl
 have h2:IntKind.u64.wrap ((y:Int)*2 ^ (64-off))=((y*2 ^ (64-off)%18446744073709551616:Nat):Int):=by
  rw[ζx,Int.natCast_emod,ξB,Int.natCast_pow];rfl
 have hyy:y*2 ^ (64-off)%18446744073709551616<18446744073709551616:=ζn _ (by decide);have hxx:x/2 ^ off<18446744073709551616:=ζz (ζ5 _ _) hx;have hlow:x/2 ^ off<2 ^ (64-off):=(ζm (Nat.two_pow_pos _)).2 (by rw[<-Nat.pow_add,show 64-off+off=64 by omega];exact hx)
 have hmul:∃t,t<2 ^ off/\y*2 ^ (64-off)%18446744073709551616=t*2 ^ (64-off):=by
  refine⟨y%2 ^ off,ζn _ (Nat.two_pow_pos _),?_⟩;have e:(18446744073709551616:Nat)=2 ^ off*2 ^ (64-off):=by rw[<-Nat.pow_add,show off+(64-off)=64 by omega]
  rw[e,Nat.mul_mod_mul_right]
 have hsum:x/2 ^ off+y*2 ^ (64-off)%18446744073709551616<18446744073709551616:=by
  obtain⟨t,ht1,ht⟩:=hmul;rw[ht];have e:(18446744073709551616:Nat)=2 ^ off*2 ^ (64-off):=by rw[<-Nat.pow_add,show off+(64-off)=64 by omega]
  rw[e];have:=ξm (2 ^ (64-off)) (show t+1<=2 ^ off by omega);rw[ζV,ξl]at this;omega
 have h3:bits .or .u64 ((x/2 ^ off:Nat):Int) ((y*2 ^ (64-off)%18446744073709551616:Nat):Int)=((x/2 ^ off+y*2 ^ (64-off)%18446744073709551616:Nat):Int):=by
  rw[bits_or_u64_nat _ _ hxx hyy];obtain⟨t,-,ht⟩:=hmul;rw[ht,XEA _ t (64-off) _ rfl hlow,ξd]
 have h4:∀z:Nat,z<18446744073709551616->bits .and .u64 (z:Int) 9007199254740991=((z%9007199254740992:Nat):Int):=λz hz=>by
  have e:(9007199254740991:Int)=((9007199254740991:Nat):Int):=rfl;rw[e,Jp7 z _ hz Ω,show (9007199254740991:Nat)=2 ^ 53-1 from rfl,Nat.and_two_pow_sub_one_eq_mod]
 have k1:=h4 _ hsum;have k2:=h4 _ hxx;obtain⟨X,hX⟩:∃X,X=x/2 ^ off:=⟨_,rfl⟩;obtain⟨Y,hY⟩:∃Y,Y=y*2 ^ (64-off)%18446744073709551616:=⟨_,rfl⟩;rw[<-hX,<-hY]at HF h3 k1;rw[<-hX]at h1 k2;rw[<-hY]at h2;have HGA:=hid ((Gr.refl w).alloc (.cells (lbL n).toArray 125));have HY0:Hid (¬q+1<35->Y=0):=⟨λh=>by rw[hY,hbig h,ζL]⟩;have hwl:w.heap.size<(w.alloc (.cells (lbL n).toArray 125)).heap.size:=by rw[τ];omega
 unfold lbV;obtain⟨w1,hw1⟩:∃w1,w1=w.alloc (.cells (lbL n).toArray 125):=⟨_,rfl⟩;rw[<-hw1]at c1 c2 HGA hwl;have HW1:=hid hw1;have harr:(lbL n).toArray.size=35:=by unfold lbL;simp[hl]
 generalize (lbL n).toArray=arr at HW1 harr⊢;clear hw1 hX hY hmul hsum hxx hyy hlow hx hy hbig hd hl H h4;by_cases hq:q+1<35
 ·have c2':=c2 hq;obtain⟨q1,hqe⟩:∃q1,q1=q+1:=⟨_,rfl⟩;have hq1:((q:Int)+1)=(q1:Int):=Ω
  have hqI:(q1:Int)<35:=Ω
  rw[<-hqe]at c2';clear c2 hq hqe HY0;generalize X+Y=Z at h3 k1 HF;go_enter func79,ntmps79;go_upto_region 1 with(fail);rw[<-HW1.o];go_wp2;go_ret;exact⟨by rw[HF.o];rfl,HGA.o⟩
 ·have hqI:¬((q:Int)+1)<35:=Ω
  have hy0:=HY0.o hq;subst hy0;rw[ζA]at HF;clear c2 HY0 hq;go_enter func79,ntmps79;go_upto_region 1 with(fail);rw[<-HW1.o];go_wp2;go_ret;exact⟨by rw[HF.o];rfl,HGA.o⟩
end
end
section
section
open Go.RowKit Word
def Zbm(n:List Nat)(k:Nat):Prop:=∀x∈n.drop k,x=0
theorem Jyg{n:List Nat}{k:Nat}(h:Zbm n (k+1))(h0:n.getD k 0=0):Zbm n k:=λx hx=>by
 rcases ζj k n.length with hk|hk
 ·rw[ζ4 hk]at hx;rcases ξi.1 hx with rfl|hx
  ·rw[θ,μ hk]at h0;exact h0
  ·exact h x hx
 ·rw[ζY hk]at hx;cases hx
theorem JPH{x:Nat}(hx:x<18446744073709551616):Word.len x=(X3A x:Nat):=by
 unfold Word.len X3A;by_cases h0:x=0
 ·subst h0;rw[χ rfl,VPe (k:=-1) Ω Ω (λi _ _=>Nat.zero_testBit i) (λh=>by omega)];rfl
 ·rw[ν h0];have h1:x.log2<64:=(Nat.log2_lt h0).2 hx
  rw[VPe (k:=(x.log2:Nat)) Ω Ω (λi hi _=>Nat.testBit_lt_two_pow (ζa Nat.lt_log2_self (Nat.pow_le_pow_right (by decide) Ω))) (λ_=>by
   rw[ξk,Nat.testBit_eq_decide_div_mod_eq];have a1:=Nat.log2_self_le h0;have a2:x<2 ^ (x.log2+1):=Nat.lt_log2_self
   have a3:x/2 ^ x.log2=1:=by
    have b1:1<=x/2 ^ x.log2:=(Nat.one_le_div_iff (Nat.two_pow_pos _)).2 a1;have b2:x/2 ^ x.log2<2:=(ζm (Nat.two_pow_pos _)).2 (by rw[Nat.pow_succ]at a2;omega);omega
   rw[a3]
   decide)]
  omega
theorem ZQZ{n:List Nat}(hl:n.length=35)(hd:∀x∈n,x<18446744073709551616)(w:World):Calls prog 78 #[lbV n] w λe w'=>e=.returned (.int .i64 (X3A (lv 18446744073709551616 n):Nat))/\Gr w w':=by
 have H:=hid (Yl8.new w hl hd);have HGA:=hid ((Gr.refl w).alloc (.cells (lbL n).toArray 125));have HL:=hid hl;have HD:=hid hd;obtain⟨N,hN⟩:∃N,N=X3A (lv 18446744073709551616 n):=⟨_,rfl⟩;rw[<-hN];have HN:=hid hN;have hwl:w.heap.size<(w.alloc (.cells (lbL n).toArray 125)).heap.size:=by rw[τ];omega
 unfold lbV;obtain⟨w1,hw1⟩:∃w1,w1=w.alloc (.cells (lbL n).toArray 125):=⟨_,rfl⟩;rw[<-hw1]at H HGA hwl;have HW1:=hid hw1;have harr:(lbL n).toArray.size=35:=by unfold lbL;simp[hl]
 generalize (lbL n).toArray=arr at HW1 harr⊢;clear hw1 hN hl hd;go_enter func78,ntmps78;go_upto_region 1 with(fail);rw[<-HW1.o];go_wp2
 go_loopw [3] (λs3 wr=>∃k:Nat,k<=35/\wr=w1/\Hid (Zbm n k)/\s3=.int .i64 ((k:Int)-1)) (λs3 _=>(intOf s3+1).toNat)
 case atStart=>exact⟨35,by omega,rfl,⟨λx hx=>by rw[ζY (by rw[HL.o];omega)]at hx;cases hx⟩,rfl⟩
 case round=>
  obtain⟨k,hk,hww,HZ,rfl⟩:=hrel;have h:=hww.symm;subst h;rcases k with _|j
  ·have hN0:N=0:=by
    rw[HN.o,(JYU (by decide)).2 (λx hx=>HZ.o x (by rw[ξT];exact hx))];rfl
   have hk0:(((0:Nat):Int)-1) = -1:=Ω
   rw[hk0];clear hk0;have HN0:=hid hN0;clear hN0;go_wp2;go_ret;exact⟨by rw[HN0.o] <;> rfl,HGA.o⟩
  ·have hj1:(((j+1:Nat):Int)-1)=(j:Int):=Ω
   rw[hj1];have hc:=H.o.limb (i:=j) Ω;have hd:=XQI (B:=18446744073709551616) (by decide) HD.o j;have HLX:=hid (λ(W:World)=>Z4f (n.getD j 0) hd W);rw[JPH hd]at HLX
   have HNX:Hid (n.getD j 0≠0->N=64*j+X3A (n.getD j 0)):=⟨λh0=>by
    rw[HN.o]
    exact ZHT (b:=64) HD.o (by rw[HL.o];omega) h0 HZ.o⟩
   have HZN:Hid (n.getD j 0=0->Zbm n j):=⟨λh0=>Jyg HZ.o h0⟩
   have hlx:X3A (n.getD j 0)<=64:=by
    have h1:=JPH hd;have h2:=Y6K (n.getD j 0);omega
   generalize X3A (n.getD j 0)=lx at HLX HNX hlx;generalize n.getD j 0=x at hc hd HLX HNX HZN;have hjI:(j:Int)<35:=Ω
   clear hj1 HZ;by_cases hx:0<x
   ·have hxI:(0:Int)<x:=Ω
    have HNN:=hid (HNX.o Ω);clear hx HNX HZN hd;go_wp2_with(go_at_call 83;refine(HLX.o _).mono ?_;rintro e w2 ⟨rfl,rfl⟩);go_ret;exact⟨by rw[HNN.o] <;> rfl,HGA.o⟩
   ·obtain rfl:x=0:=Ω
    have HZ0:=hid (HZN.o rfl);clear hx HNX HZN hd;go_wp2;go_round
    case rel=>exact⟨j,by omega,by first|trivial|rfl,HZ0,by go_num⟩
    case measure=>simp[intOf]
theorem Zsi{n:List Nat}{j:Nat}(hj:j<n.length)(h:∀x∈n.take j,x=0)(h0:n.getD j 0=0):∀x∈n.take (j+1),x=0:=λx hx=>by
 rw[ζg hj]at hx;rcases ξg.1 hx with hx|hx
 ·exact h x hx
 ·rw[ζT.1 hx];rw[θ,μ hj]at h0;exact h0
def YPr(n:List Nat)(k:Nat)(w:World)(e:Ending)(w':World):Prop:=∃b,(b=true↔blL n k)/\e=.returned (.bool b)/\Gr w w'
theorem XGY{n:List Nat}(hl:n.length=35)(hd:∀x∈n,x<18446744073709551616){at':Nat}(ha:at' / 64<35)(w:World):Calls prog 80 #[lbV n,.int .i64 at'] w (YPr n at' w):=by
 have H:=hid (Yl8.new w hl hd);have HGA:=hid ((Gr.refl w).alloc (.cells (lbL n).toArray 125));have HL:=hid hl;have e1:((at':Int).tdiv 64)=((at' / 64:Nat):Int):=rfl;have e2:((at':Int).tmod 64)=((at' % 64:Nat):Int):=rfl;have ho:at' % 64<64:=ζn _ (by decide);have HB:Hid (blL n at'↔(∃x∈n.take (at' / 64),x≠0)\/n.getD (at' / 64) 0%2 ^ (at' % 64)≠0):=⟨Iff.rfl⟩;have hwl:w.heap.size<(w.alloc (.cells (lbL n).toArray 125)).heap.size:=by rw[τ];omega
 generalize at' / 64=q at e1 ha HB;generalize at' % 64=off at e2 ho HB;have g1:IntKind.i64.wrap (q:Int)=(q:Int):=ξF _ Ω;unfold lbV;obtain⟨w1,hw1⟩:∃w1,w1=w.alloc (.cells (lbL n).toArray 125):=⟨_,rfl⟩;rw[<-hw1]at H HGA hwl;have HW1:=hid hw1;have harr:(lbL n).toArray.size=35:=by unfold lbL;simp[hl]
 generalize (lbL n).toArray=arr at HW1 harr⊢;clear hw1 hl hd;go_enter func80,ntmps80;go_upto_region 1 with(fail);rw[<-HW1.o];go_wp2
 go_loopw [8] (λs8 wr=>∃j:Nat,j<=q/\wr=w1/\Hid (∀x∈n.take j,x=0)/\s8=.int .i64 j) (λs8 _=>q-(intOf s8).toNat)
 case atStart=>exact⟨0,ζb _,rfl,⟨λx hx=>by cases hx⟩,rfl⟩
 case round=>
  obtain⟨j,hj,hww,HZ,rfl⟩:=hrel;have h:=hww.symm;subst h;by_cases hjq:j<q
  ·have hjI:(j:Int)<q:=Ω
   have hc:=H.o.limb (i:=j) Ω;have hj35:(j:Int)<35:=Ω
   have HX:Hid (n.getD j 0≠0->blL n at'):=⟨λh0=>HB.o.2 (.inl ⟨n.getD j 0,by
    rw[θ,μ (by rw[HL.o];omega),ξb]
    exact ξn.2 ⟨j,by rw[HL.o];omega,rfl⟩,h0⟩)⟩
   have HZN:Hid (n.getD j 0=0->∀x∈n.take (j+1),x=0):=⟨λh0=>Zsi (by rw[HL.o];omega) HZ.o h0⟩;generalize n.getD j 0=x at hc HX HZN;clear HZ;by_cases hx:0<x
   ·have hxI:(0:Int)<x:=Ω
    have HXX:=hid (HX.o Ω);clear hx HX HZN;go_wp2;go_ret;exact⟨true,⟨λ_=>HXX.o,λ_=>rfl⟩,rfl,HGA.o⟩
   ·obtain rfl:x=0:=Ω
    have HZ0:=hid (HZN.o rfl);clear hx HX HZN;go_wp2;go_round
    case rel=>exact⟨j+1,by omega,by first|trivial|rfl,HZ0,by go_num⟩
    case measure=>simp[intOf];omega
  ·have hjI:¬(j:Int)<q:=Ω
   obtain rfl:j=q:=Ω
   have hc:=H.o.limb (i:=j) ha;have hxx:=XQI (B:=18446744073709551616) (by decide) H.o.dig j;have HLS:=hid (Qkn (x:=n.getD j 0) ho)
   have HBZ:Hid (blL n at'↔n.getD j 0%2 ^ off≠0):=⟨by
    refine⟨λh=>?_,λh=>HB.o.2 (.inr h)⟩;rcases HB.o.1 h with⟨x,hx,h0⟩|h
    ·exact absurd (HZ.o x hx) h0
    ·exact h⟩
   generalize n.getD j 0=x at hc HLS HBZ hxx;have hj35:(j:Int)<35:=Ω
   have h63:((63:Int)-(off:Int))=((63-off:Nat):Int):=Ω
   have ha1:(63-off:Nat)<=63:=Ω
   generalize 63-off=c at h63 HLS ha1
   have hz:IntKind.u64.wrap ((x:Int)*2 ^ c)=((x*2 ^ c%18446744073709551616:Nat):Int):=by
    rw[ζx,Int.natCast_emod,ξB,Int.natCast_pow];rfl
   obtain⟨y,hy⟩:∃y,y=x*2 ^ c%18446744073709551616:=⟨_,rfl⟩;have hyy:y<18446744073709551616:=by rw[hy];exact ζn _ (by decide)
   rw[<-hy]at hz HLS;have hz2:IntKind.u64.wrap ((y:Int)*2)=((y*2%18446744073709551616:Nat):Int):=by rw[ζx];omega
   generalize y*2%18446744073709551616=z at hz2 HLS;clear hy hxx HZ HB hyy ha1;by_cases h0:0<z
   ·have hzI:(0:Int)<z:=Ω
    by_cases ho0:0<off
    ·have hdt:decide (0<off)=true:=υ ho0;have HR:Hid (blL n at'):=⟨HBZ.o.2 (HLS.o.1 ⟨h0,ho0⟩)⟩;clear h0 HBZ HLS;go_wp2;go_ret;exact⟨true,⟨λ_=>HR.o,λ_=>rfl⟩,rfl,HGA.o⟩
    ·have hdt:decide (0<off)=false:=π ho0;have HR:Hid (¬blL n at'):=⟨λh=>ho0 (HLS.o.2 (HBZ.o.1 h)).2⟩;clear h0 HBZ HLS;go_wp2;go_ret;exact⟨false,⟨λh=>absurd h (by decide),λh=>absurd h HR.o⟩,rfl,HGA.o⟩
   ·obtain rfl:z=0:=Ω
    have HR:Hid (¬blL n at'):=⟨λh=>h0 (HLS.o.2 (HBZ.o.1 h)).1⟩;clear h0 HBZ HLS;go_wp2;go_ret;exact⟨false,⟨λh=>absurd h (by decide),λh=>absurd h HR.o⟩,rfl,HGA.o⟩
end
end
section
section
open Go.RowKit Word
theorem JlF{P:Program}{ops:Array Oper}{rest:List Oper}{op:Oper}{a:Act}{w:World}{Q:Exit->Act->World->Prop}(hw:Region.wanted op (yielded ops a.tmps)=true)(ty:TypeId)(x:Operand)(ho:op.op=.load ty x)
  (b o:Nat) (hx:a.eval x=.pointer (some ⟨b,o,none⟩)) (cs:List Value) (d:TypeDesc) (hc:w.rangeAt b o cs)
  (hu:P.underlying ty=some d) (hd:d.isRow=true) (hi:(P.info? ty).map (·.size)=some cs.length)
  (h:wpList P ops Q rest (a.put op.dst (.agg cs.toArray)) w):wpList P ops Q (op :: rest) a w:=
 wpList_step λK hK=>by rw[χ hw];exact wp_load_mid ty x ho b o hx cs d hc hu hd hi (hK _ _ h)
theorem Yl8.from0{w:World}{b:Nat}{n:List Nat}(h:Yl8 w b n):(loadCellsFrom ⟨b,0,none⟩ 0 35 #[]).run prog w=.ok (lbL n).toArray w:=by
 have:=ZaP h.row 35 0 #[] (by unfold lbL;rw[ζc,h.len]);simpa using this
theorem Yl8.range{w:World}{b:Nat}{n:List Nat}(h:Yl8 w b n):w.rangeAt b 0 (lbL n):=λj v hj=>by
 rw[ω];exact h.row.cell hj
theorem QPn{cs:List Value}(h:cs.length=35):(prog.info? 125).map (·.size)=some cs.length:=by
 rw[h];have:(prog.info? 125).map (·.size)=some 35:=by kernel_rfl
 exact this
theorem Qlo{n:List Nat}(hl:n.length=35)(hd:∀x∈n,x<18446744073709551616)(hs:lv 18446744073709551616 n<2 ^ (64*34+63))(w:World):Calls prog 67 #[lbV n] w λe w'=>e=.returned (.int .u64 (X5K (lv 18446744073709551616 n):Nat))/\Gr w w':=by
 obtain⟨k,hk⟩:∃k,k=X3A (lv 18446744073709551616 n)-53:=⟨_,rfl⟩
 have hlen:X3A (lv 18446744073709551616 n)<=2239:=by
  unfold X3A
  split
  ·omega
  ·rename_i h0;have:=(Nat.log2_lt h0).2 hs;omega
 have hmax:max ((X3A (lv 18446744073709551616 n):Int)-53) 0=(k:Int):=by
  clear hs hd hl;omega
 have hk35:k/64<35:=Ω
 obtain⟨R0,R1,R2⟩:=Vrg (l:=n) hd hk (by rw[hl];exact hk35);have HLN:=hid (λ(W:World)=>ZQZ hl hd W);have HFR:=hid (λ(W:World)=>ZR2 hl hd hk35 W);have HBL:=hid (λ(W:World)=>XGY hl hd (at':=k-1) Ω W);have H:=hid (Yl8.new w hl hd);have HGA:=hid ((Gr.refl w).alloc (.cells (lbL n).toArray 125));have HLD:=hid (λ(W:World) (gg:Gr (w.alloc (.cells (lbL n).toArray 125)) W)=>((Yl8.new w hl hd).gr gg).range);have HLC:=hid (λ(W:World) (gg:Gr (w.alloc (.cells (lbL n).toArray 125)) W)=>((Yl8.new w hl hd).gr gg).from0);have hwl:w.heap.size<(w.alloc (.cells (lbL n).toArray 125)).heap.size:=by rw[τ];omega
 have hfr:frL n k<9007199254740992:=by unfold frL;exact ζn _ (by decide)
 have e1:(((k-1:Nat):Int).tdiv 64)=(((k-1)/64:Nat):Int):=rfl;have e2:(((k-1:Nat):Int).tmod 64)=(((k-1)%64:Nat):Int):=rfl;have hq:(k-1)/64<35:=Ω
 have ho:(k-1)%64<64:=ζn _ (by decide);have hcq:=H.o.limb hq;have hxx:=XQI (B:=18446744073709551616) (by decide) hd ((k-1)/64);have hm2:=V9O prog;have hmi2:=Xjn prog;obtain⟨R,hR⟩:∃R,R=X5K (lv 18446744073709551616 n):=⟨_,rfl⟩;rw[<-hR]at R0 R1 R2⊢;have R0':k=0->R=min (frL n k) QXS:=λh=>(R0 h).trans (by rw[h]);clear R0;generalize X3A (lv 18446744073709551616 n)=ln at hk hlen HLN hmax;generalize frL n k=fr at R0' R1 R2 HFR hfr;have hb1:IntKind.u64.wrap (k:Int)=(k:Int):=by rw[ζx];omega
 have hb2:IntKind.u64.wrap ((k:Int)*4503599627370496)=((k*4503599627370496:Nat):Int):=by rw[ζx];omega
 have HR0:=hid R0';have HR1:=hid R1;have HR2:=hid R2;unfold lbV at HLN HFR HBL HLD⊢;obtain⟨w1,hw1⟩:∃w1,w1=w.alloc (.cells (lbL n).toArray 125):=⟨_,rfl⟩;rw[<-hw1]at H HGA hwl HLD HLC hcq;have HW1:=hid hw1;have hcs:(lbL n).length=35:=by unfold lbL;simp[hl]
 have HI:=hid (QPn hcs);generalize lbL n=cs at HW1 hcs HI HLN HFR HBL HLD HLC⊢;have harr:cs.toArray.size=35:=by simpa using hcs
 clear hw1 R0' R1 R2 hR hs hl hd hk;go_enter func67,ntmps67;go_upto_region 1 with(fail);rw[<-HW1.o]
 go_upto_region 3 with(first
  | (go_at_call 78;refine(HLN.o _).mono ?_;rintro e w2 ⟨rfl,hg⟩;have HG2:=hid hg;clear hg)
  | (go_at_call 79;refine(HFR.o _).mono ?_;rintro e w3 ⟨rfl,hg⟩;have HG3:=hid (HG2.o.trans hg);clear hg)
  | (have hm:=HG2.o;clear hm;refine wpList_load_mid rfl 125 _ rfl w.heap.size 0 rfl cs _ (HLD.o _ HG2.o) underlying125 rfl HI.o ?_)
  | (refine wpList_load_mid rfl 125 _ rfl w.heap.size 0 rfl cs _ (HLD.o _ (Gr.refl w1)) underlying125 rfl HI.o ?_))
 obtain⟨kb,hkb⟩:∃kb,kb=k*4503599627370496:=⟨_,rfl⟩;have HKB:=hid hkb;rw[<-hkb]at hb2;have hb3:IntKind.u64.wrap ((kb:Int)+(fr:Int))=((kb+fr:Nat):Int):=by rw[ζx];omega
 have hb4:IntKind.u64.wrap (((kb+fr:Nat):Int)+1)=((kb+fr+1:Nat):Int):=by rw[ζx];omega
 obtain⟨B0,hB0⟩:∃B0,B0=kb+fr:=⟨_,rfl⟩;have HB0:=hid hB0;rw[<-hB0]at hb3 hb4;obtain⟨B1,hB1⟩:∃B1,B1=B0+1:=⟨_,rfl⟩;have HB1:=hid hB1;rw[<-hB1]at hb4;have hmn:∀z:Nat,min (z:Int) 9218868437227405312=((min z QXS:Nat):Int):=λz=>by unfold QXS;omega
 have hmn0:=hmn B0;have hmn1:=hmn B1;clear hkb hB0 hB1 hmn hmax hlen;by_cases hk0:k=0
 ·have hkI:¬(0:Int)<k:=Ω
  have HF:Hid (R=min B0 QXS):=⟨by rw[HR0.o hk0,HB0.o,HKB.o,hk0,ζL,ω]⟩;clear hk0 hb4 hmn1 e1 e2;generalize min B0 QXS=MM at hmn0 HF;go_wp2;go_ret;exact⟨by rw[HF.o] <;> rfl,HGA.o.trans HG3.o⟩
 ·have hkI:(0:Int)<k:=Ω
  obtain⟨k1,hk1⟩:∃k1,k1=k-1:=⟨_,rfl⟩;have hkk:((k:Int)-1)=(k1:Int):=Ω
  have R1:=HR1.o Ω;have R2:=HR2.o Ω;rw[<-hk1]at e1 e2 hcq HBL R1 R2 hq ho hxx;have hb31:k1/64<35:=hq;generalize k1/64=q at e1 hcq R1 R2 hq hxx;generalize k1%64=off at e2 ho R1 R2;generalize n.getD q 0=x at hcq R1 R2 hxx;have hq1:IntKind.i64.wrap (q:Int)=(q:Int):=ξF _ Ω;have hqI:(q:Int)<35:=Ω
  have hx1:((x:Int)/2 ^ off)=((x/2 ^ off:Nat):Int):=by rw[Int.natCast_ediv,Int.natCast_pow];rfl
  have hxy:x/2 ^ off<=x:=ζ5 _ _;generalize x/2 ^ off=y at hx1 hxy R1 R2
  have hy1:bits .and .u64 (y:Int) 1=((y%2:Nat):Int):=by
   have e:(1:Int)=((1:Nat):Int):=rfl;rw[e,Jp7 y 1 Ω Ω,Nat.and_one_is_mod]
  have hf1:bits .and .u64 (fr:Int) 1=((fr%2:Nat):Int):=by
   have e:(1:Int)=((1:Nat):Int):=rfl;rw[e,Jp7 fr 1 Ω Ω,Nat.and_one_is_mod]
  have HLDX:=hid (λ(W:World) (gg:Gr w3 W)=>HLD.o W (HG3.o.trans gg));rw[<-HKB.o,<-HB0.o]at R1 R2;rw[<-HB1.o]at R1;clear hk1 hxx hxy hk0;have hc3:w3.cell? ⟨w.heap.size,q,none⟩=some (.int .u64 (x:Nat)):=(HG3.o.cell hwl q).trans hcq;have hw3:w.heap.size<w3.heap.size:=ζa hwl HG3.o.size;clear hcq hwl hb31;rcases(by omega:y%2=0\/y%2=1)with hz|hz
  ·rw[hz]at hy1;have HF:Hid (R=min B0 QXS):=⟨R2 (λh=>by rw[hz]at h;exact absurd h.1 (by decide))⟩;clear hb4 hmn1 R1 R2 hz;generalize min B0 QXS=MM at hmn0 HF;go_wp2;go_ret;exact⟨by rw[HF.o] <;> rfl,HGA.o.trans HG3.o⟩
  ·rw[hz]at hy1;rcases(by omega:fr%2=1\/fr%2=0)with hf|hf
   ·rw[hf]at hf1;have HF:Hid (R=min B1 QXS):=⟨R1 hz (.inl hf)⟩;clear hmn0 R1 R2 hz hf;generalize min B1 QXS=MM at hmn1 HF;go_wp2;go_ret;exact⟨by rw[HF.o] <;> rfl,HGA.o.trans HG3.o⟩
   ·rw[hf]at hf1;have HQ1:Hid (blL n k1->R=min B1 QXS):=⟨λh=>R1 hz (.inr h)⟩
    have HQ2:Hid (¬blL n k1->R=min B0 QXS):=⟨λh=>R2 (λhh=>by
     rcases hh.2 with h3|h3
     ·rw[hf]at h3;exact absurd h3 (by decide)
     ·exact h h3)⟩
    clear R1 R2 hz hf;generalize min B0 QXS=M0 at hmn0 HQ2;generalize min B1 QXS=M1 at hmn1 HQ1
    go_wp2_with(first
     | (go_at_call 80;refine(HBL.o _).mono ?_;rintro e w4 ⟨(_|_),hb,rfl,hg⟩ <;> (have HG4:=hid hg;have HBB:=hid hb;clear hg hb))
     | (refine JlF rfl 125 (.tmp 1) rfl w.heap.size 0 rfl cs _ (HLDX.o _ (Gr.refl w3)) underlying125 rfl HI.o ?_))
    ·go_ret;exact⟨by rw[HQ2.o (λh=>by have:=HBB.o.2 h;cases this)] <;> rfl,HGA.o.trans (HG3.o.trans HG4.o)⟩
    ·go_ret;exact⟨by rw[HQ1.o (HBB.o.1 trivial)] <;> rfl,HGA.o.trans (HG3.o.trans HG4.o)⟩
end
end
section
section
open Go.RowKit Word
theorem Za3{xs:List Value}{o:Nat}(v:Value)(r:List Value)(ho:o<xs.length):(xs.set o v).take (o+1)++r=xs.take o++v :: r:=by
 rw[ζg (by rw[ζf];exact ho),List.getElem_set_self,List.take_set_of_le (ζe _),ξj];rfl
theorem Rec.setCells{q T:Nat}:∀(vs:List Value) (o:Nat) (w:World) (xs:List Value),Rec w q T xs->o+vs.length=xs.length->Rec (w.setCells q o vs) q T (xs.take o++vs)
 | [],o,w,xs,h,hl=>by
  rw[List.append_nil,ζB (by simp at hl;omega)];exact h
 | v :: r,o,w,xs,h,hl=>by
  have hl:o+(r.length+1)=xs.length:=hl;have:=Rec.setCells r (o+1) (w.setCell ⟨q,o,none⟩ v) (xs.set o v) (h.set o v) (by rw[ζf];omega);rw[Za3 v r Ω]at this;exact this
theorem XF4.setCells{q:Nat}:∀(vs:List Value) (o:Nat) (w:World),XF4 (λk=>k=q) w (w.setCells q o vs)
 | [],_,_=>XF4.refl _ _
 | v :: r,o,w=>((XF4.refl (λk=>k=q) w).setCell (a:=⟨q,o,none⟩) (λ_=>rfl) v).trans (XF4.setCells r (o+1) _)
theorem JyH(n:List Nat):(lbL n).toArray.all (·.oneCell')=true:=all_oneCell_toArray (λv hv=>by
 unfold lbL at hv;obtain⟨x,-,rfl⟩:=ξD.1 hv
 rfl)
theorem Yl8.over{w:World}{b:Nat}{xs:List Value}{n:List Nat}(h:Rec w b 125 xs)(hx:xs.length=35)(hl:n.length=35)(hd:∀x∈n,x<18446744073709551616):Yl8 (w.setCells b 0 (lbL n)) b n:=by
 refine⟨?_,hl,hd⟩;have:=Rec.setCells (lbL n) 0 w xs h (by unfold lbL;rw[ζc,hl,hx]);rw[List.take_zero,η]at this;exact this
theorem Rec.there{w:World}{b T:Nat}{xs:List Value}(h:Rec w b T xs):w.there b 0 xs.length:=λj hj=>by
 rw[ω];refine⟨?_,h.free j⟩;rw[h.cell (μ hj)];rfl
theorem Qnw.range{w:World}{p:Nat}{s:SmS}(h:Qnw w p s):w.rangeAt p 1 (lbL s.n):=λj v hj=>by
 have hj35:j<35:=by
  have:=(ζ2.1 hj).1;unfold lbL at this;rw[ζc,h.len]at this;exact this
 rw[h.limb hj35];unfold lbL at hj;rw[ζr,μ (by rw[h.len];exact hj35)]at hj;rw[θ,μ (by rw[h.len];exact hj35)];exact hj
def JuE(w:World)(n:List Nat)(e:Ending)(w':World):Prop:=∃n' ng,e=.returned (.tuple #[lbV n',.bool ng])/\Gr w w'/\n'.length=35/\(∀x∈n',x<18446744073709551616) ∧
 ((ng=false/\lv 18446744073709551616 n<2 ^ (64*34+63)/\n'=n)\/(ng=true/\¬lv 18446744073709551616 n<2 ^ (64*34+63)/\lv 18446744073709551616 n'=18446744073709551616 ^ 35-lv 18446744073709551616 n))
theorem Y8d{w:World}{p:Nat}{s:SmS}(h:Qnw w p s):Calls prog 66 #[.pointer (some ⟨p,0,none⟩)] w (JuE w s.n):=by
 have HZR:=hid (Rec.new w 125 (lbL (List.replicate 35 0)));have cl:=h.row.lt;have H:=hid h;have HI:=hid (QPn (cs:=lbL s.n) (by unfold lbL;rw[ζc];exact h.len));clear h;go_enter func66,ntmps66;go_upto_region 1 with(fail);generalize hw1:w.alloc (Obj.cells _ _)=w1;have hr1:Rec w1 w.heap.size 125 (lbL (List.replicate 35 0)):=by rw[<-hw1];exact Rec.new w _ _
 have hg1:Gr w w1:=by rw[<-hw1];exact(Gr.refl w).alloc _
 have hz1:w1.heap.size=w.heap.size+1:=by rw[<-hw1];exact τ ..
 clear hw1;have HR1:=hid hr1;have HG1:=hid hg1;have HZ1:=hid hz1;have HRG:=hid ((H.o.gr hg1).range);have hcs:(lbL s.n).toArray.size=35:=by unfold lbL;simp[H.o.len]
 have HI2:Hid ((prog.info? 125).map (·.size)=some (lbL s.n).toArray.size):=⟨by rw[hcs];exact QPn (cs:=lbL (List.replicate 35 0)) rfl⟩
 have HTH:Hid ((w1.alloc (.cells (lbL (List.replicate 35 0)).toArray 125)).there w1.heap.size 0 (lbL s.n).toArray.size):=⟨by
  rw[hcs]
  exact(Rec.new w1 125 (lbL (List.replicate 35 0))).there⟩
 have HL2:Hid (Yl8 ((w1.alloc (.cells (lbL (List.replicate 35 0)).toArray 125)).setCells w1.heap.size 0 (lbL s.n)) w1.heap.size s.n):=⟨Yl8.over (Rec.new w1 _ _) rfl H.o.len H.o.dig⟩
 have HT2:Hid (Gr w1 ((w1.alloc (.cells (lbL (List.replicate 35 0)).toArray 125)).setCells w1.heap.size 0 (lbL s.n))):=⟨by
  have t:=(((Gr.refl w1).alloc (.cells (lbL (List.replicate 35 0)).toArray 125)).touch (λk=>k=w1.heap.size)).trans (XF4.setCells (q:=w1.heap.size) (lbL s.n) 0 _)
  exact(t.mono (T:=λ_=>False) (λk hk e=>by omega)).gr⟩
 have HO1:=hid (JyH s.n);clear hr1 hg1 hz1 hcs;have hp1:p<w1.heap.size:=by have:=HZ1.o;omega
 go_upto_region 2 with(first
  | (refine wpList_load_mid rfl 125 _ rfl p 1 rfl (lbL s.n) _ HRG.o underlying125 rfl HI.o ?_)
  | (refine wpList_store_mid rfl 125 _ _ rfl w1.heap.size 0 (lbL s.n).toArray rfl rfl HTH.o HI2.o HO1.o ?_))
 have hl2:=HL2.o;have hg2:=HT2.o;generalize hw2:World.setCells _ _ _ _=w2;have hl3:Yl8 w2 w1.heap.size s.n:=by rw[<-hw2];exact hl2
 have hg3:Gr w1 w2:=by rw[<-hw2];exact hg2
 clear hw2 hl2 hg2 HL2 HT2 HTH HRG hp1;obtain⟨b,hb⟩:∃b,b=w1.heap.size:=⟨_,rfl⟩;rw[<-hb]at hl3⊢;have HBB:=hid hb;have HG2:=hid (HG1.o.trans hg3);have HRW:=hid (HR1.o.gr hg3);have hne:b≠w.heap.size:=by have:=HZ1.o;omega
 have HNE:=hid hne;have HL3:=hid hl3;have hx:=XQI (B:=18446744073709551616) (by decide) hl3.dig 34;have c34:=hl3.limb (i:=34) (by decide);have HSG:=hid (Qrb (l:=s.n) hl3.dig hl3.len);have hbl:=hl3.row.lt;have hwl:=(HR1.o.gr hg3).lt;have hu:∀(W:World) (n':List Nat),Yl8 W b n'->W.rangeAt b 0 (lbL n'):=λW n' h=>h.range;have HU:=hid hu;clear hu hl3 hg3 hb hne;have KL:=hid (λ(W:World) (n':List Nat) (h:Yl8 W w.heap.size n')=>h.load);rcases(by omega:s.n.getD 34 0/9223372036854775808=0\/s.n.getD 34 0/9223372036854775808=1)with h0|h0
 ·have HQ:Hid (lv 18446744073709551616 s.n<2 ^ (64*34+63)):=⟨HSG.o.1 h0⟩;have e0:((s.n.getD 34 0:Nat):Int)/9223372036854775808=0:=Ω
  generalize s.n.getD 34 0=x at c34 e0 hx;clear HSG h0
  have HTH:Hid (w2.there w.heap.size 0 (lbL s.n).toArray.size):=⟨by
   rw[show (lbL s.n).toArray.size=(lbL (List.replicate 35 0)).length by unfold lbL;simp[HL3.o.len]]
   exact HRW.o.there⟩
  go_wp2_with(first
   | (refine wpList_load_mid rfl 125 _ rfl b 0 rfl (lbL s.n) _ (HU.o _ _ HL3.o) underlying125 rfl HI.o ?_)
   | (refine wpList_store_mid rfl 125 _ _ rfl w.heap.size 0 (lbL s.n).toArray rfl rfl HTH.o HI2.o HO1.o ?_))
  have hL:Yl8 (w2.setCells w.heap.size 0 (lbL s.n)) w.heap.size s.n:=Yl8.over HRW.o rfl HL3.o.len HL3.o.dig;have hl:=KL.o _ _ hL;refine ζt (v:=.tuple #[lbV s.n,.bool false]) ?_ rfl ?_
  ·rw[results_cell_tmp rfl];simp[asAddr,Result.andThen,hl]
  ·have t:=(HG2.o.touch (λk=>k=w.heap.size)).trans (XF4.setCells (q:=w.heap.size) (lbL s.n) 0 w2);exact⟨s.n,false,rfl,(t.mono (T:=λ_=>False) (λk hk e=>by omega)).gr,HL3.o.len,HL3.o.dig,.inl ⟨rfl,HQ.o,rfl⟩⟩
 ·have hq:¬lv 18446744073709551616 s.n<2 ^ (64*34+63):=λh=>by
   have:=HSG.o.2 h;have e:s.n.getD 34 0/2 ^ 63=s.n.getD 34 0/9223372036854775808:=rfl;omega
  have HQ:=hid hq;have e0:((s.n.getD 34 0:Nat):Int)/9223372036854775808=1:=Ω
  generalize s.n.getD 34 0=x at c34 e0 hx;clear HSG h0 hq;go_wp2;clear c34 e0 hx
  go_loopw [5,16] (λs5 s16 wr=>∃(i c:Nat) (l':List Nat),i<=35/\Hid (JYm 18446744073709551616 s.n l' i c/\Yl8 wr b l'/\XF4 (λk=>k=b) w2 wr)/\s5=.int .u64 c/\s16=.int .i64 i) (λ_ s16 _=>35-(intOf s16).toNat)
  case atStart=>exact⟨0,1,s.n,by omega,⟨JYm.zero HL3.o.dig,HL3.o,XF4.refl _ _⟩,rfl,rfl⟩
  case round=>
   obtain⟨i,c,l',hi,HP,rfl,rfl⟩:=hrel;by_cases hi2:i<35
   ·have hiI:(i:Int)<35:=Ω
    obtain⟨n1,n2,n3⟩:=HP.o;have hc1:=n1.car;have hd:=XQI (B:=18446744073709551616) (by decide) HL3.o.dig i;have hcell:=n2.limb hi2;rw[n1.same i (ζe _)]at hcell;have hxr:=XTi (s.n.getD i 0) hd;have hstep:=n1.step (by decide) HL3.o.dig (by rw[HL3.o.len];exact hi2);have hv:18446744073709551616-1-s.n.getD i 0=18446744073709551615-s.n.getD i 0:=Ω
    rw[hv]at hstep;have hvl:18446744073709551615-s.n.getD i 0<18446744073709551616:=Ω
    have hfree:=n2.row.free;have hlt:=n2.row.lt;generalize s.n.getD i 0=x at hcell hxr hd hv hstep hvl;generalize 18446744073709551615-x=v at hxr hstep hvl;have hadd:=λW=>Jlz v 0 c hc1 W;have hy:(v+c)%18446744073709551616<18446744073709551616:=ζn _ (by decide);have HPUT:=hid (n2.put (i:=i) hy);have HSTEP:=hid hstep;obtain⟨y,hye⟩:∃y,y=(v+c)%18446744073709551616:=⟨_,rfl⟩;obtain⟨d,hde⟩:∃d,d=(v+c)/18446744073709551616:=⟨_,rfl⟩;have hadd2:∀W,(callFunc 77 #[.int .u64 v,.int .u64 0,.int .u64 c]).run prog W=.ok (.value (.tuple #[.int .u64 (y:Nat),.int .u64 (d:Nat)])) W:=λW=>by rw[hye,hde];exact hadd W
    rw[<-hye,<-hde]at HSTEP;rw[<-hye]at HPUT;have HN3:=hid n3;clear hadd hy hye hde hstep n1 n2 n3 hv hvl hd hc1 HP;go_wp2;go_round
    case rel=>exact⟨i+1,d,l'.set i y,by omega,⟨HSTEP.o,HPUT.o,HN3.o.setCell (a:=⟨b,i,none⟩) (λ_=>rfl) _⟩,rfl,by go_num⟩
    case measure=>simp[intOf];omega
   ·have hiI:¬(i:Int)<35:=Ω
    obtain rfl:i=35:=Ω
    obtain⟨n1,n2,n3⟩:=HP.o
    have hlp:=LvPz (k:=34) (off:=63) HQ.o
    have hdn:=JYm.done (c:=c) (by rw[HL3.o.len];exact n1) hlp;rw[HL3.o.len]at hdn;have HDN:=hid hdn;have HN2:=hid n2;have HRX:=hid (HRW.o.touch n3 (λe=>HNE.o e.symm));have HN3:=hid n3
    have HTH:Hid (wr.there w.heap.size 0 (lbL l').toArray.size):=⟨by
     rw[show (lbL l').toArray.size=(lbL (List.replicate 35 0)).length by unfold lbL;simp[n2.len]]
     exact HRX.o.there⟩
    have HI3:=hid (QPn (cs:=lbL l') (by unfold lbL;rw[ζc];exact n2.len))
    have HI4:Hid ((prog.info? 125).map (·.size)=some (lbL l').toArray.size):=⟨by
     rw[show (lbL l').toArray.size=(lbL l').length by simp];exact HI3.o⟩
    have HO2:=hid (JyH l');have hbl2:=n2.row.lt;have hwl2:=HRX.o.lt;clear n1 n2 n3 hlp hdn HP hi hi2
    go_wp2_with(first
     | (refine wpList_load_mid rfl 125 _ rfl b 0 rfl (lbL l') _ (HU.o _ _ HN2.o) underlying125 rfl HI3.o ?_)
     | (refine wpList_store_mid rfl 125 _ _ rfl w.heap.size 0 (lbL l').toArray rfl rfl HTH.o HI4.o HO2.o ?_))
    have hL:Yl8 (wr.setCells w.heap.size 0 (lbL l')) w.heap.size l':=Yl8.over HRX.o rfl HN2.o.len HN2.o.dig;have hl:=KL.o _ _ hL;refine ζt (v:=.tuple #[lbV l',.bool true]) ?_ rfl ?_
    ·rw[results_cell_tmp rfl];simp[asAddr,Result.andThen,hl]
    ·have t:=((HG2.o.touch (λk=>k=w.heap.size\/k=b)).trans (HN3.o.mono (λk _ h=>.inr h))).trans ((XF4.setCells (q:=w.heap.size) (lbL l') 0 wr).mono (λk _ h=>.inl h));refine⟨l',true,rfl,(t.mono (T:=λ_=>False) (λk hk e=>?_)).gr,HN2.o.len,HN2.o.dig,.inr ⟨rfl,HQ.o,HDN.o⟩⟩;have h1:=HBB.o;have h2:=HZ1.o;rcases e with e|e
     ·have e:k=w.heap.size:=e;omega
     ·have e:k=b:=e;omega
end
end
section
section
open Go.RowKit Word
def dgL(n:List Nat):List Value:=n.map λx:Nat=>Value.int .i64 x
def dgV(n:List Nat):Value:=.agg (dgL n).toArray
structure Dg(n:List Nat):Prop where
 len:n.length=140
 dig:∀x∈n,x<65536
structure ZkF(w:World)(b:Nat)(n:List Nat):Prop where
 row:Rec w b 118 (dgL n)
 dg:Dg n
def dg0:List Nat:=List.replicate 140 0
theorem XMG:Dg dg0:=⟨ζ1,λx hx=>by rw[(ζC.1 hx).2];decide⟩
section
variable {w w':World} {b:Nat} {n:List Nat}
theorem ZlJ(h:Dg n):(dgL n).length=140:=by unfold dgL;rw[ζc];exact h.len
theorem ZkF.digit(h:ZkF w b n){i:Nat}(hi:i<140):w.cell? ⟨b,i,none⟩=some (.int .i64 (n.getD i 0:Nat)):=by
 refine h.row.cell ?_;unfold dgL;rw[ζr,θ,μ (by rw[h.dg.len];exact hi)];rfl
theorem ZkF.put(h:ZkF w b n){i y:Nat}(hy:y<65536):ZkF (w.setCell ⟨b,i,none⟩ (.int .i64 (y:Nat))) b (n.set i y):=by
 refine⟨?_,⟨by rw[ζf];exact h.dg.len,JiW h.dg.dig hy⟩⟩;have:=h.row.set i (.int .i64 (y:Nat));unfold dgL at this⊢;rw[ζ8];exact this
theorem ZkF.gr(h:ZkF w b n)(g:Gr w w'):ZkF w' b n:=⟨h.row.gr g,h.dg⟩
theorem ZkF.touch{T:Nat->Prop}(h:ZkF w b n)(t:XF4 T w w')(hb:¬T b):ZkF w' b n:=⟨h.row.touch t hb,h.dg⟩
theorem ZkF.new(w:World)(h:Dg n):ZkF (w.alloc (.cells (dgL n).toArray 118)) w.heap.size n:=⟨Rec.new w _ _,h⟩
theorem ZkF.new1(w:World)(o:Obj)(h:Dg n):ZkF ((w.alloc o).alloc (.cells (dgL n).toArray 118)) (w.heap.size+1) n:=by
 have:=ZkF.new (w.alloc o) h;rw[τ]at this;exact this
theorem JBE(w:World):(sizeOf 118).run prog w=.ok 140 w:=by kernel_rfl
theorem ZkF.load(h:ZkF w b n):(loadVar 118 ⟨b,0,none⟩).run prog w=.ok (dgV n) w:=by
 refine XkM h.row (by kernel_rfl) ?_;rw[ZlJ h.dg];exact JBE w
theorem ZkF.range(h:ZkF w b n):w.rangeAt b 0 (dgL n):=λj v hj=>by
 rw[ω];exact h.row.cell hj
theorem Vnc{cs:List Value}(h:cs.length=140):(prog.info? 118).map (·.size)=some cs.length:=by
 rw[h];have:(prog.info? 118).map (·.size)=some 140:=by kernel_rfl
 exact this
theorem JEv(n:List Nat):(dgL n).toArray.all (·.oneCell')=true:=all_oneCell_toArray (λv hv=>by
 unfold dgL at hv;obtain⟨x,-,rfl⟩:=ξD.1 hv
 rfl)
theorem ZkF.over{xs:List Value}(h:Rec w b 118 xs)(hx:xs.length=140)(hn:Dg n):ZkF (w.setCells b 0 (dgL n)) b n:=by
 refine⟨?_,hn⟩;have:=Rec.setCells (dgL n) 0 w xs h (by rw[ZlJ hn,hx]);rw[List.take_zero,η]at this;exact this
theorem ZkF.there(h:ZkF w b n):w.there b 0 140:=by
 have:=h.row.there;rw[ZlJ h.dg]at this;exact this
end
theorem JHf(w:World){a b:List Nat}(ha:Dg a)(hb:Dg b):∃w2,w2=(w.alloc (.cells (dgL a).toArray 118)).alloc (.cells (dgL b).toArray 118)/\Gr w w2/\ZkF w2 w.heap.size a/\ZkF w2 (w.heap.size+1) b/\w2.heap.size=w.heap.size+2:=
 ⟨_,rfl,((Gr.refl w).alloc _).alloc _,(ZkF.new w ha).gr ((Gr.refl _).alloc _),ZkF.new1 w _ hb,by rw[τ,τ]⟩
theorem X9i{a b:List Nat}(ha:Dg a)(hb:Dg b)(w:World):Calls prog 58 #[dgV a,dgV b] w λe w'=>e=.returned (.bool (decide (lv 65536 a<lv 65536 b)))/\Gr w w':=by
 obtain⟨w2,hw2,hg2,h1,h2,-⟩:=JHf w ha hb;have HA:=hid h1;have HB:=hid h2;have HG2:=hid hg2;have HW2:=hid hw2;have s1:(dgL a).toArray.size=140:=by simp[ZlJ ha]
 have s2:(dgL b).toArray.size=140:=by simp[ZlJ hb]
 have HDA:=hid ha;have HDB:=hid hb;unfold dgV;generalize (dgL a).toArray=A at HW2 s1⊢;generalize (dgL b).toArray=B at HW2 s2⊢;clear hw2 hg2 h1 h2 ha hb;go_enter func58,ntmps58;go_upto_region 1 with(fail);rw[<-HW2.o];go_wp2
 go_loopw [5] (λs5 wr=>∃k:Nat,k<=140/\s5=.int .i64 ((k:Int)-1)/\Hid (a.drop k=b.drop k)/\Hid (Gr w2 wr)) (λs5 _=>(intOf s5+1).toNat)
 case atStart=>exact⟨140,ζe _,rfl,⟨by rw[ζY (by rw[HDA.o.len];omega),ζY (by rw[HDB.o.len];omega)]⟩,⟨Gr.refl _⟩⟩
 case round=>
  obtain⟨k,hk,rfl,HD,HG⟩:=hrel;cases k with
  | zero=>
   have e:((0:Nat):Int)-1 = -1:=rfl;rw[e];go_wp2;go_ret;refine⟨?_,HG2.o.trans HG.o⟩;have h:=HD.o;rw[ξT,ξT]at h;rw[h,π Ω] <;> rfl
  | succ j=>
   have e:((j+1:Nat):Int)-1=(j:Int):=Ω
   rw[e];have hjI:(j:Int)<140:=Ω
   have hj:j<140:=Ω
   have HJ:=hid hj;have c1:=(HA.o.gr HG.o).digit hj;have c2:=(HB.o.gr HG.o).digit hj;have l1:=(HA.o.gr HG.o).row.lt;have l2:=(HB.o.gr HG.o).row.lt
   have HX:Hid (∀x y,x=a.getD j 0->y=b.getD j 0->(x<y->lv 65536 a<lv 65536 b)/\(y<x->lv 65536 b<lv 65536 a)/\(x=y->a.drop j=b.drop j)):=⟨λx y hx hy=>⟨λh=>QRp HDA.o.dig (i:=j) (by rw[HDA.o.len];exact hj) (by rw[HDA.o.len,HDB.o.len]) HD.o (by rw[<-hx,<-hy];exact h),λh=>QRp HDB.o.dig (i:=j) (by rw[HDB.o.len];exact hj) (by rw[HDA.o.len,HDB.o.len]) HD.o.symm (by rw[<-hx,<-hy];exact h),λh=>by
    rw[ζ4 (l:=a) (by rw[HDA.o.len];exact hj),ζ4 (l:=b) (i:=j) (by rw[HDB.o.len];exact hj),HD.o];congr 1;rw[hx,hy,θ,θ,μ (by rw[HDA.o.len];exact hj),μ (by rw[HDB.o.len];exact hj)]at h
    exact h⟩⟩
   obtain⟨x,hx⟩:∃x,x=a.getD j 0:=⟨_,rfl⟩;obtain⟨y,hy⟩:∃y,y=b.getD j 0:=⟨_,rfl⟩;rw[<-hx]at c1;rw[<-hy]at c2;have HX2:=hid (HX.o x y hx hy);clear HX hx hy hk hj;by_cases hxy:x=y
   ·have e1:((x:Int) !=(y:Int))=false:=by rw[hxy];simp
    have HXY:=hid hxy;clear hxy;go_wp2;go_quiet (fail);go_wp2;go_round
    case rel=>exact⟨j,by have:=HJ.o;omega,by go_num,⟨HX2.o.2.2 HXY.o⟩,⟨HG.o.drewN _⟩⟩
    case measure=>simp[intOf]
   ·have e1:((x:Int) !=(y:Int))=true:=by rw[bne_iff_ne];omega
    have HXY:=hid hxy;have e2:decide ((x:Int)<(y:Int))=decide (x<y):=by rw[ζP];omega
    clear hxy;go_wp2;go_quiet (fail);go_wp2;go_quiet (fail);go_wp2;go_ret;refine⟨?_,HG2.o.trans ((HG.o.drewN _).drewN _)⟩;have h1:=HX2.o.1;have h2:=HX2.o.2.1;have h3:=HXY.o
    show Ending.returned (Value.bool (decide (x<y)))=_
    congr 2;rw[ζP];constructor
    ·intro h;exact h1 Ω
    ·intro h;rcases(by omega:x<y\/y<x)with h4|h4
     ·omega
     ·have:=h2 h4;omega
def X4N(w:World)(s:Nat)(e:Ending)(w':World):Prop:=∃n,e=.returned (dgV n)/\Gr w w'/\Dg n/\lv 65536 n=s
end
end
section
section
open Go.RowKit Word
theorem ZkO(w:World){a b:List Nat}(ha:Dg a)(hb:Dg b):∃w4,w4=(((w.alloc (.cells (dgL a).toArray 118)).alloc (.cells (dgL b).toArray 118)).alloc (.cells (dgL dg0).toArray 118)).alloc (.cells (dgL dg0).toArray 118)/\Gr w w4/\ZkF w4 w.heap.size a/\ZkF w4 (w.heap.size+1) b/\ZkF w4 (w.heap.size+2) dg0/\ZkF w4 (w.heap.size+3) dg0:=by
 obtain⟨w2,h2,g2,a2,b2,s2⟩:=JHf w ha hb;obtain⟨w4,h4,g4,r4,o4,-⟩:=JHf w2 XMG XMG;rw[s2]at r4 o4;exact⟨w4,by rw[h4,h2],g2.trans g4,a2.gr g4,b2.gr g4,r4,o4⟩
theorem XKm{w w4 wr:World}{r o:Nat}{n:List Nat}(h4:ZkF w4 r dg0)(g:Gr w w4)(ho:ZkF wr o n)(t:XF4 (λk=>k=o) w4 wr)(hr:w.heap.size<=r)(hro:w.heap.size<=o)(hne:r≠o):
  wr.there r 0 (dgL n).toArray.size/\(prog.info? 118).map (·.size)=some (dgL n).length/\(prog.info? 118).map (·.size)=some (dgL n).toArray.size/\(loadVar 118 ⟨r,0,none⟩).run prog (wr.setCells r 0 (dgL n))=.ok (dgV n) (wr.setCells r 0 (dgL n))/\Gr w (wr.setCells r 0 (dgL n)):=by
 have hr4:ZkF wr r dg0:=h4.touch t hne;have hs:(dgL n).toArray.size=140:=by simp[ZlJ ho.dg]
 refine⟨by rw[hs];exact hr4.there,Vnc (ZlJ ho.dg),by rw[hs];exact Vnc (cs:=dgL dg0) (ZlJ XMG),(ZkF.over hr4.row (ZlJ XMG) ho.dg).load,?_⟩;have t2:=((g.touch (λk=>k=o\/k=r)).trans (t.mono (λk _ h=>.inl h))).trans ((XF4.setCells (q:=r) (dgL n) 0 wr).mono (λk _ h=>.inr h));exact(t2.mono (T:=λ_=>False) (λk hk e=>by rcases e with e|e <;> omega)).gr
theorem Y0C{a b:List Nat}(ha:Dg a)(hb:Dg b)(hs:lv 65536 a+lv 65536 b<65536 ^ 140)(w:World):Calls prog 72 #[dgV a,dgV b] w (X4N w (lv 65536 a+lv 65536 b)):=by
 obtain⟨w4,hw4,hg4,h1,h2,h3,h4⟩:=ZkO w ha hb;have HS:=hid hs;have HA:=hid h1;have HB:=hid h2;have HR:=hid h3;have HO:=hid h4;have HG4:=hid hg4;have HW4:=hid hw4;have s1:(dgL a).toArray.size=140:=by simp[ZlJ ha]
 have s2:(dgL b).toArray.size=140:=by simp[ZlJ hb]
 have HDA:=hid ha;have HDB:=hid hb;unfold dgV;generalize (dgL a).toArray=A at HW4 s1⊢;generalize (dgL b).toArray=B at HW4 s2⊢;clear hw4 hg4 h1 h2 h3 h4 ha hb hs;go_enter func72,ntmps72;go_upto_region 2 with(fail);generalize hq4:World.alloc _ _=q4;have hq:q4=w4:=by rw[<-hq4,HW4.o];rfl
 subst hq;clear hq4 HW4;go_wp2
 go_loopw [6,7] (λs6 s7 wr=>∃(i c:Nat) (out:List Nat),i<=140/\s6=.int .i64 c/\s7=.int .i64 i/\Hid (ZdN 65536 a b out i c)/\Hid (ZkF wr (w.heap.size+3) out)/\Hid (XF4 (λk=>k=w.heap.size+3) q4 wr)) (λ_ s7 _=>140-(intOf s7).toNat)
 case atStart=>exact⟨0,0,dg0,by omega,rfl,rfl,⟨by have:=ZdN.zero (B:=65536) (by decide) (a:=a) (b:=b) (by rw[HDA.o.len,HDB.o.len]);rw[HDA.o.len]at this;exact this⟩,HO,⟨XF4.refl _ _⟩⟩
 case round=>
  obtain⟨i,c,out,hi,rfl,rfl,HP,HOU,HT⟩:=hrel;by_cases hi2:i<140
  ·have hiI:(i:Int)<140:=Ω
   have hc1:=HP.o.car;have c1:=(HA.o.touch HT.o Ω).digit hi2;have c2:=(HB.o.touch HT.o Ω).digit hi2;have l1:=(HA.o.touch HT.o Ω).row.lt;have l2:=(HB.o.touch HT.o Ω).row.lt;have c3:=HOU.o.digit hi2;have l3:=HOU.o.row.lt;have f3:=HOU.o.row.free;have hx:=XQI (B:=65536) (by decide) HDA.o.dig i;have hy:=XQI (B:=65536) (by decide) HDB.o.dig i;have HST:=hid (HP.o.step (by decide) HDA.o.dig HDB.o.dig (by rw[HDA.o.len];exact hi2));have HPU:=hid (λ(W:World) (h:ZkF W (w.heap.size+3) out) (y:Nat) (hy:y<65536)=>h.put (i:=i) hy);obtain⟨x,hxe⟩:∃x,x=a.getD i 0:=⟨_,rfl⟩;obtain⟨y,hye⟩:∃y,y=b.getD i 0:=⟨_,rfl⟩;rw[<-hxe]at c1 hx HST;rw[<-hye]at c2 hy HST;obtain⟨n,hn⟩:∃n,n=x+y+c:=⟨_,rfl⟩;have hnI:(x:Int)+(y:Int)+(c:Int)=(n:Int):=Ω
   have hnb:n<131072:=Ω
   rw[<-hn]at HST;have e1:((n:Int).tdiv 65536)=((n/65536:Nat):Int):=rfl;have e2:((n:Int).tmod 65536)=((n%65536:Nat):Int):=rfl;have hm:n%65536<65536:=ζn _ (by decide);have hd:n/65536<=1:=Ω
   generalize n%65536=m at e2 hm HST;generalize n/65536=d at e1 hd HST;have HHI:=hid hi2;have HM:=hid hm;clear hxe hye hn hi hi2;go_wp2;go_quiet (fail);go_wp2;go_round
   case rel=>exact⟨i+1,d,out.set i m,HHI.o,rfl,by go_num,HST,⟨HPU.o _ (HOU.o.gr ((Gr.refl _).drewN _)) m HM.o⟩,⟨(HT.o.drewN _).setCell (a:=⟨w.heap.size+3,i,none⟩) (λ_=>rfl) _⟩⟩
   case measure=>simp[intOf];omega
  ·have hiI:¬(i:Int)<140:=Ω
   obtain rfl:i=140:=Ω
   obtain⟨k1,k2,k3,k4,k5⟩:=XKm HR.o HG4.o HOU.o HT.o Ω Ω Ω;have HRG:=hid HOU.o.range;have HTH:=hid k1;have HI:=hid k2;have HI4:=hid k3;have HL:=hid k4;have HGF:=hid k5;have HOO:=hid (JEv out);have lo:=HOU.o.row.lt;have lr:=(HR.o.touch HT.o Ω).row.lt;have HDN:Hid (lv 65536 out=lv 65536 a+lv 65536 b):=⟨ZdN.done (c:=c) (by rw[HDA.o.len];exact HP.o) (by rw[HDA.o.len];exact HS.o)⟩;clear k1 k2 k3 k4 k5 hi hi2
   go_wp2_with(first
    | (refine wpList_load_mid rfl 118 _ rfl (w.heap.size+3) 0 rfl (dgL out) _ HRG.o underlying118 rfl HI.o ?_)
    | (refine wpList_store_mid rfl 118 _ _ rfl (w.heap.size+2) 0 (dgL out).toArray rfl rfl HTH.o HI4.o HOO.o ?_))
   have hl:=HL.o;refine ζt (v:=dgV out) ?_ rfl ⟨out,rfl,HGF.o,HOU.o.dg,HDN.o⟩;simp[results,results72,asAddr,hl]
theorem Jzf{a b:List Nat}(ha:Dg a)(hb:Dg b)(hs:lv 65536 b<=lv 65536 a)(w:World):Calls prog 60 #[dgV a,dgV b] w (X4N w (lv 65536 a-lv 65536 b)):=by
 obtain⟨w4,hw4,hg4,h1,h2,h3,h4⟩:=ZkO w ha hb;have HS:=hid hs;have HA:=hid h1;have HB:=hid h2;have HR:=hid h3;have HO:=hid h4;have HG4:=hid hg4;have HW4:=hid hw4;have s1:(dgL a).toArray.size=140:=by simp[ZlJ ha]
 have s2:(dgL b).toArray.size=140:=by simp[ZlJ hb]
 have HDA:=hid ha;have HDB:=hid hb;unfold dgV;generalize (dgL a).toArray=A at HW4 s1⊢;generalize (dgL b).toArray=B at HW4 s2⊢;clear hw4 hg4 h1 h2 h3 h4 ha hb hs;go_enter func60,ntmps60;go_upto_region 2 with(fail);generalize hq4:World.alloc _ _=q4;have hq:q4=w4:=by rw[<-hq4,HW4.o];rfl
 subst hq;clear hq4 HW4;go_wp2
 go_loopw [6,7] (λs6 s7 wr=>∃(i c:Nat) (out:List Nat),i<=140/\s6=.int .i64 c/\s7=.int .i64 i/\Hid (QrV 65536 a b out i c)/\Hid (ZkF wr (w.heap.size+3) out)/\Hid (XF4 (λk=>k=w.heap.size+3) q4 wr)) (λ_ s7 _=>140-(intOf s7).toNat)
 case atStart=>exact⟨0,0,dg0,by omega,rfl,rfl,⟨by have:=QrV.zero (B:=65536) (by decide) (a:=a) (b:=b) (by rw[HDA.o.len,HDB.o.len]);rw[HDA.o.len]at this;exact this⟩,HO,⟨XF4.refl _ _⟩⟩
 case round=>
  obtain⟨i,c,out,hi,rfl,rfl,HP,HOU,HT⟩:=hrel;by_cases hi2:i<140
  ·have hiI:(i:Int)<140:=Ω
   have hc1:=HP.o.car;have c1:=(HA.o.touch HT.o Ω).digit hi2;have c2:=(HB.o.touch HT.o Ω).digit hi2;have l1:=(HA.o.touch HT.o Ω).row.lt;have l2:=(HB.o.touch HT.o Ω).row.lt;have c3:=HOU.o.digit hi2;have l3:=HOU.o.row.lt;have f3:=HOU.o.row.free;have hx:=XQI (B:=65536) (by decide) HDA.o.dig i;have hy:=XQI (B:=65536) (by decide) HDB.o.dig i;have HPS:=hid (λ(y d:Nat) (hy:y<65536) (hd:d<=1) (e:y+b.getD i 0+c=a.getD i 0+d*65536)=>HP.o.put (by rw[HDA.o.len];exact hi2) hy hd e);have HPU:=hid (λ(W:World) (h:ZkF W (w.heap.size+3) out) (y:Nat) (hy:y<65536)=>h.put (i:=i) hy);obtain⟨x,hxe⟩:∃x,x=a.getD i 0:=⟨_,rfl⟩;obtain⟨y,hye⟩:∃y,y=b.getD i 0:=⟨_,rfl⟩;rw[<-hxe]at c1 hx HPS;rw[<-hye]at c2 hy HPS;have HHI:=hid hi2;clear hxe hye hi hi2;obtain⟨v,hv⟩:∃v:Int,v=(x:Int)-(y:Int)-(c:Int):=⟨_,rfl⟩;have hvI:(x:Int)-(y:Int)-(c:Int)=v:=hv.symm;have hvb:-65536<=v/\v<65536:=Ω
   obtain⟨hv1,hv2⟩:=hvb;have HV:=hid hv;clear hv;by_cases hneg:v<0
   ·obtain⟨m,hm⟩:∃m:Nat,(m:Int)=v+65536:=⟨(v+65536).toNat,by omega⟩;have hmI:v+65536=(m:Int):=hm.symm;have HM:=hid hm;have HMB:Hid (m<65536):=⟨by omega⟩;have HST:=hid (HPS.o m 1 HMB.o Ω (by have:=HV.o;have:=HM.o;omega));clear hm;go_wp2;go_quiet (fail);go_wp2;go_round
    case rel=>exact⟨i+1,1,out.set i m,HHI.o,rfl,by go_num,HST,⟨HPU.o _ (HOU.o.gr ((Gr.refl _).drewN _)) m HMB.o⟩,⟨(HT.o.drewN _).setCell (a:=⟨w.heap.size+3,i,none⟩) (λ_=>rfl) _⟩⟩
    case measure=>simp[intOf];omega
   ·obtain⟨m,hm⟩:∃m:Nat,v=(m:Int):=⟨v.toNat,by omega⟩;subst hm;have HMB:Hid (m<65536):=⟨by omega⟩;have HST:=hid (HPS.o m 0 HMB.o Ω (by have:=HV.o;omega));have hv3:m<65536:=HMB.o;clear hneg hv1 hv2;go_wp2;go_quiet (fail);go_wp2;go_round
    case rel=>exact⟨i+1,0,out.set i m,HHI.o,rfl,by go_num,HST,⟨HPU.o _ (HOU.o.gr ((Gr.refl _).drewN _)) m HMB.o⟩,⟨(HT.o.drewN _).setCell (a:=⟨w.heap.size+3,i,none⟩) (λ_=>rfl) _⟩⟩
    case measure=>simp[intOf];omega
  ·have hiI:¬(i:Int)<140:=Ω
   obtain rfl:i=140:=Ω
   obtain⟨k1,k2,k3,k4,k5⟩:=XKm HR.o HG4.o HOU.o HT.o Ω Ω Ω;have HRG:=hid HOU.o.range;have HTH:=hid k1;have HI:=hid k2;have HI4:=hid k3;have HL:=hid k4;have HGF:=hid k5;have HOO:=hid (JEv out);have lo:=HOU.o.row.lt;have lr:=(HR.o.touch HT.o Ω).row.lt;have HDN:Hid (lv 65536 out=lv 65536 a-lv 65536 b):=⟨QrV.done (c:=c) (by rw[HDA.o.len];exact HP.o) (by decide) HS.o⟩;clear k1 k2 k3 k4 k5 hi hi2
   go_wp2_with(first
    | (refine wpList_load_mid rfl 118 _ rfl (w.heap.size+3) 0 rfl (dgL out) _ HRG.o underlying118 rfl HI.o ?_)
    | (refine wpList_store_mid rfl 118 _ _ rfl (w.heap.size+2) 0 (dgL out).toArray rfl rfl HTH.o HI4.o HOO.o ?_))
   have hl:=HL.o;refine ζt (v:=dgV out) ?_ rfl ⟨out,rfl,HGF.o,HOU.o.dg,HDN.o⟩;simp[results,results60,asAddr,hl]
end
end
section
section
open Go.RowKit Word
def dgs(q m:Nat):Nat->List Nat
 | 0=>dg0
 | i+1=>(dgs q m i).set (q+i) (m/65536 ^ i%65536)
theorem Z0D{q m:Nat}(hm:m<65536 ^ 4)(hq:q+4<=140):lv 65536 (dgs q m 4)=m*65536 ^ q:=by
 have:=QIt (B:=65536) (l:=dg0) (by decide) hm (by rw[XMG.len];exact hq) (λx hx=>(ζC.1 hx).2);rw[<-this];simp[dgs,ξM]
theorem ZHq{m q:Nat}(hm:m<18446744073709551616)(hq:q+4<=140)(w:World):Calls prog 81 #[.int .u64 m,.int .i64 q] w (X4N w (m*65536 ^ q)):=by
 obtain⟨w2,hw2,hg2,hr,ho,-⟩:=JHf w XMG XMG;have HR:=hid hr;have HO:=hid ho;have HG2:=hid hg2;have HW2:=hid hw2;have HLV:Hid (lv 65536 (dgs q m 4)=m*65536 ^ q):=⟨Z0D Ω hq⟩;clear hw2 hg2 hr ho;go_enter func81,ntmps81;go_upto_region 2 with(fail);generalize hq4:World.alloc _ _=q4;have hq5:q4=w2:=by rw[<-hq4,HW2.o];rfl
 subst hq5;clear hq4 HW2;go_wp2
 go_loopw [0,6] (λs0 s6 wr=>∃(i c:Nat),i<=4/\c=m/65536 ^ i/\s0=.int .u64 c/\s6=.int .i64 i/\Hid (ZkF wr (w.heap.size+1) (dgs q m i))/\Hid (XF4 (λk=>k=w.heap.size+1) q4 wr)) (λ_ s6 _=>4-(intOf s6).toNat)
 case atStart=>exact⟨0,m,by omega,by simp,rfl,rfl,HO,⟨XF4.refl _ _⟩⟩
 case round=>
  obtain⟨i,c,hi,hc,rfl,rfl,HOU,HT⟩:=hrel;by_cases hi2:i<4
  ·have hiI:(i:Int)<4:=Ω
   have hcb:c<18446744073709551616:=ζz (by rw[hc];exact ζ5 _ _) hm;obtain⟨j,hj⟩:∃j,j=q+i:=⟨_,rfl⟩;have hjI:(q:Int)+(i:Int)=(j:Int):=Ω
   have hjb:j<140:=Ω
   have hjb2:(j:Int)<140:=Ω
   have e1:((c:Int)/65536)=((c/65536:Nat):Int):=rfl;have e2:((c:Int)%65536)=((c%65536:Nat):Int):=rfl;have e3:((c:Int).tdiv 65536)=((c/65536:Nat):Int):=rfl;have e4:((c:Int).tmod 65536)=((c%65536:Nat):Int):=rfl;have hmm:c%65536<65536:=ζn _ (by decide);have hdd:c/65536<=c:=ζ5 _ _;have HC1:Hid (c/65536=m/65536 ^ (i+1)):=⟨by rw[hc,ξM,Nat.pow_succ]⟩
   have HPU:Hid (∀W,ZkF W (w.heap.size+1) (dgs q m i)->ZkF (W.setCell ⟨w.heap.size+1,j,none⟩ (.int .i64 (c%65536:Nat))) (w.heap.size+1) (dgs q m (i+1))):=⟨λW h=>by
    have:=h.put (i:=j) hmm;unfold dgs;rw[hj,hc]at this⊢
    exact this⟩
   have c3:=HOU.o.digit hjb;have l3:=HOU.o.row.lt;have f3:=HOU.o.row.free;generalize (dgs q m i).getD j 0=x at c3;generalize c%65536=mm at e2 e4 hmm HPU;generalize c/65536=dd at e1 e3 hdd HC1;have HHI:=hid hi2;clear hc hi hi2 hj hjb hm hq;go_wp2;go_round
   case rel=>exact⟨i+1,dd,HHI.o,HC1.o,rfl,by go_num,⟨HPU.o _ HOU.o⟩,⟨HT.o.setCell (a:=⟨w.heap.size+1,j,none⟩) (λ_=>rfl) _⟩⟩
   case measure=>simp[intOf];omega
  ·have hiI:¬(i:Int)<4:=Ω
   obtain rfl:i=4:=Ω
   obtain⟨k1,k2,k3,k4,k5⟩:=XKm HR.o HG2.o HOU.o HT.o Ω Ω Ω;have HRG:=hid HOU.o.range;have HTH:=hid k1;have HI:=hid k2;have HI4:=hid k3;have HL:=hid k4;have HGF:=hid k5;have HDD:=hid HOU.o.dg;have lo:=HOU.o.row.lt;have lr:=(HR.o.touch HT.o Ω).row.lt;generalize dgs q m 4=out at HLV HRG HTH HI HI4 HL HGF HDD;have HOO:=hid (JEv out);clear k1 k2 k3 k4 k5 hi hi2 hc HOU
   go_wp2_with(first
    | (refine wpList_load_mid rfl 118 _ rfl (w.heap.size+1) 0 rfl (dgL out) _ HRG.o underlying118 rfl HI.o ?_)
    | (refine wpList_store_mid rfl 118 _ _ rfl w.heap.size 0 (dgL out).toArray rfl rfl HTH.o HI4.o HOO.o ?_))
   have hl:=HL.o;refine ζt (v:=dgV out) ?_ rfl ⟨out,rfl,HGF.o,HDD.o,HLV.o⟩;simp[results,results81,asAddr,hl]
theorem Yea{w3 wr w5:World}{o:Nat}{l l2:List Nat}(h:ZkF wr o l)(t:XF4 (λk=>k=o) w3 wr)(g:Gr wr w5)(hd:Dg l2):w5.there o 0 (dgL l2).toArray.size/\(prog.info? 118).map (·.size)=some (dgL l2).toArray.size/\ZkF (w5.setCells o 0 (dgL l2)) o l2/\XF4 (λk=>k=o) w3 (w5.setCells o 0 (dgL l2))/\o<w5.heap.size:=by
 have h5:=h.gr g;have hs:(dgL l2).toArray.size=140:=by simp[ZlJ hd]
 exact⟨by rw[hs];exact h5.there,by rw[hs];exact Vnc (cs:=dgL dg0) (ZlJ XMG),ZkF.over h5.row (ZlJ h5.dg) hd,(t.trans (g.touch _)).trans (XF4.setCells (q:=o) (dgL l2) 0 w5),h5.row.lt⟩
theorem YEJ{b:Nat}(h:b<=QXS):JHm b<=JHm QXS:=by
 rcases ζj b QXS with h1|h1
 ·exact ζG (Q4o h1)
 ·rw[show b=QXS by omega];exact ζe _
theorem JuT{b:Nat}(h:b<=QXS){i:Nat}(hi:i<Qub b%16):Yf9 b*65536 ^ (Qub b/16)*2 ^ i+Yf9 b*65536 ^ (Qub b/16)*2 ^ i<65536 ^ 140:=by
 have h1:=ZSr b;have h2:=YEJ h;have h3:=XJ1;have h4:2 ^ (i+1)<=2 ^ (Qub b%16):=Nat.pow_le_pow_right (by decide) hi;have h5:=ξo (Yf9 b*65536 ^ (Qub b/16)) h4;rw[h1,Nat.pow_succ,<-ζU]at h5;generalize Yf9 b*65536 ^ (Qub b/16)*2 ^ i=x at h5⊢;generalize JHm b=y at h2 h5;generalize JHm QXS=z at h2 h3;generalize 65536 ^ 140=t at h3⊢;omega
theorem XIB{b:Nat}(hb:b<=QXS)(w:World):Calls prog 73 #[.int .u64 b] w (X4N w (JHm b)):=by
 have hbi:b<=9218868437227405312:=hb;have HDG:=hid (λ(W:World)=>ZHq (m:=Yf9 b) (q:=Qub b/16) (by have:=V6a b;omega) (by have:=Vyu hb;omega) W);have HWV:Hid (Yf9 b*65536 ^ (Qub b/16)*2 ^ (Qub b%16)=JHm b):=⟨ZSr b⟩;have HWL:=hid (λ(i:Nat) (hi:i<Qub b%16)=>JuT hb hi);have hexp:=Vyu hb;have hman:=V6a b
 have hme:(b/4503599627370496=0/\Yf9 b=b%4503599627370496/\Qub b=0)\/(0<b/4503599627370496/\Yf9 b=b%4503599627370496+4503599627370496/\Qub b=b/4503599627370496-1):=by
  unfold Yf9 Qub;by_cases h:b/4503599627370496=0
  ·exact .inl ⟨h,χ h,by omega⟩
  ·exact .inr ⟨by omega,ν h,rfl⟩
 have e1:((b:Int)/4503599627370496)=((b/4503599627370496:Nat):Int):=rfl;have e2:((b:Int)%4503599627370496)=((b%4503599627370496:Nat):Int):=rfl;have e3:((b:Int).tdiv 4503599627370496)=((b/4503599627370496:Nat):Int):=rfl;have e4:((b:Int).tmod 4503599627370496)=((b%4503599627370496:Nat):Int):=rfl;have hb2:b%4503599627370496<4503599627370496:=ζn _ (by decide);have hb3:b/4503599627370496<=2047:=Ω
 generalize b/4503599627370496=qq at e1 e3 hme hb3;generalize b%4503599627370496=mm at e2 e4 hme hb2;obtain⟨M,hM⟩:∃M,M=Yf9 b:=⟨_,rfl⟩;obtain⟨E,hE⟩:∃E,E=Qub b:=⟨_,rfl⟩;rw[<-hM,<-hE]at hme HDG HWV HWL;rw[<-hE]at hexp;rw[<-hM]at hman;have f1:((E:Int).tdiv 16)=((E/16:Nat):Int):=rfl;have f2:((E:Int).tmod 16)=((E%16:Nat):Int):=rfl;have f3:E%16<16:=ζn _ (by decide);have f4:E/16<=E:=ζ5 _ _;generalize E/16=E1 at f1 f4 HDG HWV HWL;generalize E%16=E2 at f2 f3 HWV HWL;obtain⟨w1,hw1⟩:∃w1,w1=w.alloc (.cells (dgL dg0).toArray 118):=⟨_,rfl⟩;have HW1:=hid hw1;have HR1:Hid (ZkF w1 w.heap.size dg0):=⟨by rw[hw1];exact ZkF.new w XMG⟩;have HG1:Hid (Gr w w1):=⟨by rw[hw1];exact(Gr.refl w).alloc _⟩;have HZ1:Hid (w1.heap.size=w.heap.size+1):=⟨by rw[hw1];exact τ ..⟩;clear hw1 hM hE hb hbi
 have HTAIL:Hid (∀(w2:World) (n:List Nat),Gr w1 w2->Dg n->ZkF ((w2.alloc (.cells (dgL dg0).toArray 118)).setCells w2.heap.size 0 (dgL n)) w2.heap.size n/\Gr w2 ((w2.alloc (.cells (dgL dg0).toArray 118)).setCells w2.heap.size 0 (dgL n))/\(w2.alloc (.cells (dgL dg0).toArray 118)).there w2.heap.size 0 (dgL n).toArray.size/\(prog.info? 118).map (·.size)=some (dgL n).toArray.size):=⟨λw2 n _ hn=>by
  have hs:(dgL n).toArray.size=140:=by simp[ZlJ hn]
  have h0:=ZkF.new w2 XMG;refine⟨ZkF.over h0.row (ZlJ XMG) hn,?_,by rw[hs];exact h0.there,by rw[hs];exact Vnc (cs:=dgL dg0) (ZlJ XMG)⟩;have t:=(((Gr.refl w2).alloc (.cells (dgL dg0).toArray 118)).touch (λk=>k=w2.heap.size)).trans (XF4.setCells (q:=w2.heap.size) (dgL n) 0 _)
  exact(t.mono (T:=λ_=>False) (λk hk e=>by omega)).gr⟩
 go_enter func73,ntmps73;go_upto_region 1 with(fail);generalize hq4:World.alloc _ _=q4;have hq5:q4=w1:=by rw[<-hq4,HW1.o];rfl
 subst hq5;clear hq4 HW1;rcases hme with⟨h1,h2,h3⟩|⟨h1,h2,h3⟩
 case' inl=>
  obtain rfl:qq=E:=Ω
  subst h2;have hE0:¬(0:Int)<(qq:Int):=Ω
  have hE1:True:=trivial;have hE2:True:=trivial;clear h1 h3
 case' inr=>
  have hE0:(0:Int)<(qq:Int):=Ω
  have hE1:(qq:Int)-1=(E:Int):=Ω
  have hE2:(mm:Int)+4503599627370496=(M:Int):=Ω
  clear h1 h2 h3
 all_goals
  go_upto_region 7 with(first
   | (go_at_call 81;refine(HDG.o _).mono ?_;rintro e w2 ⟨n,rfl,hg,hd,hl⟩;obtain⟨k1,k2,k3,k4⟩:=HTAIL.o w2 n hg hd;have HS1:=hid k1;have HS2:=hid k2;have HTH:=hid k3;have HI4:=hid k4;have HOO:=hid (JEv n);have HG2:=hid hg;have HLN:=hid hl;clear k1 k2 k3 k4 hg hd hl)
   | (refine wpList_store_mid rfl 118 _ _ rfl w2.heap.size 0 (dgL n).toArray rfl rfl HTH.o HI4.o HOO.o ?_))
  have hs1:=HS1.o;have hs2:=HS2.o;generalize hw3:World.setCells _ _ _ _=w3;have HO3:Hid (ZkF w3 w2.heap.size n):=⟨by rw[<-hw3];exact hs1⟩;have HG3:Hid (Gr q4 w3):=⟨by rw[<-hw3];exact HG2.o.trans hs2⟩;have HX3:Hid (q4.heap.size<=w2.heap.size):=⟨HG2.o.size⟩;clear hw3 hs1 hs2 HS1 HS2 HTH HI4 HOO HG2 HTAIL HDG;obtain⟨o,ho⟩:∃o,o=w2.heap.size:=⟨_,rfl⟩;rw[<-ho]at HO3 HX3⊢;clear ho;go_wp2
  go_loopw [6] (λs6 wr=>∃(i:Nat) (l:List Nat),i<=E2/\s6=.int .i64 i/\Hid (lv 65536 l=M*65536 ^ E1*2 ^ i)/\Hid (ZkF wr o l)/\Hid (XF4 (λk=>k=o) w3 wr)) (λs6 _=>E2-(intOf s6).toNat)
  case atStart=>exact⟨0,n,by omega,rfl,⟨by rw[HLN.o,Nat.pow_zero,ξO]⟩,HO3,⟨XF4.refl _ _⟩⟩
  case round=>
   obtain⟨i,l,hi,rfl,HLV,HOU,HT⟩:=hrel;have HRG:=hid HOU.o.range;have HI:=hid (Vnc (ZlJ HOU.o.dg));have lo:=HOU.o.row.lt;by_cases hi2:i<E2
   ·have hiI:(i:Int)<(E2:Int):=Ω
    have HPL:=hid (λ(W:World)=>Y0C HOU.o.dg HOU.o.dg (by rw[HLV.o];exact HWL.o i hi2) W);have HHI:=hid hi2;unfold dgV at HPL;clear hi hi2;have HPS:=hid (λ(w5:World) (l2:List Nat) (hg:Gr wr w5) (hd:Dg l2)=>Yea HOU.o HT.o hg hd)
    go_wp2_with(first
     | (go_at_call 72;refine(HPL.o _).mono ?_;rintro e w5 ⟨l2,rfl,hg,hd,hl⟩;obtain⟨k1,k2,k3,k4,k5⟩:=HPS.o w5 l2 hg hd;have HTH:=hid k1;have HI4:=hid k2;have HO5:=hid k3;have HT5:=hid k4;have HOO:=hid (JEv l2);have HL5:=hid hl;clear hg hd hl k1 k2 k3 k4)
     | (refine wpList_load_mid rfl 118 _ rfl o 0 rfl (dgL l) _ HRG.o underlying118 rfl HI.o ?_)
     | (refine wpList_store_mid rfl 118 _ _ rfl o 0 (dgL l2).toArray rfl rfl HTH.o HI4.o HOO.o ?_))
    go_round
    case rel=>exact⟨i+1,l2,HHI.o,by go_num,⟨by rw[HL5.o,HLV.o,Nat.pow_succ,<-ζU,Nat.mul_two]⟩,HO5,HT5⟩
    case measure=>have:=HHI.o;simp[intOf];omega
   ·have hiI:¬(i:Int)<(E2:Int):=Ω
    obtain rfl:E2=i:=Ω
    have hX:=HX3.o;have hZ:=HZ1.o;obtain⟨k1,k2,k3,k4,k5⟩:=XKm (HR1.o.gr HG3.o) (HG1.o.trans HG3.o) HOU.o HT.o Ω Ω Ω;have HTH:=hid k1;have HI4:=hid k3;have HL:=hid k4;have HGF:=hid k5;have HOO:=hid (JEv l);have lr:=((HR1.o.gr HG3.o).touch HT.o Ω).row.lt;clear k1 k2 k3 k4 k5 hi hi2 hX hZ
    go_wp2_with(first
     | (refine wpList_load_mid rfl 118 _ rfl o 0 rfl (dgL l) _ HRG.o underlying118 rfl HI.o ?_)
     | (refine wpList_store_mid rfl 118 _ _ rfl w.heap.size 0 (dgL l).toArray rfl rfl HTH.o HI4.o HOO.o ?_))
    have hl:=HL.o;refine ζt (v:=dgV l) ?_ rfl ⟨l,rfl,HGF.o,HOU.o.dg,HLV.o.trans HWV.o⟩;simp[results,results73,asAddr,hl]
end
end
section
section
open Go.RowKit Word
def wd(s:Nat):List Nat:=(List.range 140).map λi=>s/65536 ^ i%65536
def wL(s:Nat):List Value:=dgL (wd s)
theorem QlO(s:Nat):Dg (wd s):=⟨by simp[wd],λx hx=>by
 obtain⟨i,-,rfl⟩:=ξD.1 hx
 exact ζn _ (by decide)⟩
theorem YWS(s:Nat){i:Nat}(hi:i<140):(wd s).getD i 0=s/65536 ^ i%65536:=by
 unfold wd;rw[θ,ζr,List.getElem?_range hi];rfl
theorem Znj(s:Nat):∀i,i<=140->lv 65536 ((wd s).take i)=s%65536 ^ i
 | 0,_=>by simp[lv,Nat.mod_one]
 | i+1,hi=>by
  rw[YhX,Znj s i Ω,YWS s Ω,Nat.mod_pow_succ,ζM]
theorem VeF{s:Nat}(h:s<65536 ^ 140):lv 65536 (wd s)=s:=by
 have:=Znj s 140 (ζe _);rw[ζB (by rw[(QlO s).len];exact ζe _),ξc h]at this;exact this
theorem ZLF{n:List Nat}(h:Dg n):n=wd (lv 65536 n):=by
 apply List.ext_getElem
 ·rw[h.len,(QlO _).len]
 ·intro i h1 h2;have hi:i<140:=by rw[h.len]at h1;exact h1
  have e:=YWS (lv 65536 n) hi;rw[(YJJ (B:=65536) (by decide) h.dig (i:=i) Ω).1,V2t h1,Nat.add_mul_mod_self_left,ξc (XQI (by decide) h.dig i)]at e;rw[θ,θ,μ h1,μ h2]at e;exact e.symm
theorem X4N.val{w w':World}{s:Nat}{e:Ending}(h:X4N w s e w'):e=.returned (.agg (wL s).toArray)/\Gr w w':=by
 obtain⟨n,h1,h2,h3,h4⟩:=h;refine⟨?_,h2⟩;rw[h1,ZLF h3,h4];rfl
theorem VIr{b:Nat}(hb:b<=QXS)(w:World):Calls prog 73 #[.int .u64 b] w λe w'=>e=.returned (.agg (wL (JHm b)).toArray)/\Gr w w':=(XIB hb w).mono λ_ _ h=>h.val
theorem JYA{x y:Nat}(hs:x+y<65536 ^ 140)(w:World):Calls prog 72 #[.agg (wL x).toArray,.agg (wL y).toArray] w λe w'=>e=.returned (.agg (wL (x+y)).toArray)/\Gr w w':=by
 have h1:lv 65536 (wd x)=x:=VeF (ζz (Nat.le_add_right _ _) hs);have h2:lv 65536 (wd y)=y:=VeF (ζz (Nat.le_add_left _ _) hs);have:=Y0C (QlO x) (QlO y) (by rw[h1,h2];exact hs) w;rw[h1,h2]at this;exact this.mono λ_ _ h=>h.val
theorem XnE{x y:Nat}(hx:x<65536 ^ 140)(hs:y<=x)(w:World):Calls prog 60 #[.agg (wL x).toArray,.agg (wL y).toArray] w λe w'=>e=.returned (.agg (wL (x-y)).toArray)/\Gr w w':=by
 have h1:lv 65536 (wd x)=x:=VeF hx;have h2:lv 65536 (wd y)=y:=VeF (ζz hs hx);have:=Jzf (QlO x) (QlO y) (by rw[h1,h2];exact hs) w;rw[h1,h2]at this;exact this.mono λ_ _ h=>h.val
theorem Qa4{x y:Nat}(hx:x<65536 ^ 140)(hy:y<65536 ^ 140)(w:World):Calls prog 58 #[.agg (wL x).toArray,.agg (wL y).toArray] w λe w'=>e=.returned (.bool (decide (x<y)))/\Gr w w':=by
 have:=X9i (QlO x) (QlO y) w;rw[VeF hx,VeF hy]at this;exact this
theorem VhI{P:Program}{ops:Array Oper}{C:World->Prop}{Q:Act->Prop}{rest:List Oper}{o:Oper}{a:Act}(hw:Region.wanted o (yielded ops a.tmps)=true)(ty:TypeId)(x:Operand)(ho:o.op=.load ty x)(b off:Nat)(hx:a.eval x=.pointer (some ⟨b,off,none⟩))(cs:List Value)(d:TypeDesc)(hS:∀w,C w->w.rangeAt b off cs)
  (hu:P.underlying ty=some d) (hd:d.isRow=true) (hi:(P.info? ty).map (·.size)=some cs.length) (h:wpQuiet P ops C Q rest (a.put o.dst (.agg cs.toArray))):wpQuiet P ops C Q (o :: rest) a:=
 BigFrame.wpQuiet_want hw λK hK=>⟨_,λw hw'=>by
  unfold Oper.quietAt execOp;simp only[ho,hx,Instr.loadAt,Instr.sureAddr,Sem.run_bind,Sem.run_pure,Result.andThen_ok,run_loadVar_mid w b off ty cs d (hS w hw') hu hd hi]
  exact⟨rfl,rfl⟩,hK _ h⟩
def WAt(w:World)(b x:Nat):Prop:=Rec w b 118 (wL x)
theorem WAt.gr{w w':World}{b x:Nat}(h:WAt w b x)(g:Gr w w'):WAt w' b x:=Rec.gr h g
theorem WAt.touch{w w':World}{b x:Nat}{S:Nat->Prop}(h:WAt w b x)(t:XF4 S w w')(hS:¬S b):WAt w' b x:=Rec.touch h t hS
theorem WAt.dg{w:World}{b x:Nat}(h:WAt w b x):ZkF w b (wd x):=⟨h,QlO x⟩
theorem YBc(x:Nat):(wL x).length=140:=ZlJ (QlO x)
theorem V2u(x:Nat):(wL x).toArray.size=140:=by simp[YBc]
theorem Xip(w:World):(isAgg 118).run prog w=.ok true w:=by kernel_rfl
theorem WAt.from0{w:World}{b x:Nat}(h:WAt w b x):(loadCellsFrom ⟨b,0,none⟩ 0 140 #[]).run prog w=.ok (wL x).toArray w:=by
 have:=ZaP h 140 0 #[] (by rw[YBc]);simpa using this
theorem Zy6{b:Nat}(h:b<=QXS):JHm b<65536 ^ 140:=by
 have h1:=YEJ h;have h2:=XJ1;generalize JHm QXS=z at h1 h2;generalize 65536 ^ 140=t at h2⊢;omega
end
end
section
section
open Go.RowKit
inductive YCi where
 | fin (qs:List Nat)
 | one (qs:List Nat) (k:Nat) (t:YCi)
 | two (qs:List Nat) (k1:Nat) (t1:YCi) (k2:Nat) (t2:YCi)
def YCi.len:YCi->Nat
 | .fin qs=>qs.length
 | .one qs _ t=>qs.length+(t.len+1)
 | .two qs _ t1 _ _=>qs.length+(t1.len+1)
def ZFy(md:Region.Mode)(ops:Array Oper):List Nat->Array Bool->Option (Array Bool)
 | [],listed=>some listed
 | k :: r,listed=>if (Region.ready md ops listed).contains k&&Region.free md ops listed k&&((ops[k]?).any QK6)then ZFy md ops r (listed.setIfInBounds k true)else none
def X0z(md:Region.Mode)(ops:Array Oper):YCi->Array Bool->Bool
 | .fin qs,listed=>match ZFy md ops qs listed with
  | some l=>(Region.ready md ops l).isEmpty
  | none=>false
 | .one qs k t,listed=>match ZFy md ops qs listed with
  | some l=>decide (Region.ready md ops l=[k])&&X0z md ops t (l.setIfInBounds k true)
  | none=>false
 | .two qs k1 t1 k2 t2,listed=>match ZFy md ops qs listed with
  | some l=>decide (Region.ready md ops l=[k1,k2])&&decide (t1.len=t2.len)&&X0z md ops t1 (l.setIfInBounds k1 true)&&X0z md ops t2 (l.setIfInBounds k2 true)
  | none=>false
def JVQ(P:Program)(l:List Oper)(S:World->Prop)(Q:Exit->Act->World->Prop):YCi->Act->World->Prop
 | .fin qs,a,w=>wpQuiet P l.toArray S (λa'=>Q .normal a' w) (XZy l qs) a
 | .one qs k t,a,w=>wpQuiet P l.toArray S (λa'=>wpList P l.toArray (Exit.then (λa2 w2=>S w2/\JVQ P l S Q t a2 w2) Q) (XZy l [k]) a' w) (XZy l qs) a
 | .two qs k1 t1 k2 t2,a,w=>wpQuiet P l.toArray S (λa'=>wpList P l.toArray (Exit.then (λa2 w2=>S w2/\JVQ P l S Q t1 a2 w2) Q) (XZy l [k1]) a' w/\wpList P l.toArray (Exit.then (λa2 w2=>S w2/\JVQ P l S Q t2 a2 w2) Q) (XZy l [k2]) a' w) (XZy l qs) a
section
variable {P:Program} {l:List Oper} {Q:Exit->Act->World->Prop} {md:Region.Mode} {S:World->Prop} {z:Nat}
theorem V9C(hsel:Region.noSelect l.toArray=true)(hQ:∀c a b w,Q (.panic c) b w->Q (.panic c) a w)(hz:Xzl md l.toArray z=true){w:World}(hS:S w){K:Act->Prop}{f:Nat}{l':Array Bool}
  (hK:∀a,ZVQ md l.toArray l'->K a->Vnh P md l.toArray Q S z f l' a w):
  ∀(qs:List Nat) (listed:Array Bool) (a:Act),ZFy md l.toArray qs listed=some l'->ZVQ md l.toArray listed->wpQuiet P l.toArray S K (XZy l qs) a →
   Vnh P md l.toArray Q S z (qs.length+f) listed a w
 | [],listed,a,hB,hc,h=>by
  simp only[ZFy,Option.some.injEq]at hB;subst hB;simpa using hK a hc h
 | k :: qs,listed,a,hB,hc,h=>by
  simp only[ZFy]at hB
  split at hB
  ·rename_i hb;simp only[ζd]at hb;obtain⟨⟨hr,hf⟩,hq⟩:=hb;cases ho:l.toArray[k]? with
   | none=>rw[ho]at hq;cases hq
   | some o=>
    rw[ho]at hq;have hq:QK6 o=true:=hq;have hr':k∈Region.ready md l.toArray listed:=by simpa using hr
    rw[XJH ho]at h;simp only[wpQuiet]at h
    have hy:∃v,YieldsIf P l.toArray S o v a/\wpQuiet P l.toArray S K (XZy l qs) (a.put o.dst v):=by
     split at h
     ·rename_i hw;obtain⟨v,h1,h2⟩:=h;exact⟨v,XIs hq hw h1,h2⟩
     ·rename_i hw;exact⟨undef,.inr ⟨by simpa using hw,rfl⟩,h⟩
    obtain⟨v,hy,hK'⟩:=hy;have hlen:(k :: qs).length+f=(qs.length+f)+1:=by simp;omega
    rw[hlen];exact JDV ho (Region.noSelect_spec hsel) (λc a w h=>hQ c a _ w h) hz _ listed a w hc (Region.free_spec ho hf) hr' hy hS (V9C hsel hQ hz hS hK qs _ _ hB (hc.set hr') hK')
  ·cases hB
theorem Z7W(hsel:Region.noSelect l.toArray=true)(hQ:∀c a b w,Q (.panic c) b w->Q (.panic c) a w)(hz:Xzl md l.toArray z=true):
  ∀(t:YCi) (listed:Array Bool) (a:Act) (w:World),X0z md l.toArray t listed=true->ZVQ md l.toArray listed->S w->JVQ P l S Q t a w->Vnh P md l.toArray Q S z t.len listed a w
 | .fin qs,listed,a,w,hB,hc,hS,h=>by
  simp only[X0z]at hB
  split at hB
  ·rename_i l' hl;exact V9C (f:=0) (K:=λa'=>Q .normal a' w) hsel hQ hz hS (λa _ h=>⟨by simpa using hB,h⟩) qs listed a hl hc h
  ·cases hB
 | .one qs k t,listed,a,w,hB,hc,hS,h=>by
  simp only[X0z]at hB
  split at hB
  ·rename_i l' hl;simp only[ζd,ζq]at hB;obtain⟨hr,hB'⟩:=hB;refine V9C hsel hQ hz hS (λa hc h=>?_) qs listed a hl hc h;have hkr:k∈Region.ready md l.toArray l':=by rw[hr];simp
   refine⟨λh0=>(by rw[hr]at h0;cases h0),λi hi=>?_⟩;rw[hr]at hi;obtain rfl:i=k:=by simpa using hi
   obtain⟨_,o,ho,_⟩:=mem_ready.1 hkr;rw[XJH ho]at h;exact X8H ho (λa2 w2 h2=>⟨.inr h2.1,Z7W hsel hQ hz t _ a2 w2 hB' (hc.set hkr) h2.1 h2.2⟩) h
  ·cases hB
 | .two qs k1 t1 k2 t2,listed,a,w,hB,hc,hS,h=>by
  simp only[X0z]at hB
  split at hB
  ·rename_i l' hl;simp only[ζd,ζq]at hB;obtain⟨⟨⟨hr,hlen⟩,hB1⟩,hB2⟩:=hB;refine V9C hsel hQ hz hS (λa hc h=>?_) qs listed a hl hc h;refine⟨λh0=>(by rw[hr]at h0;cases h0),λi hi=>?_⟩;have hkr:i∈Region.ready md l.toArray l':=hi;rw[hr]at hi;obtain⟨_,o,ho,_⟩:=mem_ready.1 hkr;have hi:i=k1\/i=k2:=by simpa using hi
   rcases hi with rfl|rfl
   ·have h:=h.1;rw[XJH ho]at h;exact X8H ho (λa2 w2 h2=>⟨.inr h2.1,Z7W hsel hQ hz t1 _ a2 w2 hB1 (hc.set hkr) h2.1 h2.2⟩) h
   ·have h:=h.2;rw[XJH ho]at h;rw[hlen];exact X8H ho (λa2 w2 h2=>⟨.inr h2.1,Z7W hsel hQ hz t2 _ a2 w2 hB2 (hc.set hkr) h2.1 h2.2⟩) h
  ·cases hB
theorem JzF{id:Nat}{a:Act}{w:World}(S:World->Prop)(t:YCi)(hm:P.follows .mixedOrders=true)
  (hB:(Region.noSelect l.toArray&&X0z .any l.toArray t (Array.replicate l.toArray.size false)&&t.len==l.toArray.size)=true) (hS:S w.drew)
  (h:JVQ P l (λw'=>∃p:ZJV S,w'=p.w) (NoPanic Q) t a w.drew):(Code.region id l.toArray true).wp P Q a w:=by
 simp only[ζd,ζu]at hB;obtain⟨⟨hsel,hB⟩,hlen⟩:=hB;refine wp_region_noPanic (wp_region_any hm ?_);have hz:Xzl .any l.toArray l.toArray.size=true:=by unfold Xzl;simp
 have:=Z7W (P:=P) (Q:=NoPanic Q) (S:=λw'=>∃p:ZJV S,w'=p.w) (md:=.any) hsel (λc a b w h=>h) hz t _ a w.drew hB (ZVQ.none .any l.toArray) (ZJV.of hS) h;rw[hlen]at this;exact Zmi _ _ _ _ this
end
section
variable {F:Fence} {n:Nat}
section
variable {P:Program} {l:List Oper} {Q:Exit->Act->World->Prop} {md:Region.Mode} {S:World->Prop} {z:Nat}
end
end
section
variable {P:Program} {l:List Oper} {S:World->Prop} {Q:Exit->Act->World->Prop}
theorem Vy6{qs:List Nat}{a:Act}{w:World}(h:wpQuiet P l.toArray S (λa'=>Q .normal a' w) (XZy l qs) a):JVQ P l S Q (.fin qs) a w:=h
theorem QbJ{qs:List Nat}{k:Nat}{t:YCi}{a:Act}{w:World}(h:wpQuiet P l.toArray S (λa'=>wpList P l.toArray (Exit.then (λa2 w2=>S w2/\JVQ P l S Q t a2 w2) Q) (XZy l [k]) a' w) (XZy l qs) a):JVQ P l S Q (.one qs k t) a w:=h
theorem JbS{qs:List Nat}{k1 k2:Nat}{t1 t2:YCi}{a:Act}{w:World}(h:wpQuiet P l.toArray S (λa'=>wpList P l.toArray (Exit.then (λa2 w2=>S w2/\JVQ P l S Q t1 a2 w2) Q) (XZy l [k1]) a' w/\wpList P l.toArray (Exit.then (λa2 w2=>S w2/\JVQ P l S Q t2 a2 w2) Q) (XZy l [k2]) a' w) (XZy l qs) a):JVQ P l S Q (.two qs k1 t1 k2 t2) a w:=h
end
end
end
section
section
section
open Go.RowKit Word
def Vu4(w:World)(A:Option Addr)(l:List Int):Prop:=∀i (h:i<l.length),∃b o,A=some ⟨b,o,none⟩/\b<w.heap.size/\w.cell? ⟨b,o+i,none⟩=some (.int .i64 l[i])
def zs(l:List Int):List Value:=l.map λx=>.int .i64 x
section
variable {w:World} {S:Nat->Prop} {s R:Nat} {l:List Int} {lost:Bool}
theorem J0c:(prog.info? 3).map (λi=>(i.zero,i.size,i.bytes))=some (some (.int .i64 0),1,8):=by kernel_rfl
end
end
end
section
section
open Go.RowKit Word
section
variable {w:World} {r g:Nat} {rs:List Int}
end
end
end
section
section
open Go.RowKit Word
section
variable {w:World} {r g:Nat} {rs:List Int}
end
end
end
end
section
section
open Go.RowKit
theorem J0U(z:Value)(n:Nat):(madeCells #[z] n).toList=List.replicate n z:=by
 unfold madeCells;apply List.ext_getElem
 ·simp
 ·intro i h1 h2;simp[Nat.mod_one]
end
end
section
section
open Go.ChangeShapes Go.WideShapes Go.ChangeAt Go.RowKit Word
def opL(x:GOp):List Value:=[.int .i64 x.kd,.int .i64 x.a,.int .i64 x.b,.int .i64 x.i,.int .i64 x.h.p,.int .i64 x.h.f,.int .i64 x.h.k,.int .u64 (x.wd:Nat),.float .f64 x.fl]
structure GOp.Bd(x:GOp):Prop where
 kd:-9223372036854775808<=x.kd/\x.kd<=9223372036854775807
 a:-9223372036854775808<=x.a/\x.a<=9223372036854775807
 b:-9223372036854775808<=x.b/\x.b<=9223372036854775807
 i:-9223372036854775808<=x.i/\x.i<=9223372036854775807
 hp:-9223372036854775808<=x.h.p/\x.h.p<=9223372036854775807
 hf:-9223372036854775808<=x.h.f/\x.h.f<=9223372036854775807
 hk:-9223372036854775808<=x.h.k/\x.h.k<=9223372036854775807
 wd:x.wd<18446744073709551616
 fl:x.fl<18446744073709551616
theorem Vuv:prog.cellsOf 35=9:=by kernel_rfl
theorem VT5:prog.cellsOf 31=3:=by kernel_rfl
theorem ZO3:prog.cellsOf 33=1:=by kernel_rfl
theorem QE0:prog.cellsOf 32=1:=by kernel_rfl
theorem QmK:prog.cellsOf 3=1:=by kernel_rfl
section
variable {H:Type} {enc:TypeId × Value->H} {P:Program} {w:World} {base:Nat} {spare:Nat->Bool} {held:Bool} {fuel:Nat} {t:TypeId} {cs:List Value} {x:DataW H × List MemPlace}
theorem VUD{k:FloatKind}(ht:P.underlying t=some (.float k))(h:DataW.trod enc P w base spare held fuel t cs=some x):∃n,cs=[.float k n]/\(Lit.float k n).wf=true:=by
 cases fuel with
 | zero=>simp[DataW.trod]at h
 | succ n=>
  unfold DataW.trod at h;rw[ht]at h
  split at h <;> simp_all
theorem Zzh{l:List Value}{j:Nat}{v:Value}(h:(l.drop j).take 1=[v]):l[j]?=some v:=by
 have:((l.drop j).take 1)[0]?=some v:=by rw[h];rfl
 simpa using this
theorem Vgf{l:List Value}{v0 v1 v2 v3 v4 v5 v6 v7 v8:Value}(hl:l.length=9)(h0:l[0]?=some v0)(h1:l[1]?=some v1)(h2:l[2]?=some v2)(h3:l[3]?=some v3)(h4:l[4]?=some v4)(h5:l[5]?=some v5)(h6:l[6]?=some v6)(h7:l[7]?=some v7)(h8:l[8]?=some v8):l=[v0,v1,v2,v3,v4,v5,v6,v7,v8]:=by
 match l,hl with
 | [a0,a1,a2,a3,a4,a5,a6,a7,a8],_=>simp at h0 h1 h2 h3 h4 h5 h6 h7 h8;simp[*]
end
section
variable {H:Type} {enc:TypeId × Value->H} {w:World} {base:Nat} {spare:Nat->Bool} {held:Bool} {fuel:Nat} {cs:List Value} {x:DataW H × List MemPlace}
theorem X9C(h:DataW.trod enc prog w base spare held fuel 35 cs=some x):∃g:GOp,cs=opL g/\g.Bd:=by
 obtain⟨xs,n,-,-,hl,hlen,hf⟩:=DataW.trod_struct underlying35 h;have ex:∀i,i<xs.length->∃y,xs[i]?=some y:=λi hi=>⟨_,μ hi⟩
 have hlen:xs.length=7:=hlen;have g0:DataW.trod enc prog w base spare held n 3 ((cs.drop 0).take (prog.cellsOf 3))=xs[0]?:=hf 0 _ rfl;have g1:DataW.trod enc prog w base spare held n 3 ((cs.drop 1).take (prog.cellsOf 3))=xs[1]?:=hf 1 _ rfl;have g2:DataW.trod enc prog w base spare held n 3 ((cs.drop 2).take (prog.cellsOf 3))=xs[2]?:=hf 2 _ rfl;have g3:DataW.trod enc prog w base spare held n 3 ((cs.drop 3).take (prog.cellsOf 3))=xs[3]?:=hf 3 _ rfl;have g4:DataW.trod enc prog w base spare held n 31 ((cs.drop 4).take (prog.cellsOf 31))=xs[4]?:=hf 4 _ rfl;have g5:DataW.trod enc prog w base spare held n 32 ((cs.drop 7).take (prog.cellsOf 32))=xs[5]?:=hf 5 _ rfl;have g6:DataW.trod enc prog w base spare held n 33 ((cs.drop 8).take (prog.cellsOf 33))=xs[6]?:=hf 6 _ rfl;obtain⟨y0,e0⟩:=ex 0 Ω;obtain⟨y1,e1⟩:=ex 1 Ω;obtain⟨y2,e2⟩:=ex 2 Ω;obtain⟨y3,e3⟩:=ex 3 Ω;obtain⟨y4,e4⟩:=ex 4 Ω;obtain⟨y5,e5⟩:=ex 5 Ω;obtain⟨y6,e6⟩:=ex 6 Ω;rw[e0]at g0;rw[e1]at g1;rw[e2]at g2;rw[e3]at g3;rw[e4]at g4;rw[e5]at g5;rw[e6]at g6;obtain⟨a0,c0,-,b0⟩:=DataW.trod_int underlying3 g0;obtain⟨a1,c1,-,b1⟩:=DataW.trod_int underlying3 g1;obtain⟨a2,c2,-,b2⟩:=DataW.trod_int underlying3 g2;obtain⟨a3,c3,-,b3⟩:=DataW.trod_int underlying3 g3;obtain⟨a5,c5,-,b5⟩:=DataW.trod_int underlying32 g5;obtain⟨a6,c6,b6⟩:=VUD underlying33 g6;obtain⟨ys,m,-,-,hl4,hlen4,hf4⟩:=DataW.trod_struct underlying31 g4;have hlen4:ys.length=3:=hlen4;have ex4:∀i,i<ys.length->∃y,ys[i]?=some y:=λi hi=>⟨_,μ hi⟩
 have k0:DataW.trod enc prog w base spare held m 3 ((((cs.drop 4).take (prog.cellsOf 31)).drop 0).take (prog.cellsOf 3))=ys[0]?:=hf4 0 _ rfl;have k1:DataW.trod enc prog w base spare held m 3 ((((cs.drop 4).take (prog.cellsOf 31)).drop 1).take (prog.cellsOf 3))=ys[1]?:=hf4 1 _ rfl;have k2:DataW.trod enc prog w base spare held m 3 ((((cs.drop 4).take (prog.cellsOf 31)).drop 2).take (prog.cellsOf 3))=ys[2]?:=hf4 2 _ rfl;obtain⟨z0,f0⟩:=ex4 0 Ω;obtain⟨z1,f1⟩:=ex4 1 Ω;obtain⟨z2,f2⟩:=ex4 2 Ω;rw[f0]at k0;rw[f1]at k1;rw[f2]at k2;obtain⟨p0,q0,-,r0⟩:=DataW.trod_int underlying3 k0;obtain⟨p1,q1,-,r1⟩:=DataW.trod_int underlying3 k1;obtain⟨p2,q2,-,r2⟩:=DataW.trod_int underlying3 k2;simp only[QmK,QE0,ZO3,VT5]at c0 c1 c2 c3 c5 c6 q0 q1 q2;have hl9:cs.length=9:=hl.trans Vuv;have q0':=Zzh q0;have q1':=Zzh q1;have q2':=Zzh q2;rw[ξp Ω,ζ0]at q0' q1' q2';have bu:=bounds_u64 b5;have hcs:=Vgf hl9 (Zzh c0) (Zzh c1) (Zzh c2) (Zzh c3) q0' q1' q2' (Zzh c5) (Zzh c6);refine⟨⟨a0,a1,a2,a3,⟨p0,p1,p2⟩,a5.toNat,a6⟩,?_,⟨bounds_i64 b0,bounds_i64 b1,bounds_i64 b2,bounds_i64 b3,bounds_i64 r0,bounds_i64 r1,bounds_i64 r2,by show a5.toNat<_;omega,?_⟩⟩
 ·rw[hcs];unfold opL;dsimp only;rw[show ((a5.toNat:Nat):Int)=a5 from Int.toNat_of_nonneg Ω]
 ·simpa[Lit.wf]using b6
end
end
end
section
section
open Go.RowKit Word
theorem Qez{b:Nat}(h:b<9223372036854775808):Op.negFloat .f64 b=b+9223372036854775808:=by
 have e:b ^^^ 2 ^ 63=b ||| 2 ^ 63:=ξP λi=>by
  rw[Nat.testBit_xor,Nat.testBit_or,Nat.testBit_two_pow];by_cases hi:63=i
  ·subst hi;rw[Nat.testBit_lt_two_pow (show b<2 ^ 63 from h)];rfl
  ·rw[π hi];simp
 show b ^^^ 2 ^ 63=_
 rw[e];have:=XEA b 1 63 9223372036854775808 (by decide) h;rw[ξl,ξd]at this;exact this
theorem YA5.whole{l:List Nat}{s:SmS}(h:YA5 l s):QRR l=if s.na||(s.pl&&s.mi)then 9221120237041090560 else if s.pl then QXS else if s.mi then QXS+sgN else if decide (0<s.ct)&&(s.ze==s.ct)then sgN else if Q6E l<VxH l then X5K (VxH l-Q6E l)+sgN else X5K (Q6E l-VxH l):=by
 unfold QRR;rw[h.na,h.pl,h.mi];have e1:decide (0<s.ct)=decide (0<l.length):=by rw[h.ct];exact ζP.2 Ω
 have e2:(s.ze==s.ct)=(l.all λb=>b==sgN):=by
  rw[h.ze,h.ct,ξs,ζu,ζZ];constructor
  ·intro hh b hb;have:=ξx.1 (show (l.filter λb=>b==sgN).length=l.length by omega);exact this b hb
  ·intro hh;have:=ξx.2 hh;omega
 rw[e1,e2]
theorem YA5.zeros{l:List Nat}{s:SmS}(h:YA5 l s)(hz:(decide (0<s.ct)&&(s.ze==s.ct))=true):Q6E l=0/\VxH l=0:=by
 have e2:∀b∈l,b=sgN:=by
  rw[ζd,ζu,h.ze,h.ct]at hz;intro b hb;have:=ξx.1 (show (l.filter λb=>b==sgN).length=l.length by omega) b hb;simpa using this
 have v0:JHm 0=0:=by decide
 clear h hz
 induction l with
 | nil=>exact⟨rfl,rfl⟩
 | cons b l ih=>
  obtain⟨h1,h2⟩:=ih (λx hx=>e2 x (ζ7 _ hx));have hb:=e2 b (ξt ..);subst hb;unfold Q6E VxH at *
  rw[ξz,List.sum_cons,ξz,List.sum_cons,h1,h2];refine⟨by rw[ν (by decide)],by rw[χ (by decide)];exact v0⟩
theorem YA5.side{l:List Nat}{s:SmS}(h:YA5 l s)(hl:l.length<=255):(lv 18446744073709551616 s.n<2 ^ (64*34+63)->¬Q6E l<VxH l/\lv 18446744073709551616 s.n=Q6E l-VxH l) ∧
  (¬lv 18446744073709551616 s.n<2 ^ (64*34+63)->Q6E l<VxH l/\18446744073709551616 ^ 35-lv 18446744073709551616 s.n=VxH l-Q6E l/\VxH l-Q6E l<2 ^ (64*34+63)):=by
 have h1:=X2h l;have h2:=QXW l;have h3:l.length*JHm QXS<=256*JHm QXS:=ξm _ Ω;have h4:=QaL;have hB:(18446744073709551616:Nat) ^ 35=2*2 ^ (64*34+63):=by decide +kernel
 have hn:=h.n;rw[hB]at hn⊢;generalize (2:Nat) ^ (64*34+63)=M at hn h4⊢;generalize JHm QXS=vi at *
 generalize Q6E l=P at *
 generalize VxH l=Q at *
 generalize lv 18446744073709551616 s.n=n at *
 generalize 256*vi=W at *
 obtain⟨t1,t2,t3⟩:=JRN (M:=M) (n:=n) (S:=(P:Int)-Q) hn Ω Ω;constructor
 ·intro hlt;have:=t1.1 hlt;have:=t2 this;omega
 ·intro hlt
  have hs:(P:Int)-Q<0:=by
   rcases Int.lt_or_le ((P:Int)-Q) 0 with hh|hh
   ·exact hh
   ·exact absurd (t1.2 hh) hlt
  have:=t3 hs;omega
theorem ZHo(x:Int)(w:World):Calls prog 65 #[.int .i64 x] w λe w'=>e=.returned (.float .f64 (if 0<=x then QXS else QXS+sgN))/\w=w':=by
 have h1:∀W,(callFunc 64 #[.int .u64 9218868437227405312]).run prog W=.ok (.value (.float .f64 9218868437227405312)) W:=λW=>VBi 9218868437227405312 W;have h2:∀W,(callFunc 64 #[.int .u64 18442240474082181120]).run prog W=.ok (.value (.float .f64 18442240474082181120)) W:=λW=>VBi 18442240474082181120 W;by_cases h:0<=x
 ·rw[χ h];go_enter func65,ntmps65;go_wp2;go_ret;exact⟨rfl,rfl⟩
 ·rw[ν h];go_enter func65,ntmps65;go_wp2;go_ret;exact⟨rfl,rfl⟩
theorem ZFj{w:World}{p:Nat}{s:SmS}{l:List Nat}(h:Qnw w p s)(hS:YA5 l s)(hl:l.length<=255):Calls prog 53 #[.pointer (some ⟨p,0,none⟩)] w λe w'=>e=.returned (.float .f64 (QRR l))/\Gr w w':=by
 have HW:=hid hS.whole;have HZ:=hid hS.zeros;have HSD:=hid (hS.side hl);have HSZ:=hid (Y8d h);have HC:=hid (λ(W:World) (gg:Gr w W)=>h.gr gg);have c36:w.cell? ⟨p,36,none⟩=some (.bool s.na):=h.tail (k:=0) rfl;have c37:w.cell? ⟨p,37,none⟩=some (.bool s.pl):=h.tail (k:=1) rfl;have c38:w.cell? ⟨p,38,none⟩=some (.bool s.mi):=h.tail (k:=2) rfl;have cl:=h.row.lt;obtain⟨V,hV⟩:∃V,V=QRR l:=⟨_,rfl⟩;rw[<-hV]at HW⊢;obtain⟨na,hna⟩:∃na,na=s.na:=⟨_,rfl⟩;obtain⟨pl,hpl⟩:∃pl,pl=s.pl:=⟨_,rfl⟩;obtain⟨mi,hmi⟩:∃mi,mi=s.mi:=⟨_,rfl⟩;rw[<-hna]at c36 HW;rw[<-hpl]at c37 HW;rw[<-hmi]at c38 HW;clear hV hna hpl hmi h hS hl;cases na with
 | true=>
  have HV:Hid (V=9221120237041090560):=⟨HW.o⟩;clear HW;go_enter func53,ntmps53;go_wp2_with(go_at_call 52;refine(J1k _ _).mono ?_;rintro e w1 ⟨rfl,rfl⟩);go_ret;exact⟨by rw[HV.o] <;> rfl,Gr.refl _⟩
 | false=>
  cases pl with
  | true=>
   cases mi with
   | true=>
    have HV:Hid (V=9221120237041090560):=⟨HW.o⟩;clear HW;go_enter func53,ntmps53;go_wp2_with(go_at_call 52;refine(J1k _ _).mono ?_;rintro e w1 ⟨rfl,rfl⟩);go_ret;exact⟨by rw[HV.o] <;> rfl,Gr.refl _⟩
   | false=>
    have HV:Hid (V=QXS):=⟨HW.o⟩;clear HW;go_enter func53,ntmps53;go_wp2_with(go_at_call 65;refine(ZHo _ _).mono ?_;rintro e w1 ⟨rfl,rfl⟩);go_ret;exact⟨by rw[HV.o] <;> rfl,Gr.refl _⟩
  | false=>
   cases mi with
   | true=>
    have HV:Hid (V=QXS+sgN):=⟨HW.o⟩;clear HW;go_enter func53,ntmps53;go_wp2_with(go_at_call 65;refine(ZHo _ _).mono ?_;rintro e w1 ⟨rfl,rfl⟩);go_ret;exact⟨by rw[HV.o] <;> rfl,Gr.refl _⟩
   | false=>
    have HV:Hid (V=if decide (0<s.ct)&&(s.ze==s.ct)then sgN else if Q6E l<VxH l then X5K (VxH l-Q6E l)+sgN else X5K (Q6E l-VxH l)):=⟨HW.o⟩;clear HW;go_enter func53,ntmps53
    go_upto_region 10 with(first
     | (go_at_call 66;refine HSZ.o.mono ?_;rintro e w1 ⟨n',ng,rfl,hg,hl',hd',hcs⟩;have HG:=hid hg;have HL':=hid hl';have HD':=hid hd';have HCS:=hid hcs;have HI3:=hid (QPn (cs:=lbL n') (by unfold lbL;rw[ζc];exact hl'));have HI4:Hid ((prog.info? 125).map (·.size)=some (lbL n').toArray.size):=⟨by rw[show (lbL n').toArray.size=(lbL n').length by simp];exact HI3.o⟩;have HTH:Hid ((w1.alloc (.cells (lbL (List.replicate 35 0)).toArray 125)).there w1.heap.size 0 (lbL n').toArray.size):=⟨by rw[show (lbL n').toArray.size=(lbL (List.replicate 35 0)).length by unfold lbL;simp[hl']];exact(Rec.new w1 125 (lbL (List.replicate 35 0))).there⟩;have HO:=hid (JyH n');clear hg hl' hd' hcs)
     | (refine wpList_store_mid rfl 125 _ _ rfl w1.heap.size 0 (lbL n').toArray rfl rfl HTH.o HI4.o HO.o ?_))
    have hl2:Yl8 ((w1.alloc (.cells (lbL (List.replicate 35 0)).toArray 125)).setCells w1.heap.size 0 (lbL n')) w1.heap.size n':=Yl8.over (Rec.new w1 _ _) rfl HL'.o HD'.o
    have hg2:Gr w1 ((w1.alloc (.cells (lbL (List.replicate 35 0)).toArray 125)).setCells w1.heap.size 0 (lbL n')):=by
     have t:=(((Gr.refl w1).alloc (.cells (lbL (List.replicate 35 0)).toArray 125)).touch (λk=>k=w1.heap.size)).trans (XF4.setCells (q:=w1.heap.size) (lbL n') 0 _);exact(t.mono (T:=λ_=>False) (λk hk e=>by omega)).gr
    generalize hw2:World.setCells _ _ _ _=w2;have hl3:Yl8 w2 w1.heap.size n':=by rw[<-hw2];exact hl2
    have hg3:Gr w1 w2:=by rw[<-hw2];exact hg2
    clear hw2 hl2 hg2 HTH;obtain⟨b,hb⟩:∃b,b=w1.heap.size:=⟨_,rfl⟩;rw[<-hb]at hl3⊢;have HG2:=hid (HG.o.trans hg3);have HRG:=hid hl3.range;have hbl:=hl3.row.lt
    have hB:lv 18446744073709551616 n' < 2 ^ (64*34+63):=by
     rcases HCS.o with⟨-,h1,h2⟩|⟨-,h1,h2⟩
     ·rw[h2];exact h1
     ·obtain⟨k1,k2,k3⟩:=HSD.o.2 h1;rw[h2,k2];exact k3
    have HRO:=hid (λW=>Qlo HL'.o HD'.o hB W);clear hB hl3 hg3 hb c36 c37 c38 cl;obtain⟨R,hR⟩:∃R,R=X5K (lv 18446744073709551616 n'):=⟨_,rfl⟩;rw[<-hR]at HRO;have HR:=hid hR;clear hR
    go_upto_region 11 with(first
     | (go_at_call 67;refine(HRO.o _).mono ?_;rintro e w3 ⟨rfl,hg⟩;have HG3:=hid (HG2.o.trans hg);clear hg)
     | (go_at_call 52;refine(J1k _ _).mono ?_;rintro e w4 ⟨rfl,rfl⟩)
     | (refine wpList_load_mid rfl 125 _ rfl b 0 rfl (lbL n') _ HRG.o underlying125 rfl HI3.o ?_))
    have h3:=HC.o _ HG3.o;have c39:w3.cell? ⟨p,39,none⟩=some (.int .i64 s.ct):=h3.tail (k:=3) rfl;have c40:w3.cell? ⟨p,40,none⟩=some (.int .i64 s.ze):=h3.tail (k:=4) rfl;have cl:=h3.row.lt;have HRL:Hid (Op.negFloat .f64 R=R+sgN):=⟨Qez (by rw[HR.o];exact ζz (Q1n _) (by decide))⟩;have hng:∀W,(Op.unary UnOp.neg (.float .f64 R)).run prog W=.ok (.float .f64 (Op.negFloat .f64 R)) W:=λW=>by simp[Op.unary,go_sem]
    have HFIN:Hid (∀W,Gr w3 W->Gr w W):=⟨λW gg=>HG3.o.trans gg⟩;have hcs:=HCS.o;rcases hcs with⟨rfl,h1,h2⟩|⟨rfl,h1,h2⟩
    ·obtain⟨k1,k2⟩:=HSD.o.1 h1;have HRV:Hid (R=X5K (Q6E l-VxH l)):=⟨by rw[HR.o,h2,k2]⟩;have HVV:Hid ((decide (0<s.ct)&&(s.ze==s.ct))=false->V=R):=⟨λhf=>by rw[HV.o,hf,ν (by decide),ν k1,HRV.o]⟩
     have HVZ:Hid ((decide (0<s.ct)&&(s.ze==s.ct))=true->V=R+sgN):=⟨λht=>by
      obtain⟨e1,e2⟩:=HZ.o ht;rw[HV.o,ht,χ rfl,HRV.o,e1,e2]
      decide⟩
     clear h1 h2 k1 k2 h3 HCS HSD HV HZ HC HSZ;generalize s.ct=ct at c39 HVV HVZ;generalize s.ze=ze at c40 HVV HVZ;obtain⟨z1,d1⟩:∃z,decide ((0:Int)<ct)=z:=⟨_,rfl⟩;obtain⟨z2,d2⟩:∃z,(ze==ct)=z:=⟨_,rfl⟩;rw[d1,d2]at HVV HVZ;cases z1 with
     | false=>
      have HQ:=hid (HVV.o rfl);clear HVV HVZ;go_quiet (fail);go_wp2;go_ret;exact⟨by rw[HQ.o] <;> rfl,HFIN.o _ ((Gr.refl w3).drewN _)⟩
     | true=>
      cases z2 with
      | false=>
       have HQ:=hid (HVV.o rfl);clear HVV HVZ;go_quiet (fail);go_wp2;go_ret;exact⟨by rw[HQ.o] <;> rfl,HFIN.o _ ((Gr.refl w3).drewN _)⟩
      | true=>
       have HQ:=hid (HVZ.o rfl);clear HVV HVZ;go_quiet (fail);go_wp2;go_ret;exact⟨by rw[HQ.o,<-HRL.o] <;> rfl,HFIN.o _ ((Gr.refl w3).drewN _)⟩
    ·obtain⟨k1,k2,k3⟩:=HSD.o.2 h1
     have HQ:Hid (V=R+sgN):=⟨by
      have hz:(decide (0<s.ct)&&(s.ze==s.ct))=false:=by
       cases hz:(decide (0<s.ct)&&(s.ze==s.ct))with
       | false=>rfl
       | true=>
        obtain⟨e1,e2⟩:=HZ.o hz;omega
      rw[HV.o,hz,ν (by decide),χ k1,HR.o,h2,k2]⟩
     clear h1 h2 k1 k2 k3 h3 HCS HSD HV HZ HC HSZ;go_quiet (fail);go_wp2;go_ret;exact⟨by rw[HQ.o,<-HRL.o] <;> rfl,HFIN.o _ ((Gr.refl w3).drewN _)⟩
end
end
section
section
open Go.RowKit
inductive Xh2 where
 | fin (qs:List Nat)
 | snk (qs:List Nat) (k:Nat)
 | one (qs:List Nat) (k:Nat) (t:Xh2)
 | two (qs:List Nat) (k1:Nat) (t1:Xh2) (k2:Nat) (t2:Xh2)
 | thr (qs:List Nat) (k1:Nat) (t1:Xh2) (k2:Nat) (t2:Xh2) (k3:Nat) (t3:Xh2)
def Xh2.len:Xh2->Nat
 | .fin qs=>qs.length
 | .snk qs _=>qs.length+1
 | .one qs _ t=>qs.length+(t.len+1)
 | .two qs _ t1 _ _=>qs.length+(t1.len+1)
 | .thr qs _ t1 _ _ _ _=>qs.length+(t1.len+1)
def JIN(md:Region.Mode)(ops:Array Oper)(z:Nat):Xh2->Array Bool->Bool
 | .fin qs,listed=>match ZFy md ops qs listed with
  | some l=>(Region.ready md ops l).isEmpty
  | none=>false
 | .snk qs k,listed=>match ZFy md ops qs listed with
  | some l=>decide (Region.ready md ops l=[k])&&decide (k=z)&&(Region.ready md ops (l.setIfInBounds k true)).isEmpty
  | none=>false
 | .one qs k t,listed=>match ZFy md ops qs listed with
  | some l=>decide (Region.ready md ops l=[k])&&JIN md ops z t (l.setIfInBounds k true)
  | none=>false
 | .two qs k1 t1 k2 t2,listed=>match ZFy md ops qs listed with
  | some l=>decide (Region.ready md ops l=[k1,k2])&&decide (t1.len=t2.len)&&JIN md ops z t1 (l.setIfInBounds k1 true)&&JIN md ops z t2 (l.setIfInBounds k2 true)
  | none=>false
 | .thr qs k1 t1 k2 t2 k3 t3,listed=>match ZFy md ops qs listed with
  | some l=>decide (Region.ready md ops l=[k1,k2,k3])&&decide (t1.len=t2.len)&&decide (t1.len=t3.len)&&JIN md ops z t1 (l.setIfInBounds k1 true)&&JIN md ops z t2 (l.setIfInBounds k2 true)&&JIN md ops z t3 (l.setIfInBounds k3 true)
  | none=>false
def YBu(P:Program)(l:List Oper)(Q:Exit->Act->World->Prop)(k:Nat)(a:Act)(w:World)(R:Act->World->Prop):Prop:=wpList P l.toArray (Exit.then R Q) (XZy l [k]) a w
def Xtb(P:Program)(l:List Oper)(S:World->Prop)(Q:Exit->Act->World->Prop):Xh2->Act->World->Prop
 | .fin qs,a,w=>wpQuiet P l.toArray S (λa'=>Q .normal a' w) (XZy l qs) a
 | .snk qs k,a,w=>wpQuiet P l.toArray S (λa'=>YBu P l Q k a' w (λa2 w2=>Q .normal a2 w2)) (XZy l qs) a
 | .one qs k t,a,w=>wpQuiet P l.toArray S (λa'=>YBu P l Q k a' w (λa2 w2=>S w2/\Xtb P l S Q t a2 w2)) (XZy l qs) a
 | .two qs k1 t1 k2 t2,a,w=>wpQuiet P l.toArray S (λa'=>YBu P l Q k1 a' w (λa2 w2=>S w2/\Xtb P l S Q t1 a2 w2)/\YBu P l Q k2 a' w (λa2 w2=>S w2/\Xtb P l S Q t2 a2 w2)) (XZy l qs) a
 | .thr qs k1 t1 k2 t2 k3 t3,a,w=>wpQuiet P l.toArray S (λa'=>YBu P l Q k1 a' w (λa2 w2=>S w2/\Xtb P l S Q t1 a2 w2)/\YBu P l Q k2 a' w (λa2 w2=>S w2/\Xtb P l S Q t2 a2 w2)/\YBu P l Q k3 a' w (λa2 w2=>S w2/\Xtb P l S Q t3 a2 w2)) (XZy l qs) a
section
variable {P:Program} {l:List Oper} {Q:Exit->Act->World->Prop} {md:Region.Mode} {S:World->Prop} {z:Nat}
theorem QLt(hsel:Region.noSelect l.toArray=true)(hQ:∀c a b w,Q (.panic c) b w->Q (.panic c) a w)(hz:Xzl md l.toArray z=true):
  ∀(t:Xh2) (listed:Array Bool) (a:Act) (w:World),JIN md l.toArray z t listed=true->ZVQ md l.toArray listed->S w->Xtb P l S Q t a w->Vnh P md l.toArray Q S z t.len listed a w
 | .fin qs,listed,a,w,hB,hc,hS,h=>by
  simp only[JIN]at hB
  split at hB
  ·rename_i l' hl;exact V9C (f:=0) (K:=λa'=>Q .normal a' w) hsel hQ hz hS (λa _ h=>⟨by simpa using hB,h⟩) qs listed a hl hc h
  ·cases hB
 | .snk qs k,listed,a,w,hB,hc,hS,h=>by
  simp only[JIN]at hB
  split at hB
  ·rename_i l' hl;simp only[ζd,ζq]at hB;obtain⟨⟨hr,rfl⟩,hB'⟩:=hB;refine V9C hsel hQ hz hS (λa hc h=>?_) qs listed a hl hc h;refine⟨λh0=>(by rw[hr]at h0;cases h0),λi hi=>?_⟩;have hkr:i∈Region.ready md l.toArray l':=hi;rw[hr]at hi;obtain rfl:i=k:=by simpa using hi
   obtain⟨_,o,ho,_⟩:=mem_ready.1 hkr;unfold YBu at h;rw[XJH ho]at h;exact X8H ho (λa2 w2 h2=>⟨.inl rfl,⟨by simpa using hB',h2⟩⟩) h
  ·cases hB
 | .one qs k t,listed,a,w,hB,hc,hS,h=>by
  simp only[JIN]at hB
  split at hB
  ·rename_i l' hl;simp only[ζd,ζq]at hB;obtain⟨hr,hB'⟩:=hB;refine V9C hsel hQ hz hS (λa hc h=>?_) qs listed a hl hc h;refine⟨λh0=>(by rw[hr]at h0;cases h0),λi hi=>?_⟩;have hkr:i∈Region.ready md l.toArray l':=hi;rw[hr]at hi;obtain rfl:i=k:=by simpa using hi
   obtain⟨_,o,ho,_⟩:=mem_ready.1 hkr;unfold YBu at h;rw[XJH ho]at h;exact X8H ho (λa2 w2 h2=>⟨.inr h2.1,QLt hsel hQ hz t _ a2 w2 hB' (hc.set hkr) h2.1 h2.2⟩) h
  ·cases hB
 | .two qs k1 t1 k2 t2,listed,a,w,hB,hc,hS,h=>by
  simp only[JIN]at hB
  split at hB
  ·rename_i l' hl;simp only[ζd,ζq]at hB;obtain⟨⟨⟨hr,hlen⟩,hB1⟩,hB2⟩:=hB;refine V9C hsel hQ hz hS (λa hc h=>?_) qs listed a hl hc h;refine⟨λh0=>(by rw[hr]at h0;cases h0),λi hi=>?_⟩;have hkr:i∈Region.ready md l.toArray l':=hi;rw[hr]at hi;obtain⟨_,o,ho,_⟩:=mem_ready.1 hkr;have hi:i=k1\/i=k2:=by simpa using hi
   unfold YBu at h;rcases hi with rfl|rfl
   ·have h:=h.1;rw[XJH ho]at h;exact X8H ho (λa2 w2 h2=>⟨.inr h2.1,QLt hsel hQ hz t1 _ a2 w2 hB1 (hc.set hkr) h2.1 h2.2⟩) h
   ·have h:=h.2;rw[XJH ho]at h;rw[hlen];exact X8H ho (λa2 w2 h2=>⟨.inr h2.1,QLt hsel hQ hz t2 _ a2 w2 hB2 (hc.set hkr) h2.1 h2.2⟩) h
  ·cases hB
 | .thr qs k1 t1 k2 t2 k3 t3,listed,a,w,hB,hc,hS,h=>by
  simp only[JIN]at hB
  split at hB
  ·rename_i l' hl;simp only[ζd,ζq]at hB;obtain⟨⟨⟨⟨⟨hr,hlen⟩,hlen3⟩,hB1⟩,hB2⟩,hB3⟩:=hB;refine V9C hsel hQ hz hS (λa hc h=>?_) qs listed a hl hc h;refine⟨λh0=>(by rw[hr]at h0;cases h0),λi hi=>?_⟩;have hkr:i∈Region.ready md l.toArray l':=hi;rw[hr]at hi;obtain⟨_,o,ho,_⟩:=mem_ready.1 hkr;have hi:i=k1\/i=k2\/i=k3:=by simpa using hi
   unfold YBu at h;rcases hi with rfl|rfl|rfl
   ·have h:=h.1;rw[XJH ho]at h;exact X8H ho (λa2 w2 h2=>⟨.inr h2.1,QLt hsel hQ hz t1 _ a2 w2 hB1 (hc.set hkr) h2.1 h2.2⟩) h
   ·have h:=h.2.1;rw[XJH ho]at h;rw[hlen];exact X8H ho (λa2 w2 h2=>⟨.inr h2.1,QLt hsel hQ hz t2 _ a2 w2 hB2 (hc.set hkr) h2.1 h2.2⟩) h
   ·have h:=h.2.2;rw[XJH ho]at h;rw[hlen3];exact X8H ho (λa2 w2 h2=>⟨.inr h2.1,QLt hsel hQ hz t3 _ a2 w2 hB3 (hc.set hkr) h2.1 h2.2⟩) h
  ·cases hB
theorem Q67{id:Nat}{a:Act}{w:World}(S:World->Prop)(z:Nat)(t:Xh2)(hm:P.follows .mixedOrders=true)
  (hB:(Region.noSelect l.toArray&&Xzl .any l.toArray z&&JIN .any l.toArray z t (Array.replicate l.toArray.size false)&&t.len==l.toArray.size)=true) (hS:S w.drew)
  (h:Xtb P l (λw'=>∃p:ZJV S,w'=p.w) (NoPanic Q) t a w.drew):(Code.region id l.toArray true).wp P Q a w:=by
 simp only[ζd,ζu]at hB;obtain⟨⟨⟨hsel,hz⟩,hB⟩,hlen⟩:=hB;refine wp_region_noPanic (wp_region_any hm ?_);have:=QLt (P:=P) (Q:=NoPanic Q) (S:=λw'=>∃p:ZJV S,w'=p.w) (md:=.any) hsel (λc a b w h=>h) hz t _ a w.drew hB (ZVQ.none .any l.toArray) (ZJV.of hS) h;rw[hlen]at this;exact Zmi _ _ _ _ this
theorem ZOd{qs:List Nat}{k:Nat}{a:Act}{w:World}(h:wpQuiet P l.toArray S (λa'=>YBu P l Q k a' w (λa2 w2=>Q .normal a2 w2)) (XZy l qs) a):Xtb P l S Q (.snk qs k) a w:=h
theorem YnI{qs:List Nat}{k:Nat}{t:Xh2}{a:Act}{w:World}(h:wpQuiet P l.toArray S (λa'=>YBu P l Q k a' w (λa2 w2=>S w2/\Xtb P l S Q t a2 w2)) (XZy l qs) a):Xtb P l S Q (.one qs k t) a w:=h
theorem ZY0{qs:List Nat}{k1 k2:Nat}{t1 t2:Xh2}{a:Act}{w:World}(h:wpQuiet P l.toArray S (λa'=>YBu P l Q k1 a' w (λa2 w2=>S w2/\Xtb P l S Q t1 a2 w2)/\YBu P l Q k2 a' w (λa2 w2=>S w2/\Xtb P l S Q t2 a2 w2)) (XZy l qs) a):Xtb P l S Q (.two qs k1 t1 k2 t2) a w:=h
theorem X56{qs:List Nat}{k1 k2 k3:Nat}{t1 t2 t3:Xh2}{a:Act}{w:World}(h:wpQuiet P l.toArray S (λa'=>YBu P l Q k1 a' w (λa2 w2=>S w2/\Xtb P l S Q t1 a2 w2)/\YBu P l Q k2 a' w (λa2 w2=>S w2/\Xtb P l S Q t2 a2 w2)/\YBu P l Q k3 a' w (λa2 w2=>S w2/\Xtb P l S Q t3 a2 w2)) (XZy l qs) a):Xtb P l S Q (.thr qs k1 t1 k2 t2 k3 t3) a w:=h
theorem JYY{k:Nat}{a:Act}{w:World}{R:Act->World->Prop}(h:wpList P l.toArray (Exit.then R Q) (XZy l [k]) a w):YBu P l Q k a w R:=h
end
end
end
section
section
open Go.ChangeShapes Go.WideShapes Go.ChangeAt Go.RowKit Word
def JDe(w:World)(A:Option Addr)(l:List GOp):Prop:=
 ∀i (h:i<l.length),l[i].Bd/\∃b o:Nat,A=some ⟨b,o,none⟩/\b<w.heap.size ∧
  w.cell? ⟨b,o+i*9,none⟩=some (.int .i64 l[i].kd)/\w.cell? ⟨b,o+i*9+1,none⟩=some (.int .i64 l[i].a)/\w.cell? ⟨b,o+i*9+2,none⟩=some (.int .i64 l[i].b)/\w.cell? ⟨b,o+i*9+3,none⟩=some (.int .i64 l[i].i)/\w.cell? ⟨b,o+i*9+4,none⟩=some (.int .i64 l[i].h.p) ∧
  w.cell? ⟨b,o+i*9+5,none⟩=some (.int .i64 l[i].h.f)/\w.cell? ⟨b,o+i*9+6,none⟩=some (.int .i64 l[i].h.k)/\w.cell? ⟨b,o+i*9+7,none⟩=some (.int .u64 (l[i].wd:Nat))/\w.cell? ⟨b,o+i*9+8,none⟩=some (.float .f64 l[i].fl)
theorem JDe.gr{w w':World}{A:Option Addr}{l:List GOp}(h:JDe w A l)(g:Gr w w'):JDe w' A l:=λi hi=>by
 obtain⟨h1,b,o,h2,h3,c0,c1,c2,c3,c4,c5,c6,c7,c8⟩:=h i hi;exact⟨h1,b,o,h2,ζa h3 g.size,(g.cell h3 _).trans c0,(g.cell h3 _).trans c1,(g.cell h3 _).trans c2,(g.cell h3 _).trans c3,(g.cell h3 _).trans c4,(g.cell h3 _).trans c5,(g.cell h3 _).trans c6,(g.cell h3 _).trans c7,(g.cell h3 _).trans c8⟩
theorem Vlo{H:Type}{enc:TypeId×Value->H}{W:World}{r:Reach}{b0:Nat}{v:Value}{d:DataW H}{p:List MemPlace}
  (hv:Value.okWide prog W r b0 22 v) (h:DataW.Trod enc prog W 0 (λ_=>true) true 22 v d p):
  ∃(A:Option Addr) (cap:Nat) (l:List GOp),v=.slice A l.length cap/\l.length<=maxLen/\JDe W A l:=by
 obtain⟨A,len,cap,rfl⟩:=okWide_slice underlying22 hv;obtain⟨fuel,hf⟩:=h;rcases Go.Deep.open_slice underlying22 hf with⟨hcs,_⟩|⟨a,len',cap',m,n,D,Pl,hcs,_,hl,hm,hmm,_,hi⟩
 ·simp[Value.cells]at hcs;obtain⟨rfl,rfl,rfl⟩:=hcs;exact⟨none,0,[],rfl,ζb _,λi h=>absurd h (by simp)⟩
 ·simp[Value.cells]at hcs;obtain⟨rfl,rfl,rfl⟩:=hcs;have hle:len<=m:=by rw[hmm];simpa using hl
  obtain⟨l,hlen,hR⟩:=Js4 (λi (x:GOp)=>x.Bd/\∀j u,(opL x)[j]?=some u->W.cell? (a.add (i*9+j))=some u) len (λi hil=>by
   obtain⟨cs,hc,ht⟩:=hi i Ω;rw[Vuv]at hc;obtain⟨_,hcl,hat⟩:=World.cells?_some hc;obtain⟨g,rfl,hg⟩:=X9C ht;refine⟨g,hg,λj u hj=>?_⟩
   have hj9:j<9:=by
    have:=(ζ2.1 hj).1;exact this
   have:=hat j (by simpa[opL]using hj9);rw[QFj]at this;rw[this]
   exact hj)
  subst hlen;refine⟨some a,cap,l,rfl,by omega,λi hil=>?_⟩;obtain⟨h1,hg⟩:=hR i hil
  have hs:a.spot=none:=by
   have h0:=(hR 0 Ω).2 0 _ rfl;have:=QvD h0;simpa[Addr.add]using this
  obtain⟨b,o,s⟩:=a;simp only at hs;subst hs;have ha:∀k,Addr.add ⟨b,o,none⟩ k=⟨b,o+k,none⟩:=λk=>by unfold Addr.add;split <;> simp_all
  have c0:=hg 0 _ rfl;have c1:=hg 1 _ rfl;have c2:=hg 2 _ rfl;have c3:=hg 3 _ rfl;have c4:=hg 4 _ rfl;have c5:=hg 5 _ rfl;have c6:=hg 6 _ rfl;have c7:=hg 7 _ rfl;have c8:=hg 8 _ rfl;simp only[ha,<-ξJ,ζA]at c0 c1 c2 c3 c4 c5 c6 c7 c8;exact⟨h1,b,o,rfl,VEB c0,c0,c1,c2,c3,c4,c5,c6,c7,c8⟩
end
end
end Go.Proofs.Ytgmaanehcbnchaa
