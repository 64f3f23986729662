/- Part 8 of what ListPlays leans on: my own lemmas, merged by shake.py. -/
import Derived.Test.YteihjlcmjecmfaaGreatDoorListPlaysG
namespace Go.Proofs.YteihjlcmjecmfaaGreatDoor
open _root_.Go.Proofs.Tryz
set_option maxHeartbeats 3200000
set_option maxRecDepth 100000
open Go.RowKit Word
def GC(n a b c:Int):Int:=if a<0\/n<=a\/b<0\/n<=b\/c<0\/n<=c then 17 else if a=b\/a=c\/b=c then 5 else 0
theorem Jmz(n a b c:Int)(w:World):cQ 16 #[iI n,iI a,iI b,iI c] w (iI (GC n a b c)):=by
 unfold GC;by_cases h:a<0\/n<=a\/b<0\/n<=b\/c<0\/n<=c
 ·rw[μ h];rcases(by omega:(a<0)\/(¬(a<0)/\n<=a)\/(¬(a<0)/\¬(n<=a)/\b<0)\/(¬(a<0)/\¬(n<=a)/\¬(b<0)/\n<=b)\/(¬(a<0)/\¬(n<=a)/\¬(b<0)/\¬(n<=b)/\c<0)\/(¬(a<0)/\¬(n<=a)/\¬(b<0)/\¬(n<=b)/\¬(c<0)/\n<=c))with q1|⟨q1,q2⟩|⟨q1,q2,q3⟩|⟨q1,q2,q3,q4⟩|⟨q1,q2,q3,q4,q5⟩|⟨q1,q2,q3,q4,q5,q6⟩
  ·clear h;have d1:decide (a<0)=true:=θ q1;clear q1;go_enter func16,ntmps16;go_wp2;go_ret;exact⟨rfl,rfl⟩
  ·clear h;have d1:decide (a<0)=false:=φ q1;have d2:decide (n<=a)=true:=θ q2;clear q1 q2;go_enter func16,ntmps16;go_wp2;go_ret;exact⟨rfl,rfl⟩
  ·clear h;have d1:decide (a<0)=false:=φ q1;have d2:decide (n<=a)=false:=φ q2;have d3:decide (b<0)=true:=θ q3;clear q1 q2 q3;go_enter func16,ntmps16;go_wp2;go_ret;exact⟨rfl,rfl⟩
  ·clear h;have d1:decide (a<0)=false:=φ q1;have d2:decide (n<=a)=false:=φ q2;have d3:decide (b<0)=false:=φ q3;have d4:decide (n<=b)=true:=θ q4;clear q1 q2 q3 q4;go_enter func16,ntmps16;go_wp2;go_ret;exact⟨rfl,rfl⟩
  ·clear h;have d1:decide (a<0)=false:=φ q1;have d2:decide (n<=a)=false:=φ q2;have d3:decide (b<0)=false:=φ q3;have d4:decide (n<=b)=false:=φ q4;have d5:decide (c<0)=true:=θ q5;clear q1 q2 q3 q4 q5;go_enter func16,ntmps16;go_wp2;go_ret;exact⟨rfl,rfl⟩
  ·clear h;have d1:decide (a<0)=false:=φ q1;have d2:decide (n<=a)=false:=φ q2;have d3:decide (b<0)=false:=φ q3;have d4:decide (n<=b)=false:=φ q4;have d5:decide (c<0)=false:=φ q5;have d6:decide (n<=c)=true:=θ q6;clear q1 q2 q3 q4 q5 q6;go_enter func16,ntmps16;go_wp2;go_ret;exact⟨rfl,rfl⟩
 ·rw[κ h];simp only[not_or]at h;obtain⟨q1,q2,q3,q4,q5,q6⟩:=h;have d1:decide (a<0)=false:=φ q1;have d2:decide (n<=a)=false:=φ q2;have d3:decide (b<0)=false:=φ q3;have d4:decide (n<=b)=false:=φ q4;have d5:decide (c<0)=false:=φ q5;have d6:decide (n<=c)=false:=φ q6;clear q1 q2 q3 q4 q5 q6;by_cases g:a=b\/a=c\/b=c
  ·rw[μ g];rcases(by omega:(a=b)\/(¬(a=b)/\a=c)\/(¬(a=b)/\¬(a=c)/\b=c))with q1|⟨q1,q2⟩|⟨q1,q2,q3⟩
   ·clear g;have e1:(a==b)=true:=ζ0.2 q1;clear q1;go_enter func16,ntmps16;go_wp2;go_ret;exact⟨rfl,rfl⟩
   ·clear g;have e1:(a==b)=false:=ζo.2 q1;have e2:(a==c)=true:=ζ0.2 q2;clear q1 q2;go_enter func16,ntmps16;go_wp2;go_ret;exact⟨rfl,rfl⟩
   ·clear g;have e1:(a==b)=false:=ζo.2 q1;have e2:(a==c)=false:=ζo.2 q2;have e3:(b==c)=true:=ζ0.2 q3;clear q1 q2 q3;go_enter func16,ntmps16;go_wp2;go_ret;exact⟨rfl,rfl⟩
  ·rw[κ g];simp only[not_or]at g;have e1:(a==b)=false:=ζo.2 g.1;have e2:(a==c)=false:=ζo.2 g.2.1;have e3:(b==c)=false:=ζo.2 g.2.2;clear g;go_enter func16,ntmps16;go_wp2;go_ret;exact⟨rfl,rfl⟩
section
variable {w w':World} {S:Nat->Prop} {rb:Nat} {room:Int} {N:List (Nat × Nat)} {v:Value}
theorem Qif(h:B9 w S rb room N v)(hN:N.length<=1000000):Calls prog 45 #[pP rb] w
  λe w'=>e=.returned (.tuple #[])/\RlO w S rb room N.reverse w':=by
 obtain⟨A,c,rfl,-,hc⟩:=CV h.own;obtain⟨i0,hi,B,E,I⟩:=info_parts TU;have H:=ι h;have c0:=h.row.cc 0;have cl:=h.row.lt;clear h;go_enter func45,ntmps45;go_wp2
 go_loopw [2,3] (λs2 s3 wr=>∃k:Nat,k<=N.length/\s3=iI ((N.length:Int)-1-k)/\Hid (AB (λk=>w.heap.size<=k) w wr)/\Hid (wr.ownsRow w.heap.size 54 2 s2 k (ndC (N.reverse.take k)))) (λ_ s3 _=>(intOf s3+1).toNat)
 case atStart=>exact⟨0,ζe _,by simp,⟨AB.refl _ _⟩,⟨GD _ _ _ _⟩⟩
 case round=>
  obtain⟨k,hk,rfl,HT,HO⟩:=hrel;have Y:=ι (H.o.gr ((HT.o.mono (T:=λ_=>False) (λk hk h=>by omega)).gr))
  replace c0:=Y.o.row.cc 0
  replace cl:=Y.o.row.lt
  by_cases X:k<N.length
  ·have d0:decide ((N.length:Int)-1-k<0)=false:=φ Ω;have d1:decide ((0:Int)<=(N.length:Int)-1-k)=true:=θ Ω;obtain⟨g,rfl,hgc,hgl,n0,n1⟩:=Y.o.node (j:=N.length-1-k) Ω;obtain⟨j,hj⟩:∃j,j=N.length-1-k:=⟨_,rfl⟩;rw[<-hj]at n0 n1;have e1:(N.length:Int)-1-(k:Int)=(j:Int):=Ω
   have b1:(j:Int)<N.length:=Ω
   have ht:ndC (N.reverse.take (k+1))=ndC (N.reverse.take k)++[uU ((N.getD j (0,0)).1:Nat),uU ((N.getD j (0,0)).2:Nat)]:=by
    have h1:k<N.reverse.length:=by rw[ζJ];exact X
    rw[ζY h1,VM,List.getElem_reverse];have h2:N.getD j (0,0)=N[N.length-1-k]:=by subst hj;rw[δ,ζb Ω];rfl
    rw[h2];rfl
   have V:=ι ht;have HJ:=ι hj;generalize (N.getD j (0,0)).1=x at n0 V;generalize (N.getD j (0,0)).2=y at n1 V;clear ht hj;go_wp2_with(at_builtin;refine wpList_append_own_at _ rfl _ _ 49 rfl w.heap.size 54 i0 _ 2 16 underlying49 hi B E I rfl (by decide) u2 k (ndC (N.reverse.take k)) rfl (CK HO.o ((Gr.refl _).alloc _)) ⟨wr.heap.size,0,none⟩ 1 1 [uU (x:Nat),uU (y:Nat)] rfl rfl (ξi (cs:=#[uU (x:Nat),uU (y:Nat)]) (t:=54) (fr:=(0,0)) (heap_alloc_new wr _)) (by simp[Value.oneCell']) (by unfold maxLen;omega) Ω (by have h1:=HT.o.size;rw[γ];omega) ?_;intro v' w2 J Z _ M;rw[<-V.o]at J;have D:=ι J;have L:=ι ((HT.o.alloc (.cells #[.int .u64 (x:Nat),.int .u64 (y:Nat)] 54)).trans (EB Z (λk=>w.heap.size<=k) (λq e _=>(A9 HO.o e).1)));clear J Z M);go_round
   case rel=>exact⟨k+1,by omega,by congr 1;omega,L,D⟩
   case measure=>simp[intOf];omega
  ·obtain rfl:k=N.length:=Ω
   rw[show N.reverse.take N.length=N.reverse by rw[<-ζJ,ζ3]]at HO;obtain⟨A',c',rfl,-,-⟩:=CV HO.o;have d1:decide ((0:Int)<=(N.length:Int)-1-N.length)=false:=φ Ω;have f0:=Y.o.row.free 0
   have O:∀b,(Value.slice A' N.length c').ownBlock=some b->w.heap.size<=b/\b≠rb:=λb hb=>by
    have h1:=(A9 HO.o hb).1;have h2:=H.o.row.lt;omega
   have U:=ι O;have HRL:=ι H.o.row.lt;clear O X;go_wp2
   first|go_end0|(refine ζD (ζl rfl _ _ _) rfl ?_)
   have G:AB (λk=>k=rb) wr (wr.setCell ⟨rb,0,none⟩ (.slice A' N.length c')):=(AB.refl (λk=>k=rb) wr).setCell (a:=⟨rb,0,none⟩) (λ_=>rfl) _;refine⟨rfl,(HT.o.mono (T:=S) (λk hk h=>by omega)).setCell (a:=⟨rb,0,none⟩) (λ_=>H.o.sr) _,_,Y.o.row.set 0 _,?_,.inl H.o.sr,λb hb=>⟨.inr (U.o b hb).1,(U.o b hb).2⟩⟩;rw[ζJ];obtain⟨q1,q2⟩:=BS HO.o G (λb hb=>(U.o b hb).2);exact⟨q1,q2.imp id (λ⟨g,cp,cur,e1,e2,r⟩=>⟨g,cp,cur,e1,ζe _,r⟩)⟩
end
end Go.Proofs.YteihjlcmjecmfaaGreatDoor
