/- Part of the proof of a law of layer 5: own texts, joined. -/
import Derived.Test.YthkjmiejaoomcaaGreatVl
import Derived.Test.YthkjmiejaoomcaaGreatVk
import Derived.Test.YthkjmiejaoomcaaGreatVm
import Derived.Test.YthkjmiejaoomcaaGreatVg
import Derived.Test.YthkjmiejaoomcaaGreatVb
set_option linter.unusedVariables false
set_option linter.unusedSimpArgs false
set_option linter.unnecessarySimpa false
namespace Go.Proofs.YthkjmiejaoomcaaGreat.Am
open Go Go.RowKit Go.Proofs
set_option linter.unusedVariables false
set_option linter.unusedSimpArgs false
set_option maxRecDepth 100000
set_option maxHeartbeats 1000000
theorem E5 (n:Int):bn Tryz.prog 77 1 [(0,.int .i64 n)]=some (.list 1 [.int .i64 n] 1 .full):=uj yQ sz_3 ze_3 rfl rfl rfl (by decide)
theorem Bd:dL Tryz.prog 27 []=some (.agg [.int .i64 0,.int .i64 0,.str aB,.list 0 [] 0 .nil]):=by
 simp only [dL,iy,JQ,ik]
 rfl
theorem F7 {α:Type} (f:α→AV) (y:α):∀ (l:List α) (k:Nat),k<l.length→(l.map f).take k++(f y::(l.map f).drop (k+1))=(l.set k y).map f
 |[],k,h=>absurd h (Nat.not_lt_zero _)
 |x::l,0,_=>by simp
 |x::l,k+1,h=>by
  rw [List.map_cons,List.take_succ_cons,List.drop_succ_cons,List.cons_append,F7 f y l k (by simpa using h),List.set_cons_succ,List.map_cons]
def Sizes (vs:List Va):Prop:=∀ n,(ak vs n).is=true→(ak vs n).t.size≤4000
theorem FR (t:Term) (h:(il t==0)=true):t.size≤4000:=by
 refine nE t fun hp=>?_
 unfold il at h
 rw [if_pos hp] at h
 exact absurd h (by decide)
def WA (I:Env→ai→Prop):AK
 |.normal,τ,h=>I τ h
 |_,_,_=>False
theorem NSem.seqN {P:Program} {nt:Nat} {x y:Code} {K:KS} {s:AS} (I:Env→ai→Prop) (h1:bE P x (WA I) s.τ s.h) (h2:∀ τ h n,I τ h→NSem P nt y K ⟨τ,h,n,s.ds,s.rd⟩):NSem P nt (.seq x y) K s:=by
 refine .seq ((h1 nt s.n s.ds s.rd).mono fun e s' ⟨k1,k2,k3⟩=>?_)
 obtain ⟨τ',h',n',ds',rd'⟩:=s'
 simp only at k1 k2 k3
 subst k1;subst k2
 cases e with
 |normal=>exact h2 τ' h' n' k3
 |ret=>exact k3.elim
 |exit i=>exact k3.elim
 |panic v=>exact k3.elim
theorem BZ {I:Env→ai→Prop} {τ:Env} {h:ai} (hs:I τ h):WA I .normal τ h:=hs
theorem NSem.hideRF {P:Program} {nt:Nat} {g:Operand} {ps:Array Tmp} {asg bd:Code} {K:KS} {s:AS} (hs:∀ a b,a=asg→b=bd→NSem P nt (.rangeFunc g ps a b) K s):NSem P nt (.rangeFunc g ps asg bd) K s:=hs _ _ rfl rfl
theorem NSem.of_fresh {P:Program} {nt:Nat} {c:Code} {K:KS} {s:AS} (hs:(∀ k,s.n≤k→s.h k=Option.none)→NSem P nt c K s):NSem P nt c K s:=by
 refine ⟨fun hF hok ag=>(hs fun k hk=>?_).run hF hok ag⟩
 cases e:s.h k with
 |none=>rfl
 |some o=>have:=ag.sim.dom _ _ e;have:=ag.num;omega
end Go.Proofs.YthkjmiejaoomcaaGreat.Am
