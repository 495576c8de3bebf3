/- Part of the proof of a law of layer 5: own texts, joined. -/
import Derived.Test.YthkjmiejaoomcaaGreatSl
import Derived.Test.YthkjmiejaoomcaaGreatSk
import Derived.Test.YthkjmiejaoomcaaGreatSm
import Derived.Test.YthkjmiejaoomcaaGreatSg
import Derived.Test.YthkjmiejaoomcaaGreatSb
set_option linter.unusedVariables false
set_option linter.unusedSimpArgs false
set_option linter.unnecessarySimpa false
namespace Go.Proofs.YthkjmiejaoomcaaGreat.Am
open Go Go.RowKit Go.Proofs
set_option linter.unusedVariables false
set_option linter.unusedSimpArgs false
set_option maxRecDepth 100000
set_option maxHeartbeats 1000000
theorem Grow.low {E:TypeId} {h1 h0 h:zAd} {tok:Tok} (hg:Grow E h1 h tok) (hl:zAh h1 h0):Grow E h0 h tok:=by
 rcases hg with e|⟨f,ef,hf,hf0⟩
 ·exact .inl e
 ·exact .inr ⟨f,ef,hf,hl.none hf0⟩
theorem Grow.new {E:TypeId} {h0 h:zAd} {tok:Tok} (hg:Grow E h0 h tok) {p:Nat} (hp:h p=Option.none) (x:AObj):Grow E h0 (upd h p (some x)) tok:=by
 rcases hg with e|⟨f,ef,hf,hf0⟩
 ·exact .inl e
 ·exact .inr ⟨f,ef,by rw [zAa _ _ (zAc hp hf)];exact hf,hf0⟩
theorem zXk (n:Int):zA8 Tryz.prog 77 1 [(0,.int .i64 n)]=some (.list 1 [.int .i64 n] 1 .full):=zKn zQu sz_3 ze_3 rfl rfl rfl (by decide)
theorem zS0:zCh Tryz.prog 27 []=some (.agg [.int .i64 0,.int .i64 0,.str zAr,.list 0 [] 0 .nil]):=by
 simp only [zCh,zEd,zYx,zEt]
 rfl
theorem zOe {P:Program} {tS tX E:TypeId} {z b:Nat} {zv:Value} (hS:zB1 P tS=some E) (hX:zB1 P tX=some E) (hz:tsz P E=some z) (hb:zA5 P E=some b) (hv:zBh P E=some zv) (hc:zv.cells.size=z∧0<b)
  {h0 h:zAd} {p:Nat} (hl:zAh h h0) (hp:h p=Option.none) {sz1 sz2 n1 n2:Nat} {c1 c2:List AV} {t t2:Tok} (hg:Grow E h0 h t) (h1:n1=0∨sz1=z) (h2:sz2=z) (hn:n2≠0) (hm:(n1+n2) * b≤70368744177664) :
  ∃ h2,zB8 P tS tX (.list sz1 c1 n1 t) (.list sz2 c2 n2 t2) h p=some (.list z (c1++c2) (n1+n2) (.id p),h2)∧Grow E h0 h2 (.id p)∧zAh h2 h0∧∀ q o,h q=some o→t≠.id q→h2 q=some o:=by
 have hp0:=hl.none hp
 rcases hg with (rfl|rfl)|⟨f,rfl,hf,hf0⟩
 ·refine ⟨upd h p (some (.front E)),?_,.inr ⟨p,rfl,upd_same _ _ _,hp0⟩,hl.new hp0,fun q o hq _=>?_⟩
  ·simp only [zB8,hS,hX,hz,hb,hv]
   rw [if_pos ⟨h1,.inr h2,hc.2,hm,hc.1⟩,if_neg hn]
  ·rw [zAa _ _ (zAc hp hq)];exact hq
 ·refine ⟨upd h p (some (.front E)),?_,.inr ⟨p,rfl,upd_same _ _ _,hp0⟩,hl.new hp0,fun q o hq _=>?_⟩
  ·simp only [zB8,hS,hX,hz,hb,hv]
   rw [if_pos ⟨h1,.inr h2,hc.2,hm,hc.1⟩,if_neg hn]
  ·rw [zAa _ _ (zAc hp hq)];exact hq
 ·refine ⟨upd (upd h f Option.none) p (some (.front E)),?_,.inr ⟨p,rfl,upd_same _ _ _,hp0⟩,(hl.new hf0).new hp0,fun q o hq hne=>?_⟩
  ·simp only [zB8,hS,hX,hz,hb,hv]
   rw [if_pos ⟨h1,.inr h2,hc.2,hm,hc.1⟩,if_neg hn]
   simp only [hf]
   rw [if_pos ⟨trivial,hn⟩]
  ·have:q≠f:=by intro e;subst e;exact hne rfl
   rw [zAa _ _ (zAc hp hq),zAa _ _ this];exact hq
theorem zYw {α:Type} (f:α→AV) (y:α):∀ (l:List α) (k:Nat),k<l.length→(l.map f).take k++(f y::(l.map f).drop (k+1))=(l.set k y).map f
 |[],k,h=>absurd h (Nat.not_lt_zero _)
 |x::l,0,_=>by simp
 |x::l,k+1,h=>by
  rw [List.map_cons,List.take_succ_cons,List.drop_succ_cons,List.cons_append,zYw f y l k (by simpa using h),List.set_cons_succ,List.map_cons]
theorem Grow.upd {E:TypeId} {h0 h:zAd} {tok:Tok} (hg:Grow E h0 h tok) {p:Nat} {cs:List AV} {T:TypeId} (hp:h p=some (.cells cs T)) (x:Option AObj):Grow E h0 (upd h p x) tok:=by
 rcases hg with e|⟨f,ef,hf,hf0⟩
 ·exact .inl e
 ·exact .inr ⟨f,ef,by rw [zAa _ _ (by intro e;subst e;rw [hp] at hf;cases hf)];exact hf,hf0⟩
def Sizes (vs:List Va):Prop:=∀ n,(zAi vs n).is=true→(zAi vs n).t.size≤4000
theorem zYk (t:Term) (h:(zDt t==0)=true):t.size≤4000:=by
 refine zIg t fun hp=>?_
 unfold zDt at h
 rw [if_pos hp] at h
 exact absurd h (by decide)
theorem yAi (k n:Int) (s:ByteArray):zCh Tryz.prog 27 [(0,.int .i64 k),(1,.int .i64 n),(2,.str s)]=some (.agg [.int .i64 k,.int .i64 n,.str s,.list 0 [] 0 .nil]):=by
 simp only [zCh,zEd,zYx,zEt]
 rfl
def yLz (I:Env→zAd→Prop):AK
 |.normal,τ,h=>I τ h
 |_,_,_=>False
theorem NSem.seqN {P:Program} {nt:Nat} {x y:Code} {K:KS} {s:AS} (I:Env→zAd→Prop) (h1:zBf P x (yLz I) s.τ s.h) (h2:∀ τ h n,I τ h→NSem P nt y K ⟨τ,h,n,s.ds,s.rd⟩):NSem P nt (.seq x y) K s:=by
 refine .seq ((h1 nt s.n s.ds s.rd).mono fun e s' ⟨k1,k2,k3⟩=>?_)
 obtain ⟨τ',h',n',ds',rd'⟩:=s'
 simp only at k1 k2 k3
 subst k1;subst k2
 cases e with
 |normal=>exact h2 τ' h' n' k3
 |ret=>exact k3.elim
 |exit i=>exact k3.elim
 |panic v=>exact k3.elim
theorem zTy {I:Env→zAd→Prop} {τ:Env} {h:zAd} (hs:I τ h):yLz I .normal τ h:=hs
theorem NSem.hideRF {P:Program} {nt:Nat} {g:Operand} {ps:Array Tmp} {asg bd:Code} {K:KS} {s:AS} (hs:∀ a b,a=asg→b=bd→NSem P nt (.rangeFunc g ps a b) K s):NSem P nt (.rangeFunc g ps asg bd) K s:=hs _ _ rfl rfl
theorem NSem.of_fresh {P:Program} {nt:Nat} {c:Code} {K:KS} {s:AS} (hs:(∀ k,s.n≤k→s.h k=Option.none)→NSem P nt c K s):NSem P nt c K s:=by
 refine ⟨fun hF hok ag=>(hs fun k hk=>?_).run hF hok ag⟩
 cases e:s.h k with
 |none=>rfl
 |some o=>have:=ag.sim.dom _ _ e;have:=ag.num;omega
end Go.Proofs.YthkjmiejaoomcaaGreat.Am
