/- UnifyAgain: solved again, nothing changes. -/
import Derived.Test.YthkjmiejaoomcaaGreatRows
import Derived.OpenShut
import Derived.Test.YthkjmiejaoomcaaGreatRj
import Derived.Test.YthkjmiejaoomcaaGreatRv
set_option linter.unusedVariables false
set_option linter.unusedSimpArgs false
set_option linter.unnecessarySimpa false
namespace Go.Proofs.YthkjmiejaoomcaaGreat.Am
open Go.ChangeShapes Go.WideShapes Go.ChangeAt Go.RowKit
set_option linter.unusedVariables false
theorem own0:ownKnob Tryz.prog.godebug=none:=by kernel_rfl
theorem yMq:laidOutB Tryz.prog=true:=by kernel_rfl
theorem yNp:Tryz.prog.readableRec 24=true:=by kernel_rfl
theorem row24:24<Tryz.prog.types.size:=of_decide_eq_true (by kernel_rfl)
theorem yKz:Tryz.prog.readableRec 27=true:=by kernel_rfl
theorem yNn:27<Tryz.prog.types.size:=of_decide_eq_true (by kernel_rfl)
set_option maxRecDepth 100000 in
theorem z7q (os:Os) (started:os.Started) (H:Type) (enc':TypeId × Value→H) :
  ReturnsInHanded {} Tryz.checked os 4 .any (Rows.unifyAgainSpec.pre6 enc' Tryz.prog Tryz.f4 Rows.unifyAgainRow.domain false) (Rows.unifyAgainSpec.post enc' Tryz.prog Tryz.f4 false true false false):=by
 refine returnsInHanded_of_change (C:=Tryz.checked) own0 started (by kernel_rfl) Tryz.func4
  (ChangeSpec.witness6 (enc:=enc') (C:=Tryz.checked) false ⟨#[],#[.agg #[.slice none 0 0],.agg #[.int .i64 0,.int .i64 0,.string .empty,.slice none 0 0],.agg #[.int .i64 0,.int .i64 0,.string .empty,.slice none 0 0]],[]⟩ 6 (by kernel_rfl) (by kernel_rfl) (by kernel_rfl) (by kernel_rfl)) ?_
 intro W base args ds gs before hval0 hW hcnd _
 have hval:∀ (j:Nat) t v,Tryz.f4.params[j]?=some t→args[j]?=some v→Value.okWide Tryz.prog W .any base t v:=hval0
 have hW':=hW
 obtain ⟨p,q,hA0,hV,rfl,hfz,hnd⟩:=hW
 have hA:DataW.TrodAll enc' Tryz.prog W 0 (fun _=>true) true Tryz.f4.params.toList args.toList ds p:=hA0
 rw [Tryz.params4] at hA hval
 obtain ⟨v0,vs0,d0,ds0,p0,q0,hargs,rfl,rfl,h0,r0⟩:=trodAll_cons hA
 obtain ⟨v1,vs1,d1,ds1,p1,q1,rfl,rfl,rfl,h1,r1⟩:=trodAll_cons r0
 obtain ⟨v2,vs2,d2,ds2,p2,q2,rfl,rfl,rfl,h2,r2⟩:=trodAll_cons r1
 obtain ⟨rfl,rfl,rfl⟩:=trodAll_nil r2
 obtain rfl:args=#[v0,v1,v2]:=by cases args;simp_all
 obtain ⟨rfl,rfl⟩:=trodVars_none hV
 obtain ⟨f24,hu24,_⟩:=zYz yEk
 obtain ⟨g0,g1,g2,g3,hu27,_⟩:=yEj
 obtain ⟨c0,rfl,_⟩:=okWide_struct hu24 (hval 0 24 v0 rfl rfl)
 obtain ⟨c1,rfl,_⟩:=okWide_struct hu27 (hval 1 27 v1 rfl rfl)
 obtain ⟨c2,rfl,_⟩:=okWide_struct hu27 (hval 2 27 v2 rfl rfl)
 obtain ⟨l,hl⟩:=yC1 h0
 obtain ⟨t,ht⟩:=z5n h1
 obtain ⟨u,hu⟩:=z5n h2
 have hlt:=hW'.lt
 have call:=yJ9 (b:=true) (vargs:=#[.agg c0,.agg c1,.agg c2]) (W:=W) (yKq l t u _ (fun o _=>o=.ret (.bool true)) rfl)
  (RelL.cons_iff.2 ⟨hl,RelL.cons_iff.2 ⟨ht,RelL.cons_iff.2 ⟨hu,by simp only [RelL]⟩⟩⟩)
 refine call.mono fun e W' ⟨he,hb⟩=>?_
 subst he
 refine ⟨_,rfl,_,_,_,[],p0++(p1++(p2++[])),[],hW',trodAll_cons_mk (shut_bool yKw true) trodAll_mk0,?_,rfl,Below.frame hb _,fun h=>by cases h⟩
 refine trodAll_cons_mk (Below.trod yMq yNp row24 h0 hb fun x hx=>hlt x ?_) (trodAll_cons_mk (Below.trod yMq yKz yNn h1 hb fun x hx=>hlt x ?_) (trodAll_cons_mk (Below.trod yMq yKz yNn h2 hb fun x hx=>hlt x ?_) trodAll_mk0))
 ·simp [hx]
 ·simp [hx]
 ·simp [hx]
theorem unifyAgain_holds:Rows.UnifyAgainSaid :=
 OpenClaim.holds_of_wide 4 Tryz.f4 rfl rfl rfl rfl rfl rfl rfl ⟨rfl,rfl,rfl,rfl,rfl⟩ rfl rfl rfl rfl rfl (by kernel_rfl) Tryz.func4 (by kernel_rfl)
  (of_decide_eq_true (by kernel_rfl)) (by unfold Func.isWrapper;first|(rw [if_pos (by decide +kernel)];kernel_rfl)|(rw [if_neg (by decide +kernel)];exact ⟨rfl,rfl⟩))
  (fun os started H enc _=>z7q os started H enc)
#print axioms unifyAgain_holds
end Go.Proofs.YthkjmiejaoomcaaGreat.Am
