/- UnifyScopes: in values of variables no parameters stand from their Levels on, behind a solution either, for every input. -/
import Derived.Test.YthkjmiejaoomcaaGreatRows
import Derived.OpenShut
import Derived.Test.YthkjmiejaoomcaaGreatQj
import Derived.Test.YthkjmiejaoomcaaGreatQv
set_option linter.unusedVariables false
set_option linter.unusedSimpArgs false
set_option linter.unnecessarySimpa false
namespace Go.Proofs.YthkjmiejaoomcaaGreat.Am
open Go.ChangeShapes Go.WideShapes Go.ChangeAt Go.RowKit
set_option linter.unusedVariables false
theorem own0 : ownKnob Tryz.prog.godebug = none := by kernel_rfl
theorem laid0 : laidOutB Tryz.prog = true := by kernel_rfl
theorem read24 : Tryz.prog.readableRec 24 = true := by kernel_rfl
theorem row24 : 24 < Tryz.prog.types.size := of_decide_eq_true (by kernel_rfl)
theorem read27 : Tryz.prog.readableRec 27 = true := by kernel_rfl
theorem row27 : 27 < Tryz.prog.types.size := of_decide_eq_true (by kernel_rfl)
set_option maxRecDepth 100000 in
theorem scopes_lifted (os : Os) (started : os.Started) (H : Type) (enc' : TypeId × Value → H) :
  ReturnsInHanded {} Tryz.checked os 6 .any (Rows.unifyScopesSpec.pre6 enc' Tryz.prog Tryz.f6 Rows.unifyScopesRow.domain false) (Rows.unifyScopesSpec.post enc' Tryz.prog Tryz.f6 false true false false) := by
 refine returnsInHanded_of_change (C := Tryz.checked) own0 started (by kernel_rfl) Tryz.func6
  (ChangeSpec.witness6 (enc := enc') (C := Tryz.checked) false ⟨#[], #[.agg #[.slice none 0 0], .agg #[.int .i64 0, .int .i64 0, .string .empty, .slice none 0 0], .agg #[.int .i64 0, .int .i64 0, .string .empty, .slice none 0 0]], []⟩ 6 (by kernel_rfl) (by kernel_rfl) (by kernel_rfl) (by kernel_rfl)) ?_
 intro W base args ds gs before hval0 hW hcnd _
 have hval : ∀ (j : Nat) t v, Tryz.f6.params[j]? = some t → args[j]? = some v → Value.okWide Tryz.prog W .any base t v := hval0
 have hW' := hW
 obtain ⟨p, q, hA0, hV, rfl, hfz, hnd⟩ := hW
 have hA : DataW.TrodAll enc' Tryz.prog W 0 (fun _ => true) true Tryz.f6.params.toList args.toList ds p := hA0
 rw [Tryz.params6] at hA hval
 obtain ⟨v0, vs0, d0, ds0, p0, q0, hargs, rfl, rfl, h0, r0⟩ := trodAll_cons hA
 obtain ⟨v1, vs1, d1, ds1, p1, q1, rfl, rfl, rfl, h1, r1⟩ := trodAll_cons r0
 obtain ⟨v2, vs2, d2, ds2, p2, q2, rfl, rfl, rfl, h2, r2⟩ := trodAll_cons r1
 obtain ⟨rfl, rfl, rfl⟩ := trodAll_nil r2
 obtain rfl : args = #[v0, v1, v2] := by cases args; simp_all
 obtain ⟨rfl, rfl⟩ := trodVars_none hV
 obtain ⟨f24, hu24, _⟩ := fields_one under24
 obtain ⟨g0, g1, g2, g3, hu27, _⟩ := under27
 obtain ⟨c0, rfl, _⟩ := okWide_struct hu24 (hval 0 24 v0 rfl rfl)
 obtain ⟨c1, rfl, _⟩ := okWide_struct hu27 (hval 1 27 v1 rfl rfl)
 obtain ⟨c2, rfl, _⟩ := okWide_struct hu27 (hval 2 27 v2 rfl rfl)
 obtain ⟨l, hl⟩ := open_store h0
 obtain ⟨t, ht⟩ := open_term h1
 obtain ⟨u, hu⟩ := open_term h2
 have hlt := hW'.lt
 have call := calls_of (b := true) (vargs := #[.agg c0, .agg c1, .agg c2]) (W := W) (scopes_am l .none t u _ (fun o _ => o = .ret (.bool true)) rfl)
  (RelL.cons_iff.2 ⟨hl, RelL.cons_iff.2 ⟨ht, RelL.cons_iff.2 ⟨hu, by simp only [RelL]⟩⟩⟩)
 refine call.mono fun e W' ⟨he, hb⟩ => ?_
 subst he
 refine ⟨_, rfl, _, _, _, [], p0 ++ (p1 ++ (p2 ++ [])), [], hW', trodAll_cons_mk (shut_bool under4 true) trodAll_mk0, ?_, rfl, Below.frame hb _, fun h => by cases h⟩
 refine trodAll_cons_mk (Below.trod laid0 read24 row24 h0 hb fun x hx => hlt x ?_) (trodAll_cons_mk (Below.trod laid0 read27 row27 h1 hb fun x hx => hlt x ?_) (trodAll_cons_mk (Below.trod laid0 read27 row27 h2 hb fun x hx => hlt x ?_) trodAll_mk0))
 ·simp [hx]
 ·simp [hx]
 ·simp [hx]
theorem unifyScopes_holds : Rows.UnifyScopesSaid :=
 OpenClaim.holds_of_wide 6 Tryz.f6 rfl rfl rfl rfl rfl rfl rfl ⟨rfl, rfl, rfl, rfl, rfl⟩ rfl rfl rfl rfl rfl (by kernel_rfl) Tryz.func6 (by kernel_rfl)
  (of_decide_eq_true (by kernel_rfl)) (by unfold Func.isWrapper; first | (rw [if_pos (by decide +kernel)]; kernel_rfl) | (rw [if_neg (by decide +kernel)]; exact ⟨rfl, rfl⟩))
  (fun os started H enc _ => scopes_lifted os started H enc)
#print axioms unifyScopes_holds
end Go.Proofs.YthkjmiejaoomcaaGreat.Am
