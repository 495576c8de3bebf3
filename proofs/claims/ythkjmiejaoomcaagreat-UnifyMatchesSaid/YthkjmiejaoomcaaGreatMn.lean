/- The law UnifyMatches of peculiumlaw05 returns true for every input, and its arguments read behind the call as they read before. Conditions: none beyond the row's own. -/
import Derived.Test.YthkjmiejaoomcaaGreatRows
import Derived.OpenShut
import Derived.Test.YthkjmiejaoomcaaGreatMh
import Derived.Test.YthkjmiejaoomcaaGreatMl
import Derived.Test.YthkjmiejaoomcaaGreatMm
set_option linter.unusedVariables false
set_option linter.unusedSimpArgs false
set_option linter.unnecessarySimpa false
namespace Go.Proofs.YthkjmiejaoomcaaGreat.Am
open Go.ChangeShapes Go.WideShapes Go.ChangeAt Go.RowKit
set_option linter.unusedVariables false

theorem own0 : ownKnob Tryz.prog.godebug = none := by kernel_rfl
theorem laid0 : laidOutB Tryz.prog = true := by kernel_rfl
theorem read25 : Tryz.prog.readableRec 25 = true := by kernel_rfl
theorem row25 : 25 < Tryz.prog.types.size := of_decide_eq_true (by kernel_rfl)
set_option maxRecDepth 100000 in
theorem matches_lifted (os : Os) (started : os.Started) (H : Type) (enc' : TypeId × Value → H) :
    ReturnsInHanded {} Tryz.checked os 11 .any (Rows.unifyMatchesSpec.pre6 enc' Tryz.prog Tryz.f11 Rows.unifyMatchesRow.domain false) (Rows.unifyMatchesSpec.post enc' Tryz.prog Tryz.f11 false true false false) := by
  refine returnsInHanded_of_change (C := Tryz.checked) own0 started (by kernel_rfl) Tryz.func11
    (ChangeSpec.witness6 (enc := enc') (C := Tryz.checked) false ⟨#[], #[.int .i64 0, .slice none 0 0, .slice none 0 0], []⟩ 8 (by kernel_rfl) (by kernel_rfl) (by kernel_rfl) (by kernel_rfl)) ?_
  intro W base args ds gs before hval0 hW hcnd _
  have hval : ∀ (j : Nat) t v, Tryz.f11.params[j]? = some t → args[j]? = some v → Value.okWide Tryz.prog W .any base t v := hval0
  have hW' := hW
  obtain ⟨p, q, hA0, hV, rfl, hfz, hnd⟩ := hW
  have hA : DataW.TrodAll enc' Tryz.prog W 0 (fun _ => true) true Tryz.f11.params.toList args.toList ds p := hA0
  rw [Tryz.params11] at hA hval
  obtain ⟨v0, vs0, d0, ds0, p0, q0, hargs, rfl, rfl, h0, r0⟩ := trodAll_cons hA
  obtain ⟨v1, vs1, d1, ds1, p1, q1, rfl, rfl, rfl, h1, r1⟩ := trodAll_cons r0
  obtain ⟨v2, vs2, d2, ds2, p2, q2, rfl, rfl, rfl, h2, r2⟩ := trodAll_cons r1
  obtain ⟨rfl, rfl, rfl⟩ := trodAll_nil r2
  obtain rfl : args = #[v0, v1, v2] := by cases args; simp_all
  obtain ⟨rfl, rfl⟩ := trodVars_none hV
  obtain ⟨a, rfl, rfl, rfl, wa⟩ := open_int under3 (hval 0 3 v0 rfl rfl) h0
  obtain ⟨l, hl⟩ := open_terms h1 (by obtain ⟨_, _, _, e⟩ := okWide_slice under25 (hval 1 25 v1 rfl rfl); rw [e]; rfl)
  obtain ⟨m, hm⟩ := open_terms h2 (by obtain ⟨_, _, _, e⟩ := okWide_slice under25 (hval 2 25 v2 rfl rfl); rw [e]; rfl)
  have hlt := hW'.lt
  have call := calls_of (b := true) (vargs := #[.int .i64 a, v1, v2]) (W := W) (matches_am a l m (inst_same a l m) _ (fun o _ => o = .ret (.bool true)) rfl)
    (RelL.cons_iff.2 ⟨by simp only [Rel], RelL.cons_iff.2 ⟨hl, RelL.cons_iff.2 ⟨hm, by simp only [RelL]⟩⟩⟩)
  refine call.mono fun e W' ⟨he, hb⟩ => ?_
  subst he
  refine ⟨_, rfl, _, _, _, [], [] ++ (p1 ++ (p2 ++ [])), [], hW', trodAll_cons_mk (shut_bool under4 true) trodAll_mk0, ?_, rfl, Below.frame hb _, fun h => by cases h⟩
  refine trodAll_cons_mk (shut_int under3 wa) (trodAll_cons_mk (Below.trod laid0 read25 row25 h1 hb fun x hx => hlt x ?_) (trodAll_cons_mk (Below.trod laid0 read25 row25 h2 hb fun x hx => hlt x ?_) trodAll_mk0))
  · simp [hx]
  · simp [hx]
theorem unifyMatches_holds : Rows.UnifyMatchesSaid :=
  OpenClaim.holds_of_wide 11 Tryz.f11 rfl rfl rfl rfl rfl rfl rfl ⟨rfl, rfl, rfl, rfl, rfl⟩ rfl rfl rfl rfl rfl (by kernel_rfl) Tryz.func11 (by kernel_rfl)
    (of_decide_eq_true (by kernel_rfl)) (by unfold Func.isWrapper; first | (rw [if_pos (by decide +kernel)]; kernel_rfl) | (rw [if_neg (by decide +kernel)]; exact ⟨rfl, rfl⟩))
    (fun os started H enc _ => matches_lifted os started H enc)
#print axioms unifyMatches_holds
end Go.Proofs.YthkjmiejaoomcaaGreat.Am
