/- Part of the proof of a law of layer 5: own texts, joined. -/
import Derived.Test.YthkjmiejaoomcaaGreatNo
set_option linter.unusedVariables false
set_option linter.unusedSimpArgs false
set_option linter.unnecessarySimpa false
/- Sizes in a store that Check accepts. -/
namespace Go.Proofs.YthkjmiejaoomcaaGreat.Am
open Go Go.RowKit Go.Proofs
set_option linter.unusedVariables false
set_option linter.unusedSimpArgs false

theorem base_size {t : Ty} (h : isBaseF t = true) : t.size = 1 := by
  unfold isBaseF at h
  simp only [Bool.and_eq_true, beq_iff_eq] at h
  obtain ⟨n, l⟩ := t
  have : l = [] := List.eq_nil_of_length_eq_zero (by have := h.1.1.1; simp only at this; omega)
  subst this
  rw [Ty.size, sizeTs]
theorem args_size : ∀ (s : Nat) (t : Ty) (out l : List ByteArray), t.size ≤ s → out.length ≤ 8 → argsGo t out = some l → t.size ≤ 2 * (8 - out.length) + 1 := by
  intro s
  induction s with
  | zero => intro t out l ht; obtain ⟨a, b⟩ := t; rw [Ty.size] at ht; omega
  | succ s ih =>
    intro t out l ht ho hg
    cases h : (isArrow t.name && (t.args.length : Int) == 2)
    · rw [argsGo_end out h, argsEnd] at hg
      split at hg
      · rename_i hb
        have := base_size hb; omega
      · cases hg
    · rw [Bool.and_eq_true] at h
      obtain ⟨a, b, hab, he, hlt⟩ := argsGo_two out h.1 h.2
      rw [he] at hg
      split at hg
      · cases hg
      · rename_i hn
        simp only [Bool.or_eq_true, not_or, Bool.not_eq_true', Bool.not_eq_false, beq_iff_eq] at hn
        have h8 : out.length < 8 := by
          have := hn.2
          omega
        have h1 := ih b (out ++ [a.name]) l (by omega) (by simp; omega) hg
        have h2 := base_size hn.1
        obtain ⟨n, m⟩ := t
        simp only at hab
        subst hab
        rw [Ty.size, sizeTs, sizeTs, sizeTs, h2]
        simp only [List.length_append, List.length_singleton] at h1
        omega
theorem type_size {t : Ty} (h : (argsF t).isSome = true) : t.size ≤ 17 := by
  cases ha : argsF t with
  | none => rw [ha] at h; cases h
  | some l =>
    have := args_size t.size t [] l (Nat.le_refl _) (by decide) ha
    simp only [List.length_nil] at this
    omega
theorem zero_size {t : Term} (h : isZeroF t = true) : t.size = 1 := by
  unfold isZeroF at h
  simp only [Bool.and_eq_true, beq_iff_eq] at h
  obtain ⟨k, n, s, l⟩ := t
  have : l = [] := List.eq_nil_of_length_eq_zero (by have := h.2; simp only at this; omega)
  subst this
  rw [Term.size, sizes]
theorem check_sizes {vs : List Va} (h : (checkF vs == 0) = true) : ∀ v ∈ vs, v.type.size ≤ 1000000000 ∧ v.t.size ≤ 1000000000 := by
  have h0 : checkF vs = 0 := by simpa using h
  unfold checkF at h0
  split at h0
  · cases h0
  · split at h0
    · cases h0
    · rename_i hl
      have hl' : longF vs 4000 = false := by simpa using hl
      split at h0
      · rename_i hall
        intro v hv
        rw [List.all_eq_true] at hall
        have hva := hall v hv
        unfold validF typeOkF at hva
        simp only [Bool.and_eq_true] at hva
        have h1 := type_size hva.1.1
        refine ⟨by omega, ?_⟩
        have h2 := hva.2
        cases hi : v.is
        · rw [hi] at h2
          have := zero_size (by simpa using h2); omega
        · have := long_small vs 4000 hl' v hv hi; omega
      · cases h0
end Go.Proofs.YthkjmiejaoomcaaGreat.Am
