/- Part of the proof of a law of layer 5: own texts, joined. -/
import Derived.Test.YthkjmiejaoomcaaGreatQd
import Derived.Test.YthkjmiejaoomcaaGreatQe
set_option linter.unusedVariables false
set_option linter.unusedSimpArgs false
set_option linter.unnecessarySimpa false
namespace Go.Proofs.YthkjmiejaoomcaaGreat.Am
open Go Go.RowKit Go.Proofs
set_option maxRecDepth 20000
theorem chk4 : chkFrom 187 16 = true := by kernel_rfl
theorem funcs_len : Nat.beq Tryz.prog.funcs.toList.length 203 = true := by kernel_rfl
theorem funcs_length : Tryz.prog.funcs.toList.length = 203 := beq_iff.1 funcs_len
theorem chkFrom_at {a n g : Nat} (h : chkFrom a n = true) (h1 : a ≤ g) (h2 : g < a + n) : chkG g = true := by
 unfold chkFrom at h
 rw [allB_eq, List.all_eq_true] at h
 exact h g (List.mem_range'_1.2 ⟨h1, h2⟩)
theorem chkAll : ChkAll hn0 := by
 intro g fn c hf
 have hlt : g < 203 := by
  obtain ⟨h1, _⟩ := fnAt_some hf
  have := (Array.getElem?_eq_some_iff.1 h1).1
  rw [← Array.length_toList, funcs_length] at this
  exact this
 have : chkG g = true := by
  rcases Nat.lt_or_ge g 50 with h | h
  ·exact chkFrom_at chk0 (by omega) (by omega)
  ·rcases Nat.lt_or_ge g 100 with h | h
   ·exact chkFrom_at chk1 (by omega) (by omega)
   ·rcases Nat.lt_or_ge g 140 with h | h
    ·exact chkFrom_at chk2 (by omega) (by omega)
    ·rcases Nat.lt_or_ge g 187 with h | h
     ·exact chkFrom_at chk3 (by omega) (by omega)
     ·exact chkFrom_at chk4 (by omega) (by omega)
 unfold chkG at this
 rw [hf] at this
 exact this
noncomputable def saneOut : Out := callD hn0 100000 200 (.func (.func 13) [] []) [] .nil 0
def outTrue (o : Out) : Bool := match o with
 | .val (.bool true) _ _ => true
 | _ => false
theorem sane_run : outTrue saneOut = true := by kernel_rfl
theorem sane_calls (h : AHeap) (n : Nat) : NCalls Tryz.prog 13 [] h n fun o h' n' => o = .ret (.bool true) ∧ h' = h ∧ n' = n := by
 refine NCalls.framed ?_ h n
 have hr := sane_run
 have hc := callD_ok chkAll 100000 200 (.func (.func 13) [] []) [] .nil 0
 have hx : ∃ H m, saneOut = .val (.bool true) H m := by
  unfold outTrue at hr
  split at hr
  ·rename_i H m he; exact ⟨H, m, he⟩
  ·cases hr
 obtain ⟨H, m, hx⟩ := hx
 have hs : callD hn0 100000 200 (.func (.func 13) [] []) [] .nil 0 = .val (.bool true) H m := hx
 rw [hs] at hc
 rcases hc with ⟨_, _, _, hl⟩ | hc
 ·cases hl
 ·have hc : NCalls Tryz.prog 13 [] (hpT .nil) 0 (IsV (.val (.bool true) H m)) := hc
  have he : hpT (.nil : Tr XObj) = fun _ => Option.none := by
   funext i
   unfold hpT
   rw [getP_nil]; rfl
  rw [he] at hc
  refine hc.mono fun o h' n' hq => ?_
  cases o with
  | ret v => obtain ⟨H', h1, _⟩ := hq; injection h1 with h1; rw [h1]
  | panic v => obtain ⟨H', h1, _⟩ := hq; cases h1
end Go.Proofs.YthkjmiejaoomcaaGreat.Am
