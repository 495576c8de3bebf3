/- Part of the proof of a law of layer 5: own texts, joined. -/
import Derived.Test.YthkjmiejaoomcaaGreatVc
set_option linter.unusedVariables false
set_option linter.unusedSimpArgs false
set_option linter.unnecessarySimpa false
namespace Go.Proofs.YthkjmiejaoomcaaGreat.Am
open Go Go.RowKit Go.Proofs
set_option maxRecDepth 20000
def ownL (f:Nat):Bool:=match f with
 |98=>true|104=>true|129=>true|31=>true|80=>true|127=>true|_=>false
noncomputable def hn0:vP:=⟨fun f _=>ownL f,planT⟩
noncomputable def chkG (g:Nat):Bool:=match fnAt g with
 |some q=>chkC hn0 g q.2
 |Option.none=>true
noncomputable def rJ (a n:Nat):Bool:=allB chkG (List.range' a n)
theorem chk0:rJ 0 50=true:=by kernel_rfl
theorem chk1:rJ 50 50=true:=by kernel_rfl
theorem chk2:rJ 100 40=true:=by kernel_rfl
theorem chk3:rJ 140 47=true:=by kernel_rfl
end Go.Proofs.YthkjmiejaoomcaaGreat.Am
