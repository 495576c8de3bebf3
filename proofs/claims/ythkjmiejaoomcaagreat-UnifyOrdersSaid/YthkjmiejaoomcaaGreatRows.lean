/-
  NARROWER THAN 'FOR EVERY INPUT', by the rows' own cells (each row's printed sentence says how): UnifySolves: loops · UnifyAgain: loops · UnifyOrders: loops · UnifyScopes: loops · UnifyApart: loops · UnifyStores: loops · UnifyValues: loops · UnifyLeast: loops · UnifyMatches: loops · UnifyGeneral: loops.
  DERIVED. THE GIVEN ROWS OF THIS SEAT. 10 by the template 'for every input the law returns true; each argument reads behind the call as it read before'; 0 by the template 'total and deterministic' (their statements: YthkjmiejaoomcaaGreatTotals.lean).
  GIVEN WITH THE SEED: the statements are not yours to turn. If you find one false, say at which input.
  Laid BY PROGRAM, IN A SANDBOX (cutbox-rows.mjs): the forced cells as the released guide's own fill.sh prints them over the translation 5ac349957a9e1df3… (all of the seat's roots in one cut). By AI agents, Wed Nov 11 2026. No macro, syntax, notation, axiom, sorry.
-/
import Derived.Test.YthkjmiejaoomcaaGreatChecked
import GoSem.Claim
import GoSem.ClaimJoined
import GoSem.ClaimMapViews
import Derived.JoinedTies
import Derived.KernelRfl
namespace Go.Proofs.YthkjmiejaoomcaaGreat
/- THE CELL 'sum', in the pinned program and in every row, IS THE sha256 OF THE DUMP (.gsa) THAT YthkjmiejaoomcaaGreatProg.lean LOADS. Nothing in Lean hashes anything: it is a label: what it is worth is what the hold of that sum in a sandbox is worth. -/
noncomputable def Tryz.pinned : Pinned := { name := "ythkjmiejaoomcaagreat", sum := "5ac349957a9e1df31117081b9822ab2a9f2a8a9914dd9a0dfad00769c3192cf0", checked := Tryz.checked }
namespace Rows
def none {H : Type} : Left H := { results := [], args := [] }

/-- 'peculiumlaw05.UnifySolves': WHATEVER THE INPUT: true; the input reads as it did. -/
def unifySolvesSpec : ChangeSpec := { name := "unifySolves", fn := fun _ => fun
  | [d1, d2, d3] => { results := [.lit (.bool true)], args := [d1, d2, d3] }
  | _ => none }
def unifySolvesRow : OpenClaim := { program := "ythkjmiejaoomcaagreat", sum := "5ac349957a9e1df31117081b9822ab2a9f2a8a9914dd9a0dfad00769c3192cf0", func := "peculium/peculiumlaw05.UnifySolves", spec := "unifySolves", unfollowed := true, recurses := true, loops := true, apart := false }
def UnifySolvesSaid : Prop := unifySolvesRow.holds Tryz.pinned (OpenSpec.ofChange unifySolvesSpec)

/-- ITS FALSE NEIGHBOUR: 'it returns false'. Refute it at one input. -/
def unifySolvesWrong : ChangeSpec := { name := "unifySolves", fn := fun _ => fun
  | [d1, d2, d3] => { results := [.lit (.bool false)], args := [d1, d2, d3] }
  | _ => none }
def UnifySolvesWrongFalsely : Prop := unifySolvesRow.holds Tryz.pinned (OpenSpec.ofChange unifySolvesWrong)

/-- 'peculiumlaw05.UnifyAgain': WHATEVER THE INPUT: true; the input reads as it did. -/
def unifyAgainSpec : ChangeSpec := { name := "unifyAgain", fn := fun _ => fun
  | [d1, d2, d3] => { results := [.lit (.bool true)], args := [d1, d2, d3] }
  | _ => none }
def unifyAgainRow : OpenClaim := { program := "ythkjmiejaoomcaagreat", sum := "5ac349957a9e1df31117081b9822ab2a9f2a8a9914dd9a0dfad00769c3192cf0", func := "peculium/peculiumlaw05.UnifyAgain", spec := "unifyAgain", unfollowed := true, recurses := true, loops := true, apart := false }
def UnifyAgainSaid : Prop := unifyAgainRow.holds Tryz.pinned (OpenSpec.ofChange unifyAgainSpec)

/-- ITS FALSE NEIGHBOUR: 'it returns false'. Refute it at one input. -/
def unifyAgainWrong : ChangeSpec := { name := "unifyAgain", fn := fun _ => fun
  | [d1, d2, d3] => { results := [.lit (.bool false)], args := [d1, d2, d3] }
  | _ => none }
def UnifyAgainWrongFalsely : Prop := unifyAgainRow.holds Tryz.pinned (OpenSpec.ofChange unifyAgainWrong)

/-- 'peculiumlaw05.UnifyOrders': WHATEVER THE INPUT: true; the input reads as it did. -/
def unifyOrdersSpec : ChangeSpec := { name := "unifyOrders", fn := fun _ => fun
  | [d1, d2] => { results := [.lit (.bool true)], args := [d1, d2] }
  | _ => none }
def unifyOrdersRow : OpenClaim := { program := "ythkjmiejaoomcaagreat", sum := "5ac349957a9e1df31117081b9822ab2a9f2a8a9914dd9a0dfad00769c3192cf0", func := "peculium/peculiumlaw05.UnifyOrders", spec := "unifyOrders", unfollowed := true, recurses := true, loops := true, apart := false }
def UnifyOrdersSaid : Prop := unifyOrdersRow.holds Tryz.pinned (OpenSpec.ofChange unifyOrdersSpec)

/-- ITS FALSE NEIGHBOUR: 'it returns false'. Refute it at one input. -/
def unifyOrdersWrong : ChangeSpec := { name := "unifyOrders", fn := fun _ => fun
  | [d1, d2] => { results := [.lit (.bool false)], args := [d1, d2] }
  | _ => none }
def UnifyOrdersWrongFalsely : Prop := unifyOrdersRow.holds Tryz.pinned (OpenSpec.ofChange unifyOrdersWrong)

/-- 'peculiumlaw05.UnifyScopes': WHATEVER THE INPUT: true; the input reads as it did. -/
def unifyScopesSpec : ChangeSpec := { name := "unifyScopes", fn := fun _ => fun
  | [d1, d2, d3] => { results := [.lit (.bool true)], args := [d1, d2, d3] }
  | _ => none }
def unifyScopesRow : OpenClaim := { program := "ythkjmiejaoomcaagreat", sum := "5ac349957a9e1df31117081b9822ab2a9f2a8a9914dd9a0dfad00769c3192cf0", func := "peculium/peculiumlaw05.UnifyScopes", spec := "unifyScopes", unfollowed := true, recurses := true, loops := true, apart := false }
def UnifyScopesSaid : Prop := unifyScopesRow.holds Tryz.pinned (OpenSpec.ofChange unifyScopesSpec)

/-- ITS FALSE NEIGHBOUR: 'it returns false'. Refute it at one input. -/
def unifyScopesWrong : ChangeSpec := { name := "unifyScopes", fn := fun _ => fun
  | [d1, d2, d3] => { results := [.lit (.bool false)], args := [d1, d2, d3] }
  | _ => none }
def UnifyScopesWrongFalsely : Prop := unifyScopesRow.holds Tryz.pinned (OpenSpec.ofChange unifyScopesWrong)

/-- 'peculiumlaw05.UnifyApart': WHATEVER THE INPUT: true; the input reads as it did. -/
def unifyApartSpec : ChangeSpec := { name := "unifyApart", fn := fun _ => fun
  | [d1, d2, d3] => { results := [.lit (.bool true)], args := [d1, d2, d3] }
  | _ => none }
def unifyApartRow : OpenClaim := { program := "ythkjmiejaoomcaagreat", sum := "5ac349957a9e1df31117081b9822ab2a9f2a8a9914dd9a0dfad00769c3192cf0", func := "peculium/peculiumlaw05.UnifyApart", spec := "unifyApart", unfollowed := true, recurses := true, loops := true, apart := false }
def UnifyApartSaid : Prop := unifyApartRow.holds Tryz.pinned (OpenSpec.ofChange unifyApartSpec)

/-- ITS FALSE NEIGHBOUR: 'it returns false'. Refute it at one input. -/
def unifyApartWrong : ChangeSpec := { name := "unifyApart", fn := fun _ => fun
  | [d1, d2, d3] => { results := [.lit (.bool false)], args := [d1, d2, d3] }
  | _ => none }
def UnifyApartWrongFalsely : Prop := unifyApartRow.holds Tryz.pinned (OpenSpec.ofChange unifyApartWrong)

/-- 'peculiumlaw05.UnifyStores': WHATEVER THE INPUT: true; the input reads as it did. -/
def unifyStoresSpec : ChangeSpec := { name := "unifyStores", fn := fun _ => fun
  | [d1, d2, d3] => { results := [.lit (.bool true)], args := [d1, d2, d3] }
  | _ => none }
def unifyStoresRow : OpenClaim := { program := "ythkjmiejaoomcaagreat", sum := "5ac349957a9e1df31117081b9822ab2a9f2a8a9914dd9a0dfad00769c3192cf0", func := "peculium/peculiumlaw05.UnifyStores", spec := "unifyStores", unfollowed := true, recurses := true, loops := true, apart := false }
def UnifyStoresSaid : Prop := unifyStoresRow.holds Tryz.pinned (OpenSpec.ofChange unifyStoresSpec)

/-- ITS FALSE NEIGHBOUR: 'it returns false'. Refute it at one input. -/
def unifyStoresWrong : ChangeSpec := { name := "unifyStores", fn := fun _ => fun
  | [d1, d2, d3] => { results := [.lit (.bool false)], args := [d1, d2, d3] }
  | _ => none }
def UnifyStoresWrongFalsely : Prop := unifyStoresRow.holds Tryz.pinned (OpenSpec.ofChange unifyStoresWrong)

/-- 'peculiumlaw05.UnifyValues': WHATEVER THE INPUT: true; the input reads as it did. -/
def unifyValuesSpec : ChangeSpec := { name := "unifyValues", fn := fun _ => fun
  | [d1, d2] => { results := [.lit (.bool true)], args := [d1, d2] }
  | _ => none }
def unifyValuesRow : OpenClaim := { program := "ythkjmiejaoomcaagreat", sum := "5ac349957a9e1df31117081b9822ab2a9f2a8a9914dd9a0dfad00769c3192cf0", func := "peculium/peculiumlaw05.UnifyValues", spec := "unifyValues", unfollowed := true, recurses := true, loops := true, apart := false }
def UnifyValuesSaid : Prop := unifyValuesRow.holds Tryz.pinned (OpenSpec.ofChange unifyValuesSpec)

/-- ITS FALSE NEIGHBOUR: 'it returns false'. Refute it at one input. -/
def unifyValuesWrong : ChangeSpec := { name := "unifyValues", fn := fun _ => fun
  | [d1, d2] => { results := [.lit (.bool false)], args := [d1, d2] }
  | _ => none }
def UnifyValuesWrongFalsely : Prop := unifyValuesRow.holds Tryz.pinned (OpenSpec.ofChange unifyValuesWrong)

/-- 'peculiumlaw05.UnifyLeast': WHATEVER THE INPUT: true; the input reads as it did. -/
def unifyLeastSpec : ChangeSpec := { name := "unifyLeast", fn := fun _ => fun
  | [d1, d2, d3] => { results := [.lit (.bool true)], args := [d1, d2, d3] }
  | _ => none }
def unifyLeastRow : OpenClaim := { program := "ythkjmiejaoomcaagreat", sum := "5ac349957a9e1df31117081b9822ab2a9f2a8a9914dd9a0dfad00769c3192cf0", func := "peculium/peculiumlaw05.UnifyLeast", spec := "unifyLeast", unfollowed := true, recurses := true, loops := true, apart := false }
def UnifyLeastSaid : Prop := unifyLeastRow.holds Tryz.pinned (OpenSpec.ofChange unifyLeastSpec)

/-- ITS FALSE NEIGHBOUR: 'it returns false'. Refute it at one input. -/
def unifyLeastWrong : ChangeSpec := { name := "unifyLeast", fn := fun _ => fun
  | [d1, d2, d3] => { results := [.lit (.bool false)], args := [d1, d2, d3] }
  | _ => none }
def UnifyLeastWrongFalsely : Prop := unifyLeastRow.holds Tryz.pinned (OpenSpec.ofChange unifyLeastWrong)

/-- 'peculiumlaw05.UnifyMatches': WHATEVER THE INPUT: true; the input reads as it did. -/
def unifyMatchesSpec : ChangeSpec := { name := "unifyMatches", fn := fun _ => fun
  | [d1, d2, d3] => { results := [.lit (.bool true)], args := [d1, d2, d3] }
  | _ => none }
def unifyMatchesRow : OpenClaim := { program := "ythkjmiejaoomcaagreat", sum := "5ac349957a9e1df31117081b9822ab2a9f2a8a9914dd9a0dfad00769c3192cf0", func := "peculium/peculiumlaw05.UnifyMatches", spec := "unifyMatches", unfollowed := true, recurses := true, loops := true, apart := false }
def UnifyMatchesSaid : Prop := unifyMatchesRow.holds Tryz.pinned (OpenSpec.ofChange unifyMatchesSpec)

/-- ITS FALSE NEIGHBOUR: 'it returns false'. Refute it at one input. -/
def unifyMatchesWrong : ChangeSpec := { name := "unifyMatches", fn := fun _ => fun
  | [d1, d2, d3] => { results := [.lit (.bool false)], args := [d1, d2, d3] }
  | _ => none }
def UnifyMatchesWrongFalsely : Prop := unifyMatchesRow.holds Tryz.pinned (OpenSpec.ofChange unifyMatchesWrong)

/-- 'peculiumlaw05.UnifyGeneral': WHATEVER THE INPUT: true; the input reads as it did. -/
def unifyGeneralSpec : ChangeSpec := { name := "unifyGeneral", fn := fun _ => fun
  | [d1, d2, d3] => { results := [.lit (.bool true)], args := [d1, d2, d3] }
  | _ => none }
def unifyGeneralRow : OpenClaim := { program := "ythkjmiejaoomcaagreat", sum := "5ac349957a9e1df31117081b9822ab2a9f2a8a9914dd9a0dfad00769c3192cf0", func := "peculium/peculiumlaw05.UnifyGeneral", spec := "unifyGeneral", unfollowed := true, recurses := true, loops := true, apart := false }
def UnifyGeneralSaid : Prop := unifyGeneralRow.holds Tryz.pinned (OpenSpec.ofChange unifyGeneralSpec)

/-- ITS FALSE NEIGHBOUR: 'it returns false'. Refute it at one input. -/
def unifyGeneralWrong : ChangeSpec := { name := "unifyGeneral", fn := fun _ => fun
  | [d1, d2, d3] => { results := [.lit (.bool false)], args := [d1, d2, d3] }
  | _ => none }
def UnifyGeneralWrongFalsely : Prop := unifyGeneralRow.holds Tryz.pinned (OpenSpec.ofChange unifyGeneralWrong)

/- THE SECOND FORM. 'bulk': how many values and letters a reading holds, each counted each time it is reached (what is shared counts as often as it is met; a slice's spare places count too). A statement '..UptoSaid' is the law's where the arguments, and the package variables that the reading takes, are together of bulk at most 1048576: NARROWER than '..Said'. Prove '..Said' where nothing that the law and all that it calls make is longer than what came in: it says more and counts as full. Else prove '..UptoSaid'. A law counts once. -/
mutual
def uptoBulk {H : Type} : DataW H → Nat
  | .lit (.string bytes) => bytes.length + 1
  | .lit _ => 1
  | .nil => 1
  | .ptr d => uptoBulk d + 1
  | .slice elems spare => uptoBulkAll elems + uptoBulkAll spare + 1
  | .agg parts => uptoBulkAll parts + 1
  | .iface _ d => uptoBulk d + 1
  | .map entries => uptoBulkEntries entries + 1
  | .held _ => 1
def uptoBulkAll {H : Type} : List (DataW H) → Nat
  | [] => 0
  | d :: r => uptoBulk d + uptoBulkAll r
def uptoBulkEntries {H : Type} : List (Lit × DataW H) → Nat
  | [] => 0
  | x :: r => uptoBulkEntry x + uptoBulkEntries r
def uptoBulkEntry {H : Type} : Lit × DataW H → Nat
  | (.string bytes, d) => bytes.length + uptoBulk d + 1
  | (_, d) => uptoBulk d + 1
 end
def uptoSmall : (H : Type) → List (DataW H) → Bool := fun _ ds => decide (uptoBulkAll ds ≤ 1048576)
def OpenSpec.upto (s : _root_.Go.ChangeSpec) : _root_.Go.OpenSpec := { _root_.Go.OpenSpec.ofChange s with cond := some uptoSmall }

/-- 'peculiumlaw05.UnifySolves', WHERE WHAT IT READS IS OF BULK AT MOST 1048576: true; the input reads as it did. -/
def unifySolvesUptoRow : OpenClaim := { program := "ythkjmiejaoomcaagreat", sum := "5ac349957a9e1df31117081b9822ab2a9f2a8a9914dd9a0dfad00769c3192cf0", func := "peculium/peculiumlaw05.UnifySolves", spec := "unifySolves", unfollowed := true, recurses := true, loops := true, apart := false, narrowed := true }
def UnifySolvesUptoSaid : Prop := unifySolvesUptoRow.holds Tryz.pinned (OpenSpec.upto unifySolvesSpec)

/-- 'peculiumlaw05.UnifyAgain', WHERE WHAT IT READS IS OF BULK AT MOST 1048576: true; the input reads as it did. -/
def unifyAgainUptoRow : OpenClaim := { program := "ythkjmiejaoomcaagreat", sum := "5ac349957a9e1df31117081b9822ab2a9f2a8a9914dd9a0dfad00769c3192cf0", func := "peculium/peculiumlaw05.UnifyAgain", spec := "unifyAgain", unfollowed := true, recurses := true, loops := true, apart := false, narrowed := true }
def UnifyAgainUptoSaid : Prop := unifyAgainUptoRow.holds Tryz.pinned (OpenSpec.upto unifyAgainSpec)

/-- 'peculiumlaw05.UnifyOrders', WHERE WHAT IT READS IS OF BULK AT MOST 1048576: true; the input reads as it did. -/
def unifyOrdersUptoRow : OpenClaim := { program := "ythkjmiejaoomcaagreat", sum := "5ac349957a9e1df31117081b9822ab2a9f2a8a9914dd9a0dfad00769c3192cf0", func := "peculium/peculiumlaw05.UnifyOrders", spec := "unifyOrders", unfollowed := true, recurses := true, loops := true, apart := false, narrowed := true }
def UnifyOrdersUptoSaid : Prop := unifyOrdersUptoRow.holds Tryz.pinned (OpenSpec.upto unifyOrdersSpec)

/-- 'peculiumlaw05.UnifyScopes', WHERE WHAT IT READS IS OF BULK AT MOST 1048576: true; the input reads as it did. -/
def unifyScopesUptoRow : OpenClaim := { program := "ythkjmiejaoomcaagreat", sum := "5ac349957a9e1df31117081b9822ab2a9f2a8a9914dd9a0dfad00769c3192cf0", func := "peculium/peculiumlaw05.UnifyScopes", spec := "unifyScopes", unfollowed := true, recurses := true, loops := true, apart := false, narrowed := true }
def UnifyScopesUptoSaid : Prop := unifyScopesUptoRow.holds Tryz.pinned (OpenSpec.upto unifyScopesSpec)

/-- 'peculiumlaw05.UnifyApart', WHERE WHAT IT READS IS OF BULK AT MOST 1048576: true; the input reads as it did. -/
def unifyApartUptoRow : OpenClaim := { program := "ythkjmiejaoomcaagreat", sum := "5ac349957a9e1df31117081b9822ab2a9f2a8a9914dd9a0dfad00769c3192cf0", func := "peculium/peculiumlaw05.UnifyApart", spec := "unifyApart", unfollowed := true, recurses := true, loops := true, apart := false, narrowed := true }
def UnifyApartUptoSaid : Prop := unifyApartUptoRow.holds Tryz.pinned (OpenSpec.upto unifyApartSpec)

/-- 'peculiumlaw05.UnifyStores', WHERE WHAT IT READS IS OF BULK AT MOST 1048576: true; the input reads as it did. -/
def unifyStoresUptoRow : OpenClaim := { program := "ythkjmiejaoomcaagreat", sum := "5ac349957a9e1df31117081b9822ab2a9f2a8a9914dd9a0dfad00769c3192cf0", func := "peculium/peculiumlaw05.UnifyStores", spec := "unifyStores", unfollowed := true, recurses := true, loops := true, apart := false, narrowed := true }
def UnifyStoresUptoSaid : Prop := unifyStoresUptoRow.holds Tryz.pinned (OpenSpec.upto unifyStoresSpec)

/-- 'peculiumlaw05.UnifyValues', WHERE WHAT IT READS IS OF BULK AT MOST 1048576: true; the input reads as it did. -/
def unifyValuesUptoRow : OpenClaim := { program := "ythkjmiejaoomcaagreat", sum := "5ac349957a9e1df31117081b9822ab2a9f2a8a9914dd9a0dfad00769c3192cf0", func := "peculium/peculiumlaw05.UnifyValues", spec := "unifyValues", unfollowed := true, recurses := true, loops := true, apart := false, narrowed := true }
def UnifyValuesUptoSaid : Prop := unifyValuesUptoRow.holds Tryz.pinned (OpenSpec.upto unifyValuesSpec)

/-- 'peculiumlaw05.UnifyLeast', WHERE WHAT IT READS IS OF BULK AT MOST 1048576: true; the input reads as it did. -/
def unifyLeastUptoRow : OpenClaim := { program := "ythkjmiejaoomcaagreat", sum := "5ac349957a9e1df31117081b9822ab2a9f2a8a9914dd9a0dfad00769c3192cf0", func := "peculium/peculiumlaw05.UnifyLeast", spec := "unifyLeast", unfollowed := true, recurses := true, loops := true, apart := false, narrowed := true }
def UnifyLeastUptoSaid : Prop := unifyLeastUptoRow.holds Tryz.pinned (OpenSpec.upto unifyLeastSpec)

/-- 'peculiumlaw05.UnifyMatches', WHERE WHAT IT READS IS OF BULK AT MOST 1048576: true; the input reads as it did. -/
def unifyMatchesUptoRow : OpenClaim := { program := "ythkjmiejaoomcaagreat", sum := "5ac349957a9e1df31117081b9822ab2a9f2a8a9914dd9a0dfad00769c3192cf0", func := "peculium/peculiumlaw05.UnifyMatches", spec := "unifyMatches", unfollowed := true, recurses := true, loops := true, apart := false, narrowed := true }
def UnifyMatchesUptoSaid : Prop := unifyMatchesUptoRow.holds Tryz.pinned (OpenSpec.upto unifyMatchesSpec)

/-- 'peculiumlaw05.UnifyGeneral', WHERE WHAT IT READS IS OF BULK AT MOST 1048576: true; the input reads as it did. -/
def unifyGeneralUptoRow : OpenClaim := { program := "ythkjmiejaoomcaagreat", sum := "5ac349957a9e1df31117081b9822ab2a9f2a8a9914dd9a0dfad00769c3192cf0", func := "peculium/peculiumlaw05.UnifyGeneral", spec := "unifyGeneral", unfollowed := true, recurses := true, loops := true, apart := false, narrowed := true }
def UnifyGeneralUptoSaid : Prop := unifyGeneralUptoRow.holds Tryz.pinned (OpenSpec.upto unifyGeneralSpec)

end Rows
end Go.Proofs.YthkjmiejaoomcaaGreat
