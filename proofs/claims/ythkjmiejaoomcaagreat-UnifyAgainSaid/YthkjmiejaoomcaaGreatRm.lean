/- Part of the proof of a law of layer 5: own texts, joined. -/
import Derived.Test.YthkjmiejaoomcaaGreatRk
import Derived.Test.YthkjmiejaoomcaaGreatRg
import Derived.Test.YthkjmiejaoomcaaGreatRf
set_option linter.unusedVariables false
set_option linter.unusedSimpArgs false
set_option linter.unnecessarySimpa false
namespace Go.Proofs.YthkjmiejaoomcaaGreat.Am
open Go Go.RowKit Go.Proofs
set_option linter.unusedVariables false
set_option linter.unusedSimpArgs false
set_option maxRecDepth 100000
set_option maxHeartbeats 1000000
attribute [local go_sem] cSeq cDr cOne zEf zD8 panK zEt zCe panC zLj cOp zA8 zKj aop zAv zFb List.getD_cons_zero List.getD_cons_succ AV.known AV.cells if_true if_false cond_true cond_false aPut true_and and_true ofConst ofLeaf zGj zFk zFe zEk btt btf
 zEo zGd zLn zKl aBin aInt zI6 aStr unSl aLen zC5 Option.map_some Option.map_none upd_same zKe Nat.reduceBEq List.drop_zero List.drop_succ_cons List.drop_nil List.take_succ_cons List.take_zero List.head?_cons List.length_cons List.length_nil Nat.reduceAdd Nat.reduceLeDiff Nat.reduceEqDiff List.map_cons List.map_nil Nat.zero_add Nat.add_zero reduceCtorEq Bool.false_eq_true
 zD4 zNm true_implies false_implies implies_true forall_const and_self Bool.not_true Bool.not_false Bool.cond_self zOf zEp aNil zLo aMax aMin aNot List.getElem?_cons_zero List.getElem?_cons_succ zEn zEq zBv AV.flat List.all_cons List.all_nil Bool.and_true Bool.true_and Bool.and_false Bool.false_and Int.natCast_nonneg Int.ofNat_lt Int.toNat_natCast zXd Nat.le_add_left List.append_nil List.contains_cons List.contains_nil Bool.or_true Bool.or_false Bool.true_or Bool.false_or Nat.reduceBEq List.cons_append List.nil_append
 sz_1 by_1 ag_1 tk_1 ze_1 sz_3 by_3 ag_3 tk_3 ze_3 sz_4 by_4 ag_4 tk_4 ze_4 sz_9 by_9 ag_9 tk_9 ze_9
 z07 z3c z4e z0o zZ2 z06 z3b z4d z0n zKg zZ1 z05 z3a z4c z0m zUr zKd zUt z04 z2z
 z4b zXw zCj zZ0 zD2 zFl z4a z0l zDm zKc zKb zKa zJ9 zQc z03 z2y z3z z0k zZz z02
 z2x z3y z0j zZy zJ8 zJ7 zJ6 zJ5 z1n z01 z2w z3x zXv zI1 zZx z00 z2v z3w z0i zZw
 zJ4 zJ3 zJ2 z1m z0z z2u z3v z0h zZv zJ1 zJ0 zJz zJy z1l zL9 zT5 z3u z0g zKv zJx
 zJw zV5 zMz zT4 z3t z0f zKu zIl zJv zJu zJt zXy z0y z2t z3s z0e zZu zJs zJr z1k
 z0x z2s z3r z0d zHf zZt z0w z2r z3q z0c zKf zZs z0v z2q z3p z0b zZr z0u z2p z3o
 z0a zZq zJq zJp z1j z0t z2o z3n zZ9 zZp z0s z2n z3m zZ8 zZo z0r z2m z3l zZ7 zQm
 zZn zP3 zR2 zS4 zO9 zMj zHe zHd zHc zMs zP2 zR1 zS3 zO8 zOa zP1 zR0 zS2 zO7 zN9
 zHb zHa zG9 zQi zP0 zRz zS1 zO6 zN8 zPz zRy zS0 zO5 zN7 zPy zRx zSz zO4 zQ6 zN6
 zPx zRw zSy zO3 zN5 zG8 zG7 zG6 zG5 zQh zPw zRv zSx zO2 zN4 zG4 zG3 zQg zPv zRu
 zSw zO1 zN3 zPu zRt zSv zO0 zN2 zPt zRs zSu zOz zKq zN1 zPs zRr zSt zOy zMi zG2
 zG1 zG0 zGz zMr zPr zRq zSs zOx zQ5 zN0 zPq zRp zSr zOw zQn zNz zPp zRo zSq zOv
 zNy zGy zGx zQf zPo zRn zSp zOu zNx zPn zRm zSo zOt zQ4 zNw zPm zRl zSn zOs zNv
 zGw zGv zGu zGt zQe zPl zRk zSm zOr zMh zMq zPk zRj zSl zOq zMg zGs zMp zPj zRi
 zSk zOp zNu zPi zRh zSj zOo zNt zGr zGq zGp zQd zPh zRg zSi zOn zIw zNs zPg zRf
 zSh zOm zNr zPf zRe zSg zOl zMf zGo zGn zGm zMo zPe zRd zSf zOk zKo zGl zGk zMn
 zPd zRc zSe zOj zQ3 zNq zPc zRb zSd zOi zNp zPb zRa zSc zOh zNo
end Go.Proofs.YthkjmiejaoomcaaGreat.Am
