/- Part of the proof of a law of layer 5: own texts, joined. -/
import Derived.Test.YthkjmiejaoomcaaGreatRu
set_option linter.unusedVariables false
set_option linter.unusedSimpArgs false
set_option linter.unnecessarySimpa false
namespace Go.Proofs.YthkjmiejaoomcaaGreat.Am
open Go Go.RowKit Go.Proofs
set_option linter.unusedVariables false
set_option linter.unusedSimpArgs false
set_option maxRecDepth 100000
set_option maxHeartbeats 1000000
attribute [local go_sem] cSeq cDr cOne zEf zD8 panK zEt zCe panC zLj cOp zA8 zKj aop zAv zFb List.getD_cons_zero List.getD_cons_succ AV.known AV.cells if_true if_false cond_true cond_false aPut true_and and_true ofConst ofLeaf zGj zFk zFe zEk btt btf
 zEo zGd zLn zKl aBin aInt zI6 aStr unSl aLen zC5 Option.map_some Option.map_none upd_same zKe Nat.reduceBEq List.drop_zero List.drop_succ_cons List.drop_nil List.take_succ_cons List.take_zero List.head?_cons List.length_cons List.length_nil Nat.reduceAdd Nat.reduceLeDiff Nat.reduceEqDiff List.map_cons List.map_nil Nat.zero_add Nat.add_zero reduceCtorEq Bool.false_eq_true
 zD4 zNm true_implies false_implies implies_true forall_const and_self Bool.not_true Bool.not_false Bool.cond_self zOf zEp aNil zLo aMax aMin aNot List.getElem?_cons_zero List.getElem?_cons_succ zEn zEq zBv AV.flat List.all_cons List.all_nil Bool.and_true Bool.true_and Bool.and_false Bool.false_and Int.natCast_nonneg Int.ofNat_lt Int.toNat_natCast zXd Nat.le_add_left List.append_nil List.contains_cons List.contains_nil Bool.or_true Bool.or_false Bool.true_or Bool.false_or Nat.reduceBEq List.cons_append List.nil_append
 sz_1 by_1 ag_1 tk_1 ze_1 sz_3 by_3 ag_3 tk_3 ze_3 sz_4 by_4 ag_4 tk_4 ze_4 sz_9 by_9 ag_9 tk_9 ze_9
 z07 z3c z4e z0o zZ2 z06 z3b z4d z0n zKg zZ1 z05 z3a z4c z0m zUr zKd zUt z04 z2z
 z4b zXw zCj zZ0 zD2 zFl z4a z0l zDm zKc zKb zKa zJ9 zQc z03 z2y z3z z0k zZz z02
 z2x z3y z0j zZy zJ8 zJ7 zJ6 zJ5 z1n z01 z2w z3x zXv zI1 zZx z00 z2v z3w z0i zZw
 zJ4 zJ3 zJ2 z1m z0z z2u z3v z0h zZv zJ1 zJ0 zJz zJy z1l zL9 zT5 z3u z0g zKv zJx
 zJw zV5 zMz zT4 z3t z0f zKu zIl zJv zJu zJt zXy z0y z2t z3s z0e zZu zJs zJr z1k
 z0x z2s z3r z0d zHf zZt z0w z2r z3q z0c zKf zZs z0v z2q z3p z0b zZr z0u z2p z3o
 z0a zZq zJq zJp z1j z0t z2o z3n zZ9 zZp z0s z2n z3m zZ8 zZo z0r z2m z3l zZ7 zQm
 zZn zP3 zR2 zS4 zO9 zMj zHe zHd zHc zMs zP2 zR1 zS3 zO8 zOa zP1 zR0 zS2 zO7 zN9
 zHb zHa zG9 zQi zP0 zRz zS1 zO6 zN8 zPz zRy zS0 zO5 zN7 zPy zRx zSz zO4 zQ6 zN6
 zPx zRw zSy zO3 zN5 zG8 zG7 zG6 zG5 zQh zPw zRv zSx zO2 zN4 zG4 zG3 zQg zPv zRu
 zSw zO1 zN3 zPu zRt zSv zO0 zN2 zPt zRs zSu zOz zKq zN1 zPs zRr zSt zOy zMi zG2
 zG1 zG0 zGz zMr zPr zRq zSs zOx zQ5 zN0 zPq zRp zSr zOw zQn zNz zPp zRo zSq zOv
 zNy zGy zGx zQf zPo zRn zSp zOu zNx zPn zRm zSo zOt zQ4 zNw zPm zRl zSn zOs zNv
 zGw zGv zGu zGt zQe zPl zRk zSm zOr zMh zMq zPk zRj zSl zOq zMg zGs zMp zPj zRi
 zSk zOp zNu zPi zRh zSj zOo zNt zGr zGq zGp zQd zPh zRg zSi zOn zIw zNs zPg zRf
 zSh zOm zNr zPf zRe zSg zOl zMf zGo zGn zGm zMo zPe zRd zSf zOk zKo zGl zGk zMn
 zPd zRc zSe zOj zQ3 zNq zPc zRb zSd zOi zNp zPb zRa zSc zOh zNo
 zHl bne decide_true decide_false Nat.mul_one zIs beq_self_eq_true Int.reduceBEq Int.reduceLT Int.reduceLE
theorem zVq (e:Int) (h:zAc) (Q:AOut→zAc→Prop) (hq:Q (.ret (.bool (e==2||e==5))) h):zAg Tryz.prog 24 [.int .i64 e] h Q:=by
 refine zAg.of_sem (fn:=Tryz.f24) Tryz.func24 rfl (by kernel_rfl) (by rw [Tryz.ntmps24];simp) (enters_of Tryz.func24 (by kernel_rfl) (by kernel_rfl)) ?_
 cases e2:(e==2)
 ·cases e5:(e==5)
  ·rw [e2,e5] at hq
   repeat first|((with_reducible refine sS ?_);intro _ _ _ C_ R_ U_;simp only [go_sem,↓reduceIte,e2,e5];subst C_ R_ U_)|(with_reducible refine rN ?_;subst hbq)|(with_reducible refine iR ?_;refine rG2 ?_)|(with_reducible refine iL ?_;refine rL (by rw [Tryz.results24]) (zAh.refl _) ?_;simp only [go_sem,↓reduceIte,zAo,Option.some.injEq,exists_eq_left',e2,e5])|with_reducible first|refine nS ?_|refine rS fun bq hbq=>?_|refine rR ?_
   exact hq
  ·rw [e2,e5] at hq
   repeat first|((with_reducible refine sS ?_);intro _ _ _ C_ R_ U_;simp only [go_sem,↓reduceIte,e2,e5];subst C_ R_ U_)|(with_reducible refine rN ?_;subst hbq)|(with_reducible refine iR ?_;refine rG2 ?_)|(with_reducible refine iL ?_;refine rL (by rw [Tryz.results24]) (zAh.refl _) ?_;simp only [go_sem,↓reduceIte,zAo,Option.some.injEq,exists_eq_left',e2,e5])|with_reducible first|refine nS ?_|refine rS fun bq hbq=>?_|refine rR ?_
   exact hq
 ·rw [e2] at hq
  repeat first|((with_reducible refine sS ?_);intro _ _ _ C_ R_ U_;simp only [go_sem,↓reduceIte,e2];subst C_ R_ U_)|(with_reducible refine rN ?_;subst hbq)|(with_reducible refine iR ?_;refine rG2 ?_)|(with_reducible refine iL ?_;refine rL (by rw [Tryz.results24]) (zAh.refl _) ?_;simp only [go_sem,↓reduceIte,zAo,Option.some.injEq,exists_eq_left',e2])|with_reducible first|refine nS ?_|refine rS fun bq hbq=>?_|refine rR ?_
  exact hq
theorem yIo {vs:List Va} {a b:Term} (h:((zDd vs a b).2.2==0)=false):(zDd vs a b).2.1=false:=by
 unfold zDd at h ⊢
 split
 ·rename_i hft
  rw [if_pos hft] at h
  split at h
  ·cases h
  ·rename_i e he
   split <;> rfl
  ·rename_i s hs
   split at h
   ·rename_i hc
    rw [if_pos hc]
   ·cases h
 ·rfl
theorem yKq (vs:List Va) (t u:Term) (h:zAc) (Q:AOut→zAc→Prop) (hq:Q (.ret (.bool true)) h) :
  zAg Tryz.prog 4 [.agg [.list 8 (zAn vs) vs.length .none],enc t,enc u] h Q:=by
 refine zAg.of_sem (fn:=Tryz.f4) Tryz.func4 rfl (by kernel_rfl) (by rw [Tryz.ntmps4];simp) (enters_of Tryz.func4 (by kernel_rfl) (by kernel_rfl)) ?_
 repeat first|((with_reducible refine sS ?_);intro _ _ _ C_ R_ U_;simp only [go_sem,↓reduceIte];subst C_ R_ U_)|(with_reducible refine iR ?_;refine rG2 ?_)|with_reducible refine rS fun bq hbq=>?_
 intro a ha
 repeat (((with_reducible refine sS ?_);intro _ _ _ C_ R_ U_;simp only [go_sem,↓reduceIte];subst C_ R_ U_))
 intro b hb
 have e1:=zAt hb
 repeat (((with_reducible refine sS ?_);intro _ _ _ C_ R_ U_;simp only [go_sem,↓reduceIte];subst C_ R_ U_))
 intro c hc
 have e2:=zAt hc
 have e3:=zAt e2.2
 have fin:zAh (upd (upd (upd h a (some (.cells [.list 8 (zAn vs) vs.length .none] 24))) b (some (.cells (zAj t) 27))) c (some (.cells (zAj u) 27))) h:=((zAh.refl h).new ha |>.new e1.2 |>.new e3.2)
 repeat first|((with_reducible refine sS ?_);intro _ _ _ C_ R_ U_;simp only [go_sem,↓reduceIte,e1.1,e1.1.symm,e2.1,e2.1.symm,e3.1,e3.1.symm];subst C_ R_ U_)|(with_reducible refine rN ?_;subst hbq)|(with_reducible refine iR ?_;refine rG2 ?_)|with_reducible first|refine nS ?_|refine rS fun bq hbq=>?_
 refine yIx _ _ ?_
 have sa:(upd (upd (upd h a (some (AObj.cells [.list 8 (zAn vs) vs.length .none] 24))) b (some (.cells (zAj t) 27))) c (some (.cells (zAj u) 27))) a=some (.cells [.list 8 (zAn vs) vs.length .none] 24):=by rw [zAa _ _ e3.1.symm,zAa _ _ e1.1.symm,upd_same]
 have sb:(upd (upd (upd h a (some (AObj.cells [.list 8 (zAn vs) vs.length .none] 24))) b (some (.cells (zAj t) 27))) c (some (.cells (zAj u) 27))) b=some (.cells (zAj t) 27):=by rw [zAa _ _ e2.1.symm,upd_same]
 have sc:(upd (upd (upd h a (some (AObj.cells [.list 8 (zAn vs) vs.length .none] 24))) b (some (.cells (zAj t) 27))) c (some (.cells (zAj u) 27))) c=some (.cells (zAj u) 27):=upd_same _ _ _
 generalize (upd (upd (upd h a (some (AObj.cells [.list 8 (zAn vs) vs.length .none] 24))) b (some (AObj.cells (zAj t) 27))) c (some (AObj.cells (zAj u) 27)))=H at *
 try dsimp only
 repeat first|((with_reducible refine sS ?_);intro _ _ _ C_ R_ U_;simp only [go_sem,↓reduceIte,sa,sb,sc,z7f];subst C_ R_ U_)|(with_reducible refine rN ?_;subst hbq)|(with_reducible refine iR ?_;refine rG2 ?_)|with_reducible first|refine nS ?_|refine rS fun bq hbq=>?_
 have e25:encs [t,u]=zAj t++zAj u:=by rw [zBt];simp
 refine zAg.args (args':=[.agg [.list 8 (zAn vs) vs.length .none],.list 4 (encs [t,u]) ([t,u]:List Term).length .none]) (.cons (LeAV.refl _) (.cons (by rw [e25];exact LeAV.list _ _ _ _) .nil)) (yMy vs .none [t,u] _ _ (by simp) ?_)
 cases c1:yJ4 vs [t,u]
 ·try dsimp only
  repeat first|((with_reducible first|refine sS ?_|refine sC ?_);intro _ _ _ C_ R_ U_;simp only [go_sem,↓reduceIte,sa,sb,sc,c1];subst C_ R_ U_)|(with_reducible refine rN ?_;subst hbq)|(with_reducible refine iR ?_;refine rG2 ?_)|(with_reducible refine r1 ?_;clear hbq bq)|(with_reducible refine iL ?_;refine rL (by rw [Tryz.results4]) fin ?_;simp only [go_sem,↓reduceIte,zAo,Option.some.injEq,exists_eq_left',sa,sb,sc,c1])|with_reducible first|refine nS ?_|refine rS fun bq hbq=>?_|refine rR ?_
  exact hq
 have hvs:vs.length≤12:=by
  unfold yJ4 at c1
  rw [Bool.and_eq_true,Bool.not_eq_true',decide_eq_false_iff_not] at c1
  omega
 try dsimp only
 repeat (((with_reducible refine sS ?_);intro _ _ _ C_ R_ U_;simp only [go_sem,↓reduceIte,sa,sb,sc,c1];subst C_ R_ U_))
 refine yBm vs (by omega) .none t _ _ ?_
 cases f1:((if (zBd vs==0)=true then zDs vs t else zBd vs)==0)
 ·try dsimp only
  repeat first|((with_reducible first|refine sS ?_|refine sC ?_);intro _ _ _ C_ R_ U_;simp only [go_sem,↓reduceIte,sa,sb,sc,f1];subst C_ R_ U_)|(with_reducible refine rN ?_;subst hbq)|(with_reducible refine iR ?_;refine rG2 ?_)|(with_reducible refine r1 ?_;clear hbq bq)|(with_reducible refine iL ?_;refine rL (by rw [Tryz.results4]) fin ?_;simp only [go_sem,↓reduceIte,zAo,Option.some.injEq,exists_eq_left',sa,sb,sc,f1])|with_reducible first|refine nS ?_|refine rS fun bq hbq=>?_|refine rR ?_
  exact hq
 try dsimp only
 repeat (((with_reducible refine sS ?_);intro _ _ _ C_ R_ U_;simp only [go_sem,↓reduceIte,sa,sb,sc,f1];subst C_ R_ U_))
 refine yBm vs (by omega) .none u _ _ ?_
 cases f2:((if (zBd vs==0)=true then zDs vs u else zBd vs)==0)
 ·try dsimp only
  repeat first|((with_reducible first|refine sS ?_|refine sC ?_);intro _ _ _ C_ R_ U_;simp only [go_sem,↓reduceIte,sa,sb,sc,f2];subst C_ R_ U_)|(with_reducible refine rN ?_;subst hbq)|(with_reducible refine iR ?_;refine rG2 ?_)|(with_reducible refine r1 ?_;clear hbq bq)|(with_reducible refine iL ?_;refine rL (by rw [Tryz.results4]) fin ?_;simp only [go_sem,↓reduceIte,zAo,Option.some.injEq,exists_eq_left',sa,sb,sc,f2])|with_reducible first|refine nS ?_|refine rS fun bq hbq=>?_|refine rR ?_
  exact hq
 try dsimp only
 repeat first|((with_reducible first|refine sS ?_|refine sC ?_);intro _ _ _ C_ R_ U_;simp only [go_sem,↓reduceIte,sa,sb,sc,f2];subst C_ R_ U_)|(with_reducible refine rN ?_;subst hbq)|(with_reducible refine iR ?_;refine rG2 ?_)|with_reducible first|refine nS ?_|refine rS fun bq hbq=>?_|refine rK ?_
 have hft:∀ w,((if (zBd vs==0)=true then zDs vs w else zBd vs)==0)=true→(zH0 vs t w==0)=true:=fun w hw=>by
  unfold zH0
  split at f1
  ·rename_i hc
   rw [if_pos hc] at hw ⊢
   rw [zCq,zCq,zCq,if_pos f1,if_pos hw];rfl
  ·rename_i hc;exact absurd f1 hc
 have ft1:=hft t f1
 obtain ⟨hck0,hf0,_⟩:=zLg ft1
 refine zZ6 vs (by omega) .none t t _ _ ?_
 rcases zYe ft1 (zQz hck0 (Int.le_refl 0) hf0) with hR|⟨er,hR,her⟩
 case inr =>
  rw [hR]
  dsimp only [outU]
  have z:(er==0)=false:=by
   cases hz:(er==0)
   ·rfl
   ·have:er=0:=by simpa using hz
    subst this;cases her
  repeat (((with_reducible refine sS ?_);intro _ _ _ C_ R_ U_;simp only [go_sem,↓reduceIte,sa,sb,sc];subst C_ R_ U_))
  intro p hp
  have fin:zAh (upd H p (some (AObj.cells [.list 8 (zAn []) 0 .none] 24))) h:=fin.new (fin.none hp)
  repeat first|((with_reducible first|refine sS ?_|refine sC ?_);intro _ _ _ C_ R_ U_;simp only [go_sem,↓reduceIte,sa,sb,sc,z];subst C_ R_ U_)|(with_reducible refine rN ?_;subst hbq)|(with_reducible refine iR ?_;refine rG2 ?_)|with_reducible first|refine nS ?_|refine rS fun bq hbq=>?_
  refine zVq er _ _ ?_
  rw [her]
  try dsimp only
  repeat first|((with_reducible refine sS ?_);intro _ _ _ C_ R_ U_;simp only [go_sem,↓reduceIte];subst C_ R_ U_)|(with_reducible refine rN ?_;subst hbq)|(with_reducible refine r1 ?_;clear hbq bq)|(with_reducible refine iL ?_;refine rL (by rw [Tryz.results4]) fin ?_;simp only [go_sem,↓reduceIte,zAo,Option.some.injEq,exists_eq_left'])|with_reducible first|refine nS ?_|refine rR ?_
  exact hq
 rw [hR]
 dsimp only [outU]
 have z0:((0:Int)==0)=true:=rfl
 repeat (((with_reducible refine sS ?_);intro _ _ _ C_ R_ U_;simp only [go_sem,↓reduceIte,sa,sb,sc,z0];subst C_ R_ U_))
 intro p hp
 have pa:=zAd hp sa
 have pb:=zAd hp sb
 have pc:=zAd hp sc
 have fin:zAh (upd H p (some (.cells [.list 8 (zAn vs) vs.length .none] 24))) h:=fin.new (fin.none hp)
 have sa:(upd H p (some (.cells [.list 8 (zAn vs) vs.length .none] 24))) a=_:=(zAa _ _ pa).trans sa
 have sb:(upd H p (some (.cells [.list 8 (zAn vs) vs.length .none] 24))) b=_:=(zAa _ _ pb).trans sb
 have sc:(upd H p (some (.cells [.list 8 (zAn vs) vs.length .none] 24))) c=_:=(zAa _ _ pc).trans sc
 have sp:(upd H p (some (.cells [.list 8 (zAn vs) vs.length .none] 24))) p=some (.cells [.list 8 (zAn vs) vs.length .none] 24):=upd_same _ _ _
 simp only [go_sem,↓reduceIte]
 generalize upd H p (some (.cells [.list 8 (zAn vs) vs.length .none] 24))=H2 at *
 have le1:LeAV (.list 4 (zAj t) 1 .full) (.list 4 (encs [t]) ([t]:List Term).length .none):=by
  rw [show encs [t]=zAj t by rw [zBt];simp]
  exact LeAV.list _ _ _ _
 repeat first|((with_reducible first|refine sS ?_|refine sC ?_);intro _ _ _ C_ R_ U_;simp only [go_sem,↓reduceIte,sa,sb,sc,sp,z0,zCz];subst C_ R_ U_)|(with_reducible refine rN ?_;subst hbq)|(with_reducible refine iR ?_;refine rG2 ?_)|with_reducible first|refine nS ?_|refine rS fun bq hbq=>?_|refine rK ?_
 refine zAg.args (args':=[.agg [.list 8 (zAn vs) vs.length .none],.int .i64 vs.length,.list 4 (encs [t]) ([t]:List Term).length .none]) (.cons (LeAV.refl _) (.cons (LeAV.refl _) (.cons le1 .nil))) (zLx vs (by omega) vs.length (Nat.le_refl _) [t] (by simp) (by simp) _ _ ?_)
 try dsimp only
 repeat first|((with_reducible refine sS ?_);intro _ _ _ C_ R_ U_;simp only [go_sem,↓reduceIte,sa,sb,sc,sp,z0,zCz];subst C_ R_ U_)|(with_reducible refine rN ?_;subst hbq)|(with_reducible refine iR ?_;refine rG2 ?_)|with_reducible first|refine nS ?_|refine rS fun bq hbq=>?_
 refine zAg.args (args':=[.agg [.list 8 (zAn vs) vs.length .none],.int .i64 vs.length,.list 4 (encs [t]) ([t]:List Term).length .none]) (.cons (LeAV.refl _) (.cons (LeAV.refl _) (.cons le1 .nil))) (zLx vs (by omega) vs.length (Nat.le_refl _) [t] (by simp) (by simp) _ _ ?_)
 obtain ⟨hsz1,hsz2⟩:=zWj vs 40 (zDc vs vs.length++[t])
 unfold zYo
 generalize zMt vs 40 (zDc vs vs.length++[t])=R at *
 obtain ⟨q1,q2,q3⟩:=R
 dsimp only at hsz1 hsz2 ⊢
 have zr:(q3==q3)=true:=by simp
 repeat first|((with_reducible refine sS ?_);intro _ _ _ C_ R_ U_;simp only [go_sem,↓reduceIte,sa,sb,sc,sp,z0,zr];subst C_ R_ U_)|(with_reducible refine rN ?_;subst hbq)|(with_reducible refine iR ?_;refine rG2 ?_)|with_reducible first|refine nS ?_|refine rS fun bq hbq=>?_
 refine zUj q1 q1 (fun x hx=>by have:=hsz2 x hx;omega) (by omega) _ _ rfl ?_
 try dsimp only
 repeat first|((with_reducible first|refine sS ?_|refine sC ?_);intro _ _ _ C_ R_ U_;simp only [go_sem,↓reduceIte,sa,sb,sc,sp,z0,zr];subst C_ R_ U_)|(with_reducible refine rN ?_;subst hbq)|(with_reducible refine iR ?_;refine rG2 ?_)|with_reducible first|refine nS ?_|refine rS fun bq hbq=>?_|refine rK ?_
 refine zZ6 vs (by omega) .none t u _ _ ?_
 have hno:=@yIo vs t u
 have hag:=@z8c vs t u
 have hso:=@zVo vs t u
 generalize zDd vs t u=R at *
 obtain ⟨ms,is,er⟩:=R
 dsimp only [outU] at hno hag hso ⊢
 repeat (((with_reducible refine sS ?_);intro _ _ _ C_ R_ U_;simp only [go_sem,↓reduceIte,sa,sb,sc];subst C_ R_ U_))
 intro p2 hp2
 have pa:=zAd hp2 sa
 have pb:=zAd hp2 sb
 have pc:=zAd hp2 sc
 have fin:zAh (upd H2 p2 (some (.cells [.list 8 (zAn ms) ms.length .none] 24))) h:=fin.new (fin.none hp2)
 have sa:(upd H2 p2 (some (.cells [.list 8 (zAn ms) ms.length .none] 24))) a=_:=(zAa _ _ pa).trans sa
 have sb:(upd H2 p2 (some (.cells [.list 8 (zAn ms) ms.length .none] 24))) b=_:=(zAa _ _ pb).trans sb
 have sc:(upd H2 p2 (some (.cells [.list 8 (zAn ms) ms.length .none] 24))) c=_:=(zAa _ _ pc).trans sc
 have sp2:(upd H2 p2 (some (.cells [.list 8 (zAn ms) ms.length .none] 24))) p2=some (.cells [.list 8 (zAn ms) ms.length .none] 24):=upd_same _ _ _
 simp only [go_sem,↓reduceIte]
 generalize upd H2 p2 (some (.cells [.list 8 (zAn ms) ms.length .none] 24))=H3 at *
 cases f3:(er==0)
 ·obtain rfl:is=false:=hno f3
  repeat first|((with_reducible first|refine sS ?_|refine sC ?_);intro _ _ _ C_ R_ U_;simp only [go_sem,↓reduceIte,sa,sb,sc,f3];subst C_ R_ U_)|(with_reducible refine rN ?_;subst hbq)|(with_reducible refine iR ?_;refine rG2 ?_)|(with_reducible refine r1 ?_;clear hbq bq)|(with_reducible refine iL ?_;refine rL (by rw [Tryz.results4]) fin ?_;simp only [go_sem,↓reduceIte,zAo,Option.some.injEq,exists_eq_left',sa,sb,sc,f3])|with_reducible first|refine nS ?_|refine rS fun bq hbq=>?_|refine rR ?_
  exact hq
 obtain rfl:er=0:=by simpa using f3
 cases is with
 |false =>
  repeat first|((with_reducible first|refine sS ?_|refine sC ?_);intro _ _ _ C_ R_ U_;simp only [go_sem,↓reduceIte,sa,sb,sc,f3];subst C_ R_ U_)|(with_reducible refine rN ?_;subst hbq)|(with_reducible refine iR ?_;refine rG2 ?_)|(with_reducible refine r1 ?_;clear hbq bq)|(with_reducible refine iL ?_;refine rL (by rw [Tryz.results4]) fin ?_;simp only [go_sem,↓reduceIte,zAo,Option.some.injEq,exists_eq_left',sa,sb,sc,f3])|with_reducible first|refine nS ?_|refine rS fun bq hbq=>?_|refine rR ?_
  exact hq
 |true =>
 obtain ⟨hck,hE⟩:=hso rfl rfl
 obtain ⟨hft2,hEq⟩:=hag rfl rfl
 have hl2:ms.length≤2000:=(zIx hck).len
 have hml:vs.length≤ms.length:=hE.1
 repeat first|((with_reducible first|refine sS ?_|refine sC ?_);intro _ _ _ C_ R_ U_;simp only [go_sem,↓reduceIte,sa,sb,sc,sp2,f3];subst C_ R_ U_)|(with_reducible refine rN ?_;subst hbq)|(with_reducible refine iR ?_;refine rG2 ?_)|with_reducible first|refine nS ?_|refine rS fun bq hbq=>?_|refine rK ?_
 refine zZ6 ms (by omega) .none t u _ _ ?_
 rcases zYe hft2 hEq with hR|⟨er,hR,her⟩
 case inr =>
  rw [hR]
  dsimp only [outU]
  have z:(er==0)=false:=by
   cases hz:(er==0)
   ·rfl
   ·have:er=0:=by simpa using hz
    subst this;cases her
  repeat (((with_reducible refine sS ?_);intro _ _ _ C_ R_ U_;simp only [go_sem,↓reduceIte,sa,sb,sc];subst C_ R_ U_))
  intro p hp
  have fin:zAh (upd H3 p (some (AObj.cells [.list 8 (zAn []) 0 .none] 24))) h:=fin.new (fin.none hp)
  repeat first|((with_reducible first|refine sS ?_|refine sC ?_);intro _ _ _ C_ R_ U_;simp only [go_sem,↓reduceIte,sa,sb,sc,z];subst C_ R_ U_)|(with_reducible refine rN ?_;subst hbq)|(with_reducible refine iR ?_;refine rG2 ?_)|with_reducible first|refine nS ?_|refine rS fun bq hbq=>?_
  refine zVq er _ _ ?_
  rw [her]
  try dsimp only
  repeat first|((with_reducible refine sS ?_);intro _ _ _ C_ R_ U_;simp only [go_sem,↓reduceIte];subst C_ R_ U_)|(with_reducible refine rN ?_;subst hbq)|(with_reducible refine r1 ?_;clear hbq bq)|(with_reducible refine iL ?_;refine rL (by rw [Tryz.results4]) fin ?_;simp only [go_sem,↓reduceIte,zAo,Option.some.injEq,exists_eq_left'])|with_reducible first|refine nS ?_|refine rR ?_
  exact hq
 rw [hR]
 dsimp only [outU]
 repeat (((with_reducible refine sS ?_);intro _ _ _ C_ R_ U_;simp only [go_sem,↓reduceIte,sa,sb,sc,z0];subst C_ R_ U_))
 intro p3 hp3
 have pa:=zAd hp3 sa
 have pb:=zAd hp3 sb
 have pc:=zAd hp3 sc
 have pp2:=zAd hp3 sp2
 have fin:zAh (upd H3 p3 (some (.cells [.list 8 (zAn ms) ms.length .none] 24))) h:=fin.new (fin.none hp3)
 have sa:(upd H3 p3 (some (.cells [.list 8 (zAn ms) ms.length .none] 24))) a=_:=(zAa _ _ pa).trans sa
 have sb:(upd H3 p3 (some (.cells [.list 8 (zAn ms) ms.length .none] 24))) b=_:=(zAa _ _ pb).trans sb
 have sc:(upd H3 p3 (some (.cells [.list 8 (zAn ms) ms.length .none] 24))) c=_:=(zAa _ _ pc).trans sc
 have sp2:(upd H3 p3 (some (.cells [.list 8 (zAn ms) ms.length .none] 24))) p2=_:=(zAa _ _ pp2).trans sp2
 have sp3:(upd H3 p3 (some (.cells [.list 8 (zAn ms) ms.length .none] 24))) p3=some (.cells [.list 8 (zAn ms) ms.length .none] 24):=upd_same _ _ _
 simp only [go_sem,↓reduceIte]
 generalize upd H3 p3 (some (.cells [.list 8 (zAn ms) ms.length .none] 24))=H4 at *
 repeat first|((with_reducible first|refine sS ?_|refine sC ?_);intro _ _ _ C_ R_ U_;simp only [go_sem,↓reduceIte,sa,sb,sc,sp2,sp3,z0,zCz];subst C_ R_ U_)|(with_reducible refine rN ?_;subst hbq)|(with_reducible refine iR ?_;refine rG2 ?_)|with_reducible first|refine nS ?_|refine rS fun bq hbq=>?_|refine rK ?_
 refine zAg.args (args':=[.agg [.list 8 (zAn ms) ms.length .none],.int .i64 vs.length,.list 4 (encs [t]) ([t]:List Term).length .none]) (.cons (LeAV.refl _) (.cons (LeAV.refl _) (.cons le1 .nil))) (zLx ms (by omega) vs.length hml [t] (by simp) (by simp) _ _ ?_)
 try dsimp only
 repeat first|((with_reducible refine sS ?_);intro _ _ _ C_ R_ U_;simp only [go_sem,↓reduceIte,sa,sb,sc,sp2,sp3,z0,zCz];subst C_ R_ U_)|(with_reducible refine rN ?_;subst hbq)|(with_reducible refine iR ?_;refine rG2 ?_)|with_reducible first|refine nS ?_|refine rS fun bq hbq=>?_
 refine zAg.args (args':=[.agg [.list 8 (zAn ms) ms.length .none],.int .i64 vs.length,.list 4 (encs [t]) ([t]:List Term).length .none]) (.cons (LeAV.refl _) (.cons (LeAV.refl _) (.cons le1 .nil))) (zLx ms (by omega) vs.length hml [t] (by simp) (by simp) _ _ ?_)
 obtain ⟨hsz1,hsz2⟩:=zWj ms 40 (zDc ms vs.length++[t])
 unfold zYo
 generalize zMt ms 40 (zDc ms vs.length++[t])=R at *
 obtain ⟨q1,q2,q3⟩:=R
 dsimp only at hsz1 hsz2 ⊢
 have zr:(q3==q3)=true:=by simp
 repeat first|((with_reducible refine sS ?_);intro _ _ _ C_ R_ U_;simp only [go_sem,↓reduceIte,sa,sb,sc,sp2,sp3,z0,zr];subst C_ R_ U_)|(with_reducible refine rN ?_;subst hbq)|(with_reducible refine iR ?_;refine rG2 ?_)|with_reducible first|refine nS ?_|refine rS fun bq hbq=>?_
 refine zUj q1 q1 (fun x hx=>by have:=hsz2 x hx;omega) (by omega) _ _ rfl ?_
 try dsimp only
 repeat first|((with_reducible refine sS ?_);intro _ _ _ C_ R_ U_;simp only [go_sem,↓reduceIte,sa,sb,sc,sp2,sp3,z0,zr];subst C_ R_ U_)|(with_reducible refine rN ?_;subst hbq)|(with_reducible refine iL ?_;refine rL (by rw [Tryz.results4]) fin ?_;simp only [go_sem,↓reduceIte,zAo,Option.some.injEq,exists_eq_left',sa,sb,sc,sp2,sp3,z0,zr])|with_reducible first|refine nS ?_|refine rR ?_
 exact hq
end Go.Proofs.YthkjmiejaoomcaaGreat.Am
