/- Part of the proof of a law of layer 5: own texts, joined. -/
import Derived.Test.YthkjmiejaoomcaaGreatSo
import Derived.Test.YthkjmiejaoomcaaGreatSi
import Derived.Test.YthkjmiejaoomcaaGreatSg
import Derived.Test.YthkjmiejaoomcaaGreatSk
import Derived.Test.YthkjmiejaoomcaaGreatSn
import Derived.Test.YthkjmiejaoomcaaGreatSb
set_option linter.unusedVariables false
set_option linter.unusedSimpArgs false
set_option linter.unnecessarySimpa false
namespace Go.Proofs.YthkjmiejaoomcaaGreat.Am
open Go Go.RowKit Go.Proofs
set_option linter.unusedVariables false
set_option linter.unusedSimpArgs false
set_option maxRecDepth 100000
set_option maxHeartbeats 1000000
theorem zO2 (vs:List Va) (hvs:vs.length≤1000000) (tk:Tok) (h:zAd) (Q:AOut→zAd→Prop) (hq:Q (.ret (.int .i64 (zA1 vs))) h):zAg Tryz.prog 26 [.agg [.list 8 (zAn vs) vs.length tk]] h Q:=by
 unfold zA1 at hq
 refine zAg.of_sem (fn:=Tryz.f26) Tryz.func26 rfl (by kernel_rfl) (by rw [Tryz.ntmps26];simp) (enters_of Tryz.func26 (by kernel_rfl) (by kernel_rfl)) ?_
 repeat with_reducible first|(apply zS;intro _ R_;simp only [go_sem,↓reduceIte];subst R_)|refine rG2 ?_|refine rS fun bq hbq=>?_
 intro a ha
 have fin:zAh (upd h a (some (.cells [.list 8 (zAn vs) vs.length tk] 24))) h:=zAh.one ha
 have sa:(upd h a (some (AObj.cells [.list 8 (zAn vs) vs.length tk] 24))) a=some (.cells [.list 8 (zAn vs) vs.length tk] 24):=upd_same _ _ _
 cases c1:decide ((vs.length:Int)>2000)
 case true =>
  repeat first|(with_reducible first|((first|apply zS|apply zC);intro _ R_;simp only [go_sem,↓reduceIte,c1];subst R_)|(apply rN;subst hbq)|refine rG2 ?_|(apply r1;clear hbq bq)|apply nS|refine rS fun bq hbq=>?_|apply rR)|(with_reducible apply iL;refine rL (by rw [Tryz.results26]) fin ?_;simp only [go_sem,↓reduceIte,zAo,Option.some.injEq,exists_eq_left',c1])
  exact zBj (by rw [if_pos (by simpa using c1)]) hq
 rw [if_neg (by simpa using c1)] at hq
 repeat with_reducible first|((first|apply zS|apply zC);intro _ R_;simp only [go_sem,↓reduceIte,c1];subst R_)|(apply rN;subst hbq)|refine rG2 ?_|apply nS|refine rS fun bq hbq=>?_|apply rK
 generalize upd h a (some (AObj.cells [.list 8 (zAn vs) vs.length tk] 24))=H at *
 refine zCc (fun τ h'=>τ 1=.ptr a 0∧zAh h' H∧zKc vs 4000=false) ?_ fun τ h' hI=>?_
 ·repeat with_reducible refine zAb fun bq hbq=>?_
  refine zA6 fun cq hcq=>?_
  subst hcq
  refine zAz (fun k τ h'=>∃ (i:Nat) (left:Int),k+i=vs.length∧zKc (vs.drop i) left=zKc vs 4000∧0≤left∧left≤4000∧τ 1=.ptr a 0∧τ 3=.int .i64 left∧τ 11=.list 8 (zAn vs) vs.length tk∧τ 12=.int .i64 vs.length∧τ 13=.int .i64 i∧zAh h' H) vs.length ?_ ?_
  ·exact ⟨0,4000,rfl,rfl,by decide,by decide,rfl,rfl,rfl,rfl,rfl,zAh.refl _⟩
  ·intro c hc k τ h' hI
   obtain ⟨i,left,hk,hix,hl0,hl1,f1,f3,f11,f12,f13,hl'⟩:=hI
   subst hc
   by_cases hi:i<vs.length
   ·obtain ⟨v,hv⟩:∃ v,vs[i]?=some v:=⟨_,List.getElem?_eq_getElem hi⟩
    obtain ⟨r,hr⟩:=zEr vs i hv
    have hdrop:vs.drop i=v::vs.drop (i+1):=by
     rw [List.drop_eq_getElem_cons hi]
     rw [List.getElem?_eq_getElem hi] at hv;injection hv with hv;rw [hv]
    rw [hdrop,zKc] at hix
    repeat with_reducible first|((first|apply zS|apply zC);intro _ R_;simp only [go_sem,↓reduceIte,f1,f3,f11,f12,f13,hi,hr];subst R_)|(apply rN;subst hbq)|refine rG2 ?_|(refine rB fun cq hcq=>?_;subst hcq)|apply nS|refine rS fun bq hbq=>?_|apply rK
    intro p hp
    have hlp:zAh (upd h' p (some (.cells (zBc v) 62))) H:=(zAh.one hp).trans hl'
    have finp:zAh (upd h' p (some (.cells (zBc v) 62))) h:=hlp.trans fin
    cases hvi:v.is
    ·rw [hvi] at hix
     repeat with_reducible first|((first|apply zS|apply zC);intro _ R_;simp only [go_sem,↓reduceIte,f1,f3,f11,f12,f13,hvi,zA3 ((i:Int)+1) (by omega)];subst R_)|(apply rN;subst hbq)|refine rG2 ?_|apply nS|refine rS fun bq hbq=>?_|apply rK|apply rE
     refine zAp (m:=k - 1) (by omega) ⟨i+1,left,by omega,by simpa using hix,hl0,hl1,?_⟩
     simp only [go_sem,↓reduceIte,f1,f3,f11,f12]
     exact ⟨rfl,(zAh.one hp).trans hl'⟩
    ·rw [hvi] at hix
     simp only [if_true] at hix
     repeat with_reducible first|((first|apply zS|apply zC);intro _ R_;simp only [go_sem,↓reduceIte,f1,f3,f11,f12,f13,hvi];subst R_)|(apply rN;subst hbq)|refine rG2 ?_|apply nS|refine rS fun bq hbq=>?_
     refine z03 v.t.size v.t left _ _ (Nat.le_refl _) (by omega) (by omega) ?_
     have hb:=(zGc v.t.size).1 v.t left (Nat.le_refl _)
     cases hd:decide ((v.t.size:Int)>left)
     ·rw [hd] at hix
      simp only [Bool.false_eq_true,if_false] at hix
      have hd':¬ (v.t.size:Int)>left:=by simpa using hd
      have hps:=zRl v.t left (by omega)
      have hw:=zA3 (left - v.t.size) (by omega)
      have hneg:decide (left - (v.t.size:Int)<0)=false:=by simp;omega
      rw [hps]
      try dsimp only
      repeat with_reducible first|((first|apply zS|apply zC);intro _ R_;simp only [go_sem,↓reduceIte,f1,f3,f11,f12,f13,hvi,hw,hneg,zA3 ((i:Int)+1) (by omega)];subst R_)|(apply rN;subst hbq)|refine rG2 ?_|apply nS|refine rS fun bq hbq=>?_|apply rK|apply rE
      refine zAp (m:=k - 1) (by omega) ⟨i+1,left - v.t.size,by omega,hix,by omega,by omega,?_⟩
      simp only [go_sem,↓reduceIte,f1,f11,f12]
      exact ⟨rfl,(zAh.one hp).trans hl'⟩
     ·rw [hd] at hix
      simp only [if_true] at hix
      have hd':zBt v.t left>left:=(zV3 v.t left).2 (by simpa using hd)
      have hw:=zA3 (left - zBt v.t left) (by omega)
      have hneg:decide (left - zBt v.t left<0)=true:=by simp;omega
      try dsimp only
      repeat first|(with_reducible first|((first|apply zS|apply zC);intro _ R_;simp only [go_sem,↓reduceIte,f1,f3,f11,f12,f13,hvi,hw,hneg];subst R_)|(apply rN;subst hbq)|refine rG2 ?_|(apply r1;clear hbq bq)|apply nS|refine rS fun bq hbq=>?_|apply rR|apply r2|apply r3|apply r4)|(with_reducible apply iL;refine rL (by rw [Tryz.results26]) ((zAh.one hp).trans (hl'.trans fin)) ?_;simp only [go_sem,↓reduceIte,zAo,Option.some.injEq,exists_eq_left',f1,f3,f11,f12,f13,hvi,hw,hneg])
      exact zBj (by rw [← hix,if_pos rfl]) hq
   ·rw [List.drop_eq_nil_of_le (by omega),zKc] at hix
    repeat with_reducible first|((first|apply zS|apply zC);intro _ R_;simp only [go_sem,↓reduceIte,f1,f3,f11,f12,f13,hi];subst R_)|(apply rN;subst hbq)|refine rG2 ?_|(apply x1;clear hbq bq)|apply nS|refine rS fun bq hbq=>?_|apply rXx|apply x3|apply x4
    refine zAl ?_
    exact ⟨f1,hl',hix.symm⟩
 ·obtain ⟨f1,hl',hlg⟩:=hI
  subst hbq
  rw [hlg] at hq
  simp only [Bool.false_eq_true,if_false] at hq
  have ta:=hl' _ _ sa
  have fin2:zAh h' h:=hl'.trans fin
  repeat with_reducible first|(apply zS;intro _ R_;simp only [go_sem,↓reduceIte,f1,ta];subst R_)|refine rG2 ?_|refine rS fun bq hbq=>?_
  refine zAg.args (args':=[.list 8 (zAn vs) vs.length .none,.func (.func 72) [] [.ptr a 0]]) (.cons (LeAV.list _ _ _ _) (.cons (LeAV.refl _) .nil)) (zOi vs 72 [] [.ptr a 0] (fun v=>!zFe vs v) _ _ (by omega) (fun i u hu _ h2 Q2 hl2 hq2=>yF2 vs hvs tk u h2 a (hl2 _ _ ta) Q2 hq2) ?_)
  cases hall:vs.any fun v=>!zFe vs v
  ·have hall':vs.all (zFe vs)=true:=by
    rw [List.all_eq_true]
    rw [List.any_eq_false] at hall
    intro v hv
    have:=hall v hv
    simpa using this
   rw [hall'] at hq
   simp only [if_true] at hq
   have hg:=zK4 vs hlg hall'
   try dsimp only
   repeat with_reducible (apply zS;intro _ R_;simp only [go_sem,↓reduceIte,f1,ta,hall];subst R_)
   refine z4l vs hvs hg.vals tk _ _ ?_
   cases hc:zIq vs
   ·try dsimp only
    repeat first|(with_reducible first|((first|apply zS|apply zC);intro _ R_;simp only [go_sem,↓reduceIte,f1,ta,hall,hc];subst R_)|(apply rN;subst hbq)|refine rG2 ?_|apply nS|refine rS fun bq hbq=>?_|apply rK|apply rR)|(with_reducible apply iL;refine rL (by rw [Tryz.results26]) fin2 ?_;simp only [go_sem,↓reduceIte,zAo,Option.some.injEq,exists_eq_left',f1,ta,hall,hc])
    exact zBj (by rw [hc];first|done|rfl) hq
   ·try dsimp only
    repeat first|(with_reducible first|((first|apply zS|apply zC);intro _ R_;simp only [go_sem,↓reduceIte,f1,ta,hall,hc];subst R_)|(apply rN;subst hbq)|refine rG2 ?_|(apply r1;clear hbq bq)|apply nS|refine rS fun bq hbq=>?_|apply rR)|(with_reducible apply iL;refine rL (by rw [Tryz.results26]) fin2 ?_;simp only [go_sem,↓reduceIte,zAo,Option.some.injEq,exists_eq_left',f1,ta,hall,hc])
    exact zBj (by rw [hc];first|done|rfl) hq
  ·have hall':vs.all (zFe vs)=false:=by
    rw [Bool.eq_false_iff]
    intro h1
    rw [List.all_eq_true] at h1
    rw [List.any_eq_true] at hall
    obtain ⟨v,hv,h2⟩:=hall
    rw [h1 v hv] at h2;cases h2
   rw [hall'] at hq
   try dsimp only
   repeat first|(with_reducible first|((first|apply zS|apply zC);intro _ R_;simp only [go_sem,↓reduceIte,f1,ta,hall];subst R_)|(apply rN;subst hbq)|refine rG2 ?_|(apply r1;clear hbq bq)|apply nS|refine rS fun bq hbq=>?_|apply rR)|(with_reducible apply iL;refine rL (by rw [Tryz.results26]) fin2 ?_;simp only [go_sem,↓reduceIte,zAo,Option.some.injEq,exists_eq_left',f1,ta,hall])
   exact hq
theorem zN2 (t:Term) (h:(zDt t==0)=true):t.size≤4000:=by
 refine zIg t fun hp=>?_
 unfold zDt at h
 rw [if_pos hp] at h
 exact absurd h (by decide)
def zCz (vs:List Va) (t:Term):Int:=if zDt t==0 then (if zAv vs t 0 then 0 else 6) else zDt t
def zCd (vs:List Va):List Term→Int
 |[]=>0
 |t::ts=>if zCz vs t==0 then zCd vs ts else zCz vs t
theorem zQi (vs:List Va) (hvs:vs.length≤1000000) (tk:Tok) (l:List Term) (h:zAd) (Q:AOut→zAd→Prop) (hl:l.length≤1000000000) (hq:Q (.ret (.int .i64 (if zA1 vs==0 then zCd vs l else zA1 vs))) h):zAg Tryz.prog 57 [.agg [.list 8 (zAn vs) vs.length tk],.list 4 (encs l) l.length .none] h Q:=by
 refine zAg.of_sem (fn:=Tryz.f57) Tryz.func57 rfl (by kernel_rfl) (by rw [Tryz.ntmps57];simp) (enters_of Tryz.func57 (by kernel_rfl) (by kernel_rfl)) ?_
 repeat with_reducible first|(apply zS;intro _ R_;simp only [go_sem,↓reduceIte];subst R_)|refine rG2 ?_|refine rS fun bq hbq=>?_
 intro a ha
 have fin:zAh (upd h a (some (.cells [.list 8 (zAn vs) vs.length tk] 24))) h:=(zAh.refl h).new ha
 repeat with_reducible first|(apply zS;intro _ R_;simp only [go_sem,↓reduceIte];subst R_)|(apply rN;subst hbq)|refine rG2 ?_|apply nS|refine rS fun bq hbq=>?_
 refine zO2 vs hvs tk _ _ ?_
 cases c0:(zA1 vs==0)
 ·rw [c0] at hq
  try dsimp only
  repeat first|(with_reducible first|((first|apply zS|apply zC);intro _ R_;simp only [go_sem,↓reduceIte,c0];subst R_)|(apply rN;subst hbq)|refine rG2 ?_|(apply r1;clear hbq bq)|apply nS|refine rS fun bq hbq=>?_|apply rR)|(with_reducible apply iL;refine rL (by rw [Tryz.results57]) fin ?_;simp only [go_sem,↓reduceIte,zAo,Option.some.injEq,exists_eq_left',c0])
  exact hq
 rw [c0] at hq
 simp only [if_true] at hq
 try dsimp only
 repeat with_reducible first|((first|apply zS|apply zC);intro _ R_;simp only [go_sem,↓reduceIte,c0];subst R_)|(apply rN;subst hbq)|refine rG2 ?_|(refine rB fun cq hcq=>?_;subst hcq)|apply nS|refine rS fun bq hbq=>?_|apply rK
 refine zAz (fun k τ h'=>∃ i:Nat,k+i=l.length∧τ 2=.ptr a 0∧τ 14=.list 4 (encs l) l.length .none∧τ 15=.int .i64 l.length∧τ 16=.int .i64 i∧zAh h' h∧h' a=some (.cells [.list 8 (zAn vs) vs.length tk] 24)∧zCd vs (l.drop i)=zCd vs l) l.length ?_ ?_
 ·exact ⟨0,rfl,rfl,rfl,rfl,rfl,fin,upd_same _ _ _,rfl⟩
 ·intro c hc k τ h' hI
  obtain ⟨i,hk,f2,f14,f15,f16,hl',ma,hix⟩:=hI
  subst hc
  by_cases hi:i<l.length
  ·obtain ⟨u,hu⟩:∃ u,l[i]?=some u:=⟨_,List.getElem?_eq_getElem hi⟩
   obtain ⟨r,hr⟩:=zB7 l i hu
   have hdrop:l.drop i=u::l.drop (i+1):=by
    rw [List.drop_eq_getElem_cons hi]
    rw [List.getElem?_eq_getElem hi] at hu;injection hu with hu;rw [hu]
   rw [hdrop,zCd] at hix
   repeat with_reducible first|((first|apply zS|apply zC);intro _ R_;simp only [go_sem,↓reduceIte,f2,f14,f15,f16,hi,hr];subst R_)|(apply rN;subst hbq)|refine rG2 ?_|(refine rB fun cq hcq=>?_;subst hcq)|apply nS|refine rS fun bq hbq=>?_|apply rK
   intro b hb
   have hba:=zAc hb ma
   have fin:zAh (upd h' b (some (.cells (zAj u) 27))) h:=hl'.new (hl'.none hb)
   repeat with_reducible first|(apply zS;intro _ R_;simp only [go_sem,↓reduceIte,f2,f14,f15,f16,ma,hba];subst R_)|(apply rN;subst hbq)|refine rG2 ?_|apply nS|refine rS fun bq hbq=>?_
   refine zTj u _ _ ?_
   cases hs:(zDt u==0)
   ·rw [show zCz vs u=zDt u by simp only [zCz,hs];rfl,hs] at hix
    try dsimp only
    repeat first|(with_reducible first|((first|apply zS|apply zC);intro _ R_;simp only [go_sem,↓reduceIte,f2,f14,f15,f16,ma,hba,hs];subst R_)|(apply rN;subst hbq)|refine rG2 ?_|(apply r1;clear hbq bq)|apply nS|refine rS fun bq hbq=>?_|apply rR|apply r3|apply r4)|(with_reducible apply iL;refine rL (by rw [Tryz.results57]) fin ?_;simp only [go_sem,↓reduceIte,zAo,Option.some.injEq,exists_eq_left',f2,f14,f15,f16,ma,hba,hs])
    exact zBj (by rw [← hix];rfl) hq
   ·have hsz:=zN2 u hs
    try dsimp only
    repeat with_reducible first|((first|apply zS|apply zC);intro _ R_;simp only [go_sem,↓reduceIte,f2,f14,f15,f16,ma,hba,hs];subst R_)|(apply rN;subst hbq)|refine rG2 ?_|apply nS|refine rS fun bq hbq=>?_|apply rK
    refine zZl vs hvs tk u.size u 0 _ _ (Nat.le_refl _) (by decide) (by omega) ?_
    cases hf:zAv vs u 0
    ·rw [show zCz vs u=6 by simp only [zCz,hs,hf];rfl] at hix
     try dsimp only
     repeat first|(with_reducible first|((first|apply zS|apply zC);intro _ R_;simp only [go_sem,↓reduceIte,f2,f14,f15,f16,ma,hba,hs,hf];subst R_)|(apply rN;subst hbq)|refine rG2 ?_|(apply r1;clear hbq bq)|apply nS|refine rS fun bq hbq=>?_|apply rR|apply r3|apply r4)|(with_reducible apply iL;refine rL (by rw [Tryz.results57]) fin ?_;simp only [go_sem,↓reduceIte,zAo,Option.some.injEq,exists_eq_left',f2,f14,f15,f16,ma,hba,hs,hf])
     exact zBj (by rw [← hix];rfl) hq
    ·rw [show zCz vs u=0 by simp only [zCz,hs,hf];rfl] at hix
     try dsimp only
     repeat with_reducible first|((first|apply zS|apply zC);intro _ R_;simp only [go_sem,↓reduceIte,f2,f14,f15,f16,ma,hba,hs,hf,zA3 ((i:Int)+1) (by omega)];subst R_)|(apply rN;subst hbq)|refine rG2 ?_|apply nS|apply rK|apply rE
     refine zAp (m:=k - 1) (by omega) ⟨i+1,by omega,?_⟩
     simp only [go_sem,↓reduceIte,f2,f14,f15,f16,hba,ma]
     exact ⟨rfl,fin,hix⟩
  ·rw [List.drop_eq_nil_of_le (by omega),zCd] at hix
   repeat first|(with_reducible first|((first|apply zS|apply zC);intro _ R_;simp only [go_sem,↓reduceIte,f2,f14,f15,f16,hi];subst R_)|(apply rN;subst hbq)|refine rG2 ?_|(apply x1;clear hbq bq)|apply nS|refine rS fun bq hbq=>?_|apply rXx|apply rR|apply x3|apply x4)|(with_reducible apply iL;refine rL (by rw [Tryz.results57]) hl' ?_;simp only [go_sem,↓reduceIte,zAo,Option.some.injEq,exists_eq_left',f2,f14,f15,f16,hi])
   rw [hix];exact hq
theorem yAj (t:Term):zA8 Tryz.prog 25 1 [(0,.agg (zAj t))]=some (.list 4 (zAj t) 1 .full):=zKn zCo zEz zEd rfl rfl rfl (by decide)
theorem z1r (vs:List Va) (hvs:vs.length≤1000000) (tk:Tok) (t:Term) (h:zAd) (Q:AOut→zAd→Prop) (hq:Q (.ret (.int .i64 (if zA1 vs==0 then zCz vs t else zA1 vs))) h):zAg Tryz.prog 23 [.agg [.list 8 (zAn vs) vs.length tk],enc t] h Q:=by
 refine zAg.of_sem (fn:=Tryz.f23) Tryz.func23 rfl (by kernel_rfl) (by rw [Tryz.ntmps23];simp) (enters_of Tryz.func23 (by kernel_rfl) (by kernel_rfl)) ?_
 repeat with_reducible first|(apply zS;intro _ R_;simp only [go_sem,↓reduceIte];subst R_)|refine rG2 ?_|refine rS fun bq hbq=>?_
 intro a ha
 repeat with_reducible (apply zS;intro _ R_;simp only [go_sem,↓reduceIte];subst R_)
 intro b hb
 have e:=zAs hb
 have fin:zAh (upd (upd h a (some (.cells [.list 8 (zAn vs) vs.length tk] 24))) b (some (.cells (zAj t) 27))) h:=(zAh.refl h).new ha |>.new e.2
 repeat with_reducible first|(apply zS;intro _ R_;simp only [go_sem,↓reduceIte,e.1,e.1.symm,yAj];subst R_)|(apply rN;subst hbq)|refine rG2 ?_|apply nS|refine rS fun bq hbq=>?_
 have e1:encs [t]=zAj t:=by rw [zB6];simp
 refine zAg.args (args':=[.agg [.list 8 (zAn vs) vs.length tk],.list 4 (encs [t]) ([t]:List Term).length .none]) (.cons (LeAV.refl _) (.cons (by rw [e1];exact LeAV.list _ _ _ _) .nil)) (zQi vs hvs tk [t] _ _ (by simp) ?_)
 try dsimp only
 repeat first|(with_reducible first|(apply zS;intro _ R_;simp only [go_sem,↓reduceIte,e.1,e.1.symm];subst R_)|(apply rN;subst hbq)|apply nS|apply rR)|(with_reducible apply iL;refine rL (by rw [Tryz.results23]) fin ?_;simp only [go_sem,↓reduceIte,zAo,Option.some.injEq,exists_eq_left',e.1,e.1.symm])
 refine zBj ?_ hq
 rw [zCd,zCd]
 cases h1:(zCz vs t==0)
 ·rfl
 ·have:zCz vs t=0:=by simpa using h1
  rw [this];rfl
def z4g (vs:List Va) (l:List Term):Bool:=!decide ((vs.length:Int)>12)&&(vs.all (fun v=>fewF v.t)&&l.all fewF)
theorem z9o (vs:List Va) (tk:Tok) (l:List Term) (h:zAd) (Q:AOut→zAd→Prop) (hl:l.length≤1000000000) (hq:Q (.ret (.bool (z4g vs l))) h):zAg Tryz.prog 14 [.agg [.list 8 (zAn vs) vs.length tk],.list 4 (encs l) l.length .none] h Q:=by
 unfold z4g at hq
 refine zAg.of_sem (fn:=Tryz.f14) Tryz.func14 rfl (by kernel_rfl) (by rw [Tryz.ntmps14];simp) (enters_of Tryz.func14 (by kernel_rfl) (by kernel_rfl)) ?_
 repeat with_reducible first|(apply zS;intro _ R_;simp only [go_sem,↓reduceIte];subst R_)|refine rG2 ?_|refine rS fun bq hbq=>?_
 intro a ha
 have fin:zAh (upd h a (some (.cells [.list 8 (zAn vs) vs.length tk] 24))) h:=zAh.one ha
 have sa:(upd h a (some (AObj.cells [.list 8 (zAn vs) vs.length tk] 24))) a=some (.cells [.list 8 (zAn vs) vs.length tk] 24):=upd_same _ _ _
 cases c1:decide ((vs.length:Int)>12)
 case true =>
  repeat first|(with_reducible first|((first|apply zS|apply zC);intro _ R_;simp only [go_sem,↓reduceIte,c1];subst R_)|(apply rN;subst hbq)|refine rG2 ?_|(apply r1;clear hbq bq)|apply nS|refine rS fun bq hbq=>?_|apply rR)|(with_reducible apply iL;refine rL (by rw [Tryz.results14]) fin ?_;simp only [go_sem,↓reduceIte,zAo,Option.some.injEq,exists_eq_left',c1])
  exact zBj (by rw [c1];rfl) hq
 have hv12:(vs.length:Int)≤12:=by simpa using c1
 rw [c1,Bool.not_false,Bool.true_and] at hq
 repeat with_reducible first|((first|apply zS|apply zC);intro _ R_;simp only [go_sem,↓reduceIte,c1];subst R_)|(apply rN;subst hbq)|refine rG2 ?_|(refine rB fun cq hcq=>?_;subst hcq)|apply nS|refine rS fun bq hbq=>?_|apply rK
 generalize upd h a (some (AObj.cells [.list 8 (zAn vs) vs.length tk] 24))=H at *
 refine zAz (fun k τ h'=>∃ i:Nat,k+i=vs.length∧τ 1=.list 4 (encs l) l.length .none∧τ 2=.ptr a 0∧τ 5=.int .i64 i∧h'=H∧(vs.drop i).all (fun v=>fewF v.t)=vs.all (fun v=>fewF v.t)) vs.length ?_ ?_
 ·exact ⟨0,rfl,rfl,rfl,rfl,rfl,rfl⟩
 ·intro c hc k τ h' hI
  obtain ⟨i,hk,f1,f2,f5,rfl,hix⟩:=hI
  subst hc
  by_cases hi:i<vs.length
  ·obtain ⟨v,hv⟩:∃ v,vs[i]?=some v:=⟨_,List.getElem?_eq_getElem hi⟩
   obtain ⟨r,hr⟩:=zEr vs i hv
   have hr4:List.drop (i * 8+4) (zAn vs)=.int .i64 v.t.kind::.int .i64 v.t.n::.str v.t.name::.list 4 (encs v.t.args) v.t.args.length .none::r:=by rw [← List.drop_drop,hr];rfl
   have hdrop:vs.drop i=v::vs.drop (i+1):=by
    rw [List.drop_eq_getElem_cons hi]
    rw [List.getElem?_eq_getElem hi] at hv;injection hv with hv;rw [hv]
   rw [hdrop,List.all_cons] at hix
   repeat with_reducible first|((first|apply zS|apply zC);intro _ R_;simp only [go_sem,↓reduceIte,f1,f2,f5,sa,hi,hr4];subst R_)|(apply rN;subst hbq)|refine rG2 ?_|(refine rB fun cq hcq=>?_;subst hcq)|apply nS|refine rS fun bq hbq=>?_|apply rK
   refine z9n v.t _ _ ?_
   cases hf:fewF v.t
   ·rw [hf,Bool.false_and] at hix
    rw [← hix] at hq
    try dsimp only
    repeat first|(with_reducible first|((first|apply zS|apply zC);intro _ R_;simp only [go_sem,↓reduceIte,f1,f2,f5,sa,hf];subst R_)|(apply rN;subst hbq)|refine rG2 ?_|(apply r1;clear hbq bq)|apply nS|refine rS fun bq hbq=>?_|apply rR|apply r3|apply r4)|(with_reducible apply iL;refine rL (by rw [Tryz.results14]) fin ?_;simp only [go_sem,↓reduceIte,zAo,Option.some.injEq,exists_eq_left',f1,f2,f5,sa,hf])
    exact hq
   ·rw [hf,Bool.true_and] at hix
    try dsimp only
    repeat with_reducible first|((first|apply zS|apply zC);intro _ R_;simp only [go_sem,↓reduceIte,f1,f2,f5,sa,hf,zA3 ((i:Int)+1) (by omega)];subst R_)|(apply rN;subst hbq)|refine rG2 ?_|apply nS|apply rK|apply rE
    refine zAp (m:=k - 1) (by omega) ⟨i+1,by omega,f1,f2,rfl,rfl,hix⟩
  ·rw [List.drop_eq_nil_of_le (by omega),List.all_nil] at hix
   rw [← hix,Bool.true_and] at hq
   repeat with_reducible first|((first|apply zS|apply zC);intro _ R_;simp only [go_sem,↓reduceIte,f1,f2,f5,sa,hi];subst R_)|(apply rN;subst hbq)|refine rG2 ?_|(refine rB fun cq hcq=>?_;subst hcq)|(apply x1;clear hbq bq)|apply nS|refine rS fun bq hbq=>?_|apply rXx|apply x3|apply x4
   refine zAz (fun k τ h2=>∃ i:Nat,k+i=l.length∧τ 1=.list 4 (encs l) l.length .none∧τ 6=.int .i64 i∧zAh h2 h∧(l.drop i).all fewF=l.all fewF) l.length ?_ ?_
   ·exact ⟨0,rfl,f1,rfl,fin,rfl⟩
   intro c hc k τ h2 hI
   clear f1 f2 f5 hix
   obtain ⟨i,hk,f1,f6,hl',hix⟩:=hI
   subst hc
   by_cases hi:i<l.length
   ·obtain ⟨u,hu⟩:∃ u,l[i]?=some u:=⟨_,List.getElem?_eq_getElem hi⟩
    obtain ⟨r,hr⟩:=zB7 l i hu
    have hdrop:l.drop i=u::l.drop (i+1):=by
     rw [List.drop_eq_getElem_cons hi]
     rw [List.getElem?_eq_getElem hi] at hu;injection hu with hu;rw [hu]
    rw [hdrop,List.all_cons] at hix
    repeat with_reducible first|((first|apply zS|apply zC);intro _ R_;simp only [go_sem,↓reduceIte,f1,f6,hi,hr];subst R_)|(apply rN;subst hbq)|refine rG2 ?_|(refine rB fun cq hcq=>?_;subst hcq)|apply nS|refine rS fun bq hbq=>?_|apply rK
    refine z9n u _ _ ?_
    cases hf:fewF u
    ·rw [hf,Bool.false_and] at hix
     rw [← hix] at hq
     try dsimp only
     repeat first|(with_reducible first|((first|apply zS|apply zC);intro _ R_;simp only [go_sem,↓reduceIte,f1,f6,hf];subst R_)|(apply rN;subst hbq)|refine rG2 ?_|(apply r1;clear hbq bq)|apply nS|refine rS fun bq hbq=>?_|apply rR|apply r3|apply r4)|(with_reducible apply iL;refine rL (by rw [Tryz.results14]) hl' ?_;simp only [go_sem,↓reduceIte,zAo,Option.some.injEq,exists_eq_left',f1,f6,hf])
     exact hq
    ·rw [hf,Bool.true_and] at hix
     try dsimp only
     repeat with_reducible first|((first|apply zS|apply zC);intro _ R_;simp only [go_sem,↓reduceIte,f1,f6,hf,zA3 ((i:Int)+1) (by omega)];subst R_)|(apply rN;subst hbq)|refine rG2 ?_|apply nS|apply rK|apply rE
     refine zAp (m:=k - 1) (by omega) ⟨i+1,by omega,f1,rfl,hl',hix⟩
   ·rw [List.drop_eq_nil_of_le (by omega),List.all_nil] at hix
    rw [← hix] at hq
    repeat first|(with_reducible first|((first|apply zS|apply zC);intro _ R_;simp only [go_sem,↓reduceIte,f1,f6,hi];subst R_)|(apply rN;subst hbq)|refine rG2 ?_|(apply x1;clear hbq bq)|apply nS|refine rS fun bq hbq=>?_|apply rXx|apply rR|apply x3|apply x4)|(with_reducible apply iL;refine rL (by rw [Tryz.results14]) hl' ?_;simp only [go_sem,↓reduceIte,zAo,Option.some.injEq,exists_eq_left',f1,f6,hi])
    exact hq
mutual
theorem zR7:∀ t:Term,zYq t t=true
 |⟨k,n,s,l⟩=>by
  rw [zYq,zR6 l]
  simp
theorem zR6:∀ l:List Term,zRk l l=true
 |[]=>by rw [zRk]
 |t::l=>by rw [zRk,zR7 t,zR6 l];rfl
end
theorem LeAV.listL {sz n:Nat} {t:Tok} {xs ys:List AV} (hl:LeL xs ys):LeAV (.list sz xs n t) (.list sz ys n t):=by
 intro G W v hr
 simp only [Rel] at hr ⊢
 obtain ⟨a,c,vs,hv,hc,hr,rest⟩:=hr
 exact ⟨a,c,vs,hv,hc,hl.rel G W vs hr,rest⟩
def zJi (lv:Int) (ty:Ty):Va:=⟨lv,ty,false,⟨0,0,zAr,[]⟩⟩
theorem zMg:zCh Tryz.prog 24 []=some (.agg [.list 0 [] 0 .nil]):=by
 simp only [zCh,yA8,yCa,zEt]
 rfl
theorem z2d (lv:Int) (ty:Ty):zCh Tryz.prog 62 [(0,.int .i64 lv),(1,.agg [.str ty.name,.list 2 (zCg ty.args) ty.args.length .none])]=some (.agg [.int .i64 lv,.str ty.name,.list 2 (zCg ty.args) ty.args.length .none,.bool false,.int .i64 0,.int .i64 0,.str zAr,.list 0 [] 0 .nil]):=by
 simp only [zCh,zLj,yLq,zEt]
 rfl
theorem z2e (lv:Int) (ty:Ty):zA8 Tryz.prog 22 1 [(0,.agg [.int .i64 lv,.str ty.name,.list 2 (zCg ty.args) ty.args.length .none,.bool false,.int .i64 0,.int .i64 0,.str zAr,.list 0 [] 0 .nil])]=some (.list 8 [.int .i64 lv,.str ty.name,.list 2 (zCg ty.args) ty.args.length .none,.bool false,.int .i64 0,.int .i64 0,.str zAr,.list 0 [] 0 .nil] 1 .full):=zKn zI0 zPg zLj rfl rfl rfl (by decide)
theorem zW4 (vs:List Va) (hvs:vs.length≤1000000) (tk:Tok) (H:zAd) (w:Nat) (hw:H w=Option.none):∃ h4 tok4,zB8 Tryz.prog 22 22 (.list 8 [] 0 .full) (.list 8 (zAn vs) vs.length tk) H w=some (.list 8 (zAn vs) vs.length tok4,h4)∧Grow 62 H h4 tok4∧zAh h4 H:=by
 by_cases h0:vs=[]
 ·subst h0
  exact ⟨H,.full,zHe zI0 zI0 zPg zXj zLj ⟨rfl,by decide⟩ (.inl rfl) (.inl rfl) (by decide) w,.inl (.inl rfl),zAh.refl _⟩
 ·have hn:vs.length≠0:=fun e=>h0 (List.eq_nil_of_length_eq_zero e)
  obtain ⟨h4,ea,hg,hl,_⟩:=zOe zI0 zI0 zPg zXj zLj ⟨rfl,by decide⟩ (zAh.refl H) hw (sz1:=8) (n1:=0) (c1:=[]) (c2:=zAn vs) (n2:=vs.length) (t:=.full) (t2:=tk) (.inl (.inl rfl)) (.inl rfl) (sz2:=8) rfl hn (by omega)
  rw [List.nil_append,Nat.zero_add] at ea
  exact ⟨h4,_,ea,hg,hl⟩
theorem LeL.app {xs ys:List AV} (h:LeL xs ys):∀ l:List AV,LeL (l++xs) (l++ys)
 |[]=>h
 |a::l=>.cons (LeAV.refl a) (LeL.app h l)
theorem zW9 (l m:List Term):encs (l++m)=encs l++encs m:=by rw [zB6,zB6,zB6,List.flatMap_append]
theorem z9w (u:Term):encs [u]=zAj u:=by rw [zB6];simp
theorem yCx {done:List Term} {i sz:Nat} {tok:Tok} (hdl:done.length=i) (hsz:i=0∨sz=4):LeAV (.list sz (encs done) i tok) (.list 4 (encs done) done.length .none):=by
 subst hdl
 rcases hsz with h0|rfl
 ·have:done=[]:=List.eq_nil_of_length_eq_zero h0
  subst this
  intro G W v hr
  rw [zBa] at hr ⊢
  exact LeAV.nil _ _ _ G W v hr
 ·exact LeAV.list _ _ _ _
theorem z5o {vs:List Va} {n:Int} (h0:0≤n) (h1:n<(vs.length:Int)):∃ r,(zAn vs).drop (n.toNat * 8)=zBc (zAi vs n)++r:=by
 have hn1:n.toNat<vs.length:=by omega
 obtain ⟨v,hv⟩:∃ v,vs[n.toNat]?=some v:=⟨_,List.getElem?_eq_getElem hn1⟩
 have hva:zAi vs n=v:=by rw [zAi,List.getD_eq_getElem?_getD,hv];rfl
 rw [hva]
 exact zEr vs n.toNat hv
theorem yEd {cl:List CO} {i j:Nat} {st st':List Nat} {p q:Plan} {K:AK} {T:Pend} {τ:Env} {h:zAd} (h1:cDr Tryz.prog cl K (.one i st p) T τ h) (h2:cDr Tryz.prog cl K (.one j st' q) T τ h):cDr Tryz.prog cl K (.two i st p j st' q) T τ h:=⟨h1,h2⟩
theorem zJ9 (e:Int):zCh Tryz.prog 152 [(0,.int .i64 e)]=some (.agg [.int .i64 e]):=by
 simp only [zCh,yEx,yFb,zEt]
 rfl
theorem zPj:∀ l m:List Term,sizes (l++m)=sizes l+sizes m
 |[],m=>by rw [List.nil_append,sizes];omega
 |t::l,m=>by rw [List.cons_append,sizes,sizes,zPj l m];omega
theorem yD8 (l:List Term):0≤depL l:=(zQw (sizes l)).2 l (Nat.le_refl _)
theorem z10:∀ l m:List Term,depL (l++m)=max (depL l) (depL m)
 |[],m=>by have:=yD8 m;rw [List.nil_append,depL];omega
 |t::l,m=>by rw [List.cons_append,depL,depL,z10 l m];omega
theorem z2u {l:List Term} {i:Nat} {w:Term} (h:l[i]?=some w):sizes (l.take (i+1))=sizes (l.take i)+w.size:=by
 rw [List.take_add_one,h,zPj]
 simp only [Option.toList_some,sizes];omega
theorem z92 {l:List Term} {i:Nat} {w:Term} (h:l[i]?=some w):depL (l.take (i+1))=max (depL (l.take i)) (dep w):=by
 have:=(zQw w.size).1 w (Nat.le_refl _)
 rw [List.take_add_one,h,z10]
 simp only [Option.toList_some,depL];omega
theorem zTi (l:List Term) (i:Nat):sizes (l.take i)≤sizes l:=by
 have:=zPj (l.take i) (l.drop i)
 rw [List.take_append_drop] at this
 omega
structure VObj (T:TypeId) (vs:List Va) (tk:Tok) (p:Nat) (n:Int) (dp:Bool) (h0 h:zAd):Prop where
 less:zAh h h0
 obj:h p=some (.cells [.list 8 (zAn vs) vs.length tk,.int .i64 n,.bool dp] T)
theorem yBg (vs:List Va) (hvs:vs.length≤1000000) (tk:Tok) {d:Int} {t v:Term} (hv:Val vs d t v):∀ (n deep:Int) (dp:Bool) (p:Nat) (h0 h:zAd) (Q:AOut→zAd→Prop),0≤n→n≤4000→0≤d→d≤deep→deep≤n+1→h0 p=Option.none→VObj 164 vs tk p n dp h0 h →
  (∀ h2,n+v.size≤4000→VObj 164 vs tk p (n+v.size) (dp||decide (deep+dep v - 1>100)) h0 h2→Q (.ret (enc v)) h2) →
  (∀ h2 dp',n+v.size>4000→VObj 164 vs tk p 4001 dp' h0 h2→Q (.panic (.iface 152 (.agg [.int .i64 2]))) h2) →
  zAg Tryz.prog 123 [.ptr p 0,enc t,.int .i64 deep] h Q:=by
 induction hv with
 |@mk d t k u l hs hn hl ha ih =>
  intro n deep dp p h0 h Q hn0 hn1 hd0 hdd hdn hp0 hV hq hpan
  have hx:=hV.obj
  refine zAg.of_sem (fn:=Tryz.f123) Tryz.func123 rfl (by kernel_rfl) (by rw [Tryz.ntmps123];simp) (enters_of Tryz.func123 (by kernel_rfl) (by kernel_rfl)) ?_
  repeat with_reducible first|(apply zS;intro _ R_;simp only [go_sem,↓reduceIte];subst R_)|refine rG2 ?_|refine rS fun bq hbq=>?_
  intro b hb
  have hpb:=zAc hb hx
  repeat with_reducible (apply zS;intro _ R_;simp only [go_sem,↓reduceIte];subst R_)
  intro q hq'
  have e1:=zAs hq'
  have hpq:=zAc e1.2 hx
  refine zAe ?_;subst hbq
  repeat with_reducible refine zAb fun bq hbq=>?_
  refine zCc (fun τ h'=>τ 0=.ptr p 0∧τ 2=.int .i64 deep∧τ 4=.ptr b 0∧τ 6=.ptr q 0∧zAh h' h∧h' b=some (.cells (zAj u) 27)∧h' q=some (.cells [.int .i64 0,.int .i64 0,.str zAr,.list 0 [] 0 .nil] 27)) ?_ fun τ h' hI=>?_
  ·repeat with_reducible (refine rB fun cq hcq=>?_;subst hcq)
   refine zAz (fun j τ h'=>∃ t',zU3 vs d t' j u∧τ 0=.ptr p 0∧τ 2=.int .i64 deep∧τ 4=.ptr b 0∧τ 6=.ptr q 0∧zAh h' h∧h' b=some (.cells (zAj t') 27)∧h' q=some (.cells [.int .i64 0,.int .i64 0,.str zAr,.list 0 [] 0 .nil] 27)) k ?_ ?_
   ·refine ⟨t,hs,?_⟩
    simp only [go_sem,↓reduceIte,e1.1,e1.1.symm]
    exact ((zAh.refl h).new hb).new e1.2
   intro c hc j τ h' hI
   obtain ⟨t',hs',f0,f2,f4,f6,hl',lb,lq⟩:=hI
   subst hc
   have hx':=hl' _ _ hx
   have hqb:q≠b:=e1.1
   cases hs' with
   |zero =>
    cases h4:(u.kind==4)
    ·repeat with_reducible refine zAb fun bq hbq=>?_
     refine zA9 (.take 0 (.take 1 (.take 2 (.take 3 (.take 4 (.take 5 (.take 6 (.take 7 (.take 8 (.take 9 (.take 10 (.take 11 (.take 12 (.take 13 (.take 14 (.done)))))))))))))))) (by kernel_rfl) (by simp only [zAm,gtOf,zAk];exact rfl) ?_
     repeat first|(with_reducible first|(apply rN;subst hbq)|(apply x1;clear hbq bq)|apply nD|apply rXx|apply x3|apply x4)|((first|with_reducible apply sC|(with_reducible apply iT;refine sT rfl ?_));intro _ _ _ C_ R_ U_;simp only [go_sem,↓reduceIte,f0,f2,f4,f6,lb,hx',h4];subst C_ R_ U_)
     refine zAl ?_
     simp only [go_sem,↓reduceIte,f0,f2,f4,f6]
     exact ⟨hl',lb,lq⟩
    ·have hv:=hn.var h4
     obtain ⟨r,hr⟩:=z5o hv.1 hv.2.1
     have hr3:List.drop (u.n.toNat * 8+3) (zAn vs)=.bool (zAi vs u.n).is::(List.drop 4 (zBc (zAi vs u.n))++r):=by rw [← List.drop_drop,hr];rfl
     rw [hv.2.2] at hr3
     repeat with_reducible refine zAb fun bq hbq=>?_
     refine zA9 (.take 0 (.take 1 (.take 2 (.take 3 (.take 4 (.take 5 (.take 6 (.take 7 (.take 8 (.take 9 (.take 10 (.take 11 (.take 12 (.take 13 (.take 14 (.done)))))))))))))))) (by kernel_rfl) (by simp only [zAm,gtOf,zAk];exact rfl) ?_
     repeat first|(with_reducible first|(apply rN;subst hbq)|(apply x1;clear hbq bq)|apply nD|apply rXx|apply x3|apply x4)|((first|with_reducible apply sC|(with_reducible apply iT;refine sT rfl ?_));intro _ _ _ C_ R_ U_;simp only [go_sem,↓reduceIte,f0,f2,f4,f6,lb,hx',h4,hv.1,hv.2.1,hr3];subst C_ R_ U_)
     refine zAl ?_
     simp only [go_sem,↓reduceIte,f0,f2,f4,f6]
     exact ⟨hl',lb,lq⟩
   |@succ _ j _ h4 hi ok hs2 =>
    have h1:=ok.n0
    have h2:=ok.n1
    obtain ⟨r,hr⟩:=z5o h1 h2
    have hr3:List.drop (t'.n.toNat * 8+3) (zAn vs)=.bool (zAi vs t'.n).is::(List.drop 4 (zBc (zAi vs t'.n))++r):=by rw [← List.drop_drop,hr];rfl
    have hr4:List.drop (t'.n.toNat * 8+4) (zAn vs)=zAj (zAi vs t'.n).t++r:=by rw [← List.drop_drop,hr];rfl
    rw [hi] at hr3
    have hln:=ok.len
    have hbt:((zCw ((t'.args.length:Int)).toNat (zAi vs t'.n).t).1)=zC4 vs t':=rfl
    have hb2:(zCw ((t'.args.length:Int)).toNat (zAi vs t'.n).t).2=true:=ok.body
    repeat with_reducible refine zAb fun bq hbq=>?_
    refine zA9 (.take 0 (.take 1 (.take 2 (.take 3 (.take 4 (.take 5 (.take 6 (.take 7 (.take 8 (.take 9 (.take 10 (.take 11 (.take 12 (.take 13 (.take 14 (.done)))))))))))))))) (by kernel_rfl) (by simp only [zAm,gtOf,zAk];exact rfl) ?_
    repeat first|(with_reducible first|(apply rN;subst hbq)|(refine rB fun cq hcq=>?_;subst hcq)|apply nD|refine rS fun bq hbq=>?_|apply rK)|((first|with_reducible apply sC|(with_reducible apply iT;refine sT rfl ?_));intro _ _ _ C_ R_ U_;simp only [go_sem,↓reduceIte,f0,f2,f4,f6,lb,hx',h4,h1,h2,hr3];subst C_ R_ U_)
    refine zCc (fun τ' h''=>∃ c,h' c=Option.none∧τ' 0=.ptr p 0∧τ' 2=.int .i64 deep∧τ' 4=.ptr b 0∧τ' 6=.ptr q 0∧τ' 7=.ptr c 0∧h''=upd h' c (some (.cells (zAj (zC4 vs t')) 27))) ?_ fun τ h' hI=>?_
    ·repeat with_reducible refine zAb fun bq hbq=>?_
     refine zA9 (.take 0 (.take 1 (.take 2 (.take 3 (.take 4 (.take 5 (.take 6 (.take 7 (.take 8 (.take 9 (.take 10 (.take 11 (.take 12 (.two 13 [11,6,4] (.take 14 (.take 15 (.take 16 (.one 17 [11,6,4] (.one 18 [] (.take 19 (.done))))))) 17 [11,9,6,4] (.one 13 [11,6,4] (.take 14 (.take 15 (.take 16 (.one 18 [] (.take 19 (.done))))))))))))))))))))) (by kernel_rfl) (by simp only [zAm,gtOf,zAk];exact rfl) ?_
     repeat ((with_reducible apply iT;refine sT rfl ?_);intro _ _ _ C_ R_ U_;simp only [go_sem,↓reduceIte,f0,f2,f4,f6,lb,hx',h4,h1,h2,hr4];subst C_ R_ U_)
     refine yEd ?_ ?_
     ·repeat ((with_reducible apply iO;refine sO rfl ?_);intro _ _ _ C_ R_ U_;simp only [go_sem,↓reduceIte,f0,f2,f4,f6,lb,hx',h4,h1,h2,hr4];subst C_ R_ U_)
      refine zUq (zAi vs t'.n).t t'.args.length _ _ (by omega) ?_
      rw [hbt,hb2]
      try dsimp only
      repeat ((first|with_reducible apply sA|(with_reducible apply iT;refine sT rfl ?_)|(with_reducible apply iO;refine sO rfl ?_));intro _ _ _ C_ R_ U_;simp only [go_sem,↓reduceIte,f0,f2,f4,f6,lb,hx',h4,h1,h2,hr4];subst C_ R_ U_)
      intro c hc
      have hcb:=zAc hc lb
      have hcx:=zAc hc hx'
      repeat first|with_reducible apply nD|((first|with_reducible apply sA|(with_reducible apply iT;refine sT rfl ?_)|(with_reducible apply i0;refine s0 rfl ?_));intro _ _ _ C_ R_ U_;simp only [go_sem,↓reduceIte,f0,f2,f4,f6,lb,hx',h4,h1,h2,hr4,hcb,hcx,hcb.symm,hcx.symm];subst C_ R_ U_)
      refine zAl ?_
      refine ⟨c,hc,?_⟩
      simp only [go_sem,↓reduceIte,f0,f2,f4,f6]
     ·repeat ((with_reducible apply iO;refine sO rfl ?_);intro _ _ _ C_ R_ U_;simp only [go_sem,↓reduceIte,f0,f2,f4,f6,lb,hx',h4,h1,h2,hr4];subst C_ R_ U_)
      intro c hc
      have hcb:=zAc hc lb
      have hcx:=zAc hc hx'
      repeat ((first|with_reducible apply sA|(with_reducible apply iO;refine sO rfl ?_));intro _ _ _ C_ R_ U_;simp only [go_sem,↓reduceIte,f0,f2,f4,f6,lb,hx',h4,h1,h2,hr4,hcb,hcx,hcb.symm,hcx.symm];subst C_ R_ U_)
      refine zUq (zAi vs t'.n).t t'.args.length _ _ (by omega) ?_
      rw [hbt,hb2]
      try dsimp only
      repeat first|with_reducible apply nD|((first|with_reducible apply sA|(with_reducible apply iT;refine sT rfl ?_)|(with_reducible apply i0;refine s0 rfl ?_));intro _ _ _ C_ R_ U_;simp only [go_sem,↓reduceIte,f0,f2,f4,f6,lb,hx',h4,h1,h2,hr4,hcb,hcx,hcb.symm,hcx.symm];subst C_ R_ U_)
      refine zAl ?_
      refine ⟨c,hc,?_⟩
      simp only [go_sem,↓reduceIte,f0,f2,f4,f6]
    clear f0 f2 f4 f6
    obtain ⟨c,hc0,f0,f2,f4,f6,f7,rfl⟩:=hI
    subst hbq
    have hcb:=zAc hc0 lb
    have hcx:=zAc hc0 hx'
    have hcq:=zAc hc0 lq
    have hsb:(zC4 vs t').size≤4000:=Nat.le_trans (zXo _ _) ok.size
    repeat with_reducible first|(apply zS;intro _ R_;simp only [go_sem,↓reduceIte,f0,f2,f4,f6,f7,lb,hcb,hcb.symm];subst R_)|refine rG2 ?_
    refine zW5 4000 (zC4 vs t') t'.args 0 _ _ hsb (Int.le_refl _) (by omega) (by omega) (fun u hu=>?_) ok.fill ?_
    ·have hu1:=ok.args u hu
     rcases (zBi hu1.1).1 with e|e
     ·have:=hu1.2.2.1 e;omega
     ·have:=hu1.2.2.2 e;omega
    try dsimp only
    repeat with_reducible first|(apply zS;intro _ R_;simp only [go_sem,↓reduceIte,f0,f2,f4,f6,f7,lb,hcb,hcb.symm];subst R_)|apply nS|apply rE
    refine zAp (m:=j) (by omega) ⟨_,hs2,?_⟩
    simp only [go_sem,↓reduceIte,f0,f2,f4,f6,hqb,lq,hcb,hcb.symm,hcq,hcq.symm]
    exact (hl'.new (hl'.none hc0)).new hb
  obtain ⟨f0,f2,f4,f6,hl',lb,lq⟩:=hI
  subst hbq
  have hx':=hl' _ _ hx
  repeat with_reducible first|((first|apply zS|apply zC);intro _ R_;simp only [go_sem,↓reduceIte,f0,f2,f4,f6,hx',zA3 (n+1) (by omega)];subst R_)|(apply rN;subst hbq)|refine rG2 ?_|apply nS|refine rS fun bq hbq=>?_
  have hm:zAh h' (upd h p Option.none):=fun i o hi=>by
   by_cases e:i=p
   ·subst e;rw [upd_same] at hi;cases hi
   ·rw [zAa _ _ e] at hi;exact hl' i o hi
  have hm0:zAh (upd h p Option.none) h0:=fun i o hi=>by
   by_cases e:i=p
   ·subst e;rw [hp0] at hi;cases hi
   ·rw [zAa _ _ e];exact hV.less i o hi
  cases hbig:decide (n+1>4000)
  case true =>
   have hb1:n+1>4000:=by simpa using hbig
   try dsimp only
   repeat with_reducible first|(apply zS;intro _ R_;simp only [go_sem,↓reduceIte,f0,f2,f4,f6,hbig,zJ9];subst R_)|refine rG2 ?_
   refine p1 (pL (zAh.refl _) (hpan _ dp ?_ ⟨(hm.new (upd_same _ _ _)).trans hm0,?_⟩))
   ·rw [Term.size];omega
   ·rw [upd_same,show n+1=4001 by omega]
  case false =>
   have hb1:¬ n+1>4000:=by simpa using hbig
   have hpr:b≠p:=fun e=>hpb e.symm
   have hqr:q≠p:=fun e=>hpq e.symm
   simp only [hbig]
   refine zBk ?_
   refine zAe ?_;subst hbq
   repeat with_reducible refine zAb fun bq hbq=>?_
   refine zCc (fun τ' h''=>τ' 0=.ptr p 0∧τ' 2=.int .i64 deep∧τ' 4=.ptr b 0∧τ' 6=.ptr q 0∧h''=upd h' p (some (.cells [.list 8 (zAn vs) vs.length tk,.int .i64 (n+1),.bool (dp||decide (deep>100))] 164))) ?_ fun τ h' hI=>?_
   ·cases hdp:dp
    all_goals
     repeat with_reducible first|(apply zS;intro _ R_;simp only [go_sem,↓reduceIte,f0,f2,f4,f6,hdp];subst R_)|refine rG2 ?_|apply nS
     refine zAl ?_
     simp only [go_sem,↓reduceIte,f0,f2,f4,f6,hdp]
   clear f0 f2 f4 f6
   obtain ⟨f0,f2,f4,f6,rfl⟩:=hI
   subst hbq
   have sp:(upd h' p (some (AObj.cells [.list 8 (zAn vs) vs.length tk,.int .i64 (n+1),.bool (dp||decide (deep>100))] 164))) p=some (.cells [.list 8 (zAn vs) vs.length tk,.int .i64 (n+1),.bool (dp||decide (deep>100))] 164):=upd_same _ _ _
   have sb:(upd h' p (some (AObj.cells [.list 8 (zAn vs) vs.length tk,.int .i64 (n+1),.bool (dp||decide (deep>100))] 164))) b=some (.cells (zAj u) 27):=by rw [zAa _ _ hpr];exact lb
   have sq:(upd h' p (some (AObj.cells [.list 8 (zAn vs) vs.length tk,.int .i64 (n+1),.bool (dp||decide (deep>100))] 164))) q=some (.cells [.int .i64 0,.int .i64 0,.str zAr,.list 0 [] 0 .nil] 27):=by rw [zAa _ _ hqr];exact lq
   have hmH:zAh (upd h' p (some (AObj.cells [.list 8 (zAn vs) vs.length tk,.int .i64 (n+1),.bool (dp||decide (deep>100))] 164))) (upd h p Option.none):=hm.new (upd_same _ _ _)
   generalize upd h' p (some (AObj.cells [.list 8 (zAn vs) vs.length tk,.int .i64 (n+1),.bool (dp||decide (deep>100))] 164))=H at *
   repeat with_reducible first|(apply zS;intro _ R_;simp only [go_sem,↓reduceIte,f0,f2,f4,f6,sb,sp,sq];subst R_)|refine rG2 ?_|refine rS fun bq hbq=>?_
   intro r hr
   have hrb:=zAc hr sb
   have hrp:=zAc hr sp
   have hrq:=zAc hr sq
   repeat with_reducible first|(apply zS;intro _ R_;simp only [go_sem,↓reduceIte,f0,f2,f4,f6,sb,sp,sq,hrb,hrb.symm,hrp,hrp.symm,hrq,hrq.symm];subst R_)|(apply rN;subst hbq)|refine rG2 ?_|(refine rB fun cq hcq=>?_;subst hcq)|apply nS|refine rS fun bq hbq=>?_
   have hM:∀ x,x≠p→h x=Option.none→(upd h p Option.none) x=Option.none:=fun x hx hn=>by rw [zAa _ _ hx];exact hn
   have hMp:(upd h p Option.none) p=Option.none:=upd_same _ _ _
   have hrM:(upd h p Option.none) r=Option.none:=hmH.none hr
   have hqM:(upd h p Option.none) q=Option.none:=hM q hqr e1.2
   generalize upd h p Option.none=M at *
   refine zAz (fun kk τ h2=>∃ (i sz:Nat) (tok:Tok),kk+i=u.args.length∧τ 0=.ptr p 0∧τ 2=.int .i64 deep∧τ 6=.ptr q 0∧τ 9=.ptr r 0∧τ 76=.list 4 (encs u.args) u.args.length .none∧τ 77=.int .i64 u.args.length∧τ 78=.int .i64 i∧zAh h2 M∧h2 p=some (.cells [.list 8 (zAn vs) vs.length tk,.int .i64 (n+1+sizes (l.take i)),.bool (dp||decide (deep+depL (l.take i)>100))] 164)∧h2 q=some (.cells [.int .i64 0,.int .i64 0,.str zAr,.list 0 [] 0 .nil] 27)∧h2 r=some (.cells [.int .i64 u.kind,.int .i64 u.n,.str u.name,.list sz (encs (l.take i)) i tok] 27)∧Grow 27 M h2 tok∧(i=0∨sz=4)∧n+1+sizes (l.take i)≤4000) u.args.length ?_ ?_
   ·refine ⟨0,0,.nil,rfl,?_⟩
    simp only [go_sem,↓reduceIte,f0,f2,f6,List.take_zero,zBa,sizes,depL,sp,sq,hrp,hrp.symm,hrq,hrq.symm]
    refine ⟨rfl,hmH.new hrM,by simp,.inl (.inr rfl),?_⟩
    simp;omega
   intro c hc kk τ h2 hI
   clear f0 f2 f6
   obtain ⟨i,sz,tok,hk,f0,f2,f6,f9,f76,f77,f78,hl2,lp,lq2,lr,hg,hsz0,hn4⟩:=hI
   subst hc
   have hlen8:=hn.len
   by_cases hi:i<u.args.length
   ·obtain ⟨a,hau⟩:∃ a,u.args[i]?=some a:=⟨_,List.getElem?_eq_getElem hi⟩
    obtain ⟨w,hw⟩:∃ w,l[i]?=some w:=⟨_,List.getElem?_eq_getElem (by omega)⟩
    obtain ⟨rr,hrr⟩:=zB7 u.args i hau
    repeat with_reducible first|((first|apply zS|apply zC);intro _ R_;simp only [go_sem,↓reduceIte,f0,f2,f6,f9,f76,f77,f78,hi,hrr];subst R_)|(apply rN;subst hbq)|refine rG2 ?_|(refine rB fun cq hcq=>?_;subst hcq)|apply nS|refine rS fun bq hbq=>?_|apply rK
    intro x hx
    have hxp:=zAc hx lp
    have hxr:=zAc hx lr
    have hxq:=zAc hx lq2
    repeat with_reducible first|(apply zS;intro _ R_;simp only [go_sem,↓reduceIte,f0,f2,f6,f9,f76,f77,f78,hi,hrr];subst R_)|(apply rN;subst hbq)|apply nS
    repeat with_reducible refine zAb fun bq hbq=>?_
    refine zA9 (.take 0 (.take 1 (.take 2 (.take 3 (.take 4 (.take 5 (.one 6 [1] (.take 7 (.one 8 [] (.take 9 (.one 10 [] (.done)))))))))))) (by kernel_rfl) (by simp only [zAm,gtOf,zAk];exact rfl) ?_
    repeat ((first|(with_reducible apply iT;refine sT rfl ?_)|(with_reducible apply iO;refine sO rfl ?_));intro _ _ _ C_ R_ U_;simp only [go_sem,↓reduceIte,f0,f2,f6,f9,f76,f77,f78,lp,lr,lq2,hxp,hxp.symm,hxr,hxr.symm,hxq,hxq.symm,zA3 (deep+1) (by omega)];subst C_ R_ U_)
    have hl3:zAh (upd h2 x (some (AObj.cells (zAj a) 27))) M:=hl2.new (hl2.none hx)
    have lp3:(upd h2 x (some (AObj.cells (zAj a) 27))) p=some (.cells [.list 8 (zAn vs) vs.length tk,.int .i64 (n+1+sizes (l.take i)),.bool (dp||decide (deep+depL (l.take i)>100))] 164):=by rw [zAa _ _ hxp];exact lp
    have lr3:(upd h2 x (some (AObj.cells (zAj a) 27))) r=some (.cells [.int .i64 u.kind,.int .i64 u.n,.str u.name,.list sz (encs (l.take i)) i tok] 27):=by rw [zAa _ _ hxr];exact lr
    have lq3:(upd h2 x (some (AObj.cells (zAj a) 27))) q=some (.cells [.int .i64 0,.int .i64 0,.str zAr,.list 0 [] 0 .nil] 27):=by rw [zAa _ _ hxq];exact lq2
    have hg3:Grow 27 M (upd h2 x (some (AObj.cells (zAj a) 27))) tok:=by
     rcases hg with e|⟨f,ef,hf,hf0⟩
     ·exact .inl e
     ·exact .inr ⟨f,ef,by rw [zAa _ _ (zAc hx hf)];exact hf,hf0⟩
    have hst:=z2u hw
    have hsl:=zTi l (i+1)
    have hdt:=z92 hw
    have hin:inner u.kind d≤deep+1:=by unfold inner;split <;> omega
    refine ih i a w hau hw (n+1+sizes (l.take i)) (deep+1) _ p (upd (upd h2 x (some (AObj.cells (zAj a) 27))) p Option.none) _ _ (by omega) hn4 (zEi hd0) hin (by omega) (upd_same _ _ _) ⟨fun j o hj=>?_,lp3⟩ ?_ ?_
    ·by_cases e:j=p
     ·subst e;rw [upd_same] at hj;cases hj
     ·rw [zAa _ _ e] at hj;exact hj
    ·intro h4 hsz4 hV4
     have hl4:zAh h4 M:=fun j o hj=>hV4.less j o (by
      have e:j≠p:=fun e=>by subst e;rw [hMp] at hj;cases hj
      rw [zAa _ _ e];exact hl3 j o hj)
     have lp4:=hV4.obj
     have lr4:=hV4.less r _ (by rw [zAa _ _ hrp.symm];exact lr3)
     have lq4:=hV4.less q _ (by rw [zAa _ _ hqr];exact lq3)
     have hg4:Grow 27 M h4 tok:=by
      rcases hg3 with e|⟨f,ef,hf,hf0⟩
      ·exact .inl e
      ·refine .inr ⟨f,ef,hV4.less f _ ?_,hf0⟩
       rw [zAa _ _ (fun e=>by subst e;rw [lp3] at hf;cases hf)]
       exact hf
     try dsimp only
     repeat ((first|with_reducible apply sA|(with_reducible apply iT;refine sT rfl ?_)|(with_reducible apply i0;refine s0 rfl ?_));intro _ _ _ C_ R_ U_;simp only [go_sem,↓reduceIte,f0,f2,f6,f9,f76,f77,f78,lp4,lr4,lq4,zD4];subst C_ R_ U_)
     refine zAw ?_
     simp only [go_sem,↓reduceIte]
     intro y hy
     obtain ⟨h5,ea,hg5,hl5,keep⟩:=zDz zCo zCo zEz zGn zEd ⟨rfl,by decide⟩ (h0:=M) (h:=h4) (p:=y) hl4 hy (sz1:=sz) (c1:=encs (l.take i)) (n1:=i) (t:=tok) (c2:=zAj w) (n2:=1) (t2:=.full) hg4 hsz0 (sz2:=4) rfl (by decide) (by omega)
     have r5:=keep r _ _ lr4
     have q5:=keep q _ _ lq4
     have p5':=keep p _ _ lp4
     simp only [ea,go_sem,↓reduceIte,f9,r5]
     repeat with_reducible first|(apply zS;intro _ R_;simp only [go_sem,↓reduceIte,f78,f9,r5,zA3 ((i:Int)+1) (by omega)];subst R_)|(apply rN;subst hbq)|refine rG2 ?_|apply nS|apply rE
     refine zAp (m:=kk - 1) (by omega) ⟨i+1,4,.id y,by omega,?_⟩
     have htk:l.take (i+1)=l.take i++[w]:=by rw [List.take_add_one,hw];rfl
     have hflag:(dp||decide (deep+depL (l.take i)>100)||decide (deep+1+dep w - 1>100))=(dp||decide (deep+max (depL (l.take i)) (dep w)>100)):=by
      rw [Bool.or_assoc]
      congr 1
      rw [← Bool.decide_or]
      exact decide_eq_decide.2 (by omega)
     rw [hst,hdt,htk]
     simp only [go_sem,↓reduceIte,f0,f2,f6,f9,f76,f77,f78,zW9,z9w,hrp,hrp.symm,hrq,hrq.symm,p5',q5]
     refine ⟨rfl,hl5.new hrM,?_,?_,by simp,by omega⟩
     ·rw [hflag,show n+1+(sizes (l.take i):Int)+w.size=n+1+((sizes (l.take i)+w.size:Nat):Int) by omega]
     ·rcases hg5 with e|⟨f,ef,hf,hf0⟩
      ·rcases e with e|e <;> cases e
      ·injection ef with ef;subst ef
       exact .inr ⟨y,rfl,by rw [zAa _ _ (by intro e;rw [e,r5] at hf;cases hf)];exact hf,hf0⟩
    ·intro h4 dp' hsz4 hV4
     have hl4:zAh h4 M:=fun j o hj=>hV4.less j o (by
      have e:j≠p:=fun e=>by subst e;rw [hMp] at hj;cases hj
      rw [zAa _ _ e];exact hl3 j o hj)
     dsimp only
     refine p4 (p1 (p3 (p4 (p1 (pL (zAh.refl _) (hpan _ dp' ?_ ⟨hl4.trans hm0,hV4.obj⟩))))))
     rw [Term.size];omega
   ·have hlt:l.take i=l:=List.take_of_length_le (by omega)
    rw [hlt] at lp lr hn4
    have hi':i=l.length:=by omega
    repeat with_reducible first|((first|apply zS|apply zC);intro _ R_;simp only [go_sem,↓reduceIte,f0,f2,f6,f9,f76,f77,f78,hi,lr,lq2,hrq,hrq.symm];subst R_)|(apply rN;subst hbq)|refine rG2 ?_|(apply x1;clear hbq bq)|apply nS|refine rS fun bq hbq=>?_|apply rXx|apply rR|apply x3|apply x4
    refine zBx (v:=enc ⟨u.kind,u.n,u.name,l⟩) (by rw [Tryz.results123]) (zAh.refl _) ?_ (hq _ ?_ ⟨(hl2.new hqM).trans hm0,?_⟩)
    ·simp only [go_sem,↓reduceIte,f6,zAo,Option.some.injEq,exists_eq_left']
     exact LeAV.agg (.cons (LeAV.refl _) (.cons (LeAV.refl _) (.cons (LeAV.refl _) (.cons (yCx hi'.symm hsz0) .nil))))
    ·rw [Term.size];omega
    ·rw [zAa _ _ hpq,lp,Term.size,dep,show n+1+(sizes l:Int)=n+((sizes l+1:Nat):Int) by omega,show deep+(depL l+1) - 1=deep+depL l by omega]
def zF7 (v:Term):Int:=if (v.size:Int)>4000 then 2 else if dep v>100 then 5 else 0
def zKh (v:Term):Term:=if zF7 v==0 then v else zBo
theorem yEi (cs:List AV) (n:Nat) (tk:Tok):zCh Tryz.prog 164 [(0,.agg [.list 8 cs n tk])]=some (.agg [.list 8 cs n tk,.int .i64 0,.bool false]):=by
 simp only [zCh,yEw,yFa,zEt]
 rfl
theorem z1h:LeAV (.agg [.int .i64 0,.int .i64 0,.str zAr,.list 0 [] 0 .nil]) (enc zBo):=by
 refine LeAV.agg (.cons (LeAV.refl _) (.cons (LeAV.refl _) (.cons (LeAV.refl _) (.cons ?_ .nil))))
 rw [show zBo.args=[] from rfl,zBa]
 exact LeAV.nil _ _ _
theorem zI7 {P:Program} {h:zAd} {fn:Func} {Q:AOut→zAd→Prop} {τ:Env} {rs:List ResultVar} {h':zAd} (hr:fn.results.toList=rs) (hl:zAh h h') (hs:∃ vs,zFo P τ h rs=some vs∧Q (.ret (zAo vs)) h'):zLg P fn Q .normal τ h:=by
 subst hr
 obtain ⟨vs,hv,hq⟩:=hs
 exact ⟨vs,hv,_,h',zEf.of (LeAV.refl _) hl,hq⟩
theorem z5p (vs:List Va) (hvs:vs.length≤1000000) (tk:Tok) {t v:Term} (hv:Val vs 0 t v) (x c b o:Nat) (h0 h:zAd) (hx0:h0 x=Option.none) (ho0:h0 o=Option.none) (hc:h c=some (.cells [.ptr x 0] 162)) (hb:h b=some (.cells (zAj t) 27)) (ho:h o=some (.cells [.int .i64 0,.int .i64 0,.str zAr,.list 0 [] 0 .nil] 27))
  (hx:h x=some (.cells [.list 8 (zAn vs) vs.length tk,.int .i64 0,.bool false] 164)) (hl:zAh h h0) (Q:AOut→zAd→Prop)
  (hq:∀ h2 N,(v.size:Int)≤4000→zAh h2 h0→h2 o=some (.cells (zAj v) 27)→h2 x=some (.cells [.list 8 (zAn vs) vs.length tk,.int .i64 N,.bool (decide (dep v>100))] 164)→Q (.ret (.tuple [])) h2)
  (hp:∀ h2,(v.size:Int)>4000→zAh h2 h0→Q (.panic (.iface 152 (.agg [.int .i64 2]))) h2):zAg Tryz.prog 122 [.ptr c 0,.ptr b 0,.ptr o 0] h Q:=by
 have hxo:x≠o:=fun e=>by subst e;rw [hx] at ho;injection ho with ho;injection ho with _ ho;cases ho
 refine zAg.of_sem (fn:=Tryz.f122) Tryz.func122 rfl (by kernel_rfl) (by rw [Tryz.ntmps122];simp) (enters_of Tryz.func122 (by kernel_rfl) (by kernel_rfl)) ?_
 repeat with_reducible first|(apply zS;intro _ R_;simp only [go_sem,↓reduceIte,hc,hb];subst R_)|refine rG2 ?_
 have hself:zAh h (upd h x Option.none):=fun j y hj=>by
  by_cases e:j=x
  ·subst e;rw [upd_same] at hj;cases hj
  ·rw [zAa _ _ e] at hj;exact hj
 have h0x:zAh (upd h x Option.none) h0:=fun j y hj=>by
  have e:j≠x:=fun e=>by subst e;rw [hx0] at hj;cases hj
  rw [zAa _ _ e];exact hl j y hj
 refine yBg vs hvs tk hv 0 1 false x (upd h x Option.none) _ _ (by decide) (by decide) (Int.le_refl _) (by decide) (by decide) (upd_same _ _ _) ⟨hself,hx⟩ ?_ ?_
 ·intro h2 hsz hV
  have ho2:=hV.less o _ (by rw [zAa _ _ hxo.symm];exact ho)
  have hx2:=hV.obj
  try dsimp only
  repeat with_reducible first|(apply zS;intro _ R_;simp only [go_sem,↓reduceIte,ho2];subst R_)|apply nS
  refine zI7 (by rw [Tryz.results122]) (zAh.refl _) ⟨[],rfl,hq _ (v.size:Int) (by omega) ((hV.less.trans h0x).new ho0) (upd_same _ _ _) ?_⟩
  rw [zAa _ _ hxo,hx2,Bool.false_or,show 1+dep v - 1=dep v by omega,Int.zero_add]
 ·intro h2 dp hsz hV
  dsimp only
  exact pL (zAh.refl _) (hp h2 (by omega) (hV.less.trans h0x))
theorem yBj (vs:List Va) (hvs:vs.length≤1000000) (tk:Tok) {t v:Term} (hv:Val vs 0 t v) (h:zAd) (Q:AOut→zAd→Prop) (hq:Q (.ret (.tuple [enc (zKh v),.int .i64 (zF7 v)])) h) :
  zAg Tryz.prog 75 [.agg [.list 8 (zAn vs) vs.length tk],enc t] h Q:=by
 refine zAg.of_sem (fn:=Tryz.f75) Tryz.func75 rfl (by kernel_rfl) (by rw [Tryz.ntmps75];simp) (enters_of Tryz.func75 (by kernel_rfl) (by kernel_rfl)) ?_
 repeat with_reducible first|(apply zS;intro _ R_;simp only [go_sem,↓reduceIte];subst R_)|refine rG2 ?_|refine rS fun bq hbq=>?_
 intro a ha
 repeat with_reducible (apply zS;intro _ R_;simp only [go_sem,↓reduceIte];subst R_)
 intro b hb
 have e1:=zAs hb
 repeat with_reducible (apply zS;intro _ R_;simp only [go_sem,↓reduceIte,e1.1,e1.1.symm];subst R_)
 intro q hq'
 have e2:=zAs hq'
 have e3:=zAs e2.2
 repeat with_reducible first|(apply zS;intro _ R_;simp only [go_sem,↓reduceIte,e1.1,e1.1.symm,e2.1,e2.1.symm,e3.1,e3.1.symm,yEi];subst R_)|(apply rN;subst hbq)|refine rG2 ?_|apply nS|refine rS fun bq hbq=>?_
 intro x hx0
 have hx:upd (upd (upd h a (some (AObj.cells [.list 8 (zAn vs) vs.length tk] 24))) b (some (AObj.cells (zAj t) 27))) q (some (AObj.cells [.int .i64 0,.int .i64 0,.str ⟨#[]⟩,.list 0 [] 0 .nil] 27)) x=Option.none:=hx0
 have sb:upd (upd (upd h a (some (AObj.cells [.list 8 (zAn vs) vs.length tk] 24))) b (some (AObj.cells (zAj t) 27))) q (some (AObj.cells [.int .i64 0,.int .i64 0,.str ⟨#[]⟩,.list 0 [] 0 .nil] 27)) b=some (.cells (zAj t) 27):=by rw [zAa _ _ e2.1.symm,upd_same]
 have sq:upd (upd (upd h a (some (AObj.cells [.list 8 (zAn vs) vs.length tk] 24))) b (some (AObj.cells (zAj t) 27))) q (some (AObj.cells [.int .i64 0,.int .i64 0,.str ⟨#[]⟩,.list 0 [] 0 .nil] 27)) q=some (AObj.cells [.int .i64 0,.int .i64 0,.str ⟨#[]⟩,.list 0 [] 0 .nil] 27):=upd_same _ _ _
 have fin:zAh (upd (upd (upd h a (some (AObj.cells [.list 8 (zAn vs) vs.length tk] 24))) b (some (AObj.cells (zAj t) 27))) q (some (AObj.cells [.int .i64 0,.int .i64 0,.str ⟨#[]⟩,.list 0 [] 0 .nil] 27))) h:=(((zAh.refl h).new ha).new e1.2).new e3.2
 clear hx0
 generalize upd (upd (upd h a (some (AObj.cells [.list 8 (zAn vs) vs.length tk] 24))) b (some (AObj.cells (zAj t) 27))) q (some (AObj.cells [.int .i64 0,.int .i64 0,.str ⟨#[]⟩,.list 0 [] 0 .nil] 27))=H at *
 have hxb:=zAc hx sb
 have hxq:=zAc hx sq
 repeat with_reducible (apply zS;intro _ R_;simp only [go_sem,↓reduceIte,sb,sq,hxb,hxb.symm,hxq,hxq.symm];subst R_)
 intro c hc0
 have hc1:=zAs hc0
 have hcx:=hc1.1
 have hcb:=zAc hc1.2 sb
 have hcq:=zAc hc1.2 sq
 repeat with_reducible first|(apply zS;intro _ R_;simp only [go_sem,↓reduceIte,sb,sq,hxb,hxb.symm,hxq,hxq.symm,hcx,hcx.symm,hcb,hcb.symm,hcq,hcq.symm];subst R_)|(apply rN;subst hbq)|refine rG2 ?_|apply nS|refine rS fun bq hbq=>?_
 intro o ho0
 have ho1:=zAs ho0
 have ho2:=zAs ho1.2
 have hob:=zAc ho2.2 sb
 have hoq:=zAc ho2.2 sq
 have hoc:=ho1.1
 have hox:=ho2.1
 repeat with_reducible first|(apply zS;intro _ R_;simp only [go_sem,↓reduceIte,sb,sq,hxb,hxb.symm,hxq,hxq.symm,hcx,hcx.symm,hcb,hcb.symm,hcq,hcq.symm,hob,hob.symm,hoq,hoq.symm,hoc,hoc.symm,hox,hox.symm];subst R_)|(apply rN;subst hbq)|refine rG2 ?_|apply nS|refine rS fun bq hbq=>?_
 have tx:upd (upd (upd H x (some (AObj.cells [.list 8 (zAn vs) vs.length tk,.int .i64 0,.bool false] 164))) c (some (AObj.cells [.ptr x 0] 162))) o (some (AObj.cells [.int .i64 0,.int .i64 0,.str ⟨#[]⟩,.list 0 [] 0 .nil] 27)) x=some (.cells [.list 8 (zAn vs) vs.length tk,.int .i64 0,.bool false] 164):=by rw [zAa _ _ hox.symm,zAa _ _ hcx.symm,upd_same]
 have tc:upd (upd (upd H x (some (AObj.cells [.list 8 (zAn vs) vs.length tk,.int .i64 0,.bool false] 164))) c (some (AObj.cells [.ptr x 0] 162))) o (some (AObj.cells [.int .i64 0,.int .i64 0,.str ⟨#[]⟩,.list 0 [] 0 .nil] 27)) c=some (.cells [.ptr x 0] 162):=by rw [zAa _ _ hoc.symm,upd_same]
 have to_:upd (upd (upd H x (some (AObj.cells [.list 8 (zAn vs) vs.length tk,.int .i64 0,.bool false] 164))) c (some (AObj.cells [.ptr x 0] 162))) o (some (AObj.cells [.int .i64 0,.int .i64 0,.str ⟨#[]⟩,.list 0 [] 0 .nil] 27)) o=some (AObj.cells [.int .i64 0,.int .i64 0,.str ⟨#[]⟩,.list 0 [] 0 .nil] 27):=upd_same _ _ _
 have tH:zAh (upd (upd (upd H x (some (AObj.cells [.list 8 (zAn vs) vs.length tk,.int .i64 0,.bool false] 164))) c (some (AObj.cells [.ptr x 0] 162))) o (some (AObj.cells [.int .i64 0,.int .i64 0,.str ⟨#[]⟩,.list 0 [] 0 .nil] 27))) H:=(((zAh.refl H).new hx).new hc1.2).new ho2.2
 clear hc0 ho0
 generalize upd (upd (upd H x (some (AObj.cells [.list 8 (zAn vs) vs.length tk,.int .i64 0,.bool false] 164))) c (some (AObj.cells [.ptr x 0] 162))) o (some (AObj.cells [.int .i64 0,.int .i64 0,.str ⟨#[]⟩,.list 0 [] 0 .nil] 27))=H1 at *
 have tb:=tH _ _ sb
 have tq:=tH _ _ sq
 have hxo:x≠o:=fun e=>hox e.symm
 have key:zAg Tryz.prog 59 [.func (.func 122) [] [.ptr c 0,.ptr b 0,.ptr o 0]] H1 fun out h3=>zAh h3 (upd (upd H1 x Option.none) o Option.none) ∧
   (((v.size:Int)≤4000∧out=.ret (.tuple [.bool true,.int .i64 0])∧h3 o=some (.cells (zAj v) 27)∧∃ N,h3 x=some (.cells [.list 8 (zAn vs) vs.length tk,.int .i64 N,.bool (decide (dep v>100))] 164))∨((v.size:Int)>4000∧out=.ret (.tuple [.bool false,.int .i64 2]))):=by
  refine zNq ?_
  intro A B h1 hA hB hAB hh1
  have hAx:=zAc hA tx
  have hAo:=zAc hA to_
  have hBx:=zAc hB tx
  have hBo:=zAc hB to_
  have hA':h1 A=some (.cells [.bool false] 4):=by rw [hh1,zAa _ _ hAB,upd_same]
  have hB':h1 B=some (.cells [.int .i64 0] 30):=by rw [hh1,upd_same]
  have hl1:zAh h1 H1:=by rw [hh1];exact ((zAh.refl H1).new hA).new hB
  have ux:=hl1 _ _ tx
  have uc:=hl1 _ _ tc
  have uo:=hl1 _ _ to_
  have ub:=hl1 _ _ tb
  have e2:∀ j y,(upd (upd h1 x Option.none) o Option.none) j=some y→h1 j=some y:=fun j y hj=>by
   by_cases e:j=o
   ·subst e;rw [upd_same] at hj;cases hj
   ·rw [zAa _ _ e] at hj
    by_cases e3:j=x
    ·subst e3;rw [upd_same] at hj;cases hj
    ·rw [zAa _ _ e3] at hj;exact hj
  have hAk:(upd (upd h1 x Option.none) o Option.none) A=some (.cells [.bool false] 4):=by rw [zAa _ _ hAo.symm,zAa _ _ hAx.symm];exact hA'
  have hBk:(upd (upd h1 x Option.none) o Option.none) B=some (.cells [.int .i64 0] 30):=by rw [zAa _ _ hBo.symm,zAa _ _ hBx.symm];exact hB'
  have hK:∀ h2:zAd,zAh h2 (upd (upd h1 x Option.none) o Option.none)→zAh (upd (upd h2 A Option.none) B Option.none) (upd (upd H1 x Option.none) o Option.none):=fun h2 hl2 j y hj=>by
   have ej:j≠o:=fun e=>by subst e;rw [upd_same] at hj;cases hj
   rw [zAa _ _ ej] at hj
   have ex:j≠x:=fun e=>by subst e;rw [upd_same] at hj;cases hj
   rw [zAa _ _ ex] at hj
   have eA:j≠A:=fun e=>by subst e;rw [hA] at hj;cases hj
   have eB:j≠B:=fun e=>by subst e;rw [hB] at hj;cases hj
   rw [zAa _ _ eB,zAa _ _ eA]
   exact hl2 j y (by rw [zAa _ _ ej,zAa _ _ ex];exact hl1 j y hj)
  have hless:∀ h2:zAd,zAh h2 (upd (upd h2 A Option.none) B Option.none):=fun h2 j y hj=>by
   by_cases e:j=B
   ·subst e;rw [upd_same] at hj;cases hj
   ·rw [zAa _ _ e] at hj
    by_cases e3:j=A
    ·subst e3;rw [upd_same] at hj;cases hj
    ·rw [zAa _ _ e3] at hj;exact hj
  refine z5p vs hvs tk hv x c b o (upd (upd h1 x Option.none) o Option.none) h1 (by rw [zAa _ _ hxo,upd_same]) (upd_same _ _ _) uc ub uo ux (fun j y hj=>e2 j y hj) _ ?_ ?_
  ·intro h2 N hsz hl2 ho2 hx2
   refine ⟨hl2 _ _ hAk,hl2 _ _ hBk,upd (upd h2 A Option.none) B Option.none,hless h2,by rw [zAa _ _ hAB,upd_same],upd_same _ _ _,hK h2 hl2,.inl ⟨hsz,rfl,?_,N,?_⟩⟩
   ·rw [zAa _ _ hBo,zAa _ _ hAo];exact ho2
   ·rw [zAa _ _ hBx,zAa _ _ hAx];exact hx2
  ·intro h2 hsz hl2
   exact ⟨hl2 _ _ hAk,hl2 _ _ hBk,upd (upd h2 A Option.none) B Option.none,hless h2,by rw [zAa _ _ hAB,upd_same],upd_same _ _ _,2,rfl,hK h2 hl2,.inr ⟨hsz,rfl⟩⟩
 refine zAg.mono key ?_
 intro out h3 hk3
 obtain ⟨hl3,hk3⟩:=hk3
 have vc:=hl3 c _ (by rw [zAa _ _ hoc.symm,zAa _ _ hcx];exact tc)
 have vq:=hl3 q _ (by rw [zAa _ _ hoq,zAa _ _ hxq];exact tq)
 have fin3:zAh h3 h:=(show zAh h3 H from fun j y hj=>hl3 j y (by
  have ex:j≠x:=fun e=>by subst e;rw [hx] at hj;cases hj
  have eo:j≠o:=fun e=>by subst e;rw [ho2.2] at hj;cases hj
  rw [zAa _ _ eo,zAa _ _ ex];exact tH j y hj)).trans fin
 rcases hk3 with ⟨hsz,rfl,vo,N,vx⟩|⟨hsz,rfl⟩
 ·cases hd:decide (dep v>100)
  ·rw [hd] at vx
   have:¬ dep v>100:=by simpa using hd
   have he:zF7 v=0:=by unfold zF7;rw [if_neg (by omega),if_neg (by omega)]
   have ho:zKh v=v:=by unfold zKh;rw [he];rfl
   rw [he,ho] at hq
   try dsimp only
   repeat first|(with_reducible first|((first|apply zS|apply zC);intro _ R_;simp only [go_sem,↓reduceIte,vc,vq,vo,vx];subst R_)|(apply rN;subst hbq)|refine rG2 ?_|apply nS|refine rS fun bq hbq=>?_|apply rK|apply rR)|(with_reducible apply iL;refine rL (by rw [Tryz.results75]) (fin3.new e3.2) ?_;simp only [go_sem,↓reduceIte,zAo,Option.some.injEq,exists_eq_left',vc,vq,vo,vx])
   exact hq
  ·rw [hd] at vx
   have:dep v>100:=by simpa using hd
   have he:zF7 v=5:=by unfold zF7;rw [if_neg (by omega),if_pos (by omega)]
   have ho:zKh v=zBo:=by unfold zKh;rw [he];rfl
   rw [he,ho] at hq
   try dsimp only
   repeat with_reducible first|((first|apply zS|apply zC);intro _ R_;simp only [go_sem,↓reduceIte,vc,vq,vo,vx,zS0];subst R_)|(apply rN;subst hbq)|refine rG2 ?_|(apply r1;clear hbq bq)|apply nS|refine rS fun bq hbq=>?_|apply rK|apply rR
   refine zBx (v:=.tuple [enc zBo,.int .i64 5]) (by rw [Tryz.results75]) (fin3.new e3.2) ?_ hq
   simp only [go_sem,↓reduceIte,zAo,Option.some.injEq,exists_eq_left']
   exact LeAV.tuple (.cons z1h (.cons (LeAV.refl _) .nil))
 ·have he:zF7 v=2:=by unfold zF7;rw [if_pos hsz]
  have ho:zKh v=zBo:=by unfold zKh;rw [he];rfl
  rw [he,ho] at hq
  try dsimp only
  repeat with_reducible first|((first|apply zS|apply zC);intro _ R_;simp only [go_sem,↓reduceIte,vc,vq,zS0];subst R_)|(apply rN;subst hbq)|refine rG2 ?_|(apply r1;clear hbq bq)|apply nS|refine rS fun bq hbq=>?_|apply rR
  refine zBx (v:=.tuple [enc zBo,.int .i64 2]) (by rw [Tryz.results75]) (fin3.new e3.2) ?_ hq
  simp only [go_sem,↓reduceIte,zAo,Option.some.injEq,exists_eq_left']
  exact LeAV.tuple (.cons z1h (.cons (LeAV.refl _) .nil))
def fitAll (vs:List Va) (t:Term):Int:=if zA1 vs==0 then zCz vs t else zA1 vs
theorem zSl {vs:List Va} {t:Term}:fitAll vs t=0↔zA1 vs=0∧zDt t=0∧zAv vs t 0=true:=by
 unfold fitAll zCz
 constructor
 ·intro h
  split at h
  ·rename_i h1
   split at h
   ·rename_i h2
    split at h
    ·rename_i h3
     exact ⟨by simpa using h1,by simpa using h2,h3⟩
    ·cases h
   ·rename_i h2
    exact absurd h (by simpa using h2)
  ·rename_i h1
   exact absurd h (by simpa using h1)
 ·rintro ⟨h1,h2,h3⟩
  simp [h1,h2,h3]
theorem yBu {v:Term} (h1:(v.size:Int)≤4000) (h2:dep v≤100):zDt v=0:=by
 unfold zDt
 rw [if_neg,if_neg]
 ·rw [(z3s v.size).1 v 100 (Nat.le_refl _)];omega
 ·intro h;have:=(zV3 v 4000).1 h;omega
section
variable {σ:Type} (step:σ→Term→σ)
end
end Go.Proofs.YthkjmiejaoomcaaGreat.Am
