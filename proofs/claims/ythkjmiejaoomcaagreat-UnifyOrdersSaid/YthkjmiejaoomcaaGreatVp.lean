/- Part of the proof of a law of layer 5: own texts, joined. -/
import Derived.Test.YthkjmiejaoomcaaGreatVo
import Derived.Test.YthkjmiejaoomcaaGreatVi
import Derived.Test.YthkjmiejaoomcaaGreatVg
import Derived.Test.YthkjmiejaoomcaaGreatVk
import Derived.Test.YthkjmiejaoomcaaGreatVn
import Derived.Test.YthkjmiejaoomcaaGreatVb
set_option linter.unusedVariables false
set_option linter.unusedSimpArgs false
set_option linter.unnecessarySimpa false
namespace Go.Proofs.YthkjmiejaoomcaaGreat.Am
open Go Go.RowKit Go.Proofs
set_option linter.unusedVariables false
set_option linter.unusedSimpArgs false
set_option maxRecDepth 100000
set_option maxHeartbeats 1000000
theorem CK (vs:List Va) (hvs:vs.length≤1000000) (tk:Tok) (h:ai) (Q:AOut→ai→Prop) (hq:Q (.ret (.int .i64 (bi vs))) h):az Tryz.prog 26 [.agg [.list 8 (aM vs) vs.length tk]] h Q:=by
 unfold bi at hq
 refine eN Tryz.func26 ?_
 repeat with_reducible first|(apply zS;intro _ R_;simp only [go_sem,↓reduceIte];subst R_)|refine rG2 ?_|refine rS fun bq hbq=>?_
 intro a ha
 have fin:ax (upd h a (some (.cells [.list 8 (aM vs) vs.length tk] 24))) h:=ax.one ha
 have sa:(upd h a (some (AObj.cells [.list 8 (aM vs) vs.length tk] 24))) a=some (.cells [.list 8 (aM vs) vs.length tk] 24):=upd_same _ _ _
 cases c1:decide ((vs.length:Int)>2000)
 case true =>
  repeat first|(with_reducible first|((first|apply zS|apply zC);intro _ R_;simp only [go_sem,↓reduceIte,c1];subst R_)|(apply rN;subst hbq)|refine rG2 ?_|(apply r1;clear hbq bq)|apply nS|refine rS fun bq hbq=>?_|apply rR)|(with_reducible apply iL;refine rL (by rw [Tryz.results26]) fin ?_;simp only [go_sem,↓reduceIte,aJ,Option.some.injEq,exists_eq_left',c1])
  exact bJ (by rw [if_pos (by simpa using c1)]) hq
 rw [if_neg (by simpa using c1)] at hq
 repeat with_reducible first|((first|apply zS|apply zC);intro _ R_;simp only [go_sem,↓reduceIte,c1];subst R_)|(apply rN;subst hbq)|refine rG2 ?_|apply nS|refine rS fun bq hbq=>?_|apply rK
 generalize upd h a (some (AObj.cells [.list 8 (aM vs) vs.length tk] 24))=H at *
 refine dB (fun τ h'=>τ 1=.ptr a 0∧ax h' H∧qX vs 4000=false) ?_ fun τ h' hI=>?_
 ·repeat with_reducible refine ah fun bq hbq=>?_
  refine bu fun cq hcq=>?_
  subst hcq
  refine aT (fun k τ h'=>∃ (i:Nat) (left:Int),k+i=vs.length∧qX (vs.drop i) left=qX vs 4000∧0≤left∧left≤4000∧τ 1=.ptr a 0∧τ 3=.int .i64 left∧τ 11=.list 8 (aM vs) vs.length tk∧τ 12=.int .i64 vs.length∧τ 13=.int .i64 i∧ax h' H) vs.length ?_ ?_
  ·exact ⟨0,4000,rfl,rfl,by decide,by decide,rfl,rfl,rfl,rfl,rfl,ax.refl _⟩
  ·intro c hc k τ h' hI
   obtain ⟨i,left,hk,hix,hl0,hl1,f1,f3,f11,f12,f13,hl'⟩:=hI
   subst hc
   by_cases hi:i<vs.length
   ·obtain ⟨v,hv⟩:∃ v,vs[i]?=some v:=⟨_,List.getElem?_eq_getElem hi⟩
    obtain ⟨r,hr⟩:=iD vs i hv
    have hdrop:vs.drop i=v::vs.drop (i+1):=by
     rw [List.drop_eq_getElem_cons hi]
     rw [List.getElem?_eq_getElem hi] at hv;injection hv with hv;rw [hv]
    rw [hdrop,qX] at hix
    repeat with_reducible first|((first|apply zS|apply zC);intro _ R_;simp only [go_sem,↓reduceIte,f1,f3,f11,f12,f13,hi,hr];subst R_)|(apply rN;subst hbq)|refine rG2 ?_|(refine rB fun cq hcq=>?_;subst hcq)|apply nS|refine rS fun bq hbq=>?_|apply rK
    intro p hp
    have hlp:ax (upd h' p (some (.cells (bO v) 62))) H:=(ax.one hp).trans hl'
    have finp:ax (upd h' p (some (.cells (bO v) 62))) h:=hlp.trans fin
    cases hvi:v.is
    ·rw [hvi] at hix
     repeat with_reducible first|((first|apply zS|apply zC);intro _ R_;simp only [go_sem,↓reduceIte,f1,f3,f11,f12,f13,hvi,bz ((i:Int)+1) (by omega)];subst R_)|(apply rN;subst hbq)|refine rG2 ?_|apply nS|refine rS fun bq hbq=>?_|apply rK|apply rE
     refine aL (m:=k - 1) (by omega) ⟨i+1,left,by omega,by simpa using hix,hl0,hl1,?_⟩
     simp only [go_sem,↓reduceIte,f1,f3,f11,f12]
     exact ⟨rfl,(ax.one hp).trans hl'⟩
    ·rw [hvi] at hix
     simp only [if_true] at hix
     repeat with_reducible first|((first|apply zS|apply zC);intro _ R_;simp only [go_sem,↓reduceIte,f1,f3,f11,f12,f13,hvi];subst R_)|(apply rN;subst hbq)|refine rG2 ?_|apply nS|refine rS fun bq hbq=>?_
     refine Ip v.t.size v.t left _ _ (Nat.le_refl _) (by omega) (by omega) ?_
     have hb:=(jZ v.t.size).1 v.t left (Nat.le_refl _)
     cases hd:decide ((v.t.size:Int)>left)
     ·rw [hd] at hix
      simp only [Bool.false_eq_true,if_false] at hix
      have hd':¬ (v.t.size:Int)>left:=by simpa using hd
      have hps:=zK v.t left (by omega)
      have hw:=bz (left - v.t.size) (by omega)
      have hneg:decide (left - (v.t.size:Int)<0)=false:=by simp;omega
      rw [hps]
      try dsimp only
      repeat with_reducible first|((first|apply zS|apply zC);intro _ R_;simp only [go_sem,↓reduceIte,f1,f3,f11,f12,f13,hvi,hw,hneg,bz ((i:Int)+1) (by omega)];subst R_)|(apply rN;subst hbq)|refine rG2 ?_|apply nS|refine rS fun bq hbq=>?_|apply rK|apply rE
      refine aL (m:=k - 1) (by omega) ⟨i+1,left - v.t.size,by omega,hix,by omega,by omega,?_⟩
      simp only [go_sem,↓reduceIte,f1,f11,f12]
      exact ⟨rfl,(ax.one hp).trans hl'⟩
     ·rw [hd] at hix
      simp only [if_true] at hix
      have hd':dF v.t left>left:=(DW v.t left).2 (by simpa using hd)
      have hw:=bz (left - dF v.t left) (by omega)
      have hneg:decide (left - dF v.t left<0)=true:=by simp;omega
      try dsimp only
      repeat first|(with_reducible first|((first|apply zS|apply zC);intro _ R_;simp only [go_sem,↓reduceIte,f1,f3,f11,f12,f13,hvi,hw,hneg];subst R_)|(apply rN;subst hbq)|refine rG2 ?_|(apply r1;clear hbq bq)|apply nS|refine rS fun bq hbq=>?_|apply rR|apply r2|apply r3|apply r4)|(with_reducible apply iL;refine rL (by rw [Tryz.results26]) ((ax.one hp).trans (hl'.trans fin)) ?_;simp only [go_sem,↓reduceIte,aJ,Option.some.injEq,exists_eq_left',f1,f3,f11,f12,f13,hvi,hw,hneg])
      exact bJ (by rw [← hix,if_pos rfl]) hq
   ·rw [List.drop_eq_nil_of_le (by omega),qX] at hix
    repeat with_reducible first|((first|apply zS|apply zC);intro _ R_;simp only [go_sem,↓reduceIte,f1,f3,f11,f12,f13,hi];subst R_)|(apply rN;subst hbq)|refine rG2 ?_|(apply x1;clear hbq bq)|apply nS|refine rS fun bq hbq=>?_|apply rXx|apply x3|apply x4
    refine aD ?_
    exact ⟨f1,hl',hix.symm⟩
 ·obtain ⟨f1,hl',hlg⟩:=hI
  subst hbq
  rw [hlg] at hq
  simp only [Bool.false_eq_true,if_false] at hq
  have ta:=hl' _ _ sa
  have fin2:ax h' h:=hl'.trans fin
  repeat with_reducible first|(apply zS;intro _ R_;simp only [go_sem,↓reduceIte,f1,ta];subst R_)|refine rG2 ?_|refine rS fun bq hbq=>?_
  refine az.args (args':=[.list 8 (aM vs) vs.length .none,.func (.func 72) [] [.ptr a 0]]) (.cons (LeAV.list _ _ _ _) (.cons (LeAV.refl _) .nil)) (wH vs 72 [] [.ptr a 0] (fun v=>!mG vs v) _ _ (by omega) (fun i u hu _ h2 Q2 hl2 hq2=>Sa vs hvs tk u h2 a (hl2 _ _ ta) Q2 hq2) ?_)
  cases hall:vs.any fun v=>!mG vs v
  ·have hall':vs.all (mG vs)=true:=by
    rw [List.all_eq_true]
    rw [List.any_eq_false] at hall
    intro v hv
    have:=hall v hv
    simpa using this
   rw [hall'] at hq
   simp only [if_true] at hq
   have hg:=Gx vs hlg hall'
   try dsimp only
   repeat with_reducible (apply zS;intro _ R_;simp only [go_sem,↓reduceIte,f1,ta,hall];subst R_)
   refine KA vs hvs hg.vals tk _ _ ?_
   cases hc:ug vs
   ·try dsimp only
    repeat first|(with_reducible first|((first|apply zS|apply zC);intro _ R_;simp only [go_sem,↓reduceIte,f1,ta,hall,hc];subst R_)|(apply rN;subst hbq)|refine rG2 ?_|apply nS|refine rS fun bq hbq=>?_|apply rK|apply rR)|(with_reducible apply iL;refine rL (by rw [Tryz.results26]) fin2 ?_;simp only [go_sem,↓reduceIte,aJ,Option.some.injEq,exists_eq_left',f1,ta,hall,hc])
    exact bJ (by rw [hc];first|done|rfl) hq
   ·try dsimp only
    repeat first|(with_reducible first|((first|apply zS|apply zC);intro _ R_;simp only [go_sem,↓reduceIte,f1,ta,hall,hc];subst R_)|(apply rN;subst hbq)|refine rG2 ?_|(apply r1;clear hbq bq)|apply nS|refine rS fun bq hbq=>?_|apply rR)|(with_reducible apply iL;refine rL (by rw [Tryz.results26]) fin2 ?_;simp only [go_sem,↓reduceIte,aJ,Option.some.injEq,exists_eq_left',f1,ta,hall,hc])
    exact bJ (by rw [hc];first|done|rfl) hq
  ·have hall':vs.all (mG vs)=false:=by
    rw [Bool.eq_false_iff]
    intro h1
    rw [List.all_eq_true] at h1
    rw [List.any_eq_true] at hall
    obtain ⟨v,hv,h2⟩:=hall
    rw [h1 v hv] at h2;cases h2
   rw [hall'] at hq
   try dsimp only
   repeat first|(with_reducible first|((first|apply zS|apply zC);intro _ R_;simp only [go_sem,↓reduceIte,f1,ta,hall];subst R_)|(apply rN;subst hbq)|refine rG2 ?_|(apply r1;clear hbq bq)|apply nS|refine rS fun bq hbq=>?_|apply rR)|(with_reducible apply iL;refine rL (by rw [Tryz.results26]) fin2 ?_;simp only [go_sem,↓reduceIte,aJ,Option.some.injEq,exists_eq_left',f1,ta,hall])
   exact hq
theorem Dy (t:Term) (h:(il t==0)=true):t.size≤4000:=by
 refine nE t fun hp=>?_
 unfold il at h
 rw [if_pos hp] at h
 exact absurd h (by decide)
def fP (vs:List Va) (t:Term):Int:=if il t==0 then (if aK vs t 0 then 0 else 6) else il t
def gW (vs:List Va):List Term→Int
 |[]=>0
 |t::ts=>if fP vs t==0 then gW vs ts else fP vs t
theorem yG (vs:List Va) (hvs:vs.length≤1000000) (tk:Tok) (l:List Term) (h:ai) (Q:AOut→ai→Prop) (hl:l.length≤1000000000) (hq:Q (.ret (.int .i64 (if bi vs==0 then gW vs l else bi vs))) h):az Tryz.prog 57 [.agg [.list 8 (aM vs) vs.length tk],.list 4 (encs l) l.length .none] h Q:=by
 refine eN Tryz.func57 ?_
 repeat with_reducible first|(apply zS;intro _ R_;simp only [go_sem,↓reduceIte];subst R_)|refine rG2 ?_|refine rS fun bq hbq=>?_
 intro a ha
 have fin:ax (upd h a (some (.cells [.list 8 (aM vs) vs.length tk] 24))) h:=(ax.refl h).new ha
 repeat with_reducible first|(apply zS;intro _ R_;simp only [go_sem,↓reduceIte];subst R_)|(apply rN;subst hbq)|refine rG2 ?_|apply nS|refine rS fun bq hbq=>?_
 refine CK vs hvs tk _ _ ?_
 cases c0:(bi vs==0)
 ·rw [c0] at hq
  try dsimp only
  repeat first|(with_reducible first|((first|apply zS|apply zC);intro _ R_;simp only [go_sem,↓reduceIte,c0];subst R_)|(apply rN;subst hbq)|refine rG2 ?_|(apply r1;clear hbq bq)|apply nS|refine rS fun bq hbq=>?_|apply rR)|(with_reducible apply iL;refine rL (by rw [Tryz.results57]) fin ?_;simp only [go_sem,↓reduceIte,aJ,Option.some.injEq,exists_eq_left',c0])
  exact hq
 rw [c0] at hq
 simp only [if_true] at hq
 try dsimp only
 repeat with_reducible first|((first|apply zS|apply zC);intro _ R_;simp only [go_sem,↓reduceIte,c0];subst R_)|(apply rN;subst hbq)|refine rG2 ?_|(refine rB fun cq hcq=>?_;subst hcq)|apply nS|refine rS fun bq hbq=>?_|apply rK
 refine aT (fun k τ h'=>∃ i:Nat,k+i=l.length∧τ 2=.ptr a 0∧τ 14=.list 4 (encs l) l.length .none∧τ 15=.int .i64 l.length∧τ 16=.int .i64 i∧ax h' h∧h' a=some (.cells [.list 8 (aM vs) vs.length tk] 24)∧gW vs (l.drop i)=gW vs l) l.length ?_ ?_
 ·exact ⟨0,rfl,rfl,rfl,rfl,rfl,fin,upd_same _ _ _,rfl⟩
 ·intro c hc k τ h' hI
  obtain ⟨i,hk,f2,f14,f15,f16,hl',ma,hix⟩:=hI
  subst hc
  by_cases hi:i<l.length
  ·obtain ⟨u,hu⟩:∃ u,l[i]?=some u:=⟨_,List.getElem?_eq_getElem hi⟩
   obtain ⟨r,hr⟩:=dD l i hu
   have hdrop:l.drop i=u::l.drop (i+1):=by
    rw [List.drop_eq_getElem_cons hi]
    rw [List.getElem?_eq_getElem hi] at hu;injection hu with hu;rw [hu]
   rw [hdrop,gW] at hix
   repeat with_reducible first|((first|apply zS|apply zC);intro _ R_;simp only [go_sem,↓reduceIte,f2,f14,f15,f16,hi,hr];subst R_)|(apply rN;subst hbq)|refine rG2 ?_|(refine rB fun cq hcq=>?_;subst hcq)|apply nS|refine rS fun bq hbq=>?_|apply rK
   intro b hb
   have hba:=aj hb ma
   have fin:ax (upd h' b (some (.cells (ay u) 27))) h:=hl'.new (hl'.none hb)
   repeat with_reducible first|(apply zS;intro _ R_;simp only [go_sem,↓reduceIte,f2,f14,f15,f16,ma,hba];subst R_)|(apply rN;subst hbq)|refine rG2 ?_|apply nS|refine rS fun bq hbq=>?_
   refine BG u _ _ ?_
   cases hs:(il u==0)
   ·rw [show fP vs u=il u by simp only [fP,hs];rfl,hs] at hix
    try dsimp only
    repeat first|(with_reducible first|((first|apply zS|apply zC);intro _ R_;simp only [go_sem,↓reduceIte,f2,f14,f15,f16,ma,hba,hs];subst R_)|(apply rN;subst hbq)|refine rG2 ?_|(apply r1;clear hbq bq)|apply nS|refine rS fun bq hbq=>?_|apply rR|apply r3|apply r4)|(with_reducible apply iL;refine rL (by rw [Tryz.results57]) fin ?_;simp only [go_sem,↓reduceIte,aJ,Option.some.injEq,exists_eq_left',f2,f14,f15,f16,ma,hba,hs])
    exact bJ (by rw [← hix];rfl) hq
   ·have hsz:=Dy u hs
    try dsimp only
    repeat with_reducible first|((first|apply zS|apply zC);intro _ R_;simp only [go_sem,↓reduceIte,f2,f14,f15,f16,ma,hba,hs];subst R_)|(apply rN;subst hbq)|refine rG2 ?_|apply nS|refine rS fun bq hbq=>?_|apply rK
    refine GD vs hvs tk u.size u 0 _ _ (Nat.le_refl _) (by decide) (by omega) ?_
    cases hf:aK vs u 0
    ·rw [show fP vs u=6 by simp only [fP,hs,hf];rfl] at hix
     try dsimp only
     repeat first|(with_reducible first|((first|apply zS|apply zC);intro _ R_;simp only [go_sem,↓reduceIte,f2,f14,f15,f16,ma,hba,hs,hf];subst R_)|(apply rN;subst hbq)|refine rG2 ?_|(apply r1;clear hbq bq)|apply nS|refine rS fun bq hbq=>?_|apply rR|apply r3|apply r4)|(with_reducible apply iL;refine rL (by rw [Tryz.results57]) fin ?_;simp only [go_sem,↓reduceIte,aJ,Option.some.injEq,exists_eq_left',f2,f14,f15,f16,ma,hba,hs,hf])
     exact bJ (by rw [← hix];rfl) hq
    ·rw [show fP vs u=0 by simp only [fP,hs,hf];rfl] at hix
     try dsimp only
     repeat with_reducible first|((first|apply zS|apply zC);intro _ R_;simp only [go_sem,↓reduceIte,f2,f14,f15,f16,ma,hba,hs,hf,bz ((i:Int)+1) (by omega)];subst R_)|(apply rN;subst hbq)|refine rG2 ?_|apply nS|apply rK|apply rE
     refine aL (m:=k - 1) (by omega) ⟨i+1,by omega,?_⟩
     simp only [go_sem,↓reduceIte,f2,f14,f15,f16,hba,ma]
     exact ⟨rfl,fin,hix⟩
  ·rw [List.drop_eq_nil_of_le (by omega),gW] at hix
   repeat first|(with_reducible first|((first|apply zS|apply zC);intro _ R_;simp only [go_sem,↓reduceIte,f2,f14,f15,f16,hi];subst R_)|(apply rN;subst hbq)|refine rG2 ?_|(apply x1;clear hbq bq)|apply nS|refine rS fun bq hbq=>?_|apply rXx|apply rR|apply x3|apply x4)|(with_reducible apply iL;refine rL (by rw [Tryz.results57]) hl' ?_;simp only [go_sem,↓reduceIte,aJ,Option.some.injEq,exists_eq_left',f2,f14,f15,f16,hi])
   rw [hix];exact hq
theorem Oj (t:Term):bn Tryz.prog 25 1 [(0,.agg (ay t))]=some (.list 4 (ay t) 1 .full):=uj ed je iy rfl rfl rfl (by decide)
theorem xe (vs:List Va) (hvs:vs.length≤1000000) (tk:Tok) (t:Term) (h:ai) (Q:AOut→ai→Prop) (hq:Q (.ret (.int .i64 (if bi vs==0 then fP vs t else bi vs))) h):az Tryz.prog 23 [.agg [.list 8 (aM vs) vs.length tk],enc t] h Q:=by
 refine eN Tryz.func23 ?_
 repeat with_reducible first|(apply zS;intro _ R_;simp only [go_sem,↓reduceIte];subst R_)|refine rG2 ?_|refine rS fun bq hbq=>?_
 intro a ha
 repeat with_reducible (apply zS;intro _ R_;simp only [go_sem,↓reduceIte];subst R_)
 intro b hb
 have e:=aQ hb
 have fin:ax (upd (upd h a (some (.cells [.list 8 (aM vs) vs.length tk] 24))) b (some (.cells (ay t) 27))) h:=(ax.refl h).new ha |>.new e.2
 repeat with_reducible first|(apply zS;intro _ R_;simp only [go_sem,↓reduceIte,e.1,e.1.symm,Oj];subst R_)|(apply rN;subst hbq)|refine rG2 ?_|apply nS|refine rS fun bq hbq=>?_
 have e1:encs [t]=ay t:=by rw [dh];simp
 refine az.args (args':=[.agg [.list 8 (aM vs) vs.length tk],.list 4 (encs [t]) ([t]:List Term).length .none]) (.cons (LeAV.refl _) (.cons (by rw [e1];exact LeAV.list _ _ _ _) .nil)) (yG vs hvs tk [t] _ _ (by simp) ?_)
 try dsimp only
 repeat first|(with_reducible first|(apply zS;intro _ R_;simp only [go_sem,↓reduceIte,e.1,e.1.symm];subst R_)|(apply rN;subst hbq)|apply nS|apply rR)|(with_reducible apply iL;refine rL (by rw [Tryz.results23]) fin ?_;simp only [go_sem,↓reduceIte,aJ,Option.some.injEq,exists_eq_left',e.1,e.1.symm])
 refine bJ ?_ hq
 rw [gW,gW]
 cases h1:(fP vs t==0)
 ·rfl
 ·have:fP vs t=0:=by simpa using h1
  rw [this];rfl
def QK (vs:List Va) (l:List Term):Bool:=!decide ((vs.length:Int)>12)&&(vs.all (fun v=>fewF v.t)&&l.all fewF)
theorem Uf (vs:List Va) (tk:Tok) (l:List Term) (h:ai) (Q:AOut→ai→Prop) (hl:l.length≤1000000000) (hq:Q (.ret (.bool (QK vs l))) h):az Tryz.prog 14 [.agg [.list 8 (aM vs) vs.length tk],.list 4 (encs l) l.length .none] h Q:=by
 unfold QK at hq
 refine eN Tryz.func14 ?_
 repeat with_reducible first|(apply zS;intro _ R_;simp only [go_sem,↓reduceIte];subst R_)|refine rG2 ?_|refine rS fun bq hbq=>?_
 intro a ha
 have fin:ax (upd h a (some (.cells [.list 8 (aM vs) vs.length tk] 24))) h:=ax.one ha
 have sa:(upd h a (some (AObj.cells [.list 8 (aM vs) vs.length tk] 24))) a=some (.cells [.list 8 (aM vs) vs.length tk] 24):=upd_same _ _ _
 cases c1:decide ((vs.length:Int)>12)
 case true =>
  repeat first|(with_reducible first|((first|apply zS|apply zC);intro _ R_;simp only [go_sem,↓reduceIte,c1];subst R_)|(apply rN;subst hbq)|refine rG2 ?_|(apply r1;clear hbq bq)|apply nS|refine rS fun bq hbq=>?_|apply rR)|(with_reducible apply iL;refine rL (by rw [Tryz.results14]) fin ?_;simp only [go_sem,↓reduceIte,aJ,Option.some.injEq,exists_eq_left',c1])
  exact bJ (by rw [c1];rfl) hq
 have hv12:(vs.length:Int)≤12:=by simpa using c1
 rw [c1,Bool.not_false,Bool.true_and] at hq
 repeat with_reducible first|((first|apply zS|apply zC);intro _ R_;simp only [go_sem,↓reduceIte,c1];subst R_)|(apply rN;subst hbq)|refine rG2 ?_|(refine rB fun cq hcq=>?_;subst hcq)|apply nS|refine rS fun bq hbq=>?_|apply rK
 generalize upd h a (some (AObj.cells [.list 8 (aM vs) vs.length tk] 24))=H at *
 refine aT (fun k τ h'=>∃ i:Nat,k+i=vs.length∧τ 1=.list 4 (encs l) l.length .none∧τ 2=.ptr a 0∧τ 5=.int .i64 i∧h'=H∧(vs.drop i).all (fun v=>fewF v.t)=vs.all (fun v=>fewF v.t)) vs.length ?_ ?_
 ·exact ⟨0,rfl,rfl,rfl,rfl,rfl,rfl⟩
 ·intro c hc k τ h' hI
  obtain ⟨i,hk,f1,f2,f5,rfl,hix⟩:=hI
  subst hc
  by_cases hi:i<vs.length
  ·obtain ⟨v,hv⟩:∃ v,vs[i]?=some v:=⟨_,List.getElem?_eq_getElem hi⟩
   obtain ⟨r,hr⟩:=iD vs i hv
   have hr4:List.drop (i * 8+4) (aM vs)=.int .i64 v.t.kind::.int .i64 v.t.n::.str v.t.name::.list 4 (encs v.t.args) v.t.args.length .none::r:=by rw [← List.drop_drop,hr];rfl
   have hdrop:vs.drop i=v::vs.drop (i+1):=by
    rw [List.drop_eq_getElem_cons hi]
    rw [List.getElem?_eq_getElem hi] at hv;injection hv with hv;rw [hv]
   rw [hdrop,List.all_cons] at hix
   repeat with_reducible first|((first|apply zS|apply zC);intro _ R_;simp only [go_sem,↓reduceIte,f1,f2,f5,sa,hi,hr4];subst R_)|(apply rN;subst hbq)|refine rG2 ?_|(refine rB fun cq hcq=>?_;subst hcq)|apply nS|refine rS fun bq hbq=>?_|apply rK
   refine Ny v.t _ _ ?_
   cases hf:fewF v.t
   ·rw [hf,Bool.false_and] at hix
    rw [← hix] at hq
    try dsimp only
    repeat first|(with_reducible first|((first|apply zS|apply zC);intro _ R_;simp only [go_sem,↓reduceIte,f1,f2,f5,sa,hf];subst R_)|(apply rN;subst hbq)|refine rG2 ?_|(apply r1;clear hbq bq)|apply nS|refine rS fun bq hbq=>?_|apply rR|apply r3|apply r4)|(with_reducible apply iL;refine rL (by rw [Tryz.results14]) fin ?_;simp only [go_sem,↓reduceIte,aJ,Option.some.injEq,exists_eq_left',f1,f2,f5,sa,hf])
    exact hq
   ·rw [hf,Bool.true_and] at hix
    try dsimp only
    repeat with_reducible first|((first|apply zS|apply zC);intro _ R_;simp only [go_sem,↓reduceIte,f1,f2,f5,sa,hf,bz ((i:Int)+1) (by omega)];subst R_)|(apply rN;subst hbq)|refine rG2 ?_|apply nS|apply rK|apply rE
    refine aL (m:=k - 1) (by omega) ⟨i+1,by omega,f1,f2,rfl,rfl,hix⟩
  ·rw [List.drop_eq_nil_of_le (by omega),List.all_nil] at hix
   rw [← hix,Bool.true_and] at hq
   repeat with_reducible first|((first|apply zS|apply zC);intro _ R_;simp only [go_sem,↓reduceIte,f1,f2,f5,sa,hi];subst R_)|(apply rN;subst hbq)|refine rG2 ?_|(refine rB fun cq hcq=>?_;subst hcq)|(apply x1;clear hbq bq)|apply nS|refine rS fun bq hbq=>?_|apply rXx|apply x3|apply x4
   refine aT (fun k τ h2=>∃ i:Nat,k+i=l.length∧τ 1=.list 4 (encs l) l.length .none∧τ 6=.int .i64 i∧ax h2 h∧(l.drop i).all fewF=l.all fewF) l.length ?_ ?_
   ·exact ⟨0,rfl,f1,rfl,fin,rfl⟩
   intro c hc k τ h2 hI
   clear f1 f2 f5 hix
   obtain ⟨i,hk,f1,f6,hl',hix⟩:=hI
   subst hc
   by_cases hi:i<l.length
   ·obtain ⟨u,hu⟩:∃ u,l[i]?=some u:=⟨_,List.getElem?_eq_getElem hi⟩
    obtain ⟨r,hr⟩:=dD l i hu
    have hdrop:l.drop i=u::l.drop (i+1):=by
     rw [List.drop_eq_getElem_cons hi]
     rw [List.getElem?_eq_getElem hi] at hu;injection hu with hu;rw [hu]
    rw [hdrop,List.all_cons] at hix
    repeat with_reducible first|((first|apply zS|apply zC);intro _ R_;simp only [go_sem,↓reduceIte,f1,f6,hi,hr];subst R_)|(apply rN;subst hbq)|refine rG2 ?_|(refine rB fun cq hcq=>?_;subst hcq)|apply nS|refine rS fun bq hbq=>?_|apply rK
    refine Ny u _ _ ?_
    cases hf:fewF u
    ·rw [hf,Bool.false_and] at hix
     rw [← hix] at hq
     try dsimp only
     repeat first|(with_reducible first|((first|apply zS|apply zC);intro _ R_;simp only [go_sem,↓reduceIte,f1,f6,hf];subst R_)|(apply rN;subst hbq)|refine rG2 ?_|(apply r1;clear hbq bq)|apply nS|refine rS fun bq hbq=>?_|apply rR|apply r3|apply r4)|(with_reducible apply iL;refine rL (by rw [Tryz.results14]) hl' ?_;simp only [go_sem,↓reduceIte,aJ,Option.some.injEq,exists_eq_left',f1,f6,hf])
     exact hq
    ·rw [hf,Bool.true_and] at hix
     try dsimp only
     repeat with_reducible first|((first|apply zS|apply zC);intro _ R_;simp only [go_sem,↓reduceIte,f1,f6,hf,bz ((i:Int)+1) (by omega)];subst R_)|(apply rN;subst hbq)|refine rG2 ?_|apply nS|apply rK|apply rE
     refine aL (m:=k - 1) (by omega) ⟨i+1,by omega,f1,rfl,hl',hix⟩
   ·rw [List.drop_eq_nil_of_le (by omega),List.all_nil] at hix
    rw [← hix] at hq
    repeat first|(with_reducible first|((first|apply zS|apply zC);intro _ R_;simp only [go_sem,↓reduceIte,f1,f6,hi];subst R_)|(apply rN;subst hbq)|refine rG2 ?_|(apply x1;clear hbq bq)|apply nS|refine rS fun bq hbq=>?_|apply rXx|apply rR|apply x3|apply x4)|(with_reducible apply iL;refine rL (by rw [Tryz.results14]) hl' ?_;simp only [go_sem,↓reduceIte,aJ,Option.some.injEq,exists_eq_left',f1,f6,hi])
    exact hq
mutual
theorem Ah:∀ t:Term,FY t t=true
 |⟨k,n,s,l⟩=>by
  rw [FY,Ag l]
  simp
theorem Ag:∀ l:List Term,zJ l l=true
 |[]=>by rw [zJ]
 |t::l=>by rw [zJ,Ah t,Ag l];rfl
end
theorem LeAV.listL {sz n:Nat} {t:Tok} {xs ys:List AV} (hl:LeL xs ys):LeAV (.list sz xs n t) (.list sz ys n t):=by
 intro G W v hr
 simp only [Rel] at hr ⊢
 obtain ⟨a,c,vs,hv,hc,hr,rest⟩:=hr
 exact ⟨a,c,vs,hv,hc,hl.rel G W vs hr,rest⟩
def lK (lv:Int) (ty:Ty):Va:=⟨lv,ty,false,⟨0,0,aB,[]⟩⟩
theorem ui:dL Tryz.prog 24 []=some (.agg [.list 0 [] 0 .nil]):=by
 simp only [dL,OO,Px,ik]
 rfl
theorem Jk (lv:Int) (ty:Ty):dL Tryz.prog 62 [(0,.int .i64 lv),(1,.agg [.str ty.name,.list 2 (dE ty.args) ty.args.length .none])]=some (.agg [.int .i64 lv,.str ty.name,.list 2 (dE ty.args) ty.args.length .none,.bool false,.int .i64 0,.int .i64 0,.str aB,.list 0 [] 0 .nil]):=by
 simp only [dL,zH,Ws,ik]
 rfl
theorem Jl (lv:Int) (ty:Ty):bn Tryz.prog 22 1 [(0,.agg [.int .i64 lv,.str ty.name,.list 2 (dE ty.args) ty.args.length .none,.bool false,.int .i64 0,.int .i64 0,.str aB,.list 0 [] 0 .nil])]=some (.list 8 [.int .i64 lv,.str ty.name,.list 2 (dE ty.args) ty.args.length .none,.bool false,.int .i64 0,.int .i64 0,.str aB,.list 0 [] 0 .nil] 1 .full):=uj yR FN zH rfl rfl rfl (by decide)
theorem LeL.app {xs ys:List AV} (h:LeL xs ys):∀ l:List AV,LeL (l++xs) (l++ys)
 |[]=>h
 |a::l=>.cons (LeAV.refl a) (LeL.app h l)
theorem NN (l m:List Term):encs (l++m)=encs l++encs m:=by rw [dh,dh,dh,List.flatMap_append]
theorem NM (u:Term):encs [u]=ay u:=by rw [dh];simp
theorem P5 {done:List Term} {i sz:Nat} {tok:Tok} (hdl:done.length=i) (hsz:i=0∨sz=4):LeAV (.list sz (encs done) i tok) (.list 4 (encs done) done.length .none):=by
 subst hdl
 rcases hsz with h0|rfl
 ·have:done=[]:=List.eq_nil_of_length_eq_zero h0
  subst this
  intro G W v hr
  rw [bB] at hr ⊢
  exact LeAV.nil _ _ _ G W v hr
 ·exact LeAV.list _ _ _ _
theorem Lc {vs:List Va} {n:Int} (h0:0≤n) (h1:n<(vs.length:Int)):∃ r,(aM vs).drop (n.toNat * 8)=bO (ak vs n)++r:=by
 have hn1:n.toNat<vs.length:=by omega
 obtain ⟨v,hv⟩:∃ v,vs[n.toNat]?=some v:=⟨_,List.getElem?_eq_getElem hn1⟩
 have hva:ak vs n=v:=by rw [ak,List.getD_eq_getElem?_getD,hv];rfl
 rw [hva]
 exact iD vs n.toNat hv
theorem QT {cl:List CO} {i j:Nat} {st st':List Nat} {p q:Plan} {K:AK} {T:Pend} {τ:Env} {h:ai} (h1:cDr Tryz.prog cl K (.one i st p) T τ h) (h2:cDr Tryz.prog cl K (.one j st' q) T τ h):cDr Tryz.prog cl K (.two i st p j st' q) T τ h:=⟨h1,h2⟩
theorem ql (e:Int):dL Tryz.prog 152 [(0,.int .i64 e)]=some (.agg [.int .i64 e]):=by
 simp only [dL,Rh,Ru,ik]
 rfl
theorem xM:∀ l m:List Term,sizes (l++m)=sizes l+sizes m
 |[],m=>by rw [List.nil_append,sizes];omega
 |t::l,m=>by rw [List.cons_append,sizes,sizes,xM l m];omega
theorem QO (l:List Term):0≤depL l:=(yU (sizes l)).2 l (Nat.le_refl _)
theorem Ja:∀ l m:List Term,depL (l++m)=max (depL l) (depL m)
 |[],m=>by have:=QO m;rw [List.nil_append,depL];omega
 |t::l,m=>by rw [List.cons_append,depL,depL,Ja l m];omega
theorem JF {l:List Term} {i:Nat} {w:Term} (h:l[i]?=some w):sizes (l.take (i+1))=sizes (l.take i)+w.size:=by
 rw [List.take_add_one,h,xM]
 simp only [Option.toList_some,sizes];omega
theorem NT {l:List Term} {i:Nat} {w:Term} (h:l[i]?=some w):depL (l.take (i+1))=max (depL (l.take i)) (dep w):=by
 have:=(yU w.size).1 w (Nat.le_refl _)
 rw [List.take_add_one,h,Ja]
 simp only [Option.toList_some,depL];omega
theorem BF (l:List Term) (i:Nat):sizes (l.take i)≤sizes l:=by
 have:=xM (l.take i) (l.drop i)
 rw [List.take_append_drop] at this
 omega
structure VObj (T:TypeId) (vs:List Va) (tk:Tok) (p:Nat) (n:Int) (dp:Bool) (h0 h:ai):Prop where
 less:ax h h0
 obj:h p=some (.cells [.list 8 (aM vs) vs.length tk,.int .i64 n,.bool dp] T)
theorem OY (vs:List Va) (hvs:vs.length≤1000000) (tk:Tok) {d:Int} {t v:Term} (hv:Val vs d t v):∀ (n deep:Int) (dp:Bool) (p:Nat) (h0 h:ai) (Q:AOut→ai→Prop),0≤n→n≤4000→0≤d→d≤deep→deep≤n+1→h0 p=Option.none→VObj 164 vs tk p n dp h0 h →
  (∀ h2,n+v.size≤4000→VObj 164 vs tk p (n+v.size) (dp||decide (deep+dep v - 1>100)) h0 h2→Q (.ret (enc v)) h2) →
  (∀ h2 dp',n+v.size>4000→VObj 164 vs tk p 4001 dp' h0 h2→Q (.panic (.iface 152 (.agg [.int .i64 2]))) h2) →
  az Tryz.prog 123 [.ptr p 0,enc t,.int .i64 deep] h Q:=by
 induction hv with
 |@mk d t k u l hs hn hl ha ih =>
  intro n deep dp p h0 h Q hn0 hn1 hd0 hdd hdn hp0 hV hq hpan
  have hx:=hV.obj
  refine eN Tryz.func123 ?_
  repeat with_reducible first|(apply zS;intro _ R_;simp only [go_sem,↓reduceIte];subst R_)|refine rG2 ?_|refine rS fun bq hbq=>?_
  intro b hb
  have hpb:=aj hb hx
  repeat with_reducible (apply zS;intro _ R_;simp only [go_sem,↓reduceIte];subst R_)
  intro q hq'
  have e1:=aQ hq'
  have hpq:=aj e1.2 hx
  apply rN;subst hbq
  repeat with_reducible refine ah fun bq hbq=>?_
  refine dB (fun τ h'=>τ 0=.ptr p 0∧τ 2=.int .i64 deep∧τ 4=.ptr b 0∧τ 6=.ptr q 0∧ax h' h∧h' b=some (.cells (ay u) 27)∧h' q=some (.cells [.int .i64 0,.int .i64 0,.str aB,.list 0 [] 0 .nil] 27)) ?_ fun τ h' hI=>?_
  ·repeat with_reducible (refine rB fun cq hcq=>?_;subst hcq)
   refine aT (fun j τ h'=>∃ t',Hl vs d t' j u∧τ 0=.ptr p 0∧τ 2=.int .i64 deep∧τ 4=.ptr b 0∧τ 6=.ptr q 0∧ax h' h∧h' b=some (.cells (ay t') 27)∧h' q=some (.cells [.int .i64 0,.int .i64 0,.str aB,.list 0 [] 0 .nil] 27)) k ?_ ?_
   ·refine ⟨t,hs,?_⟩
    simp only [go_sem,↓reduceIte,e1.1,e1.1.symm]
    exact ((ax.refl h).new hb).new e1.2
   intro c hc j τ h' hI
   obtain ⟨t',hs',f0,f2,f4,f6,hl',lb,lq⟩:=hI
   subst hc
   have hx':=hl' _ _ hx
   have hqb:q≠b:=e1.1
   cases hs' with
   |zero =>
    cases h4:(u.kind==4)
    ·repeat with_reducible refine ah fun bq hbq=>?_
     refine bA (.take 0 (.take 1 (.take 2 (.take 3 (.take 4 (.take 5 (.take 6 (.take 7 (.take 8 (.take 9 (.take 10 (.take 11 (.take 12 (.take 13 (.take 14 (.done)))))))))))))))) (by kernel_rfl) (by simp only [aF,gtOf,aA];exact rfl) ?_
     repeat first|(with_reducible first|(apply rN;subst hbq)|(apply x1;clear hbq bq)|apply nD|apply rXx|apply x3|apply x4)|((first|with_reducible apply sC|(with_reducible apply iT;refine sT rfl ?_));intro _ _ _ C_ R_ U_;simp only [go_sem,↓reduceIte,f0,f2,f4,f6,lb,hx',h4];subst C_ R_ U_)
     refine aD ?_
     simp only [go_sem,↓reduceIte,f0,f2,f4,f6]
     exact ⟨hl',lb,lq⟩
    ·have hv:=hn.var h4
     obtain ⟨r,hr⟩:=Lc hv.1 hv.2.1
     have hr3:List.drop (u.n.toNat * 8+3) (aM vs)=.bool (ak vs u.n).is::(List.drop 4 (bO (ak vs u.n))++r):=by rw [← List.drop_drop,hr];rfl
     rw [hv.2.2] at hr3
     repeat with_reducible refine ah fun bq hbq=>?_
     refine bA (.take 0 (.take 1 (.take 2 (.take 3 (.take 4 (.take 5 (.take 6 (.take 7 (.take 8 (.take 9 (.take 10 (.take 11 (.take 12 (.take 13 (.take 14 (.done)))))))))))))))) (by kernel_rfl) (by simp only [aF,gtOf,aA];exact rfl) ?_
     repeat first|(with_reducible first|(apply rN;subst hbq)|(apply x1;clear hbq bq)|apply nD|apply rXx|apply x3|apply x4)|((first|with_reducible apply sC|(with_reducible apply iT;refine sT rfl ?_));intro _ _ _ C_ R_ U_;simp only [go_sem,↓reduceIte,f0,f2,f4,f6,lb,hx',h4,hv.1,hv.2.1,hr3];subst C_ R_ U_)
     refine aD ?_
     simp only [go_sem,↓reduceIte,f0,f2,f4,f6]
     exact ⟨hl',lb,lq⟩
   |@succ _ j _ h4 hi ok hs2 =>
    have h1:=ok.n0
    have h2:=ok.n1
    obtain ⟨r,hr⟩:=Lc h1 h2
    have hr3:List.drop (t'.n.toNat * 8+3) (aM vs)=.bool (ak vs t'.n).is::(List.drop 4 (bO (ak vs t'.n))++r):=by rw [← List.drop_drop,hr];rfl
    have hr4:List.drop (t'.n.toNat * 8+4) (aM vs)=ay (ak vs t'.n).t++r:=by rw [← List.drop_drop,hr];rfl
    rw [hi] at hr3
    have hln:=ok.len
    have hbt:((eD ((t'.args.length:Int)).toNat (ak vs t'.n).t).1)=dJ vs t':=rfl
    have hb2:(eD ((t'.args.length:Int)).toNat (ak vs t'.n).t).2=true:=ok.body
    repeat with_reducible refine ah fun bq hbq=>?_
    refine bA (.take 0 (.take 1 (.take 2 (.take 3 (.take 4 (.take 5 (.take 6 (.take 7 (.take 8 (.take 9 (.take 10 (.take 11 (.take 12 (.take 13 (.take 14 (.done)))))))))))))))) (by kernel_rfl) (by simp only [aF,gtOf,aA];exact rfl) ?_
    repeat first|(with_reducible first|(apply rN;subst hbq)|(refine rB fun cq hcq=>?_;subst hcq)|apply nD|refine rS fun bq hbq=>?_|apply rK)|((first|with_reducible apply sC|(with_reducible apply iT;refine sT rfl ?_));intro _ _ _ C_ R_ U_;simp only [go_sem,↓reduceIte,f0,f2,f4,f6,lb,hx',h4,h1,h2,hr3];subst C_ R_ U_)
    refine dB (fun τ' h''=>∃ c,h' c=Option.none∧τ' 0=.ptr p 0∧τ' 2=.int .i64 deep∧τ' 4=.ptr b 0∧τ' 6=.ptr q 0∧τ' 7=.ptr c 0∧h''=upd h' c (some (.cells (ay (dJ vs t')) 27))) ?_ fun τ h' hI=>?_
    ·repeat with_reducible refine ah fun bq hbq=>?_
     refine bA (.take 0 (.take 1 (.take 2 (.take 3 (.take 4 (.take 5 (.take 6 (.take 7 (.take 8 (.take 9 (.take 10 (.take 11 (.take 12 (.two 13 [11,6,4] (.take 14 (.take 15 (.take 16 (.one 17 [11,6,4] (.one 18 [] (.take 19 (.done))))))) 17 [11,9,6,4] (.one 13 [11,6,4] (.take 14 (.take 15 (.take 16 (.one 18 [] (.take 19 (.done))))))))))))))))))))) (by kernel_rfl) (by simp only [aF,gtOf,aA];exact rfl) ?_
     repeat ((with_reducible apply iT;refine sT rfl ?_);intro _ _ _ C_ R_ U_;simp only [go_sem,↓reduceIte,f0,f2,f4,f6,lb,hx',h4,h1,h2,hr4];subst C_ R_ U_)
     refine QT ?_ ?_
     ·repeat ((with_reducible apply iO;refine sO rfl ?_);intro _ _ _ C_ R_ U_;simp only [go_sem,↓reduceIte,f0,f2,f4,f6,lb,hx',h4,h1,h2,hr4];subst C_ R_ U_)
      refine CP (ak vs t'.n).t t'.args.length _ _ (by omega) ?_
      rw [hbt,hb2]
      try dsimp only
      repeat ((first|with_reducible apply sA|(with_reducible apply iT;refine sT rfl ?_)|(with_reducible apply iO;refine sO rfl ?_));intro _ _ _ C_ R_ U_;simp only [go_sem,↓reduceIte,f0,f2,f4,f6,lb,hx',h4,h1,h2,hr4];subst C_ R_ U_)
      intro c hc
      have hcb:=aj hc lb
      have hcx:=aj hc hx'
      repeat first|with_reducible apply nD|((first|with_reducible apply sA|(with_reducible apply iT;refine sT rfl ?_)|(with_reducible apply i0;refine s0 rfl ?_));intro _ _ _ C_ R_ U_;simp only [go_sem,↓reduceIte,f0,f2,f4,f6,lb,hx',h4,h1,h2,hr4,hcb,hcx,hcb.symm,hcx.symm];subst C_ R_ U_)
      refine aD ?_
      refine ⟨c,hc,?_⟩
      simp only [go_sem,↓reduceIte,f0,f2,f4,f6]
     ·repeat ((with_reducible apply iO;refine sO rfl ?_);intro _ _ _ C_ R_ U_;simp only [go_sem,↓reduceIte,f0,f2,f4,f6,lb,hx',h4,h1,h2,hr4];subst C_ R_ U_)
      intro c hc
      have hcb:=aj hc lb
      have hcx:=aj hc hx'
      repeat ((first|with_reducible apply sA|(with_reducible apply iO;refine sO rfl ?_));intro _ _ _ C_ R_ U_;simp only [go_sem,↓reduceIte,f0,f2,f4,f6,lb,hx',h4,h1,h2,hr4,hcb,hcx,hcb.symm,hcx.symm];subst C_ R_ U_)
      refine CP (ak vs t'.n).t t'.args.length _ _ (by omega) ?_
      rw [hbt,hb2]
      try dsimp only
      repeat first|with_reducible apply nD|((first|with_reducible apply sA|(with_reducible apply iT;refine sT rfl ?_)|(with_reducible apply i0;refine s0 rfl ?_));intro _ _ _ C_ R_ U_;simp only [go_sem,↓reduceIte,f0,f2,f4,f6,lb,hx',h4,h1,h2,hr4,hcb,hcx,hcb.symm,hcx.symm];subst C_ R_ U_)
      refine aD ?_
      refine ⟨c,hc,?_⟩
      simp only [go_sem,↓reduceIte,f0,f2,f4,f6]
    clear f0 f2 f4 f6
    obtain ⟨c,hc0,f0,f2,f4,f6,f7,rfl⟩:=hI
    subst hbq
    have hcb:=aj hc0 lb
    have hcx:=aj hc0 hx'
    have hcq:=aj hc0 lq
    have hsb:(dJ vs t').size≤4000:=Nat.le_trans (Fb _ _) ok.size
    repeat with_reducible first|(apply zS;intro _ R_;simp only [go_sem,↓reduceIte,f0,f2,f4,f6,f7,lb,hcb,hcb.symm];subst R_)|refine rG2 ?_
    refine EK 4000 (dJ vs t') t'.args 0 _ _ hsb (Int.le_refl _) (by omega) (by omega) (fun u hu=>?_) ok.fill ?_
    ·have hu1:=ok.args u hu
     rcases (aS hu1.1).1 with e|e
     ·have:=hu1.2.2.1 e;omega
     ·have:=hu1.2.2.2 e;omega
    try dsimp only
    repeat with_reducible first|(apply zS;intro _ R_;simp only [go_sem,↓reduceIte,f0,f2,f4,f6,f7,lb,hcb,hcb.symm];subst R_)|apply nS|apply rE
    refine aL (m:=j) (by omega) ⟨_,hs2,?_⟩
    simp only [go_sem,↓reduceIte,f0,f2,f4,f6,hqb,lq,hcb,hcb.symm,hcq,hcq.symm]
    exact (hl'.new (hl'.none hc0)).new hb
  obtain ⟨f0,f2,f4,f6,hl',lb,lq⟩:=hI
  subst hbq
  have hx':=hl' _ _ hx
  repeat with_reducible first|((first|apply zS|apply zC);intro _ R_;simp only [go_sem,↓reduceIte,f0,f2,f4,f6,hx',bz (n+1) (by omega)];subst R_)|(apply rN;subst hbq)|refine rG2 ?_|apply nS|refine rS fun bq hbq=>?_
  have hm:ax h' (upd h p Option.none):=fun i o hi=>by
   by_cases e:i=p
   ·subst e;rw [upd_same] at hi;cases hi
   ·rw [ae _ _ e] at hi;exact hl' i o hi
  have hm0:ax (upd h p Option.none) h0:=fun i o hi=>by
   by_cases e:i=p
   ·subst e;rw [hp0] at hi;cases hi
   ·rw [ae _ _ e];exact hV.less i o hi
  cases hbig:decide (n+1>4000)
  case true =>
   have hb1:n+1>4000:=by simpa using hbig
   try dsimp only
   repeat with_reducible first|(apply zS;intro _ R_;simp only [go_sem,↓reduceIte,f0,f2,f4,f6,hbig,ql];subst R_)|refine rG2 ?_
   refine p1 (pL (ax.refl _) (hpan _ dp ?_ ⟨(hm.new (upd_same _ _ _)).trans hm0,?_⟩))
   ·rw [Term.size];omega
   ·rw [upd_same,show n+1=4001 by omega]
  case false =>
   have hb1:¬ n+1>4000:=by simpa using hbig
   have hpr:b≠p:=fun e=>hpb e.symm
   have hqr:q≠p:=fun e=>hpq e.symm
   simp only [hbig]
   refine bM ?_
   apply rN;subst hbq
   repeat with_reducible refine ah fun bq hbq=>?_
   refine dB (fun τ' h''=>τ' 0=.ptr p 0∧τ' 2=.int .i64 deep∧τ' 4=.ptr b 0∧τ' 6=.ptr q 0∧h''=upd h' p (some (.cells [.list 8 (aM vs) vs.length tk,.int .i64 (n+1),.bool (dp||decide (deep>100))] 164))) ?_ fun τ h' hI=>?_
   ·cases hdp:dp
    all_goals
     repeat with_reducible first|(apply zS;intro _ R_;simp only [go_sem,↓reduceIte,f0,f2,f4,f6,hdp];subst R_)|refine rG2 ?_|apply nS
     refine aD ?_
     simp only [go_sem,↓reduceIte,f0,f2,f4,f6,hdp]
   clear f0 f2 f4 f6
   obtain ⟨f0,f2,f4,f6,rfl⟩:=hI
   subst hbq
   have sp:(upd h' p (some (AObj.cells [.list 8 (aM vs) vs.length tk,.int .i64 (n+1),.bool (dp||decide (deep>100))] 164))) p=some (.cells [.list 8 (aM vs) vs.length tk,.int .i64 (n+1),.bool (dp||decide (deep>100))] 164):=upd_same _ _ _
   have sb:(upd h' p (some (AObj.cells [.list 8 (aM vs) vs.length tk,.int .i64 (n+1),.bool (dp||decide (deep>100))] 164))) b=some (.cells (ay u) 27):=by rw [ae _ _ hpr];exact lb
   have sq:(upd h' p (some (AObj.cells [.list 8 (aM vs) vs.length tk,.int .i64 (n+1),.bool (dp||decide (deep>100))] 164))) q=some (.cells [.int .i64 0,.int .i64 0,.str aB,.list 0 [] 0 .nil] 27):=by rw [ae _ _ hqr];exact lq
   have hmH:ax (upd h' p (some (AObj.cells [.list 8 (aM vs) vs.length tk,.int .i64 (n+1),.bool (dp||decide (deep>100))] 164))) (upd h p Option.none):=hm.new (upd_same _ _ _)
   generalize upd h' p (some (AObj.cells [.list 8 (aM vs) vs.length tk,.int .i64 (n+1),.bool (dp||decide (deep>100))] 164))=H at *
   repeat with_reducible first|(apply zS;intro _ R_;simp only [go_sem,↓reduceIte,f0,f2,f4,f6,sb,sp,sq];subst R_)|refine rG2 ?_|refine rS fun bq hbq=>?_
   intro r hr
   have hrb:=aj hr sb
   have hrp:=aj hr sp
   have hrq:=aj hr sq
   repeat with_reducible first|(apply zS;intro _ R_;simp only [go_sem,↓reduceIte,f0,f2,f4,f6,sb,sp,sq,hrb,hrb.symm,hrp,hrp.symm,hrq,hrq.symm];subst R_)|(apply rN;subst hbq)|refine rG2 ?_|(refine rB fun cq hcq=>?_;subst hcq)|apply nS|refine rS fun bq hbq=>?_
   have hM:∀ x,x≠p→h x=Option.none→(upd h p Option.none) x=Option.none:=fun x hx hn=>by rw [ae _ _ hx];exact hn
   have hMp:(upd h p Option.none) p=Option.none:=upd_same _ _ _
   have hrM:(upd h p Option.none) r=Option.none:=hmH.none hr
   have hqM:(upd h p Option.none) q=Option.none:=hM q hqr e1.2
   generalize upd h p Option.none=M at *
   refine aT (fun kk τ h2=>∃ (i sz:Nat) (tok:Tok),kk+i=u.args.length∧τ 0=.ptr p 0∧τ 2=.int .i64 deep∧τ 6=.ptr q 0∧τ 9=.ptr r 0∧τ 76=.list 4 (encs u.args) u.args.length .none∧τ 77=.int .i64 u.args.length∧τ 78=.int .i64 i∧ax h2 M∧h2 p=some (.cells [.list 8 (aM vs) vs.length tk,.int .i64 (n+1+sizes (l.take i)),.bool (dp||decide (deep+depL (l.take i)>100))] 164)∧h2 q=some (.cells [.int .i64 0,.int .i64 0,.str aB,.list 0 [] 0 .nil] 27)∧h2 r=some (.cells [.int .i64 u.kind,.int .i64 u.n,.str u.name,.list sz (encs (l.take i)) i tok] 27)∧Grow 27 M h2 tok∧(i=0∨sz=4)∧n+1+sizes (l.take i)≤4000) u.args.length ?_ ?_
   ·refine ⟨0,0,.nil,rfl,?_⟩
    simp only [go_sem,↓reduceIte,f0,f2,f6,List.take_zero,bB,sizes,depL,sp,sq,hrp,hrp.symm,hrq,hrq.symm]
    refine ⟨rfl,hmH.new hrM,by simp,.inl (.inr rfl),?_⟩
    simp;omega
   intro c hc kk τ h2 hI
   clear f0 f2 f6
   obtain ⟨i,sz,tok,hk,f0,f2,f6,f9,f76,f77,f78,hl2,lp,lq2,lr,hg,hsz0,hn4⟩:=hI
   subst hc
   have hlen8:=hn.len
   by_cases hi:i<u.args.length
   ·obtain ⟨a,hau⟩:∃ a,u.args[i]?=some a:=⟨_,List.getElem?_eq_getElem hi⟩
    obtain ⟨w,hw⟩:∃ w,l[i]?=some w:=⟨_,List.getElem?_eq_getElem (by omega)⟩
    obtain ⟨rr,hrr⟩:=dD u.args i hau
    repeat with_reducible first|((first|apply zS|apply zC);intro _ R_;simp only [go_sem,↓reduceIte,f0,f2,f6,f9,f76,f77,f78,hi,hrr];subst R_)|(apply rN;subst hbq)|refine rG2 ?_|(refine rB fun cq hcq=>?_;subst hcq)|apply nS|refine rS fun bq hbq=>?_|apply rK
    intro x hx
    have hxp:=aj hx lp
    have hxr:=aj hx lr
    have hxq:=aj hx lq2
    repeat with_reducible first|(apply zS;intro _ R_;simp only [go_sem,↓reduceIte,f0,f2,f6,f9,f76,f77,f78,hi,hrr];subst R_)|(apply rN;subst hbq)|apply nS
    repeat with_reducible refine ah fun bq hbq=>?_
    refine bA (.take 0 (.take 1 (.take 2 (.take 3 (.take 4 (.take 5 (.one 6 [1] (.take 7 (.one 8 [] (.take 9 (.one 10 [] (.done)))))))))))) (by kernel_rfl) (by simp only [aF,gtOf,aA];exact rfl) ?_
    repeat ((first|(with_reducible apply iT;refine sT rfl ?_)|(with_reducible apply iO;refine sO rfl ?_));intro _ _ _ C_ R_ U_;simp only [go_sem,↓reduceIte,f0,f2,f6,f9,f76,f77,f78,lp,lr,lq2,hxp,hxp.symm,hxr,hxr.symm,hxq,hxq.symm,bz (deep+1) (by omega)];subst C_ R_ U_)
    have hl3:ax (upd h2 x (some (AObj.cells (ay a) 27))) M:=hl2.new (hl2.none hx)
    have lp3:(upd h2 x (some (AObj.cells (ay a) 27))) p=some (.cells [.list 8 (aM vs) vs.length tk,.int .i64 (n+1+sizes (l.take i)),.bool (dp||decide (deep+depL (l.take i)>100))] 164):=by rw [ae _ _ hxp];exact lp
    have lr3:(upd h2 x (some (AObj.cells (ay a) 27))) r=some (.cells [.int .i64 u.kind,.int .i64 u.n,.str u.name,.list sz (encs (l.take i)) i tok] 27):=by rw [ae _ _ hxr];exact lr
    have lq3:(upd h2 x (some (AObj.cells (ay a) 27))) q=some (.cells [.int .i64 0,.int .i64 0,.str aB,.list 0 [] 0 .nil] 27):=by rw [ae _ _ hxq];exact lq2
    have hg3:Grow 27 M (upd h2 x (some (AObj.cells (ay a) 27))) tok:=by
     rcases hg with e|⟨f,ef,hf,hf0⟩
     ·exact .inl e
     ·exact .inr ⟨f,ef,by rw [ae _ _ (aj hx hf)];exact hf,hf0⟩
    have hst:=JF hw
    have hsl:=BF l (i+1)
    have hdt:=NT hw
    have hin:inner u.kind d≤deep+1:=by unfold inner;split <;> omega
    refine ih i a w hau hw (n+1+sizes (l.take i)) (deep+1) _ p (upd (upd h2 x (some (AObj.cells (ay a) 27))) p Option.none) _ _ (by omega) hn4 (cz hd0) hin (by omega) (upd_same _ _ _) ⟨fun j o hj=>?_,lp3⟩ ?_ ?_
    ·by_cases e:j=p
     ·subst e;rw [upd_same] at hj;cases hj
     ·rw [ae _ _ e] at hj;exact hj
    ·intro h4 hsz4 hV4
     have hl4:ax h4 M:=fun j o hj=>hV4.less j o (by
      have e:j≠p:=fun e=>by subst e;rw [hMp] at hj;cases hj
      rw [ae _ _ e];exact hl3 j o hj)
     have lp4:=hV4.obj
     have lr4:=hV4.less r _ (by rw [ae _ _ hrp.symm];exact lr3)
     have lq4:=hV4.less q _ (by rw [ae _ _ hqr];exact lq3)
     have hg4:Grow 27 M h4 tok:=by
      rcases hg3 with e|⟨f,ef,hf,hf0⟩
      ·exact .inl e
      ·refine .inr ⟨f,ef,hV4.less f _ ?_,hf0⟩
       rw [ae _ _ (fun e=>by subst e;rw [lp3] at hf;cases hf)]
       exact hf
     try dsimp only
     repeat ((first|with_reducible apply sA|(with_reducible apply iT;refine sT rfl ?_)|(with_reducible apply i0;refine s0 rfl ?_));intro _ _ _ C_ R_ U_;simp only [go_sem,↓reduceIte,f0,f2,f6,f9,f76,f77,f78,lp4,lr4,lq4,ic];subst C_ R_ U_)
     refine aZ ?_
     simp only [go_sem,↓reduceIte]
     intro y hy
     obtain ⟨h5,ea,hg5,hl5,keep⟩:=iK ed ed je mD iy ⟨rfl,by decide⟩ (h0:=M) (h:=h4) (p:=y) hl4 hy (sz1:=sz) (c1:=encs (l.take i)) (n1:=i) (t:=tok) (c2:=ay w) (n2:=1) (t2:=.full) hg4 hsz0 (sz2:=4) rfl (by decide) (by omega)
     have r5:=keep r _ _ lr4
     have q5:=keep q _ _ lq4
     have p5':=keep p _ _ lp4
     simp only [ea,go_sem,↓reduceIte,f9,r5]
     repeat with_reducible first|(apply zS;intro _ R_;simp only [go_sem,↓reduceIte,f78,f9,r5,bz ((i:Int)+1) (by omega)];subst R_)|(apply rN;subst hbq)|refine rG2 ?_|apply nS|apply rE
     refine aL (m:=kk - 1) (by omega) ⟨i+1,4,.id y,by omega,?_⟩
     have htk:l.take (i+1)=l.take i++[w]:=by rw [List.take_add_one,hw];rfl
     have hflag:(dp||decide (deep+depL (l.take i)>100)||decide (deep+1+dep w - 1>100))=(dp||decide (deep+max (depL (l.take i)) (dep w)>100)):=by
      rw [Bool.or_assoc]
      congr 1
      rw [← Bool.decide_or]
      exact decide_eq_decide.2 (by omega)
     rw [hst,hdt,htk]
     simp only [go_sem,↓reduceIte,f0,f2,f6,f9,f76,f77,f78,NN,NM,hrp,hrp.symm,hrq,hrq.symm,p5',q5]
     refine ⟨rfl,hl5.new hrM,?_,?_,by simp,by omega⟩
     ·rw [hflag,show n+1+(sizes (l.take i):Int)+w.size=n+1+((sizes (l.take i)+w.size:Nat):Int) by omega]
     ·rcases hg5 with e|⟨f,ef,hf,hf0⟩
      ·rcases e with e|e <;> cases e
      ·injection ef with ef;subst ef
       exact .inr ⟨y,rfl,by rw [ae _ _ (by intro e;rw [e,r5] at hf;cases hf)];exact hf,hf0⟩
    ·intro h4 dp' hsz4 hV4
     have hl4:ax h4 M:=fun j o hj=>hV4.less j o (by
      have e:j≠p:=fun e=>by subst e;rw [hMp] at hj;cases hj
      rw [ae _ _ e];exact hl3 j o hj)
     dsimp only
     refine p4 (p1 (p3 (p4 (p1 (pL (ax.refl _) (hpan _ dp' ?_ ⟨hl4.trans hm0,hV4.obj⟩))))))
     rw [Term.size];omega
   ·have hlt:l.take i=l:=List.take_of_length_le (by omega)
    rw [hlt] at lp lr hn4
    have hi':i=l.length:=by omega
    repeat with_reducible first|((first|apply zS|apply zC);intro _ R_;simp only [go_sem,↓reduceIte,f0,f2,f6,f9,f76,f77,f78,hi,lr,lq2,hrq,hrq.symm];subst R_)|(apply rN;subst hbq)|refine rG2 ?_|(apply x1;clear hbq bq)|apply nS|refine rS fun bq hbq=>?_|apply rXx|apply rR|apply x3|apply x4
    refine df (v:=enc ⟨u.kind,u.n,u.name,l⟩) (by rw [Tryz.results123]) (ax.refl _) ?_ (hq _ ?_ ⟨(hl2.new hqM).trans hm0,?_⟩)
    ·simp only [go_sem,↓reduceIte,f6,aJ,Option.some.injEq,exists_eq_left']
     exact LeAV.agg (.cons (LeAV.refl _) (.cons (LeAV.refl _) (.cons (LeAV.refl _) (.cons (P5 hi'.symm hsz0) .nil))))
    ·rw [Term.size];omega
    ·rw [ae _ _ hpq,lp,Term.size,dep,show n+1+(sizes l:Int)=n+((sizes l+1:Nat):Int) by omega,show deep+(depL l+1) - 1=deep+depL l by omega]
def kC (v:Term):Int:=if (v.size:Int)>4000 then 2 else if dep v>100 then 5 else 0
def qG (v:Term):Term:=if kC v==0 then v else aG
theorem QX (cs:List AV) (n:Nat) (tk:Tok):dL Tryz.prog 164 [(0,.agg [.list 8 cs n tk])]=some (.agg [.list 8 cs n tk,.int .i64 0,.bool false]):=by
 simp only [dL,Rf,Rt,ik]
 rfl
theorem IE:LeAV (.agg [.int .i64 0,.int .i64 0,.str aB,.list 0 [] 0 .nil]) (enc aG):=by
 refine LeAV.agg (.cons (LeAV.refl _) (.cons (LeAV.refl _) (.cons (LeAV.refl _) (.cons ?_ .nil))))
 rw [show aG.args=[] from rfl,bB]
 exact LeAV.nil _ _ _
theorem oH {P:Program} {h:ai} {fn:Func} {Q:AOut→ai→Prop} {τ:Env} {rs:List ResultVar} {h':ai} (hr:fn.results.toList=rs) (hl:ax h h') (hs:∃ vs,jw P τ h rs=some vs∧Q (.ret (aJ vs)) h'):qC P fn Q .normal τ h:=by
 subst hr
 obtain ⟨vs,hv,hq⟩:=hs
 exact ⟨vs,hv,_,h',gF.of (LeAV.refl _) hl,hq⟩
theorem Ld (vs:List Va) (hvs:vs.length≤1000000) (tk:Tok) {t v:Term} (hv:Val vs 0 t v) (x c b o:Nat) (h0 h:ai) (hx0:h0 x=Option.none) (ho0:h0 o=Option.none) (hc:h c=some (.cells [.ptr x 0] 162)) (hb:h b=some (.cells (ay t) 27)) (ho:h o=some (.cells [.int .i64 0,.int .i64 0,.str aB,.list 0 [] 0 .nil] 27))
  (hx:h x=some (.cells [.list 8 (aM vs) vs.length tk,.int .i64 0,.bool false] 164)) (hl:ax h h0) (Q:AOut→ai→Prop)
  (hq:∀ h2 N,(v.size:Int)≤4000→ax h2 h0→h2 o=some (.cells (ay v) 27)→h2 x=some (.cells [.list 8 (aM vs) vs.length tk,.int .i64 N,.bool (decide (dep v>100))] 164)→Q (.ret (.tuple [])) h2)
  (hp:∀ h2,(v.size:Int)>4000→ax h2 h0→Q (.panic (.iface 152 (.agg [.int .i64 2]))) h2):az Tryz.prog 122 [.ptr c 0,.ptr b 0,.ptr o 0] h Q:=by
 have hxo:x≠o:=fun e=>by subst e;rw [hx] at ho;injection ho with ho;injection ho with _ ho;cases ho
 refine eN Tryz.func122 ?_
 repeat with_reducible first|(apply zS;intro _ R_;simp only [go_sem,↓reduceIte,hc,hb];subst R_)|refine rG2 ?_
 have hself:ax h (upd h x Option.none):=fun j y hj=>by
  by_cases e:j=x
  ·subst e;rw [upd_same] at hj;cases hj
  ·rw [ae _ _ e] at hj;exact hj
 have h0x:ax (upd h x Option.none) h0:=fun j y hj=>by
  have e:j≠x:=fun e=>by subst e;rw [hx0] at hj;cases hj
  rw [ae _ _ e];exact hl j y hj
 refine OY vs hvs tk hv 0 1 false x (upd h x Option.none) _ _ (by decide) (by decide) (Int.le_refl _) (by decide) (by decide) (upd_same _ _ _) ⟨hself,hx⟩ ?_ ?_
 ·intro h2 hsz hV
  have ho2:=hV.less o _ (by rw [ae _ _ hxo.symm];exact ho)
  have hx2:=hV.obj
  try dsimp only
  repeat with_reducible first|(apply zS;intro _ R_;simp only [go_sem,↓reduceIte,ho2];subst R_)|apply nS
  refine oH (by rw [Tryz.results122]) (ax.refl _) ⟨[],rfl,hq _ (v.size:Int) (by omega) ((hV.less.trans h0x).new ho0) (upd_same _ _ _) ?_⟩
  rw [ae _ _ hxo,hx2,Bool.false_or,show 1+dep v - 1=dep v by omega,Int.zero_add]
 ·intro h2 dp hsz hV
  dsimp only
  exact pL (ax.refl _) (hp h2 (by omega) (hV.less.trans h0x))
theorem O1 (vs:List Va) (hvs:vs.length≤1000000) (tk:Tok) {t v:Term} (hv:Val vs 0 t v) (h:ai) (Q:AOut→ai→Prop) (hq:Q (.ret (.tuple [enc (qG v),.int .i64 (kC v)])) h) :
  az Tryz.prog 75 [.agg [.list 8 (aM vs) vs.length tk],enc t] h Q:=by
 refine eN Tryz.func75 ?_
 repeat with_reducible first|(apply zS;intro _ R_;simp only [go_sem,↓reduceIte];subst R_)|refine rG2 ?_|refine rS fun bq hbq=>?_
 intro a ha
 repeat with_reducible (apply zS;intro _ R_;simp only [go_sem,↓reduceIte];subst R_)
 intro b hb
 have e1:=aQ hb
 repeat with_reducible (apply zS;intro _ R_;simp only [go_sem,↓reduceIte,e1.1,e1.1.symm];subst R_)
 intro q hq'
 have e2:=aQ hq'
 have e3:=aQ e2.2
 repeat with_reducible first|(apply zS;intro _ R_;simp only [go_sem,↓reduceIte,e1.1,e1.1.symm,e2.1,e2.1.symm,e3.1,e3.1.symm,QX];subst R_)|(apply rN;subst hbq)|refine rG2 ?_|apply nS|refine rS fun bq hbq=>?_
 intro x hx0
 have hx:upd (upd (upd h a (some (AObj.cells [.list 8 (aM vs) vs.length tk] 24))) b (some (AObj.cells (ay t) 27))) q (some (AObj.cells [.int .i64 0,.int .i64 0,.str ⟨#[]⟩,.list 0 [] 0 .nil] 27)) x=Option.none:=hx0
 have sb:upd (upd (upd h a (some (AObj.cells [.list 8 (aM vs) vs.length tk] 24))) b (some (AObj.cells (ay t) 27))) q (some (AObj.cells [.int .i64 0,.int .i64 0,.str ⟨#[]⟩,.list 0 [] 0 .nil] 27)) b=some (.cells (ay t) 27):=by rw [ae _ _ e2.1.symm,upd_same]
 have sq:upd (upd (upd h a (some (AObj.cells [.list 8 (aM vs) vs.length tk] 24))) b (some (AObj.cells (ay t) 27))) q (some (AObj.cells [.int .i64 0,.int .i64 0,.str ⟨#[]⟩,.list 0 [] 0 .nil] 27)) q=some (AObj.cells [.int .i64 0,.int .i64 0,.str ⟨#[]⟩,.list 0 [] 0 .nil] 27):=upd_same _ _ _
 have fin:ax (upd (upd (upd h a (some (AObj.cells [.list 8 (aM vs) vs.length tk] 24))) b (some (AObj.cells (ay t) 27))) q (some (AObj.cells [.int .i64 0,.int .i64 0,.str ⟨#[]⟩,.list 0 [] 0 .nil] 27))) h:=(((ax.refl h).new ha).new e1.2).new e3.2
 clear hx0
 generalize upd (upd (upd h a (some (AObj.cells [.list 8 (aM vs) vs.length tk] 24))) b (some (AObj.cells (ay t) 27))) q (some (AObj.cells [.int .i64 0,.int .i64 0,.str ⟨#[]⟩,.list 0 [] 0 .nil] 27))=H at *
 have hxb:=aj hx sb
 have hxq:=aj hx sq
 repeat with_reducible (apply zS;intro _ R_;simp only [go_sem,↓reduceIte,sb,sq,hxb,hxb.symm,hxq,hxq.symm];subst R_)
 intro c hc0
 have hc1:=aQ hc0
 have hcx:=hc1.1
 have hcb:=aj hc1.2 sb
 have hcq:=aj hc1.2 sq
 repeat with_reducible first|(apply zS;intro _ R_;simp only [go_sem,↓reduceIte,sb,sq,hxb,hxb.symm,hxq,hxq.symm,hcx,hcx.symm,hcb,hcb.symm,hcq,hcq.symm];subst R_)|(apply rN;subst hbq)|refine rG2 ?_|apply nS|refine rS fun bq hbq=>?_
 intro o ho0
 have ho1:=aQ ho0
 have ho2:=aQ ho1.2
 have hob:=aj ho2.2 sb
 have hoq:=aj ho2.2 sq
 have hoc:=ho1.1
 have hox:=ho2.1
 repeat with_reducible first|(apply zS;intro _ R_;simp only [go_sem,↓reduceIte,sb,sq,hxb,hxb.symm,hxq,hxq.symm,hcx,hcx.symm,hcb,hcb.symm,hcq,hcq.symm,hob,hob.symm,hoq,hoq.symm,hoc,hoc.symm,hox,hox.symm];subst R_)|(apply rN;subst hbq)|refine rG2 ?_|apply nS|refine rS fun bq hbq=>?_
 have tx:upd (upd (upd H x (some (AObj.cells [.list 8 (aM vs) vs.length tk,.int .i64 0,.bool false] 164))) c (some (AObj.cells [.ptr x 0] 162))) o (some (AObj.cells [.int .i64 0,.int .i64 0,.str ⟨#[]⟩,.list 0 [] 0 .nil] 27)) x=some (.cells [.list 8 (aM vs) vs.length tk,.int .i64 0,.bool false] 164):=by rw [ae _ _ hox.symm,ae _ _ hcx.symm,upd_same]
 have tc:upd (upd (upd H x (some (AObj.cells [.list 8 (aM vs) vs.length tk,.int .i64 0,.bool false] 164))) c (some (AObj.cells [.ptr x 0] 162))) o (some (AObj.cells [.int .i64 0,.int .i64 0,.str ⟨#[]⟩,.list 0 [] 0 .nil] 27)) c=some (.cells [.ptr x 0] 162):=by rw [ae _ _ hoc.symm,upd_same]
 have to_:upd (upd (upd H x (some (AObj.cells [.list 8 (aM vs) vs.length tk,.int .i64 0,.bool false] 164))) c (some (AObj.cells [.ptr x 0] 162))) o (some (AObj.cells [.int .i64 0,.int .i64 0,.str ⟨#[]⟩,.list 0 [] 0 .nil] 27)) o=some (AObj.cells [.int .i64 0,.int .i64 0,.str ⟨#[]⟩,.list 0 [] 0 .nil] 27):=upd_same _ _ _
 have tH:ax (upd (upd (upd H x (some (AObj.cells [.list 8 (aM vs) vs.length tk,.int .i64 0,.bool false] 164))) c (some (AObj.cells [.ptr x 0] 162))) o (some (AObj.cells [.int .i64 0,.int .i64 0,.str ⟨#[]⟩,.list 0 [] 0 .nil] 27))) H:=(((ax.refl H).new hx).new hc1.2).new ho2.2
 clear hc0 ho0
 generalize upd (upd (upd H x (some (AObj.cells [.list 8 (aM vs) vs.length tk,.int .i64 0,.bool false] 164))) c (some (AObj.cells [.ptr x 0] 162))) o (some (AObj.cells [.int .i64 0,.int .i64 0,.str ⟨#[]⟩,.list 0 [] 0 .nil] 27))=H1 at *
 have tb:=tH _ _ sb
 have tq:=tH _ _ sq
 have hxo:x≠o:=fun e=>hox e.symm
 have key:az Tryz.prog 59 [.func (.func 122) [] [.ptr c 0,.ptr b 0,.ptr o 0]] H1 fun out h3=>ax h3 (upd (upd H1 x Option.none) o Option.none) ∧
   (((v.size:Int)≤4000∧out=.ret (.tuple [.bool true,.int .i64 0])∧h3 o=some (.cells (ay v) 27)∧∃ N,h3 x=some (.cells [.list 8 (aM vs) vs.length tk,.int .i64 N,.bool (decide (dep v>100))] 164))∨((v.size:Int)>4000∧out=.ret (.tuple [.bool false,.int .i64 2]))):=by
  refine vL ?_
  intro A B h1 hA hB hAB hh1
  have hAx:=aj hA tx
  have hAo:=aj hA to_
  have hBx:=aj hB tx
  have hBo:=aj hB to_
  have hA':h1 A=some (.cells [.bool false] 4):=by rw [hh1,ae _ _ hAB,upd_same]
  have hB':h1 B=some (.cells [.int .i64 0] 30):=by rw [hh1,upd_same]
  have hl1:ax h1 H1:=by rw [hh1];exact ((ax.refl H1).new hA).new hB
  have ux:=hl1 _ _ tx
  have uc:=hl1 _ _ tc
  have uo:=hl1 _ _ to_
  have ub:=hl1 _ _ tb
  have e2:∀ j y,(upd (upd h1 x Option.none) o Option.none) j=some y→h1 j=some y:=fun j y hj=>by
   by_cases e:j=o
   ·subst e;rw [upd_same] at hj;cases hj
   ·rw [ae _ _ e] at hj
    by_cases e3:j=x
    ·subst e3;rw [upd_same] at hj;cases hj
    ·rw [ae _ _ e3] at hj;exact hj
  have hAk:(upd (upd h1 x Option.none) o Option.none) A=some (.cells [.bool false] 4):=by rw [ae _ _ hAo.symm,ae _ _ hAx.symm];exact hA'
  have hBk:(upd (upd h1 x Option.none) o Option.none) B=some (.cells [.int .i64 0] 30):=by rw [ae _ _ hBo.symm,ae _ _ hBx.symm];exact hB'
  have hK:∀ h2:ai,ax h2 (upd (upd h1 x Option.none) o Option.none)→ax (upd (upd h2 A Option.none) B Option.none) (upd (upd H1 x Option.none) o Option.none):=fun h2 hl2 j y hj=>by
   have ej:j≠o:=fun e=>by subst e;rw [upd_same] at hj;cases hj
   rw [ae _ _ ej] at hj
   have ex:j≠x:=fun e=>by subst e;rw [upd_same] at hj;cases hj
   rw [ae _ _ ex] at hj
   have eA:j≠A:=fun e=>by subst e;rw [hA] at hj;cases hj
   have eB:j≠B:=fun e=>by subst e;rw [hB] at hj;cases hj
   rw [ae _ _ eB,ae _ _ eA]
   exact hl2 j y (by rw [ae _ _ ej,ae _ _ ex];exact hl1 j y hj)
  have hless:∀ h2:ai,ax h2 (upd (upd h2 A Option.none) B Option.none):=fun h2 j y hj=>by
   by_cases e:j=B
   ·subst e;rw [upd_same] at hj;cases hj
   ·rw [ae _ _ e] at hj
    by_cases e3:j=A
    ·subst e3;rw [upd_same] at hj;cases hj
    ·rw [ae _ _ e3] at hj;exact hj
  refine Ld vs hvs tk hv x c b o (upd (upd h1 x Option.none) o Option.none) h1 (by rw [ae _ _ hxo,upd_same]) (upd_same _ _ _) uc ub uo ux (fun j y hj=>e2 j y hj) _ ?_ ?_
  ·intro h2 N hsz hl2 ho2 hx2
   refine ⟨hl2 _ _ hAk,hl2 _ _ hBk,upd (upd h2 A Option.none) B Option.none,hless h2,by rw [ae _ _ hAB,upd_same],upd_same _ _ _,hK h2 hl2,.inl ⟨hsz,rfl,?_,N,?_⟩⟩
   ·rw [ae _ _ hBo,ae _ _ hAo];exact ho2
   ·rw [ae _ _ hBx,ae _ _ hAx];exact hx2
  ·intro h2 hsz hl2
   exact ⟨hl2 _ _ hAk,hl2 _ _ hBk,upd (upd h2 A Option.none) B Option.none,hless h2,by rw [ae _ _ hAB,upd_same],upd_same _ _ _,2,rfl,hK h2 hl2,.inr ⟨hsz,rfl⟩⟩
 refine az.mono key ?_
 intro out h3 hk3
 obtain ⟨hl3,hk3⟩:=hk3
 have vc:=hl3 c _ (by rw [ae _ _ hoc.symm,ae _ _ hcx];exact tc)
 have vq:=hl3 q _ (by rw [ae _ _ hoq,ae _ _ hxq];exact tq)
 have fin3:ax h3 h:=(show ax h3 H from fun j y hj=>hl3 j y (by
  have ex:j≠x:=fun e=>by subst e;rw [hx] at hj;cases hj
  have eo:j≠o:=fun e=>by subst e;rw [ho2.2] at hj;cases hj
  rw [ae _ _ eo,ae _ _ ex];exact tH j y hj)).trans fin
 rcases hk3 with ⟨hsz,rfl,vo,N,vx⟩|⟨hsz,rfl⟩
 ·cases hd:decide (dep v>100)
  ·rw [hd] at vx
   have:¬ dep v>100:=by simpa using hd
   have he:kC v=0:=by unfold kC;rw [if_neg (by omega),if_neg (by omega)]
   have ho:qG v=v:=by unfold qG;rw [he];rfl
   rw [he,ho] at hq
   try dsimp only
   repeat first|(with_reducible first|((first|apply zS|apply zC);intro _ R_;simp only [go_sem,↓reduceIte,vc,vq,vo,vx];subst R_)|(apply rN;subst hbq)|refine rG2 ?_|apply nS|refine rS fun bq hbq=>?_|apply rK|apply rR)|(with_reducible apply iL;refine rL (by rw [Tryz.results75]) (fin3.new e3.2) ?_;simp only [go_sem,↓reduceIte,aJ,Option.some.injEq,exists_eq_left',vc,vq,vo,vx])
   exact hq
  ·rw [hd] at vx
   have:dep v>100:=by simpa using hd
   have he:kC v=5:=by unfold kC;rw [if_neg (by omega),if_pos (by omega)]
   have ho:qG v=aG:=by unfold qG;rw [he];rfl
   rw [he,ho] at hq
   try dsimp only
   repeat with_reducible first|((first|apply zS|apply zC);intro _ R_;simp only [go_sem,↓reduceIte,vc,vq,vo,vx,Bd];subst R_)|(apply rN;subst hbq)|refine rG2 ?_|(apply r1;clear hbq bq)|apply nS|refine rS fun bq hbq=>?_|apply rK|apply rR
   refine df (v:=.tuple [enc aG,.int .i64 5]) (by rw [Tryz.results75]) (fin3.new e3.2) ?_ hq
   simp only [go_sem,↓reduceIte,aJ,Option.some.injEq,exists_eq_left']
   exact LeAV.tuple (.cons IE (.cons (LeAV.refl _) .nil))
 ·have he:kC v=2:=by unfold kC;rw [if_pos hsz]
  have ho:qG v=aG:=by unfold qG;rw [he];rfl
  rw [he,ho] at hq
  try dsimp only
  repeat with_reducible first|((first|apply zS|apply zC);intro _ R_;simp only [go_sem,↓reduceIte,vc,vq,Bd];subst R_)|(apply rN;subst hbq)|refine rG2 ?_|(apply r1;clear hbq bq)|apply nS|refine rS fun bq hbq=>?_|apply rR
  refine df (v:=.tuple [enc aG,.int .i64 2]) (by rw [Tryz.results75]) (fin3.new e3.2) ?_ hq
  simp only [go_sem,↓reduceIte,aJ,Option.some.injEq,exists_eq_left']
  exact LeAV.tuple (.cons IE (.cons (LeAV.refl _) .nil))
def fitAll (vs:List Va) (t:Term):Int:=if bi vs==0 then fP vs t else bi vs
theorem AB {vs:List Va} {t:Term}:fitAll vs t=0↔bi vs=0∧il t=0∧aK vs t 0=true:=by
 unfold fitAll fP
 constructor
 ·intro h
  split at h
  ·rename_i h1
   split at h
   ·rename_i h2
    split at h
    ·rename_i h3
     exact ⟨by simpa using h1,by simpa using h2,h3⟩
    ·cases h
   ·rename_i h2
    exact absurd h (by simpa using h2)
  ·rename_i h1
   exact absurd h (by simpa using h1)
 ·rintro ⟨h1,h2,h3⟩
  simp [h1,h2,h3]
theorem Pg {v:Term} (h1:(v.size:Int)≤4000) (h2:dep v≤100):il v=0:=by
 unfold il
 rw [if_neg,if_neg]
 ·rw [(Kb v.size).1 v 100 (Nat.le_refl _)];omega
 ·intro h;have:=(DW v 4000).1 h;omega
section
variable {σ:Type} (step:σ→Term→σ)
end
end Go.Proofs.YthkjmiejaoomcaaGreat.Am
