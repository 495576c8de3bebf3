/- Part of the proof of a law of layer 5: own texts, joined. -/
import Derived.Test.YthkjmiejaoomcaaGreatVb
import Derived.Test.YthkjmiejaoomcaaGreatVg
import Derived.Test.YthkjmiejaoomcaaGreatVi
import Derived.Test.YthkjmiejaoomcaaGreatVh
set_option linter.unusedVariables false
set_option linter.unusedSimpArgs false
set_option linter.unnecessarySimpa false
namespace Go.Proofs.YthkjmiejaoomcaaGreat.Am
open Go Go.RowKit Go.Proofs
set_option linter.unusedVariables false
set_option linter.unusedSimpArgs false
set_option maxRecDepth 100000
set_option maxHeartbeats 1000000
attribute [go_sem] KC bne decide_true decide_false Nat.mul_one Le beq_self_eq_true Int.reduceBEq Int.reduceLT Int.reduceLE
def Fu {σ:Type} (step:σ→Term→Bool × σ):List Term→σ→Bool × σ
 |[],s=>(false,s)
 |u::l,s=>if (step s u).1 then (true,(step s u).2) else Fu step l (step s u).2
def ixSt {σ:Type} (step:σ→Term→Bool × σ):List Term→Int→σ→Int × σ
 |[],i,s=>(-1,s)
 |u::l,i,s=>if (step s u).1 then (i,(step s u).2) else ixSt step l (i+1) (step s u).2
theorem IL {σ:Type} (step:σ→Term→Bool × σ):∀ (l:List Term) (i:Int) (s:σ),0≤i→(Fu step l s)=(decide ((ixSt step l i s).1≥0),(ixSt step l i s).2)
 |[],i,s,_=>rfl
 |u::l,i,s,hi=>by
  rw [Fu,ixSt]
  cases hf:(step s u).1
  ·simp only [Bool.false_eq_true,if_false];exact IL step l (i+1) _ (by omega)
  ·simp only [if_true];rw [show decide (i≥0)=true by simpa using hi]
def RU {σ:Type} (g:FuncId) (first cap:List AV) (l:List Term) (R:σ→ai→Prop) (step:σ→Term→Bool × σ):Prop :=
 ∀ (i:Nat) (u:Term) (s:σ),l[i]?=some u→∀ (h':ai) (Q:AOut→ai→Prop),R s h'→(∀ h2,R (step s u).2 h2→Q (.ret (.bool (step s u).1)) h2)→az Tryz.prog g (first++[enc u]++cap) h' Q
theorem Cr {σ:Type} (l:List Term) (g:FuncId) (first cap:List AV) (R:σ→ai→Prop) (step:σ→Term→Bool × σ) (s0:σ) (h:ai) (Q:AOut→ai→Prop) (hl:l.length≤1000000000)
  (hs:RU g first cap l R step) (h0:R s0 h) (hq:∀ h1,R (ixSt step l 0 s0).2 h1→Q (.ret (.int .i64 (ixSt step l 0 s0).1)) h1) :
  az Tryz.prog 153 [.list 4 (encs l) l.length .none,.func (.func g) first cap] h Q:=by
 refine eN Tryz.func153 ?_
 repeat with_reducible first|(apply zS;intro _ R_;simp only [go_sem,↓reduceIte];subst R_)|(apply rN;subst hbq)|refine rG2 ?_|(refine rB fun cq hcq=>?_;subst hcq)|apply nS|refine rS fun bq hbq=>?_
 refine aT (fun k τ h'=>∃ (i:Nat) (s:σ),k+i=l.length∧τ 0=.list 4 (encs l) l.length .none∧τ 1=.func (.func g) first cap∧τ 7=.int .i64 l.length∧τ 8=.int .i64 i∧R s h'∧ixSt step (l.drop i) i s=ixSt step l 0 s0) l.length ?_ ?_
 ·refine ⟨0,s0,rfl,?_⟩
  simp only [go_sem,↓reduceIte]
  exact ⟨rfl,h0,rfl⟩
 ·intro c hc k τ h' hI
  obtain ⟨i,s,hk,e0,e1,e7,e8,hR,hix⟩:=hI
  subst hc
  by_cases hi:i<l.length
  ·obtain ⟨u,hu⟩:∃ u,l[i]?=some u:=⟨_,List.getElem?_eq_getElem hi⟩
   obtain ⟨r,hr⟩:=dD l i hu
   have hdrop:l.drop i=u::l.drop (i+1):=by
    rw [List.drop_eq_getElem_cons hi]
    rw [List.getElem?_eq_getElem hi] at hu;injection hu with hu;rw [hu]
   rw [hdrop,ixSt] at hix
   repeat with_reducible first|((first|apply zS|apply zC);intro _ R_;simp only [go_sem,↓reduceIte,e0,e1,e7,e8,hi,hr];subst R_)|(apply rN;subst hbq)|refine rG2 ?_|(refine rB fun cq hcq=>?_;subst hcq)|apply nS|refine rS fun bq hbq=>?_|apply rK
   refine hs i u s hu _ _ hR (fun h2 hR2=>?_)
   cases hf:(step s u).1
   ·simp only [hf,Bool.false_eq_true,if_false] at hix
    try dsimp only
    repeat with_reducible first|((first|apply zS|apply zC);intro _ R_;simp only [go_sem,↓reduceIte,e0,e1,e7,e8,hi,hr,bz ((i:Int)+1) (by omega)];subst R_)|(apply rN;subst hbq)|refine rG2 ?_|apply nS|apply rK|apply rE
    refine aL (m:=k - 1) (by omega) ⟨i+1,(step s u).2,by omega,?_⟩
    simp only [go_sem,↓reduceIte,e0,e1,e7]
    exact ⟨rfl,hR2,hix⟩
   ·simp only [hf,if_true] at hix
    rw [← hix] at hq
    try dsimp only
    repeat first|(with_reducible first|((first|apply zS|apply zC);intro _ R_;simp only [go_sem,↓reduceIte,e0,e1,e7,e8,hi,hr];subst R_)|(apply rN;subst hbq)|refine rG2 ?_|(apply r1;clear hbq bq)|apply nS|refine rS fun bq hbq=>?_|apply rR|apply r3|apply r4)|(with_reducible apply iL;refine rL (by rw [Tryz.results153]) (ax.refl _) ?_;simp only [go_sem,↓reduceIte,aJ,Option.some.injEq,exists_eq_left',e0,e1,e7,e8,hi,hr])
    exact hq _ hR2
  ·rw [List.drop_eq_nil_of_le (by omega),ixSt] at hix
   rw [← hix] at hq
   repeat first|(with_reducible first|((first|apply zS|apply zC);intro _ R_;simp only [go_sem,↓reduceIte,e0,e1,e7,e8,hi];subst R_)|(apply rN;subst hbq)|refine rG2 ?_|(apply x1;clear hbq bq)|apply nS|refine rS fun bq hbq=>?_|apply rXx|apply rR|apply x3|apply x4)|(with_reducible apply iL;refine rL (by rw [Tryz.results153]) (ax.refl _) ?_;simp only [go_sem,↓reduceIte,aJ,Option.some.injEq,exists_eq_left',e0,e1,e7,e8,hi])
   exact hq _ hR
theorem wI {σ:Type} (l:List Term) (g:FuncId) (first cap:List AV) (R:σ→ai→Prop) (step:σ→Term→Bool × σ) (s0:σ) (h:ai) (Q:AOut→ai→Prop) (hl:l.length≤1000000000)
  (hs:RU g first cap l R step) (h0:R s0 h) (hq:∀ h1,R (Fu step l s0).2 h1→Q (.ret (.bool (Fu step l s0).1)) h1) :
  az Tryz.prog 121 [.list 4 (encs l) l.length .none,.func (.func g) first cap] h Q:=by
 rw [IL step l 0 s0 (by decide)] at hq
 refine eN Tryz.func121 ?_
 repeat with_reducible first|(apply zS;intro _ R_;simp only [go_sem,↓reduceIte];subst R_)|(apply rN;subst hbq)|refine rG2 ?_|apply nS|refine rS fun bq hbq=>?_
 refine Cr l g first cap R step s0 h _ hl hs h0 (fun h1 hR=>?_)
 try dsimp only
 repeat first|(with_reducible first|(apply zS;intro _ R_;simp only [go_sem,↓reduceIte];subst R_)|(apply rN;subst hbq)|apply nS|apply rR)|(with_reducible apply iL;refine rL (by rw [Tryz.results121]) (ax.refl _) ?_;simp only [go_sem,↓reduceIte,aJ,Option.some.injEq,exists_eq_left'])
 exact hq _ hR
theorem nX (r:Option (List ByteArray)):Ox r=.tuple [.list 1 (encS (r.getD [])) (r.getD []).length .none,.bool r.isSome]:=by cases r <;> rfl
theorem yF {α:Type} {c:α→List AV} {z:Nat} (hz:∀ x,(c x).length=z):∀ (k:Nat) (l:List α),(l.flatMap c).take (k * z)=(l.take k).flatMap c
 |0,l=>by simp
 |k+1,[]=>by simp
 |k+1,x::l=>by
  rw [List.flatMap_cons,List.take_succ_cons,List.flatMap_cons,← yF hz k l,List.take_append,hz,List.take_of_length_le (by rw [hz,Nat.add_mul];omega),show (k+1) * z - z=k * z by rw [Nat.add_mul];omega]
theorem GN (l:List Term) (i:Nat):(encs l).take (i * 4)=encs (l.take i):=by
 rw [dh,dh];exact yF (c:=ay) (z:=4) (fun _=>rfl) i l
theorem Pf (l:List Term) (i:Nat) (hi:i≤l.length):zq Tryz.prog 25 (.list 4 (encs l) l.length .none) Option.none (some (.int .i64 i)) Option.none=some (.list 4 (encs (l.take i)) (l.take i).length .none):=by
 have h1:((i:Int) - 0).toNat=i:=by omega
 simp only [zq,ed,je,iF]
 rw [if_pos ⟨.inr trivial,Int.le_refl _,by omega,by omega⟩,h1,show ((0:Int).toNat * 4)=0 from rfl,List.drop_zero,GN,List.length_take,Nat.min_eq_left hi]
 rfl
def oO (lv:Int) (pre:List Term) (u:Term):Bool:=bF u&&(!(u.kind==3&&decide (u.n<lv))&&!(pre.any fun b=>isF u b))
def lH (lv:Int):List Term→List Term→Bool
 |_,[]=>true
 |pre,u::us=>oO lv pre u&&lH lv (pre++[u]) us
def aX (t:Ty):Nat:=((fU t).getD []).length
def dx (v:Va) (l:List Term):Bool:=(aX v.type:Int)==l.length&&lH v.level [] l
theorem Ew (v:Va) (l:List Term) (h:ai) (Q:AOut→ai→Prop) (hl:l.length≤1000000000) (hq:Q (.ret (.bool (dx v l))) h):az Tryz.prog 125 [encV v,.list 4 (encs l) l.length .none] h Q:=by
 refine eN Tryz.func125 ?_
 repeat with_reducible first|(apply zS;intro _ R_;simp only [go_sem,↓reduceIte];subst R_)|refine rG2 ?_|refine rS fun bq hbq=>?_
 intro p hp
 have fin:ax (upd h p (some (.cells (bO v) 62))) h:=(ax.refl h).new hp
 repeat with_reducible first|(apply zS;intro _ R_;simp only [go_sem,↓reduceIte];subst R_)|(apply rN;subst hbq)|refine rG2 ?_|apply nS|refine rS fun bq hbq=>?_
 refine rP v.type _ _ ?_
 rw [nX]
 cases hc:((aX v.type:Int)==l.length)
 ·have hc':((((fU v.type).getD []).length:Int)==(l.length:Int))=false:=hc
  rw [dx,hc,Bool.false_and] at hq
  try dsimp only
  repeat first|(with_reducible first|((first|apply zS|apply zC);intro _ R_;simp only [go_sem,↓reduceIte,hc'];subst R_)|(apply rN;subst hbq)|refine rG2 ?_|(apply r1;clear hbq bq)|apply nS|refine rS fun bq hbq=>?_|apply rR)|(with_reducible apply iL;refine rL (by rw [Tryz.results125]) fin ?_;simp only [go_sem,↓reduceIte,aJ,Option.some.injEq,exists_eq_left',hc'])
  exact hq
 ·have hc':((((fU v.type).getD []).length:Int)==(l.length:Int))=true:=hc
  rw [dx,hc,Bool.true_and] at hq
  try dsimp only
  repeat with_reducible first|((first|apply zS|apply zC);intro _ R_;simp only [go_sem,↓reduceIte,hc'];subst R_)|(apply rN;subst hbq)|refine rG2 ?_|(refine rB fun cq hcq=>?_;subst hcq)|apply nS|refine rS fun bq hbq=>?_|apply rK
  have hp1:(upd h p (some (AObj.cells (bO v) 62))) p=some (.cells (bO v) 62):=upd_same _ _ _
  generalize upd h p (some (AObj.cells (bO v) 62))=H at *
  refine aT (fun k τ h'=>∃ i:Nat,k+i=l.length∧τ 1=.list 4 (encs l) l.length .none∧τ 2=.ptr p 0∧τ 20=.list 4 (encs l) l.length .none∧τ 21=.int .i64 l.length∧τ 22=.int .i64 i∧ax h' H∧lH v.level (l.take i) (l.drop i)=lH v.level [] l) l.length ?_ ?_
  ·refine ⟨0,rfl,?_⟩
   simp only [go_sem,↓reduceIte]
   exact ⟨rfl,ax.refl _⟩
  ·intro c hcc k τ h2 hI
   obtain ⟨i,hk,e1,e2,e20,e21,e22,hl2,hix⟩:=hI
   subst hcc
   have lp:=hl2 _ _ hp1
   by_cases hi:i<l.length
   ·obtain ⟨u,hu⟩:∃ u,l[i]?=some u:=⟨_,List.getElem?_eq_getElem hi⟩
    obtain ⟨r,hr⟩:=dD l i hu
    have hdrop:l.drop i=u::l.drop (i+1):=by
     rw [List.drop_eq_getElem_cons hi]
     rw [List.getElem?_eq_getElem hi] at hu;injection hu with hu;rw [hu]
    have htk:l.take (i+1)=l.take i++[u]:=by rw [List.take_add_one,hu];rfl
    rw [hdrop,lH,← htk] at hix
    have hsl:=Pf l i (by omega)
    repeat with_reducible first|((first|apply zS|apply zC);intro _ R_;simp only [go_sem,↓reduceIte,e20,e21,e22,hi,hr];subst R_)|(apply rN;subst hbq)|refine rG2 ?_|(refine rB fun cq hcq=>?_;subst hcq)|apply nS|refine rS fun bq hbq=>?_|apply rK
    intro w hw
    have wp:=aj hw lp
    have hl3:ax (upd h2 w (some (.cells (ay u) 27))) h:=((ax.one hw).trans hl2).trans fin
    repeat with_reducible first|(apply zS;intro _ R_;simp only [go_sem,↓reduceIte];subst R_)|(apply rN;subst hbq)|refine rG2 ?_|apply nS|refine rS fun bq hbq=>?_
    refine Gv u _ _ ?_
    have hst:oO v.level (l.take i) u=false→Q (.ret (.bool false)) h:=fun e=>by
     rw [e,Bool.false_and] at hix;rw [← hix] at hq;exact hq
    cases hs:bF u
    ·try dsimp only
     repeat first|(with_reducible first|((first|apply zS|apply zC);intro _ R_;simp only [go_sem,↓reduceIte,e1,e2,e20,e21,e22,wp,lp,hs];subst R_)|(apply rN;subst hbq)|refine rG2 ?_|(apply r1;clear hbq bq)|apply nS|refine rS fun bq hbq=>?_|apply rR|apply r3|apply r4)|(with_reducible apply iL;refine rL (by rw [Tryz.results125]) hl3 ?_;simp only [go_sem,↓reduceIte,aJ,Option.some.injEq,exists_eq_left',e1,e2,e20,e21,e22,wp,lp,hs])
     exact hst (by simp only [oO,hs,Bool.false_and])
    cases hv3:(u.kind==3&&decide (u.n<v.level))
    case true =>
     have hv1:=(Bool.and_eq_true_iff.1 hv3).1
     have hv2:=(Bool.and_eq_true_iff.1 hv3).2
     try dsimp only
     repeat first|(with_reducible first|((first|apply zS|apply zC);intro _ R_;simp only [go_sem,↓reduceIte,e1,e2,e20,e21,e22,wp,lp,hs,hv1,hv2];subst R_)|(apply rN;subst hbq)|refine rG2 ?_|(apply r1;clear hbq bq)|apply nS|refine rS fun bq hbq=>?_|apply rR|apply r3|apply r4)|(with_reducible apply iL;refine rL (by rw [Tryz.results125]) hl3 ?_;simp only [go_sem,↓reduceIte,aJ,Option.some.injEq,exists_eq_left',e1,e2,e20,e21,e22,wp,lp,hs,hv1,hv2])
     exact hst (by simp only [oO,hv3,Bool.not_true,Bool.false_and,Bool.and_false])
    have hce:oO v.level (l.take i) u=!((l.take i).any fun b=>isF u b):=by simp only [oO,hs,hv3,Bool.not_false,Bool.true_and]
    cases hv1:(u.kind==3)
    all_goals
     first
     |have hv2:decide (u.n<v.level)=false:=by rw [hv1,Bool.true_and] at hv3;exact hv3
     |have hv2:True:=trivial
     try dsimp only
     repeat with_reducible (apply zS;intro _ R_;simp only [go_sem,↓reduceIte,e1,e2,e20,e21,e22,wp,lp,hs,hv1,hv2,hsl];subst R_)
     refine lm (l.take i) 154 [] [.ptr w 0] (fun b=>isF u b) _ _ (by rw [List.length_take];omega) (fun i2 b hb _ h6 Q6 hl6 hq6=>JJ u b h6 w (hl6 _ _ (upd_same _ _ _)) Q6 hq6) ?_
     cases hany:(l.take i).any fun b=>isF u b
     ·rw [hce,hany,Bool.not_false,Bool.true_and] at hix
      try dsimp only
      repeat with_reducible first|((first|apply zS|apply zC);intro _ R_;simp only [go_sem,↓reduceIte,e1,e2,e20,e21,e22,wp,lp,hs,hv1,hv2,hany,bz ((i:Int)+1) (by omega)];subst R_)|(apply rN;subst hbq)|refine rG2 ?_|apply nS|apply rK|apply rE
      refine aL (m:=k - 1) (by omega) ⟨i+1,by omega,?_⟩
      simp only [go_sem,↓reduceIte,e1,e2,e20,e21]
      exact ⟨rfl,(ax.one hw).trans hl2,hix⟩
     ·try dsimp only
      repeat first|(with_reducible first|((first|apply zS|apply zC);intro _ R_;simp only [go_sem,↓reduceIte,e1,e2,e20,e21,e22,wp,lp,hs,hv1,hv2,hany];subst R_)|(apply rN;subst hbq)|refine rG2 ?_|(apply r1;clear hbq bq)|apply nS|refine rS fun bq hbq=>?_|apply rR|apply r3|apply r4)|(with_reducible apply iL;refine rL (by rw [Tryz.results125]) hl3 ?_;simp only [go_sem,↓reduceIte,aJ,Option.some.injEq,exists_eq_left',e1,e2,e20,e21,e22,wp,lp,hs,hv1,hv2,hany])
      exact hst (by rw [hce,hany];rfl)
   ·rw [List.drop_eq_nil_of_le (by omega),lH] at hix
    rw [← hix] at hq
    repeat first|(with_reducible first|((first|apply zS|apply zC);intro _ R_;simp only [go_sem,↓reduceIte,e1,e2,e20,e21,e22,hi];subst R_)|(apply rN;subst hbq)|refine rG2 ?_|(apply x1;clear hbq bq)|apply nS|refine rS fun bq hbq=>?_|apply rXx|apply rR|apply x3|apply x4)|(with_reducible apply iL;refine rL (by rw [Tryz.results125]) (hl2.trans fin) ?_;simp only [go_sem,↓reduceIte,aJ,Option.some.injEq,exists_eq_left',e1,e2,e20,e21,e22,hi])
    exact hq
abbrev aB:ByteArray:=⟨#[]⟩
def noVa:Va:=⟨0,⟨aB,[]⟩,false,⟨0,0,aB,[]⟩⟩
def ak (vs:List Va) (n:Int):Va:=vs.getD n.toNat noVa
def aY (vs:List Va) (k n:Int) (l:List Term) (d:Int):Bool:=if k==1 then n==0 else if k==2 then !decide (n<0)&&!decide (n≥d) else if k==3 then !decide (n<0)&&!decide (n≥60) else if k==5 then n==0&&(l.length:Int)==1 else if k==4 then !decide (n<0)&&(!decide (n≥(vs.length:Int))&&dx (ak vs n) l) else false
def bg (vs:List Va) (k n:Int) (s:ByteArray) (l:List Term) (d:Int):Bool:=!((k==1)==(s.toList==aB.toList))&&(!decide ((s.size:Int)>40)&&(!decide ((l.length:Int)>8)&&aY vs k n l d))
mutual
def aK (vs:List Va):Term→Int→Bool
 |⟨k,n,s,l⟩,d=>bg vs k n s l d&&dY vs l (inner k d)
def dY (vs:List Va):List Term→Int→Bool
 |[],_=>true
 |t::ts,d=>aK vs t d&&dY vs ts d
end
theorem EI (vs:List Va) (d:Int):∀ l:List Term,(!l.any fun u=>!aK vs u d)=dY vs l d
 |[]=>rfl
 |t::l=>by rw [dY,← EI vs d l,List.any_cons];cases aK vs t d <;> rfl
theorem Qd (vs:List Va) (hvs:vs.length≤1000000) (tk:Tok) (d:Int) (u:Term) (ih:∀ (h:ai) (Q:AOut→ai→Prop),Q (.ret (.bool (aK vs u d))) h→az Tryz.prog 79 [.agg [.list 8 (aM vs) vs.length tk],enc u,.int .i64 d] h Q) (h:ai) (p r:Nat) (hp:h p=some (.cells [.list 8 (aM vs) vs.length tk] 24)) (hr:h r=some (.cells [.int .i64 d] 3)) (Q:AOut→ai→Prop)
  (hq:Q (.ret (.bool (!aK vs u d))) h):az Tryz.prog 126 [enc u,.ptr p 0,.ptr r 0] h Q:=by
 refine eN Tryz.func126 ?_
 repeat with_reducible first|(apply zS;intro _ R_;simp only [go_sem,↓reduceIte];subst R_)|refine rG2 ?_|refine rS fun bq hbq=>?_
 intro q hq'
 have h1:=aj hq' hp
 have h2:=aj hq' hr
 repeat with_reducible first|(apply zS;intro _ R_;simp only [go_sem,↓reduceIte,h1,h2,hp,hr];subst R_)|(apply rN;subst hbq)|refine rG2 ?_|apply nS|refine rS fun bq hbq=>?_
 refine ih _ _ ?_
 try dsimp only
 repeat first|(with_reducible first|(apply zS;intro _ R_;simp only [go_sem,↓reduceIte,h1,h2,hp,hr];subst R_)|(apply rN;subst hbq)|apply nS|apply rR)|(with_reducible apply iL;refine rL (by rw [Tryz.results126]) (ax.one hq') ?_;simp only [go_sem,↓reduceIte,aJ,Option.some.injEq,exists_eq_left',h1,h2,hp,hr])
 exact hq
theorem GD (vs:List Va) (hvs:vs.length≤1000000) (tk:Tok):∀ (s:Nat) (t:Term) (d:Int) (h:ai) (Q:AOut→ai→Prop),t.size≤s→0≤d→d+t.size≤1000000000→Q (.ret (.bool (aK vs t d))) h→az Tryz.prog 79 [.agg [.list 8 (aM vs) vs.length tk],enc t,.int .i64 d] h Q:=by
 intro s
 induction s with
 |zero=>intro t d h Q ht;obtain ⟨a,b,c,l⟩:=t;rw [Term.size] at ht;omega
 |succ s ih =>
  intro t d h Q ht hd0 hd1 hq
  have hF:aK vs t d=(bg vs t.kind t.n t.name t.args d&&dY vs t.args (inner t.kind d)):=by obtain ⟨a,b,c,l⟩:=t;rw [aK]
  rw [hF] at hq
  have hlen:=jG t
  refine eN Tryz.func79 ?_
  repeat with_reducible first|(apply zS;intro _ R_;simp only [go_sem,↓reduceIte];subst R_)|refine rG2 ?_|refine rS fun bq hbq=>?_
  intro a ha
  repeat with_reducible (apply zS;intro _ R_;simp only [go_sem,↓reduceIte];subst R_)
  intro b hb
  repeat with_reducible (apply zS;intro _ R_;simp only [go_sem,↓reduceIte];subst R_)
  intro c hc
  have e1:=aQ hb
  have e2:=aQ hc
  have e3:=aQ e2.2
  have fin:ax (upd (upd (upd h a (some (.cells [.list 8 (aM vs) vs.length tk] 24))) b (some (.cells (ay t) 27))) c (some (.cells [.int .i64 d] 3))) h:=((ax.refl h).new ha |>.new e1.2 |>.new e3.2)
  cases c1:((t.kind==1)==(t.name.toList==aB.toList))
  case true =>
   repeat first|(with_reducible first|((first|apply zS|apply zC);intro _ R_;simp only [go_sem,↓reduceIte,e1.1,e1.1.symm,e2.1,e2.1.symm,e3.1,e3.1.symm,c1];subst R_)|(apply rN;subst hbq)|refine rG2 ?_|(apply r1;clear hbq bq)|apply nS|refine rS fun bq hbq=>?_|apply rR)|(with_reducible apply iL;refine rL (by rw [Tryz.results79]) fin ?_;simp only [go_sem,↓reduceIte,aJ,Option.some.injEq,exists_eq_left',e1.1,e1.1.symm,e2.1,e2.1.symm,e3.1,e3.1.symm,c1])
   exact bJ (by simp only [bg,c1];rfl) hq
  cases c2:decide ((t.name.size:Int)>40)
  case true =>
   repeat first|(with_reducible first|((first|apply zS|apply zC);intro _ R_;simp only [go_sem,↓reduceIte,e1.1,e1.1.symm,e2.1,e2.1.symm,e3.1,e3.1.symm,c1,c2];subst R_)|(apply rN;subst hbq)|refine rG2 ?_|(apply r1;clear hbq bq)|apply nS|refine rS fun bq hbq=>?_|apply rR)|(with_reducible apply iL;refine rL (by rw [Tryz.results79]) fin ?_;simp only [go_sem,↓reduceIte,aJ,Option.some.injEq,exists_eq_left',e1.1,e1.1.symm,e2.1,e2.1.symm,e3.1,e3.1.symm,c1,c2])
   exact bJ (by simp only [bg,c1,c2];rfl) hq
  cases c3:decide ((t.args.length:Int)>8)
  case true =>
   repeat first|(with_reducible first|((first|apply zS|apply zC);intro _ R_;simp only [go_sem,↓reduceIte,e1.1,e1.1.symm,e2.1,e2.1.symm,e3.1,e3.1.symm,c1,c2,c3];subst R_)|(apply rN;subst hbq)|refine rG2 ?_|(apply r1;clear hbq bq)|apply nS|refine rS fun bq hbq=>?_|apply rR)|(with_reducible apply iL;refine rL (by rw [Tryz.results79]) fin ?_;simp only [go_sem,↓reduceIte,aJ,Option.some.injEq,exists_eq_left',e1.1,e1.1.symm,e2.1,e2.1.symm,e3.1,e3.1.symm,c1,c2,c3])
   exact bJ (by simp only [bg,c1,c2,c3];rfl) hq
  have hH:bg vs t.kind t.n t.name t.args d=aY vs t.kind t.n t.args d:=by simp only [bg,c1,c2,c3,Bool.not_false,Bool.true_and]
  rw [hH] at hq
  repeat with_reducible first|((first|apply zS|apply zC);intro _ R_;simp only [go_sem,↓reduceIte,e1.1,e1.1.symm,e2.1,e2.1.symm,e3.1,e3.1.symm,c1,c2,c3];subst R_)|(apply rN;subst hbq)|refine rG2 ?_|apply nS|refine rS fun bq hbq=>?_|apply rK
  refine dB (fun τ h'=>τ 3=.ptr a 0∧τ 4=.ptr b 0∧τ 5=.ptr c 0∧h'=upd (upd (upd h a (some (.cells [.list 8 (aM vs) vs.length tk] 24))) b (some (.cells (ay t) 27))) c (some (.cells [.int .i64 d] 3))∧aY vs t.kind t.n t.args d=true∧inner t.kind d=d) ?_ fun τ h' hI=>?_
  ·cases k1:(t.kind==1)
   case true =>
    have k5:(t.kind==5)=false:=by simp only [beq_iff_eq] at k1;rw [k1];rfl
    have hi:inner t.kind d=d:=by simp only [inner,k5];rfl
    cases n0:(t.n==0)
    ·repeat first|(with_reducible first|((first|apply zS|apply zC);intro _ R_;simp only [go_sem,↓reduceIte,e1.1,e1.1.symm,e2.1,e2.1.symm,e3.1,e3.1.symm,c1,c2,c3,k1,n0];subst R_)|(apply rN;subst hbq)|refine rG2 ?_|(refine rB fun cq hcq=>?_;subst hcq)|apply nS|refine rS fun bq hbq=>?_|apply rR|apply r2|apply r4)|(with_reducible apply iL;refine rL (by rw [Tryz.results79]) fin ?_;simp only [go_sem,↓reduceIte,aJ,Option.some.injEq,exists_eq_left',e1.1,e1.1.symm,e2.1,e2.1.symm,e3.1,e3.1.symm,c1,c2,c3,k1,n0])
     exact bJ (by simp only [aY,k1,n0];rfl) hq
    ·repeat with_reducible first|((first|apply zS|apply zC);intro _ R_;simp only [go_sem,↓reduceIte,e1.1,e1.1.symm,e2.1,e2.1.symm,e3.1,e3.1.symm,c1,c2,c3,k1,n0];subst R_)|(apply rN;subst hbq)|refine rG2 ?_|(refine rB fun cq hcq=>?_;subst hcq)|apply nS|refine rS fun bq hbq=>?_|apply rK|apply rE
     refine aD ?_
     simp only [go_sem,↓reduceIte,aY,k1,n0,hi]
   cases k2:(t.kind==2)
   case true =>
    have k5:(t.kind==5)=false:=by simp only [beq_iff_eq] at k2;rw [k2];rfl
    have hi:inner t.kind d=d:=by simp only [inner,k5];rfl
    cases n0:decide (t.n<0)
    case true =>
     repeat first|(with_reducible first|((first|apply zS|apply zC);intro _ R_;simp only [go_sem,↓reduceIte,e1.1,e1.1.symm,e2.1,e2.1.symm,e3.1,e3.1.symm,c1,c2,c3,k1,k2,n0];subst R_)|(apply rN;subst hbq)|refine rG2 ?_|(refine rB fun cq hcq=>?_;subst hcq)|apply nS|refine rS fun bq hbq=>?_|apply rR|apply r2|apply r4)|(with_reducible apply iL;refine rL (by rw [Tryz.results79]) fin ?_;simp only [go_sem,↓reduceIte,aJ,Option.some.injEq,exists_eq_left',e1.1,e1.1.symm,e2.1,e2.1.symm,e3.1,e3.1.symm,c1,c2,c3,k1,k2,n0])
     exact bJ (by simp only [aY,k1,k2,n0];rfl) hq
    cases n1:decide (t.n≥d)
    case true =>
     repeat first|(with_reducible first|((first|apply zS|apply zC);intro _ R_;simp only [go_sem,↓reduceIte,e1.1,e1.1.symm,e2.1,e2.1.symm,e3.1,e3.1.symm,c1,c2,c3,k1,k2,n0,n1];subst R_)|(apply rN;subst hbq)|refine rG2 ?_|(refine rB fun cq hcq=>?_;subst hcq)|apply nS|refine rS fun bq hbq=>?_|apply rR|apply r2|apply r4)|(with_reducible apply iL;refine rL (by rw [Tryz.results79]) fin ?_;simp only [go_sem,↓reduceIte,aJ,Option.some.injEq,exists_eq_left',e1.1,e1.1.symm,e2.1,e2.1.symm,e3.1,e3.1.symm,c1,c2,c3,k1,k2,n0,n1])
     exact bJ (by simp only [aY,k1,k2,n0,n1];rfl) hq
    repeat with_reducible first|((first|apply zS|apply zC);intro _ R_;simp only [go_sem,↓reduceIte,e1.1,e1.1.symm,e2.1,e2.1.symm,e3.1,e3.1.symm,c1,c2,c3,k1,k2,n0,n1];subst R_)|(apply rN;subst hbq)|refine rG2 ?_|(refine rB fun cq hcq=>?_;subst hcq)|apply nS|refine rS fun bq hbq=>?_|apply rK|apply rE
    refine aD ?_
    simp only [go_sem,↓reduceIte,aY,k1,k2,n0,n1,hi]
   cases k3:(t.kind==3)
   case true =>
    have k5:(t.kind==5)=false:=by simp only [beq_iff_eq] at k3;rw [k3];rfl
    have hi:inner t.kind d=d:=by simp only [inner,k5];rfl
    cases n0:decide (t.n<0)
    case true =>
     repeat first|(with_reducible first|((first|apply zS|apply zC);intro _ R_;simp only [go_sem,↓reduceIte,e1.1,e1.1.symm,e2.1,e2.1.symm,e3.1,e3.1.symm,c1,c2,c3,k1,k2,k3,n0];subst R_)|(apply rN;subst hbq)|refine rG2 ?_|(refine rB fun cq hcq=>?_;subst hcq)|apply nS|refine rS fun bq hbq=>?_|apply rR|apply r2|apply r4)|(with_reducible apply iL;refine rL (by rw [Tryz.results79]) fin ?_;simp only [go_sem,↓reduceIte,aJ,Option.some.injEq,exists_eq_left',e1.1,e1.1.symm,e2.1,e2.1.symm,e3.1,e3.1.symm,c1,c2,c3,k1,k2,k3,n0])
     exact bJ (by simp only [aY,k1,k2,k3,n0];rfl) hq
    cases n1:decide (t.n≥60)
    case true =>
     repeat first|(with_reducible first|((first|apply zS|apply zC);intro _ R_;simp only [go_sem,↓reduceIte,e1.1,e1.1.symm,e2.1,e2.1.symm,e3.1,e3.1.symm,c1,c2,c3,k1,k2,k3,n0,n1];subst R_)|(apply rN;subst hbq)|refine rG2 ?_|(refine rB fun cq hcq=>?_;subst hcq)|apply nS|refine rS fun bq hbq=>?_|apply rR|apply r2|apply r4)|(with_reducible apply iL;refine rL (by rw [Tryz.results79]) fin ?_;simp only [go_sem,↓reduceIte,aJ,Option.some.injEq,exists_eq_left',e1.1,e1.1.symm,e2.1,e2.1.symm,e3.1,e3.1.symm,c1,c2,c3,k1,k2,k3,n0,n1])
     exact bJ (by simp only [aY,k1,k2,k3,n0,n1];rfl) hq
    repeat with_reducible first|((first|apply zS|apply zC);intro _ R_;simp only [go_sem,↓reduceIte,e1.1,e1.1.symm,e2.1,e2.1.symm,e3.1,e3.1.symm,c1,c2,c3,k1,k2,k3,n0,n1];subst R_)|(apply rN;subst hbq)|refine rG2 ?_|(refine rB fun cq hcq=>?_;subst hcq)|apply nS|refine rS fun bq hbq=>?_|apply rK|apply rE
    refine aD ?_
    simp only [go_sem,↓reduceIte,aY,k1,k2,k3,n0,n1,hi]
   cases k5:(t.kind==5)
   case true =>
    have hi:inner t.kind d=d+1:=by simp only [inner,k5];rfl
    repeat with_reducible first|((first|apply zS|apply zC);intro _ R_;simp only [go_sem,↓reduceIte,e1.1,e1.1.symm,e2.1,e2.1.symm,e3.1,e3.1.symm,c1,c2,c3,k1,k2,k3,k5];subst R_)|(apply rN;subst hbq)|refine rG2 ?_|(refine rB fun cq hcq=>?_;subst hcq)|apply nS|refine rS fun bq hbq=>?_
    repeat with_reducible refine ah fun bq hbq=>?_
    refine bA (.take 0 (.take 1 (.take 2 (.take 3 (.take 4 (.take 5 (.take 6 (.take 7 (.take 8 (.take 9 (.take 10 (.take 11 (.take 12 (.take 13 (.take 14 (.take 15 (.take 16 (.one 17 [15,12,5,1] (.take 18 (.take 19 (.done))))))))))))))))))))) (by kernel_rfl) (by simp only [aF,gtOf,aA];exact rfl) ?_
    cases n0:(t.n==0)
    ·repeat first|(with_reducible first|(apply rN;subst hbq)|apply nD|apply rR|apply r2|apply r4)|((first|(with_reducible apply iT;refine sT rfl ?_)|(with_reducible apply iO;refine sO rfl ?_));intro _ _ _ C_ R_ U_;simp only [go_sem,↓reduceIte,e1.1,e1.1.symm,e2.1,e2.1.symm,e3.1,e3.1.symm,c1,c2,c3,n0];subst C_ R_ U_)|(with_reducible apply iL;refine rL (by rw [Tryz.results79]) fin ?_;simp only [go_sem,↓reduceIte,aJ,Option.some.injEq,exists_eq_left',e1.1,e1.1.symm,e2.1,e2.1.symm,e3.1,e3.1.symm,c1,c2,c3,n0])
     exact bJ (by simp only [aY,k1,k2,k3,k5,n0];rfl) hq
    cases l1:((t.args.length:Int)==1)
    ·repeat first|(with_reducible first|(apply rN;subst hbq)|apply nD|apply rR|apply r2|apply r4)|((first|(with_reducible apply iT;refine sT rfl ?_)|(with_reducible apply iO;refine sO rfl ?_));intro _ _ _ C_ R_ U_;simp only [go_sem,↓reduceIte,e1.1,e1.1.symm,e2.1,e2.1.symm,e3.1,e3.1.symm,c1,c2,c3,n0,l1];subst C_ R_ U_)|(with_reducible apply iL;refine rL (by rw [Tryz.results79]) fin ?_;simp only [go_sem,↓reduceIte,aJ,Option.some.injEq,exists_eq_left',e1.1,e1.1.symm,e2.1,e2.1.symm,e3.1,e3.1.symm,c1,c2,c3,n0,l1])
     exact bJ (by simp only [aY,k1,k2,k3,k5,n0,l1];rfl) hq
    obtain ⟨u,hu⟩:∃ u,t.args=[u]:=List.length_eq_one_iff.1 (by simp only [beq_iff_eq] at l1;omega)
    have hus:=fF t 0 (t:=u) (by rw [hu];rfl)
    have hT:aY vs t.kind t.n t.args d=true:=by simp only [aY,k1,k2,k3,k5,n0,l1];rfl
    rw [hT,hi,hu,dY,dY,Bool.and_true,Bool.true_and] at hq
    repeat ((first|(with_reducible apply iT;refine sT rfl ?_)|(with_reducible apply iO;refine sO rfl ?_));intro _ _ _ C_ R_ U_;simp only [go_sem,↓reduceIte,e1.1,e1.1.symm,e2.1,e2.1.symm,e3.1,e3.1.symm,n0,hu,show (((1:Nat):Int)==1)=true from rfl,Int.le_refl,Int.toNat_zero,Nat.zero_mul,show ((0:Int)<((1:Nat):Int))=True from eq_true (by decide),ll,bB,bz (d+1) (by omega)];subst C_ R_ U_)
    refine ih u (d+1) _ _ (by omega) (by omega) (by omega) ?_
    try dsimp only
    repeat first|(with_reducible first|(apply rN;subst hbq)|apply nD|apply rR|apply r2|apply r4)|((first|with_reducible apply sA|(with_reducible apply iT;refine sT rfl ?_));intro _ _ _ C_ R_ U_;simp only [go_sem,↓reduceIte,e1.1,e1.1.symm,e2.1,e2.1.symm,e3.1,e3.1.symm,n0,hu,show (((1:Nat):Int)==1)=true from rfl,Int.le_refl,Int.toNat_zero,Nat.zero_mul,show ((0:Int)<((1:Nat):Int))=True from eq_true (by decide),ll,bB,bz (d+1) (by omega)];subst C_ R_ U_)|(with_reducible apply iL;refine rL (by rw [Tryz.results79]) fin ?_;simp only [go_sem,↓reduceIte,aJ,Option.some.injEq,exists_eq_left',e1.1,e1.1.symm,e2.1,e2.1.symm,e3.1,e3.1.symm,n0,hu,show (((1:Nat):Int)==1)=true from rfl,Int.le_refl,Int.toNat_zero,Nat.zero_mul,show ((0:Int)<((1:Nat):Int))=True from eq_true (by decide),ll,bB,bz (d+1) (by omega)])
    exact hq
   cases k4:(t.kind==4)
   ·repeat first|(with_reducible first|((first|apply zS|apply zC);intro _ R_;simp only [go_sem,↓reduceIte,e1.1,e1.1.symm,e2.1,e2.1.symm,e3.1,e3.1.symm,k1,k2,k3,k5,k4];subst R_)|(apply rN;subst hbq)|refine rG2 ?_|(refine rB fun cq hcq=>?_;subst hcq)|apply nS|refine rS fun bq hbq=>?_|apply rR|apply r2|apply r4)|(with_reducible apply iL;refine rL (by rw [Tryz.results79]) fin ?_;simp only [go_sem,↓reduceIte,aJ,Option.some.injEq,exists_eq_left',e1.1,e1.1.symm,e2.1,e2.1.symm,e3.1,e3.1.symm,k1,k2,k3,k5,k4])
    exact bJ (by simp only [aY,k1,k2,k3,k5,k4];rfl) hq
   ·have hi:inner t.kind d=d:=by simp only [inner,k5];rfl
    have hT0:aY vs t.kind t.n t.args d=(!decide (t.n<0)&&(!decide (t.n≥(vs.length:Int))&&dx (ak vs t.n) t.args)):=by simp only [aY,k1,k2,k3,k5,k4];rfl
    rw [hT0] at hq ⊢
    repeat with_reducible first|((first|apply zS|apply zC);intro _ R_;simp only [go_sem,↓reduceIte,e1.1,e1.1.symm,e2.1,e2.1.symm,e3.1,e3.1.symm,k1,k2,k3,k5,k4];subst R_)|(apply rN;subst hbq)|refine rG2 ?_|(refine rB fun cq hcq=>?_;subst hcq)|apply nS|refine rS fun bq hbq=>?_
    repeat with_reducible refine ah fun bq hbq=>?_
    refine bA (.take 0 (.take 1 (.take 2 (.take 3 (.take 4 (.take 5 (.take 6 (.take 7 (.take 8 (.take 9 (.take 10 (.take 11 (.take 12 (.take 13 (.take 14 (.take 15 (.take 16 (.take 17 (.take 18 (.take 19 (.one 20 [15,13,7,5,1] (.take 21 (.take 22 (.done)))))))))))))))))))))))) (by kernel_rfl) (by simp only [aF,gtOf,aA];exact rfl) ?_
    cases n0:decide (t.n<0)
    case true =>
     repeat first|(with_reducible first|(apply rN;subst hbq)|refine rG2 ?_|apply nS|apply nD|refine rS fun bq hbq=>?_|apply rR|apply r2|apply r4)|((first|(with_reducible first|apply sS|apply sC)|(with_reducible apply iT;refine sT rfl ?_)|(with_reducible apply iO;refine sO rfl ?_));intro _ _ _ C_ R_ U_;simp only [go_sem,↓reduceIte,e1.1,e1.1.symm,e2.1,e2.1.symm,e3.1,e3.1.symm,n0];subst C_ R_ U_)|(with_reducible apply iL;refine rL (by rw [Tryz.results79]) fin ?_;simp only [go_sem,↓reduceIte,aJ,Option.some.injEq,exists_eq_left',e1.1,e1.1.symm,e2.1,e2.1.symm,e3.1,e3.1.symm,n0])
     exact bJ (by simp only [n0];rfl) hq
    cases n1:decide (t.n≥(vs.length:Int))
    case true =>
     repeat first|(with_reducible first|(apply rN;subst hbq)|refine rG2 ?_|apply nS|apply nD|refine rS fun bq hbq=>?_|apply rR|apply r2|apply r4)|((first|(with_reducible first|apply sS|apply sC)|(with_reducible apply iT;refine sT rfl ?_)|(with_reducible apply iO;refine sO rfl ?_));intro _ _ _ C_ R_ U_;simp only [go_sem,↓reduceIte,e1.1,e1.1.symm,e2.1,e2.1.symm,e3.1,e3.1.symm,n0,n1];subst C_ R_ U_)|(with_reducible apply iL;refine rL (by rw [Tryz.results79]) fin ?_;simp only [go_sem,↓reduceIte,aJ,Option.some.injEq,exists_eq_left',e1.1,e1.1.symm,e2.1,e2.1.symm,e3.1,e3.1.symm,n0,n1])
     exact bJ (by simp only [n0,n1];rfl) hq
    have hn0:0≤t.n:=by simpa using n0
    have hn1:t.n.toNat<vs.length:=by
     have:t.n<vs.length:=(by simpa using n1);omega
    obtain ⟨v,hv⟩:∃ v,vs[t.n.toNat]?=some v:=⟨_,List.getElem?_eq_getElem hn1⟩
    have hva:ak vs t.n=v:=by rw [ak,List.getD_eq_getElem?_getD,hv];rfl
    obtain ⟨r,hr⟩:=iD vs t.n.toNat hv
    rw [hva] at hq ⊢
    have hn2:t.n<(vs.length:Int):=by simpa using n1
    repeat ((first|(with_reducible apply iT;refine sT rfl ?_)|(with_reducible apply iO;refine sO rfl ?_));intro _ _ _ C_ R_ U_;simp only [go_sem,↓reduceIte,e1.1,e1.1.symm,e2.1,e2.1.symm,e3.1,e3.1.symm,n0,n1,hn0,hn2,hr];subst C_ R_ U_)
    refine Ew v t.args _ _ (by omega) ?_
    cases hpt:dx v t.args
    ·try dsimp only
     repeat first|(with_reducible first|(apply rN;subst hbq)|refine rG2 ?_|apply nS|apply nD|refine rS fun bq hbq=>?_|apply rR|apply r2|apply r4)|((first|(with_reducible first|apply sS|apply sA|apply sC)|(with_reducible apply iT;refine sT rfl ?_));intro _ _ _ C_ R_ U_;simp only [go_sem,↓reduceIte,e1.1,e1.1.symm,e2.1,e2.1.symm,e3.1,e3.1.symm,n0,n1,hn0,hn2,hr,hpt];subst C_ R_ U_)|(with_reducible apply iL;refine rL (by rw [Tryz.results79]) fin ?_;simp only [go_sem,↓reduceIte,aJ,Option.some.injEq,exists_eq_left',e1.1,e1.1.symm,e2.1,e2.1.symm,e3.1,e3.1.symm,n0,n1,hn0,hn2,hr,hpt])
     exact bJ (by simp only [n0,n1,hpt];rfl) hq
    ·try dsimp only
     repeat first|(with_reducible first|(apply rN;subst hbq)|apply nD|apply rK|apply rE)|((first|(with_reducible first|apply sA|apply sC)|(with_reducible apply iT;refine sT rfl ?_));intro _ _ _ C_ R_ U_;simp only [go_sem,↓reduceIte,e1.1,e1.1.symm,e2.1,e2.1.symm,e3.1,e3.1.symm,n0,n1,hn0,hn2,hr,hpt];subst C_ R_ U_)
     refine aD ?_
     simp only [go_sem,↓reduceIte,n0,n1,hpt,hi]
  ·obtain ⟨f3,f4,f5,rfl,hT,hi⟩:=hI
   rw [hT,hi,Bool.true_and] at hq
   subst hbq
   repeat with_reducible first|(apply zS;intro _ R_;simp only [go_sem,↓reduceIte,e1.1,e1.1.symm,e2.1,e2.1.symm,e3.1,e3.1.symm,f3,f4,f5];subst R_)|refine rG2 ?_|refine rS fun bq hbq=>?_
   refine lm t.args 126 [] [.ptr a 0,.ptr c 0] (fun u=>!aK vs u d) _ _ (by omega) (fun i u hu _ h' Q' hl' hq'=>?_) ?_
   ·refine Qd vs hvs tk d u (fun h2 Q2 hq2=>ih u d h2 Q2 (by have:=fF t i hu;omega) hd0 (by have:=fF t i hu;omega) hq2) h' a c (hl' _ _ ?_) (hl' _ _ ?_) Q' hq'
    ·simp only [go_sem,↓reduceIte,e1.1,e1.1.symm,e2.1,e2.1.symm,e3.1,e3.1.symm]
    ·simp only [go_sem,↓reduceIte,e1.1,e1.1.symm,e2.1,e2.1.symm,e3.1,e3.1.symm]
   ·try dsimp only
    repeat first|(with_reducible first|(apply zS;intro _ R_;simp only [go_sem,↓reduceIte,e1.1,e1.1.symm,e2.1,e2.1.symm,e3.1,e3.1.symm,f3,f4,f5];subst R_)|(apply rN;subst hbq)|apply nS|apply rR)|(with_reducible apply iL;refine rL (by rw [Tryz.results79]) fin ?_;simp only [go_sem,↓reduceIte,aJ,Option.some.injEq,exists_eq_left',e1.1,e1.1.symm,e2.1,e2.1.symm,e3.1,e3.1.symm,f3,f4,f5])
    exact bJ (by rw [EI vs]) hq
mutual
def varsIn (m:Nat):Term→Bool
 |⟨k,n,_,l⟩=>(!(k==4)||(decide (0≤n)&&decide (n<(m:Int))))&&iG m l
def iG (m:Nat):List Term→Bool
 |[]=>true
 |t::ts=>varsIn m t&&iG m ts
end
theorem xD (m:Nat) (t:Term):varsIn m t=((!(t.kind==4)||(decide (0≤t.n)&&decide (t.n<(m:Int))))&&iG m t.args):=by obtain ⟨k,n,s,l⟩:=t;rw [varsIn]
theorem uN (m:Nat):∀ (l:List Term) (i:Nat) {u:Term},iG m l=true→l[i]?=some u→varsIn m u=true
 |[],i,u,h,hu=>by simp at hu
 |t::l,0,u,h,hu=>by
  simp only [List.getElem?_cons_zero,Option.some.injEq] at hu
  subst hu;rw [iG,Bool.and_eq_true] at h;exact h.1
 |t::l,i+1,u,h,hu=>by
  rw [iG,Bool.and_eq_true] at h
  rw [List.getElem?_cons_succ] at hu
  exact uN m l i h.2 hu
def iB (vs:List Va) (lv k n:Int):Bool:=!(k==3&&decide (n≥lv))&&!(k==4&&decide ((ak vs n).level>lv))
mutual
def gG (vs:List Va) (lv:Int):Term→Bool
 |⟨k,n,_,l⟩=>iB vs lv k n&&nA vs lv l
def nA (vs:List Va) (lv:Int):List Term→Bool
 |[]=>true
 |t::ts=>gG vs lv t&&nA vs lv ts
end
theorem sD (vs:List Va) (lv:Int) (t:Term):gG vs lv t=(iB vs lv t.kind t.n&&nA vs lv t.args):=by obtain ⟨k,n,s,l⟩:=t;rw [gG]
theorem DJ (vs:List Va) (lv:Int):∀ l:List Term,(!l.any fun u=>!gG vs lv u)=nA vs lv l
 |[]=>rfl
 |t::l=>by rw [nA,← DJ vs lv l,List.any_cons];cases gG vs lv t <;> rfl
theorem FI (vs:List Va) (t:Term) (hv:varsIn vs.length t=true) (h4:(t.kind==4)=true):0≤t.n∧t.n<(vs.length:Int)∧∃ r,(aM vs).drop (t.n.toNat * 8)=bO (ak vs t.n)++r:=by
 rw [xD,h4] at hv
 simp only [Bool.not_true,Bool.false_or,Bool.and_eq_true,decide_eq_true_eq] at hv
 obtain ⟨⟨h0,h1⟩,_⟩:=hv
 have hn1:t.n.toNat<vs.length:=by omega
 obtain ⟨v,hv⟩:∃ v,vs[t.n.toNat]?=some v:=⟨_,List.getElem?_eq_getElem hn1⟩
 have hva:ak vs t.n=v:=by rw [ak,List.getD_eq_getElem?_getD,hv];rfl
 rw [hva]
 exact ⟨h0,h1,iD vs t.n.toNat hv⟩
theorem SC (vs:List Va) (tk:Tok) (lv:Int) (u:Term) (ih:∀ (h:ai) (Q:AOut→ai→Prop),Q (.ret (.bool (gG vs lv u))) h→az Tryz.prog 119 [.agg [.list 8 (aM vs) vs.length tk],enc u,.int .i64 lv] h Q) (h:ai) (p r:Nat) (hp:h p=some (.cells [.list 8 (aM vs) vs.length tk] 24)) (hr:h r=some (.cells [.int .i64 lv] 3)) (Q:AOut→ai→Prop)
  (hq:Q (.ret (.bool (!gG vs lv u))) h):az Tryz.prog 152 [enc u,.ptr p 0,.ptr r 0] h Q:=by
 refine eN Tryz.func152 ?_
 repeat with_reducible first|(apply zS;intro _ R_;simp only [go_sem,↓reduceIte];subst R_)|refine rG2 ?_|refine rS fun bq hbq=>?_
 intro q hq'
 have h1:=aj hq' hp
 have h2:=aj hq' hr
 repeat with_reducible first|(apply zS;intro _ R_;simp only [go_sem,↓reduceIte,h1,h2,hp,hr];subst R_)|(apply rN;subst hbq)|refine rG2 ?_|apply nS|refine rS fun bq hbq=>?_
 refine ih _ _ ?_
 try dsimp only
 repeat first|(with_reducible first|(apply zS;intro _ R_;simp only [go_sem,↓reduceIte,h1,h2,hp,hr];subst R_)|(apply rN;subst hbq)|apply nS|apply rR)|(with_reducible apply iL;refine rL (by rw [Tryz.results152]) (ax.one hq') ?_;simp only [go_sem,↓reduceIte,aJ,Option.some.injEq,exists_eq_left',h1,h2,hp,hr])
 exact hq
theorem SA (vs:List Va) (tk:Tok) (lv:Int):∀ (s:Nat) (t:Term) (h:ai) (Q:AOut→ai→Prop),t.size≤s→t.size≤1000000000→varsIn vs.length t=true→Q (.ret (.bool (gG vs lv t))) h→az Tryz.prog 119 [.agg [.list 8 (aM vs) vs.length tk],enc t,.int .i64 lv] h Q:=by
 intro s
 induction s with
 |zero=>intro t h Q ht;obtain ⟨a,b,c,l⟩:=t;rw [Term.size] at ht;omega
 |succ s ih =>
  intro t h Q ht hts hvi hq
  rw [sD] at hq
  have hlen:=jG t
  refine eN Tryz.func119 ?_
  repeat with_reducible first|(apply zS;intro _ R_;simp only [go_sem,↓reduceIte];subst R_)|refine rG2 ?_|refine rS fun bq hbq=>?_
  intro a ha
  repeat with_reducible (apply zS;intro _ R_;simp only [go_sem,↓reduceIte];subst R_)
  intro b hb
  repeat with_reducible (apply zS;intro _ R_;simp only [go_sem,↓reduceIte];subst R_)
  intro c hc
  repeat with_reducible first|(apply zS;intro _ R_;simp only [go_sem,↓reduceIte];subst R_)|(apply rN;subst hbq)|apply nS|refine rS fun bq hbq=>?_
  have e1:=aQ hb
  have e2:=aQ hc
  have e3:=aQ e2.2
  have fin:ax (upd (upd (upd h a (some (.cells [.list 8 (aM vs) vs.length tk] 24))) b (some (.cells (ay t) 27))) c (some (.cells [.int .i64 lv] 3))) h:=((ax.refl h).new ha |>.new e1.2 |>.new e3.2)
  refine dB (fun τ h'=>τ 3=.ptr a 0∧τ 4=.ptr b 0∧τ 5=.ptr c 0∧h'=upd (upd (upd h a (some (.cells [.list 8 (aM vs) vs.length tk] 24))) b (some (.cells (ay t) 27))) c (some (.cells [.int .i64 lv] 3))∧τ 31=.bool (!iB vs lv t.kind t.n)) ?_ fun τ h' hI=>?_
  ·repeat with_reducible refine ah fun bq hbq=>?_
   refine bA (.take 0 (.take 1 (.take 2 (.take 3 (.take 4 (.take 5 (.take 6 (.take 7 (.take 8 (.take 9 (.take 10 (.take 11 (.take 12 (.take 13 (.take 14 (.take 15 (.take 16 (.take 17 (.take 18 (.take 19 (.take 20 (.take 21 (.take 22 (.take 23 (.take 24 (.done)))))))))))))))))))))))))) (by kernel_rfl) (by simp only [aF,gtOf,aA];exact rfl) ?_
   cases k3:(t.kind==3)
   ·cases k4:(t.kind==4)
    ·repeat first|with_reducible apply nD|((with_reducible apply iT;refine sT rfl ?_);intro _ _ _ C_ R_ U_;simp only [go_sem,↓reduceIte,e1.1,e1.1.symm,e2.1,e2.1.symm,e3.1,e3.1.symm,k3,k4];subst C_ R_ U_)
     refine aD ?_
     simp only [go_sem,↓reduceIte,iB,k3,k4,Bool.not_not]
    ·obtain ⟨hn0,hn2,r,hr⟩:=FI vs t hvi k4
     repeat first|with_reducible apply nD|((with_reducible apply iT;refine sT rfl ?_);intro _ _ _ C_ R_ U_;simp only [go_sem,↓reduceIte,e1.1,e1.1.symm,e2.1,e2.1.symm,e3.1,e3.1.symm,k3,k4,hn0,hn2,hr];subst C_ R_ U_)
     refine aD ?_
     simp only [go_sem,↓reduceIte,iB,k3,k4,Bool.not_not]
   ·have k4:(t.kind==4)=false:=by simp only [beq_iff_eq] at k3;rw [k3];rfl
    cases n1:decide (t.n≥lv)
    all_goals
     repeat first|with_reducible apply nD|((with_reducible apply iT;refine sT rfl ?_);intro _ _ _ C_ R_ U_;simp only [go_sem,↓reduceIte,e1.1,e1.1.symm,e2.1,e2.1.symm,e3.1,e3.1.symm,k3,k4,n1];subst C_ R_ U_)
     refine aD ?_
     simp only [go_sem,↓reduceIte,iB,k3,k4,n1,Bool.not_not]
  obtain ⟨f3,f4,f5,rfl,f31⟩:=hI
  subst hbq
  cases hT:iB vs lv t.kind t.n
  ·rw [hT] at f31
   repeat first|(with_reducible first|((first|apply zS|apply zC);intro _ R_;simp only [go_sem,↓reduceIte,e1.1,e1.1.symm,e2.1,e2.1.symm,e3.1,e3.1.symm,f3,f4,f5,f31];subst R_)|(apply rN;subst hbq)|refine rG2 ?_|(apply r1;clear hbq bq)|apply nS|refine rS fun bq hbq=>?_|apply rR)|(with_reducible apply iL;refine rL (by rw [Tryz.results119]) fin ?_;simp only [go_sem,↓reduceIte,aJ,Option.some.injEq,exists_eq_left',e1.1,e1.1.symm,e2.1,e2.1.symm,e3.1,e3.1.symm,f3,f4,f5,f31])
   exact bJ (by simp only [hT,Bool.false_and]) hq
  ·rw [hT] at f31
   rw [hT,Bool.true_and] at hq
   repeat with_reducible first|((first|apply zS|apply zC);intro _ R_;simp only [go_sem,↓reduceIte,e1.1,e1.1.symm,e2.1,e2.1.symm,e3.1,e3.1.symm,f3,f4,f5,f31];subst R_)|(apply rN;subst hbq)|refine rG2 ?_|refine rS fun bq hbq=>?_|apply rK
   refine lm t.args 152 [] [.ptr a 0,.ptr c 0] (fun u=>!gG vs lv u) _ _ (by omega) (fun i u hu _ h' Q' hl' hq'=>?_) ?_
   ·refine SC vs tk lv u (fun h2 Q2 hq2=>ih u h2 Q2 (by have:=fF t i hu;omega) (by have:=fF t i hu;omega) (uN _ _ i (by rw [xD,Bool.and_eq_true] at hvi;exact hvi.2) hu) hq2) h' a c (hl' _ _ ?_) (hl' _ _ ?_) Q' hq'
    ·simp only [go_sem,↓reduceIte,e1.1,e1.1.symm,e2.1,e2.1.symm,e3.1,e3.1.symm]
    ·simp only [go_sem,↓reduceIte,e1.1,e1.1.symm,e2.1,e2.1.symm,e3.1,e3.1.symm]
   ·try dsimp only
    repeat first|(with_reducible first|(apply zS;intro _ R_;simp only [go_sem,↓reduceIte,e1.1,e1.1.symm,e2.1,e2.1.symm,e3.1,e3.1.symm,f3,f4,f5];subst R_)|(apply rN;subst hbq)|apply nS|apply rR)|(with_reducible apply iL;refine rL (by rw [Tryz.results119]) fin ?_;simp only [go_sem,↓reduceIte,aJ,Option.some.injEq,exists_eq_left',e1.1,e1.1.symm,e2.1,e2.1.symm,e3.1,e3.1.symm,f3,f4,f5])
    exact bJ (by rw [DJ]) hq
theorem sZ (vs:List Va):∀ (s:Nat),(∀ (t:Term) (d:Int),t.size≤s→aK vs t d=true→varsIn vs.length t=true)∧(∀ (l:List Term) (d:Int),sizes l≤s→dY vs l d=true→iG vs.length l=true):=by
 intro s
 induction s with
 |zero =>
  refine ⟨fun t d ht=>?_,fun l d hl=>?_⟩
  ·obtain ⟨a,b,c,l⟩:=t;rw [Term.size] at ht;omega
  ·cases l with
   |nil=>intro _;rw [iG]
   |cons t l=>obtain ⟨a,b,c,m⟩:=t;rw [sizes,Term.size] at hl;omega
 |succ s ih =>
  have h1:∀ (t:Term) (d:Int),t.size≤s+1→aK vs t d=true→varsIn vs.length t=true:=by
   intro t d ht hf
   obtain ⟨k,n,nm,l⟩:=t
   rw [Term.size] at ht
   rw [aK,Bool.and_eq_true] at hf
   rw [varsIn,Bool.and_eq_true]
   refine ⟨?_,ih.2 l _ (by omega) hf.2⟩
   have hh:=hf.1
   simp only [bg,aY,Bool.and_eq_true] at hh
   cases k4:(k==4)
   ·rfl
   ·have e:k=4:=by simpa using k4
    subst e
    have:=hh.2.2.2
    simp at this
    simp
    omega
  refine ⟨h1,fun l d hl hf=>?_⟩
  cases l with
  |nil=>rw [iG]
  |cons t l =>
   have ht:0<t.size:=by obtain ⟨a,b,c,m⟩:=t;rw [Term.size];omega
   rw [sizes] at hl
   rw [dY,Bool.and_eq_true] at hf
   rw [iG,Bool.and_eq_true]
   exact ⟨h1 t d (by omega) hf.1,ih.2 l d (by omega) hf.2⟩
def inF (vs:List Va) (lv:Int) (n:Nat) (b:Term × Bool):Bool:=b.2&&(il b.1==0&&(aK vs b.1 n&&gG vs lv b.1))
def jd (v:Va):Bool:=(fU v.type).isSome&&(!decide (v.level<0)&&!decide (v.level>60))
def mG (vs:List Va) (v:Va):Bool:=jd v&&(if v.is then inF vs v.level (aX v.type) (eD (aX v.type) v.t) else vD v.t)
theorem fT (t:Ty):aX t≤8:=by
 have:∀ (s:Nat) (t:Ty) (out:List ByteArray) (l:List ByteArray),t.size≤s→out.length≤8→iW t out=some l→l.length≤8:=by
  intro s
  induction s with
  |zero=>intro t out l ht;obtain ⟨a,b⟩:=t;rw [Ty.size] at ht;omega
  |succ s ih =>
   intro t out l ht ho hg
   cases h:(jm t.name&&(t.args.length:Int)==2)
   ·rw [ig out h,jr] at hg
    split at hg
    ·injection hg with hg;subst hg;exact ho
    ·cases hg
   ·rw [Bool.and_eq_true] at h
    obtain ⟨a,b,hab,he,_⟩:=mV out h.1 h.2
    rw [he] at hg
    split at hg
    ·cases hg
    ·rename_i hn
     have h8:out.length≠8:=by intro e;apply hn;simp [e]
     have hsz:=r9 t 1 (t:=b) (by rw [hab];rfl)
     exact ih b _ l (by omega) (by simp;omega) hg
 unfold aX
 cases h:fU t with
 |none=>simp
 |some l=>exact this t.size t [] l (Nat.le_refl _) (by simp) h
theorem O3 (vs:List Va) (hvs:vs.length≤1000000) (tk:Tok) (v:Va) (h:ai) (Q:AOut→ai→Prop) (hq:Q (.ret (.bool (mG vs v))) h):az Tryz.prog 73 [.agg [.list 8 (aM vs) vs.length tk],encV v] h Q:=by
 have hn8:=fT v.type
 unfold mG at hq
 refine eN Tryz.func73 ?_
 repeat with_reducible first|(apply zS;intro _ R_;simp only [go_sem,↓reduceIte];subst R_)|refine rG2 ?_|refine rS fun bq hbq=>?_
 intro a ha
 repeat with_reducible (apply zS;intro _ R_;simp only [go_sem,↓reduceIte];subst R_)
 intro b hb
 repeat with_reducible first|(apply zS;intro _ R_;simp only [go_sem,↓reduceIte];subst R_)|(apply rN;subst hbq)|refine rG2 ?_|apply nS|refine rS fun bq hbq=>?_
 have e1:=aQ hb
 have fin:ax (upd (upd h a (some (.cells [.list 8 (aM vs) vs.length tk] 24))) b (some (.cells (bO v) 62))) h:=((ax.refl h).new ha |>.new e1.2)
 refine rP v.type _ _ ?_
 rw [nX]
 cases ho:(fU v.type).isSome
 ·try dsimp only
  repeat first|(with_reducible first|((first|apply zS|apply zC);intro _ R_;simp only [go_sem,↓reduceIte,e1.1,e1.1.symm,ho];subst R_)|(apply rN;subst hbq)|refine rG2 ?_|(apply r1;clear hbq bq)|apply nS|refine rS fun bq hbq=>?_|apply rR)|(with_reducible apply iL;refine rL (by rw [Tryz.results73]) fin ?_;simp only [go_sem,↓reduceIte,aJ,Option.some.injEq,exists_eq_left',e1.1,e1.1.symm,ho])
  exact bJ (by simp only [jd,ho];rfl) hq
 cases l0:decide (v.level<0)
 case true =>
  try dsimp only
  repeat first|(with_reducible first|((first|apply zS|apply zC);intro _ R_;simp only [go_sem,↓reduceIte,e1.1,e1.1.symm,ho,l0];subst R_)|(apply rN;subst hbq)|refine rG2 ?_|(apply r1;clear hbq bq)|apply nS|refine rS fun bq hbq=>?_|apply rR)|(with_reducible apply iL;refine rL (by rw [Tryz.results73]) fin ?_;simp only [go_sem,↓reduceIte,aJ,Option.some.injEq,exists_eq_left',e1.1,e1.1.symm,ho,l0])
  exact bJ (by simp only [jd,ho,l0];rfl) hq
 cases l1:decide (v.level>60)
 case true =>
  try dsimp only
  repeat first|(with_reducible first|((first|apply zS|apply zC);intro _ R_;simp only [go_sem,↓reduceIte,e1.1,e1.1.symm,ho,l0,l1];subst R_)|(apply rN;subst hbq)|refine rG2 ?_|(apply r1;clear hbq bq)|apply nS|refine rS fun bq hbq=>?_|apply rR)|(with_reducible apply iL;refine rL (by rw [Tryz.results73]) fin ?_;simp only [go_sem,↓reduceIte,aJ,Option.some.injEq,exists_eq_left',e1.1,e1.1.symm,ho,l0,l1])
  exact bJ (by simp only [jd,ho,l0,l1];rfl) hq
 have hto:jd v=true:=by simp only [jd,ho,l0,l1];rfl
 rw [hto,Bool.true_and] at hq
 cases hi:v.is
 ·simp only [hi,Bool.false_eq_true,if_false] at hq
  try dsimp only
  repeat with_reducible first|((first|apply zS|apply zC);intro _ R_;simp only [go_sem,↓reduceIte,e1.1,e1.1.symm,ho,l0,l1,hi];subst R_)|(apply rN;subst hbq)|refine rG2 ?_|apply nS|refine rS fun bq hbq=>?_|apply rK
  refine Nj v.t _ _ ?_
  try dsimp only
  repeat first|(with_reducible first|(apply zS;intro _ R_;simp only [go_sem,↓reduceIte,e1.1,e1.1.symm,ho,l0,l1,hi];subst R_)|(apply rN;subst hbq)|(apply r1;clear hbq bq)|apply nS|apply rR)|(with_reducible apply iL;refine rL (by rw [Tryz.results73]) fin ?_;simp only [go_sem,↓reduceIte,aJ,Option.some.injEq,exists_eq_left',e1.1,e1.1.symm,ho,l0,l1,hi])
  exact hq
 ·simp only [hi,if_true] at hq
  try dsimp only
  repeat with_reducible first|((first|apply zS|apply zC);intro _ R_;simp only [go_sem,↓reduceIte,e1.1,e1.1.symm,ho,l0,l1,hi];subst R_)|(apply rN;subst hbq)|refine rG2 ?_|apply nS|refine rS fun bq hbq=>?_|apply rK
  refine CP v.t _ _ _ (by unfold aX at hn8;omega) ?_
  rw [Int.toNat_natCast]
  have hN:((fU v.type).getD []).length=aX v.type:=rfl
  rw [hN]
  try dsimp only
  repeat with_reducible (apply zS;intro _ R_;simp only [go_sem,↓reduceIte,e1.1,e1.1.symm,ho,l0,l1,hi];subst R_)
  intro w hw
  have e2:=aQ hw
  have e3:=aQ e2.2
  have fin2:ax (upd (upd (upd h a (some (.cells [.list 8 (aM vs) vs.length tk] 24))) b (some (.cells (bO v) 62))) w (some (.cells (ay (eD (aX v.type) v.t).1) 27))) h:=((ax.refl h).new ha |>.new e1.2 |>.new e3.2)
  rcases hbd:eD (aX v.type) v.t with ⟨u,ok⟩
  simp only [hbd] at hq fin2 ⊢
  unfold inF at hq
  cases ok
  case false =>
   repeat first|(with_reducible first|(apply zS;intro _ R_;simp only [go_sem,↓reduceIte,e1.1,e1.1.symm,e2.1,e2.1.symm,e3.1,e3.1.symm];subst R_)|(apply rN;subst hbq)|refine rG2 ?_|apply nS|refine rS fun bq hbq=>?_|apply rR)|(with_reducible apply iL;refine rL (by rw [Tryz.results73]) fin2 ?_;simp only [go_sem,↓reduceIte,aJ,Option.some.injEq,exists_eq_left',e1.1,e1.1.symm,e2.1,e2.1.symm,e3.1,e3.1.symm])
   exact hq
  repeat with_reducible first|(apply zS;intro _ R_;simp only [go_sem,↓reduceIte,e1.1,e1.1.symm,e2.1,e2.1.symm,e3.1,e3.1.symm];subst R_)|(apply rN;subst hbq)|refine rG2 ?_|apply nS|refine rS fun bq hbq=>?_
  refine BG u _ _ ?_
  cases hz:(il u==0)
  ·try dsimp only
   repeat first|(with_reducible first|(apply zS;intro _ R_;simp only [go_sem,↓reduceIte,e1.1,e1.1.symm,e2.1,e2.1.symm,e3.1,e3.1.symm,hz];subst R_)|(apply rN;subst hbq)|apply nS|apply rR)|(with_reducible apply iL;refine rL (by rw [Tryz.results73]) fin2 ?_;simp only [go_sem,↓reduceIte,aJ,Option.some.injEq,exists_eq_left',e1.1,e1.1.symm,e2.1,e2.1.symm,e3.1,e3.1.symm,hz])
   exact bJ (by simp only [hz];rfl) hq
  have hus:u.size≤4000:=nE u (by intro hp;unfold il at hz;rw [if_pos hp] at hz;exact absurd hz (by decide))
  try dsimp only
  repeat with_reducible (apply zS;intro _ R_;simp only [go_sem,↓reduceIte,e1.1,e1.1.symm,e2.1,e2.1.symm,e3.1,e3.1.symm,hz];subst R_)
  refine GD vs hvs tk u.size u _ _ _ (Nat.le_refl _) (by omega) (by omega) ?_
  cases hf:aK vs u (aX v.type:Int)
  ·try dsimp only
   repeat first|(with_reducible first|(apply zS;intro _ R_;simp only [go_sem,↓reduceIte,e1.1,e1.1.symm,e2.1,e2.1.symm,e3.1,e3.1.symm,hz,hf];subst R_)|(apply rN;subst hbq)|apply nS|apply rR)|(with_reducible apply iL;refine rL (by rw [Tryz.results73]) fin2 ?_;simp only [go_sem,↓reduceIte,aJ,Option.some.injEq,exists_eq_left',e1.1,e1.1.symm,e2.1,e2.1.symm,e3.1,e3.1.symm,hz,hf])
   exact bJ (by simp only [hz,hf];rfl) hq
  try dsimp only
  repeat with_reducible (apply zS;intro _ R_;simp only [go_sem,↓reduceIte,e1.1,e1.1.symm,e2.1,e2.1.symm,e3.1,e3.1.symm,hz,hf];subst R_)
  refine SA vs tk v.level u.size u _ _ (Nat.le_refl _) (by omega) ((sZ vs u.size).1 u _ (Nat.le_refl _) hf) ?_
  try dsimp only
  repeat first|(with_reducible first|(apply zS;intro _ R_;simp only [go_sem,↓reduceIte,e1.1,e1.1.symm,e2.1,e2.1.symm,e3.1,e3.1.symm,hz,hf];subst R_)|(apply rN;subst hbq)|apply nS|apply rR)|(with_reducible apply iL;refine rL (by rw [Tryz.results73]) fin2 ?_;simp only [go_sem,↓reduceIte,aJ,Option.some.injEq,exists_eq_left',e1.1,e1.1.symm,e2.1,e2.1.symm,e3.1,e3.1.symm,hz,hf])
  exact bJ (by simp only [hz,hf,Bool.true_and]) hq
theorem Sa (vs:List Va) (hvs:vs.length≤1000000) (tk:Tok) (v:Va) (h:ai) (p:Nat) (hp:h p=some (.cells [.list 8 (aM vs) vs.length tk] 24)) (Q:AOut→ai→Prop) (hq:Q (.ret (.bool (!mG vs v))) h):az Tryz.prog 72 [encV v,.ptr p 0] h Q:=by
 refine eN Tryz.func72 ?_
 repeat with_reducible first|(apply zS;intro _ R_;simp only [go_sem,↓reduceIte];subst R_)|refine rG2 ?_|refine rS fun bq hbq=>?_
 intro q hq'
 have h1:=aj hq' hp
 repeat with_reducible first|(apply zS;intro _ R_;simp only [go_sem,↓reduceIte,h1,hp];subst R_)|(apply rN;subst hbq)|refine rG2 ?_|apply nS|refine rS fun bq hbq=>?_
 refine O3 vs hvs tk v _ _ ?_
 try dsimp only
 repeat first|(with_reducible first|(apply zS;intro _ R_;simp only [go_sem,↓reduceIte,h1,hp];subst R_)|(apply rN;subst hbq)|apply nS|apply rR)|(with_reducible apply iL;refine rL (by rw [Tryz.results72]) (ax.one hq') ?_;simp only [go_sem,↓reduceIte,aJ,Option.some.injEq,exists_eq_left',h1,hp])
 exact hq
def fJ {β:Type} (f:β→AV):List (Int × β)→List (AV × AV × Nat)→Prop
 |[],raw=>raw=[]
 |(k,v)::es,raw=>∃ b r,raw=(.int .i64 k,f v,b)::r∧fJ f es r
def mget {β:Type} (k:Int):List (Int × β)→Option β
 |[]=>none
 |(k',v)::es=>if k==k' then some v else mget k es
theorem lg {β:Type} {f:β→AV} {k:Int}:∀ (es:List (Int × β)) (raw:List (AV × AV × Nat)) (i:Nat),fJ f es raw→mget k es=none→qD (.int .i64 k) raw i=some Option.none
 |[],raw,i,h,_=>by simp only [fJ] at h;subst h;rfl
 |(k',v)::es,raw,i,h,hg=>by
  obtain ⟨b,r,rfl,hr⟩:=h
  rw [mget] at hg
  cases hk:(k==k')
  ·rw [hk] at hg
   have:=lg es r (i+1) hr hg
   simp only [qD,zt,if_true,hk]
   exact this
  ·rw [hk] at hg;cases hg
theorem tC {β:Type} {f:β→AV} {k:Int} {v:β}:∀ (es:List (Int × β)) (raw:List (AV × AV × Nat)) (i:Nat),fJ f es raw→mget k es=some v→∃ j,qD (.int .i64 k) raw i=some (some (i+j,f v))∧fJ f es (raw.modify j fun e=>(.int .i64 k,f v,e.2.2))
 |[],raw,i,_,hg=>by cases hg
 |(k',v')::es,raw,i,h,hg=>by
  obtain ⟨b,r,rfl,hr⟩:=h
  rw [mget] at hg
  cases hk:(k==k')
  ·rw [hk] at hg
   obtain ⟨j,h1,h2⟩:=tC es r (i+1) hr hg
   refine ⟨j+1,?_,b,_,?_,h2⟩
   ·simp only [qD,zt,if_true,hk]
    rw [h1,show i+1+j=i+(j+1) by omega]
   ·simp
  ·rw [hk] at hg
   simp only [if_true,Option.some.injEq] at hg
   subst hg
   refine ⟨0,?_,b,r,?_,hr⟩
   ·simp only [qD,zt,if_true,hk,Nat.add_zero]
   ·simp only [beq_iff_eq] at hk;subst hk;simp
theorem map_append {β:Type} {f:β→AV} {k:Int} {v:β} {c:Nat}:∀ (es:List (Int × β)) (raw:List (AV × AV × Nat)),fJ f es raw→fJ f (es++[(k,v)]) (raw++[(.int .i64 k,f v,c)])
 |[],raw,h=>by simp only [fJ] at h;subst h;exact ⟨c,[],rfl,rfl⟩
 |(k',v')::es,raw,h=>by
  obtain ⟨b,r,rfl,hr⟩:=h
  exact ⟨b,r++[(.int .i64 k,f v,c)],rfl,map_append es r hr⟩
def mset {β:Type} (k:Int) (v:β):List (Int × β)→List (Int × β)
 |[]=>[(k,v)]
 |(k',v')::es=>if k==k' then (k,v)::es else (k',v')::mset k v es
theorem ji {β:Type} (j k:Int) (v:β):∀ es:List (Int × β),mget j (mset k v es)=if j==k then some v else mget j es
 |[]=>rfl
 |(k',v')::es=>by
  rw [mset]
  cases hk:(k==k')
  ·simp only [Bool.false_eq_true,if_false]
   rw [mget,mget,ji j k v es]
   cases h1:(j==k') <;> cases h2:(j==k) <;> simp only [Bool.false_eq_true,if_false,if_true]
   ·simp only [beq_iff_eq] at h1 h2;subst h1;subst h2;simp at hk
  ·simp only [if_true]
   have e:k=k':=by simpa using hk
   subst e
   rw [mget,mget]
   cases h2:(j==k) <;> rfl
theorem sP {β:Type} {k:Int} {v:β}:∀ es:List (Int × β),mget k es=none→mset k v es=es++[(k,v)]
 |[],_=>rfl
 |(k',v')::es,h=>by
  rw [mget] at h
  cases hk:(k==k')
  ·rw [hk] at h
   rw [mset,hk,List.cons_append,← sP es (by simpa using h)]
   rfl
  ·rw [hk] at h;cases h
theorem Cz {β:Type} {f:β→AV} {k:Int} {w:β} (v:β):∀ (es:List (Int × β)) (raw:List (AV × AV × Nat)) (i:Nat),fJ f es raw→mget k es=some w→∃ j,qD (.int .i64 k) raw i=some (some (i+j,f w))∧fJ f (mset k v es) (raw.modify j fun e=>(.int .i64 k,f v,e.2.2))
 |[],raw,i,_,hg=>by cases hg
 |(k',v')::es,raw,i,h,hg=>by
  obtain ⟨b,r,rfl,hr⟩:=h
  rw [mget] at hg
  cases hk:(k==k')
  ·rw [hk] at hg
   obtain ⟨j,h1,h2⟩:=Cz v es r (i+1) hr hg
   refine ⟨j+1,?_,?_⟩
   ·simp only [qD,zt,if_true,hk]
    rw [h1,show i+1+j=i+(j+1) by omega]
   ·rw [mset,hk]
    exact ⟨b,_,by simp,h2⟩
  ·rw [hk] at hg
   simp only [if_true,Option.some.injEq] at hg
   subst hg
   refine ⟨0,?_,?_⟩
   ·simp only [qD,zt,if_true,hk,Nat.add_zero]
   ·rw [mset,hk]
    exact ⟨b,r,by simp,hr⟩
abbrev Cf (i:Int):AV:=.int .i64 i
theorem Ak {h:ai} {m:Nat} {es:List (Int × Int)} {raw:List (AV × AV × Nat)} {c:Nat} (hm:h m=some (.map raw c)) (hr:fJ Cf es raw) (k v:Int) :
  ∃ raw' c',eY Tryz.prog 160 (.map m) (.int .i64 k) (.int .i64 v) h=some (upd h m (some (.map raw' c')))∧fJ Cf (mset k v es) raw':=by
 cases hg:mget k es with
 |none =>
  have hj:=lg (f:=Cf) es raw 0 hr hg
  refine ⟨raw++[(.int .i64 k,.int .i64 v,c)],c+1,?_,?_⟩
  ·simp only [eY,Eg,hm,plainKey,tk_3,if_true,hj]
  ·rw [sP es hg];exact map_append (f:=Cf) es raw hr
 |some w =>
  obtain ⟨j,hj,h2⟩:=Cz (f:=Cf) v es raw 0 hr hg
  rw [Nat.zero_add] at hj
  refine ⟨_,c,?_,h2⟩
  simp only [eY,Eg,hm,plainKey,tk_3,if_true,hj]
theorem J9 {h:ai} {m:Nat} {es:List (Int × Int)} {raw:List (AV × AV × Nat)} {c:Nat} (hm:h m=some (.map raw c)) (hr:fJ Cf es raw) (k:Int) :
  iM Tryz.prog 160 (.map m) (.int .i64 k) false h=some (.int .i64 ((mget k es).getD 0)):=by
 cases hg:mget k es with
 |none =>
  have hj:=lg (f:=Cf) es raw 0 hr hg
  simp only [iM,Eg,hm,ze_3,plainKey,tk_3,if_true,hj]
  rfl
 |some w =>
  obtain ⟨j,hj,_⟩:=tC (f:=Cf) es raw 0 hr hg
  simp only [iM,Eg,hm,ze_3,plainKey,tk_3,if_true,hj]
  rfl
abbrev CSt:=List (Int × Int)
def stOf (es:CSt) (n:Int):Int:=(mget n es).getD 0
theorem ni (es:CSt) (k v j:Int):stOf (mset k v es) j=if j==k then v else stOf es j:=by
 unfold stOf;rw [ji];split <;> rfl
mutual
def fK (ex:Int→CSt→Bool × CSt):Term→CSt→Bool × CSt
 |⟨k,n,_,l⟩,es=>if (if k==4 then ex n es else (false,es)).1 then (true,(if k==4 then ex n es else (false,es)).2) else mF ex l (if k==4 then ex n es else (false,es)).2
def mF (ex:Int→CSt→Bool × CSt):List Term→CSt→Bool × CSt
 |[],es=>(false,es)
 |t::ts,es=>if (fK ex t es).1 then (true,(fK ex t es).2) else mF ex ts (fK ex t es).2
end
theorem Lb (ex:Int→CSt→Bool × CSt) (t:Term) (es:CSt):fK ex t es=if (if t.kind==4 then ex t.n es else (false,es)).1 then (true,(if t.kind==4 then ex t.n es else (false,es)).2) else mF ex t.args (if t.kind==4 then ex t.n es else (false,es)).2:=by
 obtain ⟨k,n,s,l⟩:=t;rw [fK]
theorem Ab (ex:Int→CSt→Bool × CSt):∀ (l:List Term) (es:CSt),Fu (fun es u=>fK ex u es) l es=mF ex l es
 |[],es=>by rw [Fu,mF]
 |u::l,es=>by
  rw [Fu,mF]
  split
  ·rfl
  ·exact Ab ex l _
def exF (vs:List Va):Nat→Int→CSt→Bool × CSt
 |0,n,es=>((ak vs n).is&&stOf es n==1,es)
 |f+1,n,es=>if !(ak vs n).is then (false,es) else if stOf es n==1 then (true,es) else if stOf es n==0 then
   (if (fK (exF vs f) (ak vs n).t (mset n 1 es)).1 then (true,(fK (exF vs f) (ak vs n).t (mset n 1 es)).2)
    else (false,mset n 2 (fK (exF vs f) (ak vs n).t (mset n 1 es)).2)) else (false,es)
def zeros (m:Nat) (es:CSt):Nat:=(List.range m).countP fun i:Nat=>stOf es (i:Int)==0
def Later (es es':CSt):Prop:=∀ n:Int,stOf es n≠0→stOf es' n≠0
theorem Later.refl (es:CSt):Later es es:=fun _ h=>h
theorem Later.trans {a b c:CSt} (h:Later a b) (k:Later b c):Later a c:=fun n hn=>k n (h n hn)
theorem Later.set (es:CSt) (n v:Int) (hv:v≠0):Later es (mset n v es):=fun j hj=>by
 rw [ni];split
 ·exact hv
 ·exact hj
theorem mZ (m:Nat) {es es':CSt} (h:Later es es'):zeros m es'≤zeros m es:=by
 unfold zeros
 refine List.countP_mono_left fun i _ hi=>?_
 rw [beq_iff_eq] at hi ⊢
 by_cases e:stOf es i=0
 ·exact e
 ·exact absurd hi (h i e)
theorem De (m:Nat) (es:CSt) (n:Int) (v:Int) (hv:v≠0) (h0:0≤n) (hn:n<(m:Int)) (hz:(stOf es n==0)=true):zeros m (mset n v es)<zeros m es:=by
 obtain ⟨k,rfl⟩:∃ k:Nat,n=k:=⟨n.toNat,by omega⟩
 unfold zeros
 have hk:k<m:=by omega
 have hsplit:List.range m=List.range k++k::(List.range (m - k - 1)).map (fun i=>k+1+i):=by
  have:m=k+(1+(m - k - 1)):=by omega
  conv=>lhs;rw [this]
  rw [List.range_add,List.range_add]
  simp [List.range_succ,Function.comp_def,Nat.add_assoc]
 rw [hsplit]
 simp only [List.countP_append,List.countP_cons,ni,hz,beq_self_eq_true,if_true]
 have hv':(v==0)=false:=by simpa using hv
 rw [hv']
 have hA:∀ l:List Nat,l.countP (fun i:Nat=>(if ((i:Int)==(k:Int))=true then v else stOf es i)==0)≤l.countP (fun i:Nat=>stOf es (i:Int)==0):=fun l=>by
  refine List.countP_mono_left fun i _ hi=>?_
  cases hik:((i:Int)==(k:Int))
  ·rw [hik] at hi;simpa using hi
  ·rw [hik] at hi;simp only [if_true] at hi;rw [hv'] at hi;cases hi
 have h1:=hA (List.range k)
 have h2:=hA ((List.range (m - k - 1)).map (fun i=>k+1+i))
 simp only [Bool.false_eq_true,if_false] at *
 omega
mutual
theorem jY (ex:Int→CSt→Bool × CSt) (hex:∀ n es,Later es (ex n es).2):∀ (t:Term) (es:CSt),Later es (fK ex t es).2
 |⟨k,n,s,l⟩,es=>by
  have h1:Later es (if k==4 then ex n es else (false,es)).2:=by
   split
   ·exact hex n es
   ·exact Later.refl es
  rw [fK]
  generalize (if k==4 then ex n es else (false,es))=r at h1 ⊢
  split
  ·exact h1
  ·exact h1.trans (vS ex hex l _)
theorem vS (ex:Int→CSt→Bool × CSt) (hex:∀ n es,Later es (ex n es).2):∀ (l:List Term) (es:CSt),Later es (mF ex l es).2
 |[],es=>by rw [mF];exact Later.refl es
 |t::l,es=>by
  rw [mF]
  split
  ·exact jY ex hex t es
  ·exact (jY ex hex t es).trans (vS ex hex l _)
end
theorem tO (vs:List Va):∀ (f:Nat) (n:Int) (es:CSt),Later es (exF vs f n es).2
 |0,n,es=>Later.refl es
 |f+1,n,es=>by
  have h1:=(Later.set es n 1 (by decide)).trans (jY (exF vs f) (tO vs f) (ak vs n).t (mset n 1 es))
  rw [exF]
  split
  ·exact Later.refl es
  ·split
   ·exact Later.refl es
   ·split
    ·split
     ·exact h1
     ·exact h1.trans (Later.set _ n 2 (by decide))
    ·exact Later.refl es
theorem GK (vs:List Va) (f:Nat) (n:Int) (es:CSt) (h:(ak vs n).is=false):exF vs f n es=(false,es):=by
 cases f with
 |zero=>rw [exF,h];rfl
 |succ f=>rw [exF,h];rfl
theorem NC (vs:List Va) (f:Nat) (n:Int) (es:CSt) (h:(ak vs n).is=true) (h1:(stOf es n==1)=true):exF vs f n es=(true,es):=by
 cases f with
 |zero=>rw [exF,h,h1];rfl
 |succ f=>rw [exF,h,h1];rfl
theorem GJ (vs:List Va) (f:Nat) (n:Int) (es:CSt) (h:(ak vs n).is=true) (h1:(stOf es n==1)=false) (h0:(stOf es n==0)=false):exF vs f n es=(false,es):=by
 cases f with
 |zero=>rw [exF,h,h1];rfl
 |succ f=>rw [exF,h,h1,h0];rfl
theorem CF (vs:List Va) (f:Nat) (n:Int) (es:CSt) (h:(ak vs n).is=true) (h0:(stOf es n==0)=true):exF vs (f+1) n es=(if (fK (exF vs f) (ak vs n).t (mset n 1 es)).1 then (true,(fK (exF vs f) (ak vs n).t (mset n 1 es)).2)
    else (false,mset n 2 (fK (exF vs f) (ak vs n).t (mset n 1 es)).2)):=by
 have h1:(stOf es n==1)=false:=by simp only [beq_iff_eq] at h0;rw [h0];rfl
 rw [exF,h,h1,h0];rfl
def VSt (m:Nat) (h0:ai) (es:CSt) (h:ai):Prop:=ax h h0∧∃ raw c,h m=some (.map raw c)∧fJ Cf es raw
theorem VSt.low {m:Nat} {h0 h1 h:ai} {es:CSt} (k:VSt m h1 es h) (hl:ax h1 h0):VSt m h0 es h:=⟨k.1.trans hl,k.2⟩
theorem eO {h h0:ai} {m:Nat} (hl:ax h h0) (hm:h0 m=Option.none) (x:Option AObj):ax (upd h m x) h0:=by
 intro j o hj
 have e:j≠m:=by intro e;subst e;rw [hm] at hj;cases hj
 rw [ae _ _ e];exact hl j o hj
theorem Kk (h:ai) (m:Nat) (x:Option AObj):ax (upd h m x) (upd h m Option.none):=by
 intro j o hj
 by_cases e:j=m
 ·subst e;rw [upd_same] at hj;cases hj
 ·rw [ae _ _ e] at hj ⊢;exact hj
theorem jK (h:ai) (m:Nat):ax h (upd h m Option.none):=by
 intro j o hj
 by_cases e:j=m
 ·subst e;rw [upd_same] at hj;cases hj
 ·rw [ae _ _ e] at hj;exact hj
def Jt (vs:List Va):Prop:=∀ v ∈ vs,v.is=true→varsIn vs.length v.t=true∧v.t.size≤1000000000
theorem R9 {vs:List Va} (hv:Jt vs) (n:Int) (hn:0≤n∧n<(vs.length:Int)) (hi:(ak vs n).is=true):varsIn vs.length (ak vs n).t=true∧(ak vs n).t.size≤1000000000:=by
 refine hv _ ?_ hi
 unfold ak
 rw [List.getD_eq_getElem?_getD,List.getElem?_eq_getElem (by omega:n.toNat<vs.length)]
 exact List.getElem_mem _
theorem O0 (vs:List Va) (hval:Jt vs) (tk:Tok) (a b c m:Nat):∀ (f s:Nat) (h0:ai) (ha:h0 a=some (.cells [.list 8 (aM vs) vs.length tk] 24)) (hb:h0 b=some (.cells [.map m] 160)) (hc:h0 c=some (.cells [.func (.func 120) [] [.ptr a 0,.ptr b 0,.ptr c 0]] 95)) (hm:h0 m=Option.none)
  (t:Term) (es:CSt) (h:ai) (Q:AOut→ai→Prop),t.size≤s→t.size≤1000000000→varsIn vs.length t=true→zeros vs.length es≤f→VSt m h0 es h →
  (∀ h2,VSt m h0 (fK (exF vs f) t es).2 h2→Q (.ret (.bool (fK (exF vs f) t es).1)) h2)→az Tryz.prog 120 [enc t,.ptr a 0,.ptr b 0,.ptr c 0] h Q:=by
 intro f
 induction f using Nat.strongRecOn with
 |ind f ihf =>
 intro s
 induction s with
 |zero=>intro h0 _ _ _ _ t es h Q ht;obtain ⟨a,b,c,l⟩:=t;rw [Term.size] at ht;omega
 |succ s ih =>
  intro h0 ha hb hc hm t es h Q ht hts hvi hz hM hq
  have hlen:=jG t
  rw [Lb] at hq
  obtain ⟨hl0,raw,cl,hmm,hrel⟩:=hM
  have sa:=hl0 _ _ ha
  have sb:=hl0 _ _ hb
  have sc:=hl0 _ _ hc
  have ham:a≠m:=by intro e;subst e;rw [hm] at ha;cases ha
  have hbm:b≠m:=by intro e;subst e;rw [hm] at hb;cases hb
  have hcm:c≠m:=by intro e;subst e;rw [hm] at hc;cases hc
  refine eN Tryz.func120 ?_
  repeat with_reducible first|(apply zS;intro _ R_;simp only [go_sem,↓reduceIte];subst R_)|refine rG2 ?_|refine rS fun bq hbq=>?_
  intro p hp
  have hpa:=aj hp sa
  have hpb:=aj hp sb
  have hpc:=aj hp sc
  have hpm:=aj hp hmm
  have fin0:ax (upd h p (some (.cells (ay t) 27))) h:=(ax.refl h).new hp
  have fin:ax (upd h p (some (.cells (ay t) 27))) h0:=fin0.trans hl0
  have sa:=fin0 _ _ sa
  have sb:=fin0 _ _ sb
  have sc:=fin0 _ _ sc
  have hmm:=fin0 _ _ hmm
  have sp:(upd h p (some (AObj.cells (ay t) 27))) p=some (.cells (ay t) 27):=upd_same _ _ _
  generalize upd h p (some (AObj.cells (ay t) 27))=H at *
  repeat with_reducible first|(apply zS;intro _ R_;simp only [go_sem,↓reduceIte];subst R_)|apply nS
  apply rN;subst hbq
  repeat with_reducible refine ah fun bq hbq=>?_
  refine dB (fun τ h'=>τ 1=.ptr a 0∧τ 2=.ptr b 0∧τ 3=.ptr c 0∧τ 4=.ptr p 0∧H=h'∧τ 17=.bool (t.kind==4&&(ak vs t.n).is)) ?_ fun τ h' hI=>?_
  ·cases k4:(t.kind==4)
   ·repeat with_reducible first|(apply zS;intro _ R_;simp only [go_sem,↓reduceIte,sa,sb,sc,sp,k4];subst R_)|refine rG2 ?_|apply nS
    refine aD ?_
    simp only [go_sem,↓reduceIte,k4]
   ·obtain ⟨hn0,hn2,r,hr⟩:=FI vs t hvi k4
    have hr3:List.drop (t.n.toNat * 8+3) (aM vs)=.bool (ak vs t.n).is::(List.drop 4 (bO (ak vs t.n))++r):=by rw [← List.drop_drop,hr];rfl
    repeat with_reducible first|(apply zS;intro _ R_;simp only [go_sem,↓reduceIte,sa,sb,sc,sp,k4,hn0,hn2,hr,hr3];subst R_)|refine rG2 ?_|apply nS
    refine aD ?_
    simp only [go_sem,↓reduceIte,k4]
  obtain ⟨f1,f2,f3,f4,rfl,f17⟩:=hI
  subst hbq
  have hD:ax (upd H m Option.none) h0:=eO fin hm _
  have da:=(ae H (Option.none:Option AObj) ham).trans sa
  have db:=(ae H (Option.none:Option AObj) hbm).trans sb
  have dc:=(ae H (Option.none:Option AObj) hcm).trans sc
  have dp:=(ae H (Option.none:Option AObj) hpm.symm).trans sp
  have hM2:VSt m (upd H m Option.none) es H:=⟨jK H m,raw,cl,hmm,hrel⟩
  refine dB (fun τ h'=>∃ es',(if t.kind==4 then exF vs f t.n es else (false,es))=(false,es')∧zeros vs.length es'≤f∧τ 3=.ptr c 0∧τ 4=.ptr p 0∧VSt m (upd H m Option.none) es' h') ?_ fun τ h' hI=>?_
  ·cases hk:(t.kind==4&&(ak vs t.n).is)
   ·rw [hk] at f17
    have he:(if t.kind==4 then exF vs f t.n es else (false,es))=(false,es):=by
     cases k4:(t.kind==4)
     ·rfl
     ·rw [k4,Bool.true_and] at hk
      simp only [if_true]
      exact GK vs f t.n es hk
    repeat with_reducible first|(apply zC;intro _ R_;simp only [go_sem,↓reduceIte,f1,f2,f3,f4,f17];subst R_)|apply rK
    refine aD ?_
    exact ⟨es,he,hz,f3,f4,hM2⟩
   ·rw [hk] at f17
    obtain ⟨k4,hi⟩:=Bool.and_eq_true_iff.1 hk
    obtain ⟨hn0,hn2,r,hr⟩:=FI vs t hvi k4
    have hr4:List.drop (t.n.toNat * 8+4) (aM vs)=.int .i64 (ak vs t.n).t.kind::.int .i64 (ak vs t.n).t.n::.str (ak vs t.n).t.name::.list 4 (encs (ak vs t.n).t.args) (ak vs t.n).t.args.length .none::r:=by rw [← List.drop_drop,hr];rfl
    simp only [k4,if_true] at hq ⊢
    have hget:iM Tryz.prog 160 (.map m) (.int .i64 t.n) false H=some (.int .i64 (stOf es t.n)):=J9 hmm hrel t.n
    repeat with_reducible first|((first|apply zS|apply zC);intro _ R_;simp only [go_sem,↓reduceIte,f1,f2,f3,f4,f17,sa,sb,sc,sp,hget];subst R_)|(apply rN;subst hbq)|refine rG2 ?_|(refine rB fun cq hcq=>?_;subst hcq)|apply nS|refine rS fun bq hbq=>?_
    cases h1:(stOf es t.n==1)
    case true =>
     rw [NC vs f t.n es hi h1] at hq
     simp only [if_true] at hq
     try dsimp only
     repeat first|(with_reducible first|(apply zS;intro _ R_;simp only [go_sem,↓reduceIte,f1,f2,f3,f4,h1];subst R_)|(apply rN;subst hbq)|refine rG2 ?_|apply nS|refine rS fun bq hbq=>?_|apply rR|apply r2|apply r4)|(with_reducible apply iL;refine rL (by rw [Tryz.results120]) (ax.refl _) ?_;simp only [go_sem,↓reduceIte,aJ,Option.some.injEq,exists_eq_left',f1,f2,f3,f4,h1])
     exact hq _ (hM2.low hD)
    cases h2:(stOf es t.n==0)
    case false =>
     try dsimp only
     repeat with_reducible first|((first|apply zS|apply zC);intro _ R_;simp only [go_sem,↓reduceIte,f1,f2,f3,f4,h1,h2];subst R_)|(apply rN;subst hbq)|refine rG2 ?_|apply nS|refine rS fun bq hbq=>?_|apply rK|apply rE
     refine aD ?_
     exact ⟨es,GJ vs f t.n es hi h1 h2,hz,f3,f4,hM2⟩
    have hz1:=De vs.length es t.n 1 (by decide) hn0 hn2 h2
    obtain ⟨f',rfl⟩:∃ f',f=f'+1:=⟨f - 1,by omega⟩
    obtain ⟨raw',c',hput,hrel'⟩:=Ak hmm hrel t.n 1
    have hin:=R9 hval t.n ⟨hn0,hn2⟩ hi
    rw [CF vs f' t.n es hi h2] at hq ⊢
    have hM4:VSt m (upd H m Option.none) (mset t.n 1 es) (upd H m (some (.map raw' c'))):=⟨Kk _ _ _,raw',c',upd_same _ _ _,hrel'⟩
    have a1:=hM4.1 _ _ da
    have b1:=hM4.1 _ _ db
    have c1:=hM4.1 _ _ dc
    have p1:=hM4.1 _ _ dp
    generalize upd H m (some (AObj.map raw' c'))=H1 at *
    try dsimp only
    repeat with_reducible first|((first|apply zS|apply zC);intro _ R_;simp only [go_sem,↓reduceIte,f1,f2,f3,f4,sa,sb,sc,sp,h1,h2,hput];subst R_)|(apply rN;subst hbq)|refine rG2 ?_|apply nS|refine rS fun bq hbq=>?_
    repeat with_reducible refine ah fun bq hbq=>?_
    refine bA (.take 0 (.take 1 (.take 2 (.take 3 (.take 4 (.take 5 (.take 6 (.take 7 (.one 8 [4,2] (.done)))))))))) (by kernel_rfl) (by simp only [aF,gtOf,aA];exact rfl) ?_
    repeat ((first|(with_reducible apply iT;refine sT rfl ?_)|(with_reducible apply iO;refine sO rfl ?_));intro _ _ _ C_ R_ U_;simp only [go_sem,↓reduceIte,f1,f2,f3,f4,a1,b1,c1,p1,hn0,hn2,hr4];subst C_ R_ U_)
    refine ihf f' (by omega) _ (upd H m Option.none) da db dc (upd_same _ _ _) (ak vs t.n).t (mset t.n 1 es) H1 _ (Nat.le_refl _) hin.2 hin.1 (by omega) hM4 (fun h2 hM5=>?_)
    have a2:=hM5.1 _ _ da
    have b2:=hM5.1 _ _ db
    have c2:=hM5.1 _ _ dc
    have p2:=hM5.1 _ _ dp
    have hz2:=mZ vs.length (jY (exF vs f') (tO vs f') (ak vs t.n).t (mset t.n 1 es))
    generalize hres:fK (exF vs f') (ak vs t.n).t (mset t.n 1 es)=res at *
    obtain ⟨rb,re⟩:=res
    cases rb
    case true =>
     simp only [if_true] at hq
     try dsimp only
     repeat first|(with_reducible first|((first|apply sS|apply sA|apply sC);intro _ _ _ C_ R_ U_;simp only [go_sem,↓reduceIte,f1,f2,f3,f4,a2,b2,c2,p2];subst C_ R_ U_)|(apply rN;subst hbq)|refine rG2 ?_|(apply r1;clear hbq bq)|apply nS|apply nD|refine rS fun bq hbq=>?_|apply rR|apply r2|apply r4)|(with_reducible apply iL;refine rL (by rw [Tryz.results120]) (ax.refl _) ?_;simp only [go_sem,↓reduceIte,aJ,Option.some.injEq,exists_eq_left',f1,f2,f3,f4,a2,b2,c2,p2])
     exact hq _ (hM5.low hD)
    obtain ⟨hl5,raw2,cl2,hm2,hrel2⟩:=hM5
    obtain ⟨raw3,c3,hput2,hrel3⟩:=Ak hm2 hrel2 t.n 2
    try dsimp only
    repeat with_reducible first|((first|apply sS|apply sA|apply sC);intro _ _ _ C_ R_ U_;simp only [go_sem,↓reduceIte,f1,f2,f3,f4,a2,b2,c2,p2,hput2];subst C_ R_ U_)|(apply rN;subst hbq)|refine rG2 ?_|apply nS|apply nD|apply rK|apply rE
    refine aD ?_
    have hz3:=mZ vs.length (Later.set re t.n 2 (by decide))
    refine ⟨mset t.n 2 re,rfl,?_,?_⟩
    ·simp only at hz2;omega
    ·simp only [go_sem,↓reduceIte,f3,f4]
     exact ⟨eO hl5 (upd_same _ _ _) _,raw3,c3,upd_same _ _ _,hrel3⟩
  ·obtain ⟨es',he,hz',f3,f4,hM3⟩:=hI
   subst hbq
   rw [he] at hq
   simp only [Bool.false_eq_true,if_false] at hq
   have c2:=hM3.1 _ _ dc
   have p2:=hM3.1 _ _ dp
   repeat with_reducible first|(apply zS;intro _ R_;simp only [go_sem,↓reduceIte,f3,f4,c2,p2];subst R_)|refine rG2 ?_|refine rS fun bq hbq=>?_
   refine wI t.args 120 [] [.ptr a 0,.ptr b 0,.ptr c 0] (fun es h=>VSt m (upd H m Option.none) es h∧zeros vs.length es≤f) (fun es u=>fK (exF vs f) u es) es' _ _ (by omega) (fun i u es2 hu h' Q' hR hQ=>?_) ⟨hM3,hz'⟩ (fun h1 hR=>?_)
   ·have:=fF t i hu
    refine ih (upd H m Option.none) da db dc (upd_same _ _ _) u es2 h' Q' (by omega) (by omega) (uN _ _ i (by rw [xD,Bool.and_eq_true] at hvi;exact hvi.2) hu) hR.2 hR.1 (fun h2 hM6=>hQ h2 ⟨hM6,?_⟩)
    exact Nat.le_trans (mZ _ (jY (exF vs f) (tO vs f) u es2)) hR.2
   ·rw [Ab] at hR ⊢
    try dsimp only
    repeat first|(with_reducible first|(apply zS;intro _ R_;simp only [go_sem,↓reduceIte];subst R_)|(apply rN;subst hbq)|apply nS|apply rR)|(with_reducible apply iL;refine rL (by rw [Tryz.results120]) (ax.refl _) ?_;simp only [go_sem,↓reduceIte,aJ,Option.some.injEq,exists_eq_left'])
    exact hq _ (hR.1.low hD)
def varT (n:Int):Term:=⟨4,n,aB,[]⟩
def zY (ex:Int→CSt→Bool × CSt):Nat→Nat→CSt→Bool
 |0,_,_=>false
 |k+1,i,es=>if (fK ex (varT i) es).1 then true else zY ex k (i+1) (fK ex (varT i) es).2
def ug (vs:List Va):Bool:=zY (exF vs vs.length) vs.length 0 []
theorem Ho (m:Nat) (es:CSt):zeros m es≤m:=by
 unfold zeros
 exact Nat.le_trans List.countP_le_length (by simp)
theorem iV (k n:Int):dL Tryz.prog 27 [(0,.int .i64 k),(1,.int .i64 n)]=some (.agg [.int .i64 k,.int .i64 n,.str aB,.list 0 [] 0 .nil]):=by
 simp only [dL,iy,JQ,ik]
 rfl
theorem KA (vs:List Va) (hvs:vs.length≤1000000) (hval:Jt vs) (tk:Tok) (h:ai) (Q:AOut→ai→Prop) (hq:Q (.ret (.bool (ug vs))) h):az Tryz.prog 74 [.agg [.list 8 (aM vs) vs.length tk]] h Q:=by
 unfold ug at hq
 refine eN Tryz.func74 ?_
 repeat with_reducible first|(apply zS;intro _ R_;simp only [go_sem,↓reduceIte];subst R_)|refine rG2 ?_|refine rS fun bq hbq=>?_
 intro a ha
 repeat with_reducible first|(apply zS;intro _ R_;simp only [go_sem,↓reduceIte];subst R_)|(apply rN;subst hbq)|refine rG2 ?_|apply nS|refine rS fun bq hbq=>?_
 intro m hm
 have e1:=aQ hm
 repeat with_reducible (apply zS;intro _ R_;simp only [go_sem,↓reduceIte];subst R_)
 intro b hb
 have e2:=aQ hb
 have e3:=aQ e2.2
 repeat with_reducible first|(apply zS;intro _ R_;simp only [go_sem,↓reduceIte];subst R_)|(apply rN;subst hbq)|refine rG2 ?_|apply nS|refine rS fun bq hbq=>?_
 intro c hc
 have e4:=aQ hc
 have e5:=aQ e4.2
 have e6:=aQ e5.2
 repeat with_reducible first|(apply zS;intro _ R_;simp only [go_sem,↓reduceIte,e1.1,e1.1.symm,e2.1,e2.1.symm,e3.1,e3.1.symm,e4.1,e4.1.symm,e5.1,e5.1.symm,e6.1,e6.1.symm];subst R_)|(apply rN;subst hbq)|refine rG2 ?_|(refine rB fun cq hcq=>?_;subst hcq)|apply nS|refine rS fun bq hbq=>?_
 have fin:ax (upd (upd (upd (upd h a (some (.cells [.list 8 (aM vs) vs.length tk] 24))) m (some (.map [] 0))) b (some (.cells [.map m] 160))) c (some (.cells [.func (.func 120) [] [.ptr a 0,.ptr b 0,.ptr c 0]] 95))) h:=((ax.refl h).new ha |>.new e1.2 |>.new e3.2 |>.new e6.2)
 have sa:(upd (upd (upd (upd h a (some (AObj.cells [.list 8 (aM vs) vs.length tk] 24))) m (some (.map [] 0))) b (some (.cells [.map m] 160))) c (some (.cells [.func (.func 120) [] [.ptr a 0,.ptr b 0,.ptr c 0]] 95))) a=some (AObj.cells [.list 8 (aM vs) vs.length tk] 24):=by
  rw [ae _ _ e6.1.symm,ae _ _ e3.1.symm,ae _ _ e1.1.symm,upd_same]
 have sm:(upd (upd (upd (upd h a (some (AObj.cells [.list 8 (aM vs) vs.length tk] 24))) m (some (.map [] 0))) b (some (.cells [.map m] 160))) c (some (.cells [.func (.func 120) [] [.ptr a 0,.ptr b 0,.ptr c 0]] 95))) m=some (AObj.map [] 0):=by
  rw [ae _ _ e5.1.symm,ae _ _ e2.1.symm,upd_same]
 have sb:(upd (upd (upd (upd h a (some (AObj.cells [.list 8 (aM vs) vs.length tk] 24))) m (some (.map [] 0))) b (some (.cells [.map m] 160))) c (some (.cells [.func (.func 120) [] [.ptr a 0,.ptr b 0,.ptr c 0]] 95))) b=some (AObj.cells [.map m] 160):=by
  rw [ae _ _ e4.1.symm,upd_same]
 have sc:(upd (upd (upd (upd h a (some (AObj.cells [.list 8 (aM vs) vs.length tk] 24))) m (some (.map [] 0))) b (some (.cells [.map m] 160))) c (some (.cells [.func (.func 120) [] [.ptr a 0,.ptr b 0,.ptr c 0]] 95))) c=some (AObj.cells [.func (.func 120) [] [.ptr a 0,.ptr b 0,.ptr c 0]] 95):=upd_same _ _ _
 generalize (upd (upd (upd (upd h a (some (AObj.cells [.list 8 (aM vs) vs.length tk] 24))) m (some (AObj.map [] 0))) b (some (AObj.cells [.map m] 160))) c (some (AObj.cells [.func (.func 120) [] [.ptr a 0,.ptr b 0,.ptr c 0]] 95)))=H at *
 have da:=(ae H (Option.none:Option AObj) e1.1.symm).trans sa
 have db:=(ae H (Option.none:Option AObj) e2.1).trans sb
 have dc:=(ae H (Option.none:Option AObj) e5.1).trans sc
 have hD:ax (upd H m Option.none) h:=eO fin e1.2 _
 refine aT (fun k τ h'=>∃ (i:Nat) (es:CSt),k+i=vs.length∧τ 4=.ptr c 0∧τ 10=.int .i64 vs.length∧τ 11=.int .i64 i∧VSt m (upd H m Option.none) es h'∧zY (exF vs vs.length) k i es=zY (exF vs vs.length) vs.length 0 []) vs.length ?_ ?_
 ·refine ⟨0,[],rfl,?_⟩
  simp only [go_sem,↓reduceIte]
  exact ⟨rfl,⟨jK H m,[],0,sm,rfl⟩⟩
 ·intro c0 hcc k τ h' hI
  obtain ⟨i,es,hk,f4,f10,f11,hM,hix⟩:=hI
  subst hcc
  have tc:=hM.1 _ _ dc
  by_cases hi:i<vs.length
  ·obtain ⟨k',rfl⟩:∃ k',k=k'+1:=⟨k - 1,by omega⟩
   rw [zY] at hix
   repeat with_reducible first|((first|apply zS|apply zC);intro _ R_;simp only [go_sem,↓reduceIte,f4,f10,f11,tc,hi,iV];subst R_)|(apply rN;subst hbq)|refine rG2 ?_|(refine rB fun cq hcq=>?_;subst hcq)|apply nS|refine rS fun bq hbq=>?_|apply rK
   refine az.args (args':=[enc (varT i),.ptr a 0,.ptr b 0,.ptr c 0]) ?_ (O0 vs hval tk a b c m vs.length (varT i).size (upd H m Option.none) da db dc (upd_same _ _ _) (varT i) es _ _ (Nat.le_refl _) ?_ ?_ (Ho _ _) hM (fun h2 hM2=>?_))
   ·refine .cons (LeAV.agg (.cons (LeAV.refl _) (.cons (LeAV.refl _) (.cons (LeAV.refl _) (.cons ?_ .nil))))) (.cons (LeAV.refl _) (.cons (LeAV.refl _) (.cons (LeAV.refl _) .nil)))
    show LeAV _ (.list 4 (encs []) 0 .none)
    rw [bB]
    exact LeAV.nil _ _ _
   ·rw [varT,Term.size,sizes];omega
   ·rw [varT,varsIn,iG]
    simp
    omega
   ·have tc2:=hM2.1 _ _ dc
    cases hb:(fK (exF vs vs.length) (varT i) es).1
    ·simp only [hb,Bool.false_eq_true,if_false] at hix
     try dsimp only
     repeat with_reducible first|((first|apply zS|apply zC);intro _ R_;simp only [go_sem,↓reduceIte,f4,f10,f11,tc2,bz ((i:Int)+1) (by omega)];subst R_)|(apply rN;subst hbq)|refine rG2 ?_|apply nS|apply rK|apply rE
     refine aL (m:=k') (by omega) ⟨i+1,(fK (exF vs vs.length) (varT i) es).2,by omega,?_⟩
     simp only [go_sem,↓reduceIte,f4,f10]
     exact ⟨rfl,hM2,hix⟩
    ·simp only [hb,if_true] at hix
     rw [← hix] at hq
     have fin2:ax h2 h:=hM2.1.trans hD
     try dsimp only
     repeat first|(with_reducible first|((first|apply zS|apply zC);intro _ R_;simp only [go_sem,↓reduceIte,f4,f10,f11,tc2];subst R_)|(apply rN;subst hbq)|refine rG2 ?_|(apply r1;clear hbq bq)|apply nS|refine rS fun bq hbq=>?_|apply rR|apply r3|apply r4)|(with_reducible apply iL;refine rL (by rw [Tryz.results74]) fin2 ?_;simp only [go_sem,↓reduceIte,aJ,Option.some.injEq,exists_eq_left',f4,f10,f11,tc2])
     exact hq
  ·have:k=0:=by omega
   subst this
   rw [zY] at hix
   rw [← hix] at hq
   have fin2:ax h' h:=hM.1.trans hD
   repeat first|(with_reducible first|((first|apply zS|apply zC);intro _ R_;simp only [go_sem,↓reduceIte,f4,f10,f11,hi];subst R_)|(apply rN;subst hbq)|refine rG2 ?_|(apply x1;clear hbq bq)|apply nS|refine rS fun bq hbq=>?_|apply rXx|apply rR|apply x3|apply x4)|(with_reducible apply iL;refine rL (by rw [Tryz.results74]) fin2 ?_;simp only [go_sem,↓reduceIte,aJ,Option.some.injEq,exists_eq_left',f4,f10,f11,hi])
   exact hq
mutual
def FY:Term→Term→Bool
 |⟨k,n,s,l⟩,u=>k==u.kind&&(n==u.n&&(s.toList==u.name.toList&&((l.length:Int)==u.args.length&&zJ l u.args)))
def zJ:List Term→List Term→Bool
 |[],_=>true
 |t::ts,l=>match l with
  |[]=>true
  |u::us=>FY t u&&zJ ts us
end
theorem Pk (t u:Term):FY t u=(t.kind==u.kind&&(t.n==u.n&&(t.name.toList==u.name.toList&&((t.args.length:Int)==u.args.length&&zJ t.args u.args)))):=by
 obtain ⟨k,n,s,l⟩:=t
 rw [FY]
theorem SH:∀ (s:Nat) (a b:Term) (h:ai) (Q:AOut→ai→Prop),a.size≤s→a.size≤1000000000→Q (.ret (.bool (FY a b))) h→az Tryz.prog 43 [enc a,enc b] h Q:=by
 intro s
 induction s with
 |zero=>intro t m h Q ht;obtain ⟨a,b,c,l⟩:=t;rw [Term.size] at ht;omega
 |succ s ih =>
  intro a b h Q ht htb hq
  have hlen:=jG a
  rw [Pk] at hq
  refine eN Tryz.func43 ?_
  repeat with_reducible refine ah fun bq hbq=>?_
  refine rG2 ?_
  repeat with_reducible (apply zS;intro _ R_;simp only [go_sem,↓reduceIte];subst R_)
  intro p hp q hq'
  have hne:=fq hq'
  have fin:ax (upd (upd h p (some (AObj.cells (ay a) 27))) q (some (AObj.cells (ay b) 27))) h:=(ax.one hq').trans (ax.one hp)
  apply rN;subst hbq
  repeat with_reducible refine ah fun bq hbq=>?_
  refine rG2 ?_
  cases hk:(a.kind==b.kind)
  ·try dsimp only
   repeat with_reducible first|(apply zS;intro _ R_;simp only [go_sem,↓reduceIte,hne.1,hne.1.symm,hk];subst R_)|apply nS
   apply rN;subst hbq
   repeat with_reducible refine ah fun bq hbq=>?_
   refine aW (t:=true) (by simp only [go_sem,↓reduceIte]) ?_ ?_
   ·intro _
    repeat with_reducible refine ah fun bq hbq=>?_
    refine rG2 ?_
    repeat with_reducible first|(apply zS;intro _ R_;simp only [go_sem,↓reduceIte];subst R_)|apply nS
    apply rN;subst hbq
    refine dw ?_
    repeat first|(with_reducible refine eZ ?_;clear hbq bq)|with_reducible refine fu ?_|with_reducible refine dR ?_|with_reducible refine dA ?_
    refine gH (by rw [Tryz.results43]) fin ?_
    simp only [go_sem,↓reduceIte,aJ,Option.some.injEq,exists_eq_left']
    exact bJ (by simp [hk]) hq
   ·intro hf;cases hf
  cases hn:(a.n==b.n)
  ·try dsimp only
   repeat with_reducible first|(apply zS;intro _ R_;simp only [go_sem,↓reduceIte,hne.1,hne.1.symm,hk,hn];subst R_)|apply nS
   apply rN;subst hbq
   repeat with_reducible refine ah fun bq hbq=>?_
   refine aW (t:=true) (by simp only [go_sem,↓reduceIte]) ?_ ?_
   ·intro _
    repeat with_reducible refine ah fun bq hbq=>?_
    refine rG2 ?_
    repeat with_reducible first|(apply zS;intro _ R_;simp only [go_sem,↓reduceIte];subst R_)|apply nS
    apply rN;subst hbq
    refine dw ?_
    repeat first|(with_reducible refine eZ ?_;clear hbq bq)|with_reducible refine fu ?_|with_reducible refine dR ?_|with_reducible refine dA ?_
    refine gH (by rw [Tryz.results43]) fin ?_
    simp only [go_sem,↓reduceIte,aJ,Option.some.injEq,exists_eq_left']
    exact bJ (by simp [hn]) hq
   ·intro hf;cases hf
  cases hs:(a.name.toList==b.name.toList)
  ·try dsimp only
   repeat with_reducible first|(apply zS;intro _ R_;simp only [go_sem,↓reduceIte,hne.1,hne.1.symm,hk,hn,hs];subst R_)|apply nS
   apply rN;subst hbq
   repeat with_reducible refine ah fun bq hbq=>?_
   refine aW (t:=true) (by simp only [go_sem,↓reduceIte]) ?_ ?_
   ·intro _
    repeat with_reducible refine ah fun bq hbq=>?_
    refine rG2 ?_
    repeat with_reducible first|(apply zS;intro _ R_;simp only [go_sem,↓reduceIte];subst R_)|apply nS
    apply rN;subst hbq
    refine dw ?_
    repeat first|(with_reducible refine eZ ?_;clear hbq bq)|with_reducible refine fu ?_|with_reducible refine dR ?_|with_reducible refine dA ?_
    refine gH (by rw [Tryz.results43]) fin ?_
    simp only [go_sem,↓reduceIte,aJ,Option.some.injEq,exists_eq_left']
    exact bJ (by simp [hs]) hq
   ·intro hf;cases hf
  cases hl:((a.args.length:Int)==b.args.length)
  ·try dsimp only
   repeat with_reducible first|(apply zS;intro _ R_;simp only [go_sem,↓reduceIte,hne.1,hne.1.symm,hk,hn,hs,hl];subst R_)|apply nS
   apply rN;subst hbq
   repeat with_reducible refine ah fun bq hbq=>?_
   refine aW (t:=true) (by simp only [go_sem,↓reduceIte]) ?_ ?_
   ·intro _
    repeat with_reducible refine ah fun bq hbq=>?_
    refine rG2 ?_
    repeat with_reducible first|(apply zS;intro _ R_;simp only [go_sem,↓reduceIte];subst R_)|apply nS
    apply rN;subst hbq
    refine dw ?_
    repeat first|(with_reducible refine eZ ?_;clear hbq bq)|with_reducible refine fu ?_|with_reducible refine dR ?_|with_reducible refine dA ?_
    refine gH (by rw [Tryz.results43]) fin ?_
    simp only [go_sem,↓reduceIte,aJ,Option.some.injEq,exists_eq_left']
    exact bJ (by simp [hl]) hq
   ·intro hf;cases hf
  try dsimp only
  repeat with_reducible first|(apply zS;intro _ R_;simp only [go_sem,↓reduceIte,hne.1,hne.1.symm,hk,hn,hs,hl];subst R_)|apply nS
  apply rN;subst hbq
  repeat with_reducible refine ah fun bq hbq=>?_
  refine aW (t:=false) (by simp only [go_sem,↓reduceIte]) ?_ ?_
  ·intro hf;cases hf
  intro _
  simp only [hk,hn,hs,hl,Bool.true_and] at hq
  have hl':a.args.length=b.args.length:=by simp only [beq_iff_eq] at hl;omega
  refine bM ?_
  apply rN;subst hbq
  repeat with_reducible refine ah fun bq hbq=>?_
  refine rG2 ?_
  repeat with_reducible first|(apply zS;intro _ R_;simp only [go_sem,↓reduceIte];subst R_)|apply nS
  apply rN;subst hbq
  repeat with_reducible refine ah fun bq hbq=>?_
  refine bu fun cq hcq=>?_
  subst hcq
  refine aT (fun k τ h'=>∃ i:Nat,k+i=a.args.length∧τ 2=.ptr p 0∧τ 3=.ptr q 0∧τ 5=.int .i64 i∧h'=upd (upd h p (some (.cells (ay a) 27))) q (some (.cells (ay b) 27))∧zJ (a.args.drop i) (b.args.drop i)=zJ a.args b.args) a.args.length ?_ ?_
  ·exact ⟨0,rfl,rfl,rfl,rfl,rfl,rfl⟩
  ·intro c hc k τ h' hI
   obtain ⟨i,hk2,e2,e3,e5,rfl,hix⟩:=hI
   subst hc
   repeat with_reducible refine ah fun bq hbq=>?_
   refine rG2 ?_
   by_cases hi:i<a.args.length
   ·have hd:decide (i<a.args.length)=true:=by simpa using hi
    have hib:i<b.args.length:=by omega
    obtain ⟨u,hu⟩:∃ u,a.args[i]?=some u:=⟨_,List.getElem?_eq_getElem hi⟩
    obtain ⟨v,hv⟩:∃ v,b.args[i]?=some v:=⟨_,List.getElem?_eq_getElem hib⟩
    obtain ⟨r,hr⟩:=dD a.args i hu
    obtain ⟨r2,hr2⟩:=dD b.args i hv
    have hsz:=fF a i hu
    have hdrop:a.args.drop i=u::a.args.drop (i+1):=by
     rw [List.drop_eq_getElem_cons hi]
     rw [List.getElem?_eq_getElem hi] at hu;injection hu with hu;rw [hu]
    have hdrop2:b.args.drop i=v::b.args.drop (i+1):=by
     rw [List.drop_eq_getElem_cons hib]
     rw [List.getElem?_eq_getElem hib] at hv;injection hv with hv;rw [hv]
    rw [hdrop,hdrop2,zJ] at hix
    repeat with_reducible first|(apply zS;intro _ R_;simp only [go_sem,↓reduceIte,e2,e3,e5,hd,hne.1,hne.1.symm];subst R_)|apply nS
    apply rN;subst hbq
    repeat with_reducible refine ah fun bq hbq=>?_
    refine aW (t:=true) (by simp only [go_sem,↓reduceIte]) ?_ ?_
    ·intro _
     refine bM ?_
     apply rN;subst hbq
     repeat with_reducible refine ah fun bq hbq=>?_
     refine bu fun cq hcq=>?_
     subst hcq
     repeat with_reducible refine ah fun bq hbq=>?_
     refine bA (.take 0 (.take 1 (.take 2 (.take 3 (.take 4 (.take 5 (.take 6 (.take 7 (.take 8 (.take 9 (.one 10 [6,1] (.take 11 (.done))))))))))))) (by kernel_rfl) (by simp only [aF,gtOf,aA];exact rfl) ?_
     repeat ((first|(with_reducible apply iT;refine sT rfl ?_)|(with_reducible apply iO;refine sO rfl ?_));intro _ _ _ C_ R_ U_;simp only [go_sem,↓reduceIte,e2,e3,e5,hi,hib,hr,hr2,hne.1,hne.1.symm];subst C_ R_ U_)
     refine ih u v _ _ (by omega) (by omega) ?_
     try dsimp only
     repeat first|with_reducible apply nD|((first|with_reducible apply sA|(with_reducible apply iT;refine sT rfl ?_));intro _ _ _ C_ R_ U_;simp only [go_sem,↓reduceIte,e2,e3,e5,hne.1,hne.1.symm];subst C_ R_ U_)
     apply rN;subst hbq
     cases hsv:FY u v
     ·rw [hsv,Bool.false_and] at hix
      skip
      repeat with_reducible refine ah fun bq hbq=>?_
      refine aW (t:=true) (by simp only [go_sem,↓reduceIte]) ?_ ?_
      ·intro _
       repeat with_reducible refine ah fun bq hbq=>?_
       refine rG2 ?_
       repeat with_reducible first|(apply zS;intro _ R_;simp only [go_sem,↓reduceIte];subst R_)|apply nS
       apply rN;subst hbq
       refine dw ?_
       repeat first|(with_reducible refine eZ ?_;clear hbq bq)|with_reducible refine fu ?_|with_reducible refine dR ?_|with_reducible refine dA ?_
       refine gH (by rw [Tryz.results43]) fin ?_
       simp only [go_sem,↓reduceIte,aJ,Option.some.injEq,exists_eq_left']
       exact bJ (by rw [hix]) hq
      ·intro hf;cases hf
     ·rw [hsv,Bool.true_and] at hix
      skip
      repeat with_reducible refine ah fun bq hbq=>?_
      refine aW (t:=false) (by simp only [go_sem,↓reduceIte]) ?_ ?_
      ·intro hf;cases hf
      intro _
      refine bM ?_
      refine bD ?_
      apply rN;subst hbq
      repeat with_reducible refine ah fun bq hbq=>?_
      refine rG2 ?_
      repeat with_reducible first|(apply zS;intro _ R_;simp only [go_sem,↓reduceIte,e5,bz ((i:Int)+1) (by omega)];subst R_)|apply nS
      refine aL (m:=k - 1) (by omega) ⟨i+1,by omega,?_⟩
      simp only [go_sem,↓reduceIte,e2,e3]
      exact ⟨rfl,hix⟩
    ·intro hf;cases hf
   ·have hd:decide (i<a.args.length)=false:=by simpa using hi
    rw [List.drop_eq_nil_of_le (by omega),zJ] at hix
    repeat with_reducible first|(apply zS;intro _ R_;simp only [go_sem,↓reduceIte,e2,e3,e5,hd,hne.1,hne.1.symm];subst R_)|apply nS
    apply rN;subst hbq
    repeat with_reducible refine ah fun bq hbq=>?_
    refine aW (t:=false) (by simp only [go_sem,↓reduceIte]) ?_ ?_
    ·intro hf;cases hf
    ·intro _
     refine eT ?_
     repeat first|(with_reducible refine dM ?_;clear hbq bq)|with_reducible refine dO ?_|with_reducible refine bZ ?_|with_reducible refine bS ?_|(with_reducible refine dU ?_ ?_;focus rfl)
     apply rN;subst hbq
     repeat with_reducible refine ah fun bq hbq=>?_
     refine rG2 ?_
     repeat with_reducible first|(apply zS;intro _ R_;simp only [go_sem,↓reduceIte];subst R_)|apply nS
     apply rN;subst hbq
     refine fO (by rw [Tryz.results43]) fin ?_
     simp only [go_sem,↓reduceIte,aJ,Option.some.injEq,exists_eq_left']
     exact bJ (by rw [hix]) hq
def Ee (s:ByteArray):Bool:=decide ((s.size:Int)>0)&&decide ((s.size:Int)≤40)
theorem PQ (s:ByteArray) (h:ai) (Q:AOut→ai→Prop) (hq:Q (.ret (.bool (Ee s))) h):az Tryz.prog 128 [.str s] h Q:=by
 refine eN Tryz.func128 ?_
 cases h1:decide ((s.size:Int)>0) <;> cases h2:decide ((s.size:Int)≤40)
 all_goals
  repeat first|(with_reducible first|(apply zS;intro _ R_;simp only [go_sem,↓reduceIte,h1,h2];subst R_)|(apply rN;subst hbq)|refine rG2 ?_|apply nS|refine rS fun bq hbq=>?_|apply rR)|(with_reducible apply iL;refine rL (by rw [Tryz.results128]) (ax.refl _) ?_;simp only [go_sem,↓reduceIte,aJ,Option.some.injEq,exists_eq_left',h1,h2])
  exact bJ (by simp only [Ee,h1,h2];rfl) hq
theorem pM (t:Ty) (h:ai) (Q:AOut→ai→Prop) (hq:Q (.ret (.bool (bP t))) h):az Tryz.prog 84 [qA t] h Q:=by
 refine eN Tryz.func84 ?_
 repeat with_reducible first|(apply zS;intro _ R_;simp only [go_sem,↓reduceIte];subst R_)|refine rG2 ?_|refine rS fun bq hbq=>?_
 intro p hp
 have fin:ax (upd h p (some (.cells (cB t) 60))) h:=ax.one hp
 cases c1:((t.args.length:Int)==0)
 ·repeat first|(with_reducible first|(apply zS;intro _ R_;simp only [go_sem,↓reduceIte,c1];subst R_)|(apply rN;subst hbq)|refine rG2 ?_|apply nS|refine rS fun bq hbq=>?_|apply rR)|(with_reducible apply iL;refine rL (by rw [Tryz.results84]) fin ?_;simp only [go_sem,↓reduceIte,aJ,Option.some.injEq,exists_eq_left',c1])
  exact bJ (by simp only [bP,c1];rfl) hq
 repeat with_reducible first|(apply zS;intro _ R_;simp only [go_sem,↓reduceIte,c1];subst R_)|(apply rN;subst hbq)|refine rG2 ?_|apply nS|refine rS fun bq hbq=>?_
 refine PQ _ _ _ ?_
 cases c2:Ee t.name
 ·try dsimp only
  repeat first|(with_reducible first|(apply zS;intro _ R_;simp only [go_sem,↓reduceIte,c1,c2];subst R_)|(apply rN;subst hbq)|apply nS|apply rR)|(with_reducible apply iL;refine rL (by rw [Tryz.results84]) fin ?_;simp only [go_sem,↓reduceIte,aJ,Option.some.injEq,exists_eq_left',c1,c2])
  refine bJ ?_ hq
  simp only [Ee] at c2
  simp only [bP,c1,Bool.true_and,Bool.and_assoc,c2,Bool.and_false]
 cases c3:(t.name.toList==(⟨#[45,62]⟩:ByteArray).toList)
 all_goals
  try dsimp only
  repeat first|(with_reducible first|(apply zS;intro _ R_;simp only [go_sem,↓reduceIte,c1,c2,c3];subst R_)|(apply rN;subst hbq)|apply nS|apply rR)|(with_reducible apply iL;refine rL (by rw [Tryz.results84]) fin ?_;simp only [go_sem,↓reduceIte,aJ,Option.some.injEq,exists_eq_left',c1,c2,c3])
  refine bJ ?_ hq
  simp only [Ee] at c2
  simp only [bP,c1,c3,Bool.true_and,Bool.and_assoc,c2,Bool.and_false]
  rfl
theorem az.weak {P:Program} {f:FuncId} {args:List AV} {h:ai} {Q:AOut→ai→Prop} (k:az P f args h fun o h'=>∃ v v',o=.ret v∧LeAV v v'∧Q (.ret v') h'):az P f args h Q:=fun n =>
 ⟨(k n).1,fun F m G W vargs hF hr s hn r=>((k n).2 F m G W vargs hF hr s hn r).mono fun e W' ⟨o,h',G',⟨v,v',ho,hle,q⟩,s',ev,ro⟩=>⟨.ret v',h',G',q,s',ev,by
  subst ho
  cases e with
  |returned x=>exact hle G' W' x ro
  |_=>exact ro⟩⟩
theorem JM (t:Ty) (h:ai) (Q:AOut→ai→Prop) (hq:Q (.ret (Ox (fU t))) h):az Tryz.prog 34 [qA t] h Q:=by
 have hq:∀ v,LeAV v (Ox (fU t))→∃ v1 v',AOut.ret v=.ret v1∧LeAV v1 v'∧Q (.ret v') h:=fun v hv=>⟨v,_,rfl,hv,hq⟩
 refine az.weak ?_
 refine eN Tryz.func34 ?_
 repeat with_reducible first|(apply zS;intro _ R_;simp only [go_sem,↓reduceIte];subst R_)|refine rG2 ?_|refine rS fun bq hbq=>?_
 intro p hp
 repeat with_reducible first|(apply zS;intro _ R_;simp only [go_sem,↓reduceIte];subst R_)|(apply rN;subst hbq)|refine rG2 ?_|(refine rB fun cq hcq=>?_;subst hcq)|apply nS|refine rS fun bq hbq=>?_
 refine aT (fun k τ h'=>∃ (u:Ty) (out:List ByteArray) (sz:Nat) (tok:Tok),k=u.size∧iW u out=fU t∧τ 1=.ptr p 0∧τ 4=.list sz (encS out) out.length tok∧(out=[]∨sz=1)∧out.length≤8∧ax h' h∧h' p=some (.cells (cB u) 60)∧Grow 9 h h' tok) t.size ?_ ?_
 ·refine ⟨t,[],0,.nil,rfl,rfl,?_⟩
  simp only [go_sem,↓reduceIte]
  exact ⟨.inl trivial,(ax.refl h).new hp,.inl (.inr rfl)⟩
 ·intro c hc k τ h' hI
  obtain ⟨u,out,sz,tok,rfl,hu,e1,e4,hsz,hout,hl,lp,hg⟩:=hI
  subst hc
  have arrow:∀ b,jm u.name=b→(u.name.toList==(⟨#[45,62]⟩:ByteArray).toList)=b:=fun b hb=>hb
  cases h2:((u.args.length:Int)==2)
  ·repeat with_reducible first|((first|apply zS|apply zC);intro _ R_;simp only [go_sem,↓reduceIte,e1,e4,lp,h2];subst R_)|(apply rN;subst hbq)|refine rG2 ?_|(apply x1;clear hbq bq)|apply nS|refine rS fun bq hbq=>?_|apply rXx|apply x3|apply x4
   refine pM u _ _ ?_
   cases hbu:bP u
   ·try dsimp only
    repeat first|(with_reducible first|((first|apply zS|apply zC);intro _ R_;simp only [go_sem,↓reduceIte,e1,e4,lp,hbu];subst R_)|(apply rN;subst hbq)|refine rG2 ?_|(apply r1;clear hbq bq)|apply nS|refine rS fun bq hbq=>?_|apply rR)|(with_reducible apply iL;refine rL (by rw [Tryz.results34]) (hl) ?_;simp only [go_sem,↓reduceIte,aJ,Option.some.injEq,exists_eq_left',e1,e4,lp,hbu])
    have hu':fU t=Option.none:=by rw [← hu];rw [ig out (by rw [h2,Bool.and_false]),jr,hbu];rfl
    rw [hu'] at hq
    exact hq _ (LeAV.tuple (.cons (LeAV.nil _ _ _) (.cons (LeAV.refl _) .nil)))
   ·try dsimp only
    repeat first|(with_reducible first|((first|apply zS|apply zC);intro _ R_;simp only [go_sem,↓reduceIte,e1,e4,lp,hbu];subst R_)|(apply rN;subst hbq)|refine rG2 ?_|apply nS|refine rS fun bq hbq=>?_|apply rK|apply rR)|(with_reducible apply iL;refine rL (by rw [Tryz.results34]) (hl) ?_;simp only [go_sem,↓reduceIte,aJ,Option.some.injEq,exists_eq_left',e1,e4,lp,hbu])
    have hu':fU t=some out:=by rw [← hu,ig out (by rw [h2,Bool.and_false]),jr,hbu];rfl
    rw [hu'] at hq
    refine hq _ ?_
    refine LeAV.tuple (.cons ?_ (.cons (LeAV.refl _) .nil))
    rcases hsz with e|e
    ·subst e;exact LeAV.nil _ _ _
    ·subst e;exact LeAV.list _ _ _ _
  cases h1:jm u.name
  ·have h1':=arrow _ h1
   repeat with_reducible first|((first|apply zS|apply zC);intro _ R_;simp only [go_sem,↓reduceIte,e1,e4,lp,h2,h1'];subst R_)|(apply rN;subst hbq)|refine rG2 ?_|(apply x1;clear hbq bq)|apply nS|refine rS fun bq hbq=>?_|apply rXx|apply x3|apply x4
   refine pM u _ _ ?_
   cases hbu:bP u
   ·try dsimp only
    repeat first|(with_reducible first|((first|apply zS|apply zC);intro _ R_;simp only [go_sem,↓reduceIte,e1,e4,lp,hbu];subst R_)|(apply rN;subst hbq)|refine rG2 ?_|(apply r1;clear hbq bq)|apply nS|refine rS fun bq hbq=>?_|apply rR)|(with_reducible apply iL;refine rL (by rw [Tryz.results34]) (hl) ?_;simp only [go_sem,↓reduceIte,aJ,Option.some.injEq,exists_eq_left',e1,e4,lp,hbu])
    have hu':fU t=Option.none:=by rw [← hu];rw [ig out (by rw [h1,Bool.false_and]),jr,hbu];rfl
    rw [hu'] at hq
    exact hq _ (LeAV.tuple (.cons (LeAV.nil _ _ _) (.cons (LeAV.refl _) .nil)))
   ·try dsimp only
    repeat first|(with_reducible first|((first|apply zS|apply zC);intro _ R_;simp only [go_sem,↓reduceIte,e1,e4,lp,hbu];subst R_)|(apply rN;subst hbq)|refine rG2 ?_|apply nS|refine rS fun bq hbq=>?_|apply rK|apply rR)|(with_reducible apply iL;refine rL (by rw [Tryz.results34]) (hl) ?_;simp only [go_sem,↓reduceIte,aJ,Option.some.injEq,exists_eq_left',e1,e4,lp,hbu])
    have hu':fU t=some out:=by rw [← hu,ig out (by rw [h1,Bool.false_and]),jr,hbu];rfl
    rw [hu'] at hq
    refine hq _ ?_
    refine LeAV.tuple (.cons ?_ (.cons (LeAV.refl _) .nil))
    rcases hsz with e|e
    ·subst e;exact LeAV.nil _ _ _
    ·subst e;exact LeAV.list _ _ _ _
  have h1':=arrow _ h1
  obtain ⟨a,b,hab,hgo,hsb⟩:=mV out h1 h2
  have lp':h' p=some (.cells [.str u.name,.list 2 (dE [a,b]) 2 .none] 60):=by rw [lp];show _=some (AObj.cells [_,AV.list 2 (dE [a,b]) [a,b].length .none] 60);rw [← hab]
  have hlen2:((((2:Nat):Int))==2)=true:=rfl
  have hbu0:bP u=false:=by rw [bP,hab];rfl
  have eu:qA u=.agg [.str u.name,.list 2 (dE [a,b]) 2 .none]:=by show AV.agg [_,AV.list 2 (dE u.args) u.args.length .none]=_;rw [hab];rfl
  have z0:=show (0:Int)≤0 from by decide
  have z1:=show (0:Int)<((2:Nat):Int) from by decide
  have z2:=show (0:Int).toNat=0 from rfl
  repeat with_reducible first|(apply zS;intro _ R_;simp only [go_sem,↓reduceIte,e1,e4,lp',hlen2,h1',z0,z1,z2,Nat.zero_mul,iU];subst R_)|refine rG2 ?_|refine rS fun bq hbq=>?_
  refine pM a _ _ ?_
  cases hb:bP a
  ·rw [hb] at hgo
   try dsimp only
   repeat with_reducible first|((first|apply zS|apply zC);intro _ R_;simp only [go_sem,↓reduceIte,e1,e4,lp',hlen2,h1',z0,z1,z2,Nat.zero_mul];subst R_)|(apply rN;subst hbq)|refine rG2 ?_|(apply x1;clear hbq bq)|apply nS|refine rS fun bq hbq=>?_|apply rXx|apply x3|apply x4
   rw [← eu]
   refine pM u _ _ ?_
   try dsimp only
   repeat first|(with_reducible first|((first|apply zS|apply zC);intro _ R_;simp only [go_sem,↓reduceIte,e1,e4,lp',hbu0];subst R_)|(apply rN;subst hbq)|refine rG2 ?_|(apply r1;clear hbq bq)|apply nS|refine rS fun bq hbq=>?_|apply rR)|(with_reducible apply iL;refine rL (by rw [Tryz.results34]) (hl) ?_;simp only [go_sem,↓reduceIte,aJ,Option.some.injEq,exists_eq_left',e1,e4,lp',hbu0])
   have hu':fU t=Option.none:=by rw [← hu,hgo];rfl
   rw [hu'] at hq
   exact hq _ (LeAV.tuple (.cons (LeAV.nil _ _ _) (.cons (LeAV.refl _) .nil)))
  ·rw [hb] at hgo
   try dsimp only
   repeat with_reducible first|((first|apply zS|apply zC);intro _ R_;simp only [go_sem,↓reduceIte,e1,e4,lp',hlen2,h1',z0,z1,z2,Nat.zero_mul,iU,lC];subst R_)|(apply rN;subst hbq)|refine rG2 ?_|(refine rB fun cq hcq=>?_;subst hcq)|apply nS|refine rS fun bq hbq=>?_|apply rK
   refine aZ ?_
   simp only [go_sem,↓reduceIte,e4]
   intro w hw
   obtain ⟨h4,ea,hg4,hl4,keep⟩:=iK qB qB sz_9 by_9 ze_9 ⟨rfl,by decide⟩ hl hw (sz1:=sz) (n1:=out.length) (c1:=encS out) (c2:=[.str a.name]) (n2:=1) (t2:=.full) hg (by rcases hsz with e|e <;> simp [e]) (sz2:=1) rfl (by decide) (by omega)
   have p4:=keep _ _ _ lp'
   obtain ⟨rb,hrb⟩:=xw [a,b] 1 (t:=b) rfl
   simp only [Nat.reduceMul] at hrb
   simp only [ea,go_sem,↓reduceIte]
   cases h8:decide ((((out.length+1:Nat):Int))>8)
   ·have h8':((out.length:Int)==8)=false:=by simp at h8 ⊢;omega
    rw [h8'] at hgo
    have o1:(1:Int)<((2:Nat):Int):=by decide
    have o2:(1:Int).toNat=1:=rfl
    repeat with_reducible first|((first|apply zS|apply zC);intro _ R_;simp only [go_sem,↓reduceIte,e1,e4,p4,h8,show (0:Int)≤1 from by decide,o1,o2,Nat.reduceMul,hrb];subst R_)|(apply rN;subst hbq)|refine rG2 ?_|apply nS|refine rS fun bq hbq=>?_|apply rK|apply rE
    have hgo2:iW b (out++[a.name])=fU t:=by rw [← hu,hgo];rfl
    refine aL hsb ⟨b,out++[a.name],1,.id w,rfl,hgo2,?_⟩
    simp only [go_sem,↓reduceIte,e1]
    refine ⟨by simp [encS],by simp,by simp at h8;simp;omega,hl4.new hp,?_⟩
    rcases hg4 with e|⟨f,ef,hf,hf0⟩
    ·rcases e with e|e <;> cases e
    ·injection ef with ef;subst ef
     exact .inr ⟨w,rfl,by rw [ae _ _ (by intro e;rw [e,p4] at hf;cases hf)];exact hf,hf0⟩
   ·have h8':((out.length:Int)==8)=true:=by simp at h8 ⊢;omega
    rw [h8'] at hgo
    repeat first|(with_reducible first|((first|apply zS|apply zC);intro _ R_;simp only [go_sem,↓reduceIte,e1,e4,p4,h8];subst R_)|(apply rN;subst hbq)|refine rG2 ?_|(apply r1;clear hbq bq)|apply nS|refine rS fun bq hbq=>?_|apply rR|apply r3|apply r4)|(with_reducible apply iL;refine rL (by rw [Tryz.results34]) (hl4) ?_;simp only [go_sem,↓reduceIte,aJ,Option.some.injEq,exists_eq_left',e1,e4,p4,h8])
    have hu':fU t=Option.none:=by rw [← hu,hgo];rfl
    rw [hu'] at hq
    exact hq _ (LeAV.tuple (.cons (LeAV.nil _ _ _) (.cons (LeAV.refl _) .nil)))
theorem Ka (s:ByteArray):∀ (k i:Nat) (r:List UInt8),s.size - i=k→(ByteArray.toList.loop s i r).length=r.length+k:=by
 intro k
 induction k with
 |zero=>intro i r h;unfold ByteArray.toList.loop;rw [if_neg (by omega)];simp
 |succ k ih =>
  intro i r h
  unfold ByteArray.toList.loop
  rw [if_pos (by omega),ih _ _ (by omega)]
  simp;omega
theorem vU (s:ByteArray):s.toList.length=s.size:=by
 unfold ByteArray.toList
 rw [Ka s s.size 0 [] (by omega)]
 simp
theorem Q4 (vs:List Va) (hvs:vs.length≤1000000) (tk:Tok) (n:Int) (hn0:0≤n) (hn2:n<(vs.length:Int)) (h:ai) (Q:AOut→ai→Prop) (hq:Q (.ret (.int .i64 (aX (ak vs n).type))) h):az Tryz.prog 76 [.agg [.list 8 (aM vs) vs.length tk],.int .i64 n] h Q:=by
 have hn1:n.toNat<vs.length:=by omega
 obtain ⟨v,hv⟩:∃ v,vs[n.toNat]?=some v:=⟨_,List.getElem?_eq_getElem hn1⟩
 have hva:ak vs n=v:=by rw [ak,List.getD_eq_getElem?_getD,hv];rfl
 obtain ⟨r,hr⟩:=iD vs n.toNat hv
 have hr1:List.drop (n.toNat * 8+1) (aM vs)=.str v.type.name::.list 2 (dE v.type.args) v.type.args.length .none::(List.drop 3 (bO v)++r):=by rw [← List.drop_drop,hr];rfl
 rw [hva] at hq
 refine eN Tryz.func76 ?_
 repeat with_reducible first|(apply zS;intro _ R_;simp only [go_sem,↓reduceIte];subst R_)|refine rG2 ?_|refine rS fun bq hbq=>?_
 intro p hp
 have fin:ax (upd h p (some (.cells [.list 8 (aM vs) vs.length tk] 24))) h:=ax.one hp
 repeat with_reducible first|(apply zS;intro _ R_;simp only [go_sem,↓reduceIte,hn0,hn2,hr,hr1];subst R_)|(apply rN;subst hbq)|refine rG2 ?_|apply nS|refine rS fun bq hbq=>?_
 refine JM v.type _ _ ?_
 rw [nX]
 try dsimp only
 repeat first|(with_reducible first|(apply zS;intro _ R_;simp only [go_sem,↓reduceIte,hn0,hn2,hr,hr1];subst R_)|(apply rN;subst hbq)|refine rG2 ?_|apply nS|refine rS fun bq hbq=>?_|apply rR)|(with_reducible apply iL;refine rL (by rw [Tryz.results76]) fin ?_;simp only [go_sem,↓reduceIte,aJ,Option.some.injEq,exists_eq_left',hn0,hn2,hr,hr1])
 exact hq
section
variable {P:Program} {h:ai}
theorem p1 {B:AK→Env→ai→Prop} {K:AK} {v:AV} {τ:Env} (hs:K (.panic v) τ h):seqK B K (.panic v) τ h:=hs
theorem p2 {I:Env→ai→Prop} {K:AK} {v:AV} {τ:Env} (hs:K (.panic v) τ h):cutK I K (.panic v) τ h:=hs
theorem p3 {I:Nat→Env→ai→Prop} {n:Nat} {K:AK} {v:AV} {τ:Env} (hs:K (.panic v) τ h):El I n K (.panic v) τ h:=hs
theorem p4 {id:Nat} {K:AK} {v:AV} {τ:Env} (hs:K (.panic v) τ h):l7 id K (.panic v) τ h:=hs
theorem p5 {K:AK} {v:AV} (hs:K (.panic v) (fun _=>.any) h):panC K v h:=hs
theorem pL {fn:Func} {Q:AOut→ai→Prop} {v:AV} {τ:Env} {h':ai} (hl:ax h h') (hq:Q (.panic v) h'):qC P fn Q (.panic v) τ h:=⟨v,h',gF.of (LeAV.refl _) hl,hq⟩
end
def N7 (v:AV):Option Int :=
 match v with
 |.iface 150 (.agg [])=>some 0
 |.iface 152 (.agg [.int .i64 e])=>some e
 |_=>Option.none
theorem FJ:Tryz.prog.underlying 20=some (.interface #[]):=by kernel_rfl
theorem NP:(#[]:Array (String × TypeId)).isEmpty=true:=rfl
theorem Jf {a b:Nat} {h:ai} {n:Nat} {ba:Bool} {eb:Int} (ha:h a=some (.cells [.bool ba] 4)) (hb:h b=some (.cells [.int .i64 eb] 30)) (hab:a≠b) (Q:ai→Nat→Prop) (pv:Option AV)
  (hq:match pv with
   |Option.none=>∀ n',Q h n'
   |some v=>∃ e,N7 v=some e∧∀ h',h' a=some (.cells [.bool false] 4)→h' b=some (.cells [.int .i64 e] 30)→(∀ i o,i≠a→i≠b→h i=some o→h' i=some o)→∀ n',Q h' n') :
  NDef Tryz.prog 106 ([]++[]++[.ptr a 0,.ptr b 0]) h n pv Q:=by
 refine NDef.of_sem Tryz.func106 rfl (by rfl) (by kernel_rfl) (by rw [Tryz.ntmps106];simp) ?_
 suffices key:bE Tryz.prog _ (fun e τ h'=>e=.normal∧∀ n',Q h' n') (aPut (mW ([]++[]++[.ptr a 0,.ptr b 0])) (some 6) (pv.getD .nilI)) h by
  refine NSem.mono ?_ (key _ n [] Option.none)
  intro e s hs
  obtain ⟨h1,h2,h3,h4⟩:=hs
  subst h3
  refine ⟨h1,⟨[],?_⟩,h4 _⟩
  rw [Tryz.results106];rfl
 cases pv with
 |none =>
  repeat with_reducible first|((first|apply zS|apply zC);intro _ R_;simp only [go_sem,↓reduceIte,FJ,NP,Option.getD_none,Option.getD_some];subst R_)|(apply rN;subst hbq)|refine rG2 ?_|(refine rB fun cq hcq=>?_;subst hcq)|apply nS|refine rS fun bq hbq=>?_|apply rE
  exact ⟨rfl,hq⟩
 |some v =>
  obtain ⟨e,hc,hq⟩:=hq
  unfold N7 at hc
  split at hc
  ·injection hc with hc
   subst hc
   repeat with_reducible first|((first|apply zS|apply zC);intro _ R_;simp only [go_sem,↓reduceIte,ha,hb,FJ,NP,Option.getD_none,Option.getD_some];subst R_)|(apply rN;subst hbq)|refine rG2 ?_|(refine rB fun cq hcq=>?_;subst hcq)|apply nS|refine rS fun bq hbq=>?_
   intro p hp
   have pa:=aj hp ha
   have pb:=aj hp hb
   repeat with_reducible first|(apply zS;intro _ R_;simp only [go_sem,↓reduceIte,ha,hb,pa,pb,hab,hab.symm,pa.symm,pb.symm];subst R_)|(apply rN;subst hbq)|refine rG2 ?_|apply nS|apply rE
   refine ⟨rfl,hq _ ?_ ?_ ?_⟩
   ·rw [ae _ _ hab,upd_same]
   ·rw [upd_same]
   ·intro i o ia ib ho
    have ip:i≠p:=fun e=>by subst e;rw [hp] at ho;cases ho
    rw [ae _ _ ib,ae _ _ ia,ae _ _ ip]
    exact ho
  ·injection hc with hc
   subst hc
   repeat with_reducible first|((first|apply zS|apply zC);intro _ R_;simp only [go_sem,↓reduceIte,ha,hb,FJ,NP,Option.getD_none,Option.getD_some];subst R_)|(apply rN;subst hbq)|refine rG2 ?_|(refine rB fun cq hcq=>?_;subst hcq)|apply nS|refine rS fun bq hbq=>?_
   intro p hp
   have pa:=aj hp ha
   have pb:=aj hp hb
   repeat with_reducible first|(apply zS;intro _ R_;simp only [go_sem,↓reduceIte,ha,hb,pa,pb,hab,hab.symm,pa.symm,pb.symm];subst R_)|(apply rN;subst hbq)|apply nS
   repeat with_reducible refine ah fun bq hbq=>?_
   refine bA (.take 0 (.take 1 (.one 2 [1] (.one 3 [] (.done))))) (by kernel_rfl) (by simp only [aF,gtOf,aA];exact rfl) ?_
   repeat first|(with_reducible first|apply nD|apply rE)|((first|(with_reducible apply iT;refine sT rfl ?_)|(with_reducible apply i0;refine s0 rfl ?_)|(with_reducible apply iO;refine sO rfl ?_));intro _ _ _ C_ R_ U_;simp only [go_sem,↓reduceIte,ha,hb,pa,pb,hab,hab.symm,pa.symm,pb.symm];subst C_ R_ U_)
   refine ⟨rfl,hq _ ?_ ?_ ?_⟩
   ·rw [ae _ _ hab,upd_same]
   ·rw [upd_same]
   ·intro i o ia ib ho
    have ip:i≠p:=fun e=>by subst e;rw [hp] at ho;cases ho
    rw [ae _ _ ib,ae _ _ ia,ae _ _ ip]
    exact ho
  ·cases hc
theorem vL {g:FuncId} {first cap:List AV} {h:ai} {Q:AOut→ai→Prop}
  (hk:∀ a b h1,h a=Option.none→h b=Option.none→a≠b→h1=upd (upd h a (some (.cells [.bool false] 4))) b (some (.cells [.int .i64 0] 30)) →
   az Tryz.prog g (first++cap) h1 fun o h2=>h2 a=some (.cells [.bool false] 4)∧h2 b=some (.cells [.int .i64 0] 30)∧∃ h3,ax h2 h3∧h3 a=Option.none∧h3 b=Option.none ∧
    match o with
    |.ret _=>Q (.ret (.tuple [.bool true,.int .i64 0])) h3
    |.panic v=>∃ e,N7 v=some e∧Q (.ret (.tuple [.bool false,.int .i64 e])) h3) :
  az Tryz.prog 59 [.func (.func g) first cap] h Q:=by
 intro n
 refine gT.of_semM Tryz.func59 rfl (by kernel_rfl) (by rw [Tryz.ntmps59];simp) (enters_of Tryz.func59 (by kernel_rfl) (by kernel_rfl)) ?_
 refine NSem.seq (NSem.region ?_)
 simp only [pE,amOp,oq,eQ,go_sem,↓reduceIte]
 intro n0 n1
 rw [if_neg (by omega)] at n1
 refine NSem.seq (NSem.region ?_)
 simp only [pE,amOp,oq,eQ,go_sem,↓reduceIte]
 intro _
 refine ⟨⟨_,_,_,rfl⟩,?_⟩
 have hne:n+1≠n:=by omega
 have hk:=hk n (n+1) _ n0 n1 hne.symm rfl
 generalize hh1:upd (upd h n (some (AObj.cells [AV.bool false] 4))) (n+1) (some (AObj.cells [AV.int IntKind.i64 0] 30))=h1 at *
 refine NSem.seq (NSem.region ?_)
 simp only [pE,amOp,oq,eQ,C8,go_sem,↓reduceIte]
 intro _
 refine (hk _).mono ?_
 intro o h2 n2 hq
 obtain ⟨ha,hb,h3,hl,h3a,h3b,hq⟩:=hq
 cases o with
 |ret v =>
  refine NSem.seq (NSem.region ?_)
  simp only [pE,amOp,oq,eQ,go_sem,↓reduceIte,ha,hb,hne,hne.symm]
  intro _ _
  refine NSem.ret ?_
  change o6 Tryz.prog Tryz.f59 (fun o h' x=>Q o h') [.fn (.func (.func 106) [] [.ptr n 0,.ptr (n+1) 0]) []] Option.none _
  refine ⟨106,[],_,rfl,enters_of Tryz.func106 (by kernel_rfl) (by kernel_rfl),?_⟩
  refine Jf (ba:=true) (eb:=0) ?_ ?_ hne.symm _ Option.none ?_
  ·show upd _ _ _ _=_
   rw [ae _ _ hne.symm,upd_same]
  ·exact upd_same _ _ _
  intro n'
  have hl':ax (upd (upd h2 n (some (AObj.cells [AV.bool true] 4))) (n+1) (some (AObj.cells [AV.int IntKind.i64 0] 30))) h3:=(hl.new h3a).new h3b
  refine ⟨[.bool true,.int .i64 0],?_,EndV.weak (gF.of (LeAV.refl _) hl') fun _=>hq⟩
  rw [Tryz.results59]
  simp only [go_sem,↓reduceIte,hne,hne.symm]
 |panic v =>
  obtain ⟨e,hc,hq⟩:=hq
  change o6 Tryz.prog Tryz.f59 (fun o h' x=>Q o h') [.fn (.func (.func 106) [] [.ptr n 0,.ptr (n+1) 0]) []] (some v) _
  refine ⟨106,[],_,rfl,enters_of Tryz.func106 (by kernel_rfl) (by kernel_rfl),?_⟩
  refine Jf ha hb hne.symm _ (some v) ⟨e,hc,fun h' la lb hr n'=>?_⟩
  have hl':ax h' h3:=fun i o hi=>hr i o (fun e=>by subst e;rw [h3a] at hi;cases hi) (fun e=>by subst e;rw [h3b] at hi;cases hi) (hl i o hi)
  refine ⟨[.bool false,.int .i64 e],?_,EndV.weak (gF.of (LeAV.refl _) hl') fun _=>hq⟩
  rw [Tryz.results59]
  have e2:(some 5==some 2||some 6==some 2)=false:=rfl
  have e3:(some 5==some 3||some 6==some 3)=false:=rfl
  simp only [jF,List.any_cons,List.any_nil,go_sem,↓reduceIte,la,lb,e2,e3]
def vQ (P:Program) (l:Nat) (args:List AV) (h:ai) (Q:AOut→ai→Prop):Prop:=∀ n,oo P l args h n fun o h' _=>Q o h'
def Wn (l:Nat) (Q:AOut→ai→Prop):AK
 |.normal,_,h=>∃ nt env ps asg bd d,h l=some (.loop .busy Option.none nt env ps asg bd d)∧Q (.ret (.bool true)) (upd h l (some (.loop .ready Option.none nt env ps asg bd d)))
 |.ret,_,h=>∃ nt env ps asg bd d,h l=some (.loop .busy Option.none nt env ps asg bd d)∧Q (.ret (.bool false)) (upd h l (some (.loop .done (some .ret) nt env ps asg bd d)))
 |.exit i,_,h=>∃ nt env ps asg bd d,h l=some (.loop .busy Option.none nt env ps asg bd d)∧Q (.ret (.bool false)) (upd h l (some (.loop .done (some (.exit i)) nt env ps asg bd d)))
 |.panic _,_,_=>False
def Ux (P:Program) (l:Nat) (bd:Code) (Q:AOut→ai→Prop):AK
 |.normal,τ,h=>∃ nt env ps asg bd' d,h l=some (.loop .ready Option.none nt env ps asg bd' d)∧bE P bd (Wn l Q) τ (upd h l (some (.loop .busy Option.none nt env ps asg bd' d)))
 |_,_,_=>False
theorem vQ.of_sem {P:Program} {h:ai} {l nt d:Nat} {env:Env} {ps:List Nat} {asg bd:Code} {args:List AV} {Q:AOut→ai→Prop} (hl:h l=some (.loop .ready Option.none nt env ps asg bd d)) (hlen:args.length=ps.length)
  (hc:bE P asg (Ux P l bd Q) (qE env ps args) h):vQ P l args h Q:=by
 intro n
 refine oo.of_sem hl hlen ((hc nt n [] (some l)).mono fun e s ⟨h1,h2,h3⟩=>?_)
 obtain ⟨τ,h',n',ds,rd⟩:=s
 simp only at h1 h2 h3
 subst h1;subst h2
 cases e with
 |normal =>
  obtain ⟨nt',env',ps',asg',bd',d',hl',hb⟩:=h3
  refine ⟨nt',env',ps',asg',bd',d',hl',(hb nt n' [] (some l)).mono fun e s ⟨k1,k2,k3⟩=>?_⟩
  obtain ⟨τ2,h2,n2,ds2,rd2⟩:=s
  simp only at k1 k2 k3
  subst k1;subst k2
  cases e with
  |normal=>exact k3
  |ret=>exact k3
  |exit i=>exact k3
  |panic v=>exact k3
 |ret=>exact h3
 |exit i=>exact h3
 |panic v=>exact h3
theorem FZ {P:Program} {h:ai} {id:Nat} {ops:Array Oper} {K:AK} {τ:Env} (hs:∀ n ds rd,pE P ops ops.toList (Em ds rd K) ⟨τ,h,n,ds,rd⟩):bE P (.region id ops false) K τ h :=
 fun nt n ds rd=>.region (hs n ds rd)
theorem Hf {P:Program} {l:Nat} {args:List AV} {h:ai} {n:Nat} {Q:AOut→ai→Nat→Prop} (k:oo P l args h n Q):C8 P (.yield l) args h n Q:=k
def cutH (ex:List Nat) (h:ai):ai:=fun j=>if ex.contains j then Option.none else h j
theorem NU (ex:List Nat) (h:ai):ax h (cutH ex h):=by
 intro j o hj
 unfold cutH at hj
 split at hj
 ·cases hj
 ·exact hj
theorem NV {ex:List Nat} {h:ai} {j:Nat} (hj:j ∈ ex):cutH ex h j=Option.none:=by
 unfold cutH;rw [if_pos (by simpa using hj)]
theorem NW {ex:List Nat} {h:ai} {j:Nat} (hj:j ∉ ex):cutH ex h j=h j:=by
 unfold cutH;rw [if_neg (by simpa using hj)]
section
variable {σ:Type} (step:σ→Term→Bool × σ)
end
structure Rounds {σ:Type} (l:Nat) (ex:List Nat) (Own:σ→ai→Prop) (End:ai→Prop) (step:σ→Term→Bool × σ) (ok:Term→Prop):Prop where
 mono:∀ s h h',Own s h→ax h' h→Own s h'
 there:∀ s h j,Own s h→j ∈ ex→h j≠Option.none
 args:∀ (t:Term) (i:Nat) (u:Term),ok t→t.args[i]?=some u→ok u
 round:∀ h0,(∀ j ∈ ex,h0 j=Option.none)→∀ s u h' Q,ok u→Own s h'→ax h' h0→((step s u).1=true→∀ h2,Own (step s u).2 h2→ax h2 h0→Q (.ret (.bool true)) h2)→((step s u).1=false→∀ h2,End h2→ax h2 h0→Q (.ret (.bool false)) h2)→vQ Tryz.prog l [enc u] h' Q
def Steps {σ:Type} (g:FuncId) (first cap:List AV) (l m:List Term) (R:σ→ai→Prop) (step:σ→Term→Term→Bool × σ):Prop :=
 ∀ (i:Nat) (u v:Term) (s:σ),l[i]?=some u→m[i]?=some v→∀ (h':ai) (Q:AOut→ai→Prop),R s h'→(∀ h2,R (step s u v).2 h2→Q (.ret (.bool (step s u v).1)) h2)→az Tryz.prog g (first++[enc u,enc v]++cap) h' Q
end Go.Proofs.YthkjmiejaoomcaaGreat.Am
