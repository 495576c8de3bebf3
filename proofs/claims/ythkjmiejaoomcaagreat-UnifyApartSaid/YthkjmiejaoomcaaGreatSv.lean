/- Part of the proof of a law of layer 5: own texts, joined. -/
import Derived.Test.YthkjmiejaoomcaaGreatSu
import Derived.Test.YthkjmiejaoomcaaGreatSt
import Derived.Test.YthkjmiejaoomcaaGreatSn
import Derived.Test.YthkjmiejaoomcaaGreatSk
set_option linter.unusedVariables false
set_option linter.unusedSimpArgs false
set_option linter.unnecessarySimpa false
namespace Go.Proofs.YthkjmiejaoomcaaGreat.Am
open Go Go.RowKit Go.Proofs
set_option linter.unusedVariables false
set_option linter.unusedSimpArgs false
set_option maxRecDepth 100000
set_option maxHeartbeats 1000000
theorem zDu (e:Int) (h:zAd) (Q:AOut→zAd→Prop) (hq:Q (.ret (.bool (e==2||e==5))) h):zAg Tryz.prog 24 [.int .i64 e] h Q:=by
 refine zAg.of_sem (fn:=Tryz.f24) Tryz.func24 rfl (by kernel_rfl) (by rw [Tryz.ntmps24];simp) (enters_of Tryz.func24 (by kernel_rfl) (by kernel_rfl)) ?_
 cases e2:(e==2)
 ·cases e5:(e==5)
  ·rw [e2,e5] at hq
   repeat first|(with_reducible first|(apply zS;intro _ R_;simp only [go_sem,↓reduceIte,e2,e5];subst R_)|(apply rN;subst hbq)|refine rG2 ?_|apply nS|refine rS fun bq hbq=>?_|apply rR)|(with_reducible apply iL;refine rL (by rw [Tryz.results24]) (zAh.refl _) ?_;simp only [go_sem,↓reduceIte,zAo,Option.some.injEq,exists_eq_left',e2,e5])
   exact hq
  ·rw [e2,e5] at hq
   repeat first|(with_reducible first|(apply zS;intro _ R_;simp only [go_sem,↓reduceIte,e2,e5];subst R_)|(apply rN;subst hbq)|refine rG2 ?_|apply nS|refine rS fun bq hbq=>?_|apply rR)|(with_reducible apply iL;refine rL (by rw [Tryz.results24]) (zAh.refl _) ?_;simp only [go_sem,↓reduceIte,zAo,Option.some.injEq,exists_eq_left',e2,e5])
   exact hq
 ·rw [e2] at hq
  repeat first|(with_reducible first|(apply zS;intro _ R_;simp only [go_sem,↓reduceIte,e2];subst R_)|(apply rN;subst hbq)|refine rG2 ?_|apply nS|refine rS fun bq hbq=>?_|apply rR)|(with_reducible apply iL;refine rL (by rw [Tryz.results24]) (zAh.refl _) ?_;simp only [go_sem,↓reduceIte,zAo,Option.some.injEq,exists_eq_left',e2])
  exact hq
theorem zT5 (m k:Nat) (hm:m+k≤1000000):∀ (f:Nat) (t:Term) (h:zAd) (Q:AOut→zAd→Prop),t.size≤f→t.size≤1000000000→varsIn m t=true→Q (.ret (enc (shT (fun n=>n+(k:Int)) t))) h→zAg Tryz.prog 30 [enc t,.int .i64 k] h Q:=by
 intro f
 induction f with
 |zero=>intro t h Q ht;obtain ⟨a,b,c,l⟩:=t;rw [Term.size] at ht;omega
 |succ f ih =>
  intro t h Q ht hs hv hq
  refine zAg.of_sem (fn:=Tryz.f30) Tryz.func30 rfl (by kernel_rfl) (by rw [Tryz.ntmps30];simp) (enters_of Tryz.func30 (by kernel_rfl) (by kernel_rfl)) ?_
  repeat with_reducible first|(apply zS;intro _ R_;simp only [go_sem,↓reduceIte];subst R_)|refine rG2 ?_|refine rS fun bq hbq=>?_
  intro p2 hp2
  repeat with_reducible (apply zS;intro _ R_;simp only [go_sem,↓reduceIte];subst R_)
  intro p4 hp4
  have n4:=zAs hp4
  have fin:zAh (upd (upd h p2 (some (AObj.cells (zAj t) 27))) p4 (some (.cells zT 27))) h:=((zAh.refl h).new hp2).new n4.2
  have s2:(upd (upd h p2 (some (AObj.cells (zAj t) 27))) p4 (some (.cells zT 27))) p2=some (.cells (zAj t) 27):=by rw [zAa _ _ n4.1.symm,upd_same]
  have s4:(upd (upd h p2 (some (AObj.cells (zAj t) 27))) p4 (some (.cells zT 27))) p4=some (.cells zT 27):=upd_same _ _ _
  have h02:=hp2
  have h04:=n4.2
  simp only [go_sem,↓reduceIte]
  generalize upd (upd h p2 (some (AObj.cells (zAj t) 27))) p4 (some (AObj.cells zT 27))=H at *
  repeat with_reducible first|(apply zS;intro _ R_;simp only [go_sem,↓reduceIte,s2,yAi];subst R_)|(apply rN;subst hbq)|refine rG2 ?_|refine rS fun bq hbq=>?_
  intro p5 hp5
  have n25:=zAc hp5 s2
  have n45:=zAc hp5 s4
  have h05:=fin.none hp5
  simp only [go_sem,↓reduceIte]
  have fin:zAh (upd H p5 (some (.cells (agT t (.list 0 [] 0 .nil)) 27))) h:=fin.new h05
  have s2:(upd H p5 (some (.cells (agT t (.list 0 [] 0 .nil)) 27))) p2=_:=(zAa _ _ n25).trans s2
  have s4:(upd H p5 (some (.cells (agT t (.list 0 [] 0 .nil)) 27))) p4=_:=(zAa _ _ n45).trans s4
  have s5:(upd H p5 (some (.cells (agT t (.list 0 [] 0 .nil)) 27))) p5=some (.cells (agT t (.list 0 [] 0 .nil)) 27):=upd_same _ _ _
  generalize upd H p5 (some (AObj.cells (agT t (.list 0 [] 0 .nil)) 27))=H at *
  have hsh:shT (fun n=>n+(k:Int)) t=⟨t.kind,if t.kind==4 then t.n+k else t.n,t.name,t.args.map (shT fun n=>n+(k:Int))⟩:=by
   obtain ⟨a,b,c,l⟩:=t
   rw [shT,zVt]
  generalize hN:(if t.kind==4 then t.n+(k:Int) else t.n)=N at hsh
  have hlen:=zE4 t
  have hvl:zEv m t.args=true:=by rw [zI2,Bool.and_eq_true] at hv;exact hv.2
  refine zAe ?_;subst hbq
  refine zAb fun bq hbq=>?_
  refine zCc (fun τ H'=>τ 1=.int .i64 k∧τ 2=.ptr p2 0∧τ 4=.ptr p4 0∧τ 5=.ptr p5 0∧zAh H' h∧H' p2=some (.cells (zAj t) 27)∧H' p4=some (.cells zT 27)∧H' p5=some (.cells (agT ⟨t.kind,N,t.name,[]⟩ (.list 0 [] 0 .nil)) 27)) ?_ fun τ h' hI=>?_
  ·cases k4:(t.kind==4)
   ·rw [k4] at hN
    simp only [Bool.false_eq_true,if_false] at hN
    subst hN
    repeat with_reducible first|((first|apply zS|apply zC);intro _ R_;simp only [go_sem,↓reduceIte,s2,k4];subst R_)|(apply rN;subst hbq)|refine rG2 ?_|apply nS|refine rS fun bq hbq=>?_|apply rK
    refine zAl ?_
    simp only [go_sem,↓reduceIte]
    exact ⟨fin,s2,s4,s5⟩
   ·rw [k4] at hN
    simp only [if_true] at hN
    subst hN
    have hb:0≤t.n∧t.n<(m:Int):=by
     rw [zI2,k4,Bool.and_eq_true] at hv
     simpa using hv.1
    repeat with_reducible first|((first|apply zS|apply zC);intro _ R_;simp only [go_sem,↓reduceIte,s2,s5,k4,zA3 (t.n+(k:Int)) (by omega)];subst R_)|(apply rN;subst hbq)|refine rG2 ?_|apply nS|refine rS fun bq hbq=>?_
    refine zAl ?_
    simp only [go_sem,↓reduceIte]
    rw [if_neg n25,if_neg n45]
    exact ⟨fin.new h05,s2,s4⟩
  clear fin s2 s4 s5
  obtain ⟨f1,f2,f4,f5,fin,s2,s4,s5⟩:=hI
  subst hbq
  repeat with_reducible first|(apply zS;intro _ R_;simp only [go_sem,↓reduceIte,f1,f2,f4,f5];subst R_)|(apply rN;subst hbq)|refine rG2 ?_|(refine rB fun cq hcq=>?_;subst hcq)|apply nS|refine rS fun bq hbq=>?_
  refine zAz (fun kk τ H=>∃ (i z:Nat) (tk:Tok),kk+i=t.args.length∧τ 1=.int .i64 k∧τ 2=.ptr p2 0∧τ 4=.ptr p4 0∧τ 5=.ptr p5 0∧τ 6=.int .i64 i∧H p2=some (.cells (zAj t) 27)∧H p4=some (.cells zT 27)∧H p5=some (.cells (agT ⟨t.kind,N,t.name,[]⟩ (.list z (encs ((t.args.take i).map (shT fun n=>n+(k:Int)))) i tk)) 27)∧(i=0∨z=4)∧Grow 27 h H tk∧zAh H h) t.args.length ?_ ?_
  ·refine ⟨0,0,.nil,rfl,?_⟩
   simp only [go_sem,↓reduceIte,f1,f2,f4,f5]
   rw [zBa]
   exact ⟨rfl,s2,s4,s5,.inl trivial,.inl (.inr rfl),fin⟩
  intro cc hcc kk τ H hI
  clear fin s2 s4 s5 f1 f2 f4 f5
  obtain ⟨i,z,tk,hki,f1,f2,f4,f5,f6,s2,s4,s5,hz,hg,fin⟩:=hI
  subst hcc
  by_cases hi:i<t.args.length
  ·obtain ⟨y,hy⟩:∃ y,t.args[i]?=some y:=⟨_,List.getElem?_eq_getElem hi⟩
   obtain ⟨rr,hr1⟩:=zB7 t.args i hy
   have hsy:=zDl t i hy
   have hvy:=zJv m t.args i hvl hy
   repeat with_reducible first|((first|apply zS|apply zC);intro _ R_;simp only [go_sem,↓reduceIte,f1,f2,f4,f5,f6,hi,s2,s5];subst R_)|(apply rN;subst hbq)|refine rG2 ?_|(refine rB fun cq hcq=>?_;subst hcq)|apply nS|refine rS fun bq hbq=>?_|apply rK
   repeat with_reducible refine zAb fun bq hbq=>?_
   refine zA9 (.take 0 (.take 1 (.take 2 (.take 3 (.take 4 (.take 5 (.take 6 (.take 7 (.one 8 [3,1] (.take 9 (.one 10 [3] (.take 11 (.one 12 [] (.done)))))))))))))) (by kernel_rfl) (by simp only [zAm,gtOf,zAk];exact rfl) ?_
   repeat ((first|(with_reducible apply iT;refine sT rfl ?_)|(with_reducible apply iO;refine sO rfl ?_));intro _ _ _ C_ R_ U_;simp only [go_sem,↓reduceIte,f1,f2,f4,f5,f6,hi,s2,s5,hr1];subst C_ R_ U_)
   refine ih y _ _ (by omega) (by omega) hvy ?_
   try dsimp only
   repeat ((first|with_reducible apply sA|(with_reducible apply iT;refine sT rfl ?_)|(with_reducible apply iO;refine sO rfl ?_));intro _ _ _ C_ R_ U_;simp only [go_sem,↓reduceIte,f1,f2,f4,f5,f6,s2,s5,zD4];subst C_ R_ U_)
   refine zAw ?_
   simp only [go_sem,↓reduceIte]
   intro w hw
   obtain ⟨H4,ea,hg4,hl4,keep⟩:=zDz zCo zCo zEz zGn zEd ⟨rfl,by decide⟩ fin hw (sz1:=z) (n1:=i) (c1:=encs ((t.args.take i).map (shT fun n=>n+(k:Int)))) (c2:=zAj (shT (fun n=>n+(k:Int)) y)) (n2:=1) (t2:=.full) hg hz (sz2:=4) rfl (by decide) (by omega)
   have s2:=keep _ _ _ s2
   have s4:=keep _ _ _ s4
   have s5:=keep _ _ _ s5
   simp only [ea,go_sem,↓reduceIte,f5,s2,s5]
   repeat with_reducible first|(apply zS;intro _ R_;simp only [go_sem,↓reduceIte,f1,f2,f4,f5,f6,s5,zA3 ((i:Int)+1) (by omega)];subst R_)|(apply rN;subst hbq)|refine rG2 ?_|apply nS|apply rE
   refine zAp (m:=kk - 1) (by omega) ⟨i+1,4,.id w,by omega,?_⟩
   simp only [go_sem,↓reduceIte,f1,f2,f4,f5]
   have e1:encs ((t.args.take (i+1)).map (shT fun n=>n+(k:Int)))=encs ((t.args.take i).map (shT fun n=>n+(k:Int)))++zAj (shT (fun n=>n+(k:Int)) y):=by
    rw [List.take_add_one,hy,List.map_append]
    exact zGg _ _
   rw [e1,if_neg n25,if_neg n45]
   exact ⟨rfl,s2,s4,rfl,.inr trivial,hg4.upd s5 _,hl4.new h05⟩
  ·obtain rfl:i=t.args.length:=by omega
   repeat with_reducible first|((first|apply zS|apply zC);intro _ R_;simp only [go_sem,↓reduceIte,f1,f2,f4,f5,f6,hi,s2,s4,s5];subst R_)|(apply rN;subst hbq)|refine rG2 ?_|(apply x1;clear hbq bq)|apply nS|refine rS fun bq hbq=>?_|apply rXx|apply rR|apply x3|apply x4
   refine zBx (v:=enc (shT (fun n=>n+(k:Int)) t)) (by rw [Tryz.results30]) (fin.new h04) ?_ hq
   simp only [go_sem,↓reduceIte,f4,zAo,Option.some.injEq,exists_eq_left']
   rw [hsh]
   refine LeAV.agg (.cons (LeAV.refl _) (.cons (LeAV.refl _) (.cons (LeAV.refl _) (.cons ?_ .nil))))
   show LeAV _ (.list 4 (encs (t.args.map _)) (t.args.map _).length .none)
   rw [List.length_map,List.take_length]
   rcases hz with e|e
   ·rw [List.eq_nil_of_length_eq_zero e,List.map_nil,zBa];exact LeAV.nil _ _ _
   ·rw [e];exact LeAV.list _ _ _ _
theorem z4j (l:List Term) {k:Nat} (hk:k≤l.length):(encs l).drop (k * 4)=encs (l.drop k)∧(encs l).take (k * 4)=encs (l.take k):=by
 have e:encs l=encs (l.take k)++encs (l.drop k):=by rw [← zW9,List.take_append_drop]
 have hl:(encs (l.take k)).length=k * 4:=by rw [zDk,List.length_take];congr 1;omega
 rw [e]
 exact ⟨List.drop_left' hl,List.take_left' hl⟩
theorem zVn {z n:Nat} {l:List Term} {tk:Tok} (hn:l.length=n) (hz:n=0∨z=4) {k:Nat} (hk:k≤n):∃ t',zMl Tryz.prog 25 (.list z (encs l) n tk) (some (.int .i64 (k:Int))) Option.none Option.none=some (.list 4 (encs (l.drop k)) (l.drop k).length t'):=by
 subst hn
 refine ⟨z6a tk k l.length l.length false,?_⟩
 simp only [zMl,zCo,zEz,zEu]
 rw [if_pos ⟨hz,by omega,by omega,Int.le_refl _⟩,Int.toNat_natCast,Int.toNat_natCast,(z4j l hk).1,show ((l.length:Int) - k).toNat=(l.drop k).length by rw [List.length_drop];omega,← zDk,List.take_length]
theorem zZm (l:List Term) (hl:l.length≤1000000) (tk:Tok) (H:zAd) (w:Nat) (hw:H w=Option.none):∃ h4 tok4,zB8 Tryz.prog 25 25 (.list 4 [] 0 .full) (.list 4 (encs l) l.length tk) H w=some (.list 4 (encs l) l.length tok4,h4)∧zAh h4 H:=by
 by_cases h0:l=[]
 ·subst h0
  rw [zBa]
  exact ⟨H,.full,zHe zCo zCo zEz zGn zEd ⟨rfl,by decide⟩ (.inl rfl) (.inl rfl) (by decide) w,zAh.refl _⟩
 ·have hn:l.length≠0:=fun e=>h0 (List.eq_nil_of_length_eq_zero e)
  obtain ⟨h4,ea,hg,hl,_⟩:=zOe zCo zCo zEz zGn zEd ⟨rfl,by decide⟩ (zAh.refl H) hw (sz1:=4) (n1:=0) (c1:=[]) (c2:=encs l) (n2:=l.length) (t:=.full) (t2:=tk) (.inl (.inl rfl)) (.inl rfl) (sz2:=4) rfl hn (by omega)
  rw [List.nil_append,Nat.zero_add] at ea
  exact ⟨h4,_,ea,hl⟩
theorem yEh (v:Va):zA8 Tryz.prog 22 1 [(0,.agg (zBc v))]=some (.list 8 (zBc v) 1 .full):=zKn zI0 zPg zLj rfl rfl rfl (by decide)
abbrev sAV (vs:List Va):AObj:=.cells [.list 8 (zAn vs) vs.length .none] 24
abbrev zQf (a b c d:Term):List AV:=[.int .i64 a.kind,.int .i64 a.n,.str a.name,.list 4 (encs a.args) a.args.length .none,.int .i64 b.kind,.int .i64 b.n,.str b.name,.list 4 (encs b.args) b.args.length .none,.int .i64 c.kind,.int .i64 c.n,.str c.name,.list 4 (encs c.args) c.args.length .none,.int .i64 d.kind,.int .i64 d.n,.str d.name,.list 4 (encs d.args) d.args.length .none]
theorem yEp (vs base:List Va) (A B C D:Term) (h:zAd) (Q:AOut→zAd→Prop) (hq:Q (.ret (.bool true)) h) :
  zAg Tryz.prog 7 [.agg [.list 8 (zAn vs) vs.length .none],.agg [.list 8 (zAn base) base.length .none],.agg (zQf A B C D)] h Q:=by
 refine zAg.of_sem (fn:=Tryz.f7) Tryz.func7 rfl (by kernel_rfl) (by rw [Tryz.ntmps7];simp) (enters_of Tryz.func7 (by kernel_rfl) (by kernel_rfl)) ?_
 repeat with_reducible first|(apply zS;intro _ R_;simp only [go_sem,↓reduceIte];subst R_)|refine rG2 ?_|refine rS fun bq hbq=>?_
 intro a ha
 repeat with_reducible (apply zS;intro _ R_;simp only [go_sem,↓reduceIte];subst R_)
 intro b hb
 have e1:=zAs hb
 repeat with_reducible (apply zS;intro _ R_;simp only [go_sem,↓reduceIte];subst R_)
 intro c hc
 have e2:=zAs hc
 have e3:=zAs e2.2
 have fin:zAh (upd (upd (upd h a (some (sAV vs))) b (some (sAV base))) c (some (.cells (zQf A B C D) 52))) h:=((zAh.refl h).new ha |>.new e1.2 |>.new e3.2)
 repeat with_reducible first|(apply zS;intro _ R_;simp only [go_sem,↓reduceIte,e1.1,e1.1.symm,e2.1,e2.1.symm,e3.1,e3.1.symm];subst R_)|(apply rN;subst hbq)|refine rG2 ?_|apply nS|refine rS fun bq hbq=>?_
 refine yBz _ _ ?_
 have sa:(upd (upd (upd h a (some (sAV vs))) b (some (sAV base))) c (some (.cells (zQf A B C D) 52))) a=some (sAV vs):=by rw [zAa _ _ e3.1.symm,zAa _ _ e1.1.symm,upd_same]
 have sb:(upd (upd (upd h a (some (sAV vs))) b (some (sAV base))) c (some (.cells (zQf A B C D) 52))) b=some (sAV base):=by rw [zAa _ _ e2.1.symm,upd_same]
 have sc:(upd (upd (upd h a (some (sAV vs))) b (some (sAV base))) c (some (.cells (zQf A B C D) 52))) c=some (.cells (zQf A B C D) 52):=upd_same _ _ _
 generalize (upd (upd (upd h a (some (sAV vs))) b (some (sAV base))) c (some (.cells (zQf A B C D) 52)))=H at *
 try dsimp only
 repeat with_reducible first|(apply zS;intro _ R_;simp only [go_sem,↓reduceIte,sa,sb,sc,zXm];subst R_)|(apply rN;subst hbq)|refine rG2 ?_|apply nS|refine rS fun bq hbq=>?_
 have le0:LeAV (.list 0 [] 0 .nil) (.list 4 (encs []) ([]:List Term).length .none):=by rw [zBa];exact LeAV.nil _ _ _
 have le2:LeAV (.list 4 (zAj A++zAj B) 2 .full) (.list 4 (encs [A,B]) ([A,B]:List Term).length .none):=by
  rw [show encs [A,B]=zAj A++zAj B by rw [zB6];simp]
  exact LeAV.list _ _ _ _
 refine zAg.args (args':=[.agg [.list 8 (zAn vs) vs.length .none],.list 4 (encs [A,B]) ([A,B]:List Term).length .none]) (.cons (LeAV.refl _) (.cons le2 .nil)) (z9o vs .none [A,B] _ _ (by simp) ?_)
 cases c1:z4g vs [A,B]
 ·try dsimp only
  repeat first|(with_reducible first|((first|apply zS|apply zC);intro _ R_;simp only [go_sem,↓reduceIte,sa,sb,sc,c1];subst R_)|(apply rN;subst hbq)|refine rG2 ?_|(apply r1;clear hbq bq)|apply nS|refine rS fun bq hbq=>?_|apply rR)|(with_reducible apply iL;refine rL (by rw [Tryz.results7]) fin ?_;simp only [go_sem,↓reduceIte,zAo,Option.some.injEq,exists_eq_left',sa,sb,sc,c1])
  exact hq
 have hvs:vs.length≤12:=by
  unfold z4g at c1
  rw [Bool.and_eq_true,Bool.not_eq_true',decide_eq_false_iff_not] at c1
  omega
 try dsimp only
 repeat with_reducible (apply zS;intro _ R_;simp only [go_sem,↓reduceIte,sa,sb,sc,c1];subst R_)
 refine zAg.args (args':=[.agg [.list 8 (zAn base) base.length .none],.list 4 (encs []) ([]:List Term).length .none]) (.cons (LeAV.refl _) (.cons le0 .nil)) (z9o base .none [] _ _ (by simp) ?_)
 cases c2:z4g base []
 ·try dsimp only
  repeat first|(with_reducible first|((first|apply zS|apply zC);intro _ R_;simp only [go_sem,↓reduceIte,sa,sb,sc,c2];subst R_)|(apply rN;subst hbq)|refine rG2 ?_|(apply r1;clear hbq bq)|apply nS|refine rS fun bq hbq=>?_|apply rR)|(with_reducible apply iL;refine rL (by rw [Tryz.results7]) fin ?_;simp only [go_sem,↓reduceIte,zAo,Option.some.injEq,exists_eq_left',sa,sb,sc,c2])
  exact hq
 have hbs:base.length≤12:=by
  unfold z4g at c2
  rw [Bool.and_eq_true,Bool.not_eq_true',decide_eq_false_iff_not] at c2
  omega
 cases c3:decide ((vs.length:Int)+base.length>16)
 case true =>
  try dsimp only
  repeat first|(with_reducible first|((first|apply zS|apply zC);intro _ R_;simp only [go_sem,↓reduceIte,sa,sb,sc,c2,c3,zA3 ((vs.length:Int)+base.length) (by omega)];subst R_)|(apply rN;subst hbq)|refine rG2 ?_|(apply r1;clear hbq bq)|apply nS|refine rS fun bq hbq=>?_|apply rR)|(with_reducible apply iL;refine rL (by rw [Tryz.results7]) fin ?_;simp only [go_sem,↓reduceIte,zAo,Option.some.injEq,exists_eq_left',sa,sb,sc,c2,c3,zA3 ((vs.length:Int)+base.length) (by omega)])
  exact hq
 try dsimp only
 repeat with_reducible (apply zS;intro _ R_;simp only [go_sem,↓reduceIte,sa,sb,sc,c2,c3,zA3 ((vs.length:Int)+base.length) (by omega)];subst R_)
 refine zO2 base (by omega) .none _ _ ?_
 cases c4:(zA1 base==0)
 ·try dsimp only
  repeat first|(with_reducible first|((first|apply zS|apply zC);intro _ R_;simp only [go_sem,↓reduceIte,sa,sb,sc,c4];subst R_)|(apply rN;subst hbq)|refine rG2 ?_|(apply r1;clear hbq bq)|apply nS|refine rS fun bq hbq=>?_|apply rR)|(with_reducible apply iL;refine rL (by rw [Tryz.results7]) fin ?_;simp only [go_sem,↓reduceIte,zAo,Option.some.injEq,exists_eq_left',sa,sb,sc,c4])
  exact hq
 have hcb:zA1 base=0:=by simpa using c4
 try dsimp only
 repeat with_reducible (apply zS;intro _ R_;simp only [go_sem,↓reduceIte,sa,sb,sc,c4];subst R_)
 refine z1r vs (by omega) .none A _ _ ?_
 cases f1:((if (zA1 vs==0)=true then zCz vs A else zA1 vs)==0)
 ·try dsimp only
  repeat first|(with_reducible first|((first|apply zS|apply zC);intro _ R_;simp only [go_sem,↓reduceIte,sa,sb,sc,f1];subst R_)|(apply rN;subst hbq)|refine rG2 ?_|(apply r1;clear hbq bq)|apply nS|refine rS fun bq hbq=>?_|apply rR)|(with_reducible apply iL;refine rL (by rw [Tryz.results7]) fin ?_;simp only [go_sem,↓reduceIte,zAo,Option.some.injEq,exists_eq_left',sa,sb,sc,f1])
  exact hq
 try dsimp only
 repeat with_reducible (apply zS;intro _ R_;simp only [go_sem,↓reduceIte,sa,sb,sc,f1];subst R_)
 refine z1r vs (by omega) .none B _ _ ?_
 cases f2:((if (zA1 vs==0)=true then zCz vs B else zA1 vs)==0)
 ·try dsimp only
  repeat first|(with_reducible first|((first|apply zS|apply zC);intro _ R_;simp only [go_sem,↓reduceIte,sa,sb,sc,f2];subst R_)|(apply rN;subst hbq)|refine rG2 ?_|(apply r1;clear hbq bq)|apply nS|refine rS fun bq hbq=>?_|apply rR)|(with_reducible apply iL;refine rL (by rw [Tryz.results7]) fin ?_;simp only [go_sem,↓reduceIte,zAo,Option.some.injEq,exists_eq_left',sa,sb,sc,f2])
  exact hq
 try dsimp only
 repeat with_reducible first|((first|apply zS|apply zC);intro _ R_;simp only [go_sem,↓reduceIte,sa,sb,sc,f2,zJr];subst R_)|(apply rN;subst hbq)|refine rG2 ?_|apply nS|refine rS fun bq hbq=>?_|apply rK
 refine zAw ?_
 simp only [go_sem,↓reduceIte]
 have hft:∀ w,((if (zA1 vs==0)=true then zCz vs w else zA1 vs)==0)=true→zA1 vs=0∧zCz vs w=0:=fun w hw=>by
  split at hw
  ·rename_i hc
   exact ⟨by simpa using hc,by simpa using hw⟩
  ·rename_i hc;exact absurd hw hc
 obtain ⟨hck,fe1⟩:=hft A f1
 have fe2:=(hft B f2).2
 have ft:(zD1 vs A B==0)=true:=by
  unfold zD1
  rw [hck,if_pos (show ((0:Int)==0)=true from rfl),zCd,zCd,zCd,fe1,fe2];rfl
 obtain ⟨_,hfA,hfB⟩:=zH2 ft
 have hszT:∀ w,zCz vs w=0→w.size≤4000:=fun w hw=>by
  refine zN2 w ?_
  unfold zCz at hw
  split at hw
  ·assumption
  ·rename_i hz;exact absurd (by rw [hw];rfl) hz
 have hsA:=hszT A fe1
 have hsB:=hszT B fe2
 have hvA:=(zH1 vs _).1 A 0 (Nat.le_refl _) hfA
 have hvB:=(zH1 vs _).1 B 0 (Nat.le_refl _) hfB
 obtain ⟨hlg,hall,_⟩:=zLc hck
 have hval:=(zK4 vs hlg hall).vals
 have hzero:∀ v ∈ vs,v.is=false→shV (fun n=>n+(base.length:Int)) v=v:=fun v hm hi=>by
  rw [List.all_eq_true] at hall
  have h1:=hall v hm
  unfold zFe at h1
  rw [hi] at h1
  simp only [Bool.and_eq_true,Bool.false_eq_true,if_false] at h1
  have h2:=h1.2
  obtain ⟨lv,ty,is,t⟩:=v
  obtain ⟨k,n,nm,l⟩:=t
  unfold zIm at h2
  simp only [Bool.and_eq_true,beq_iff_eq] at h2
  have hl:l=[]:=by
   have:=h2.2
   exact List.eq_nil_of_length_eq_zero (by omega)
  have hk:k=0:=h2.1.1.1
  subst hk;subst hl
  unfold shV
  rw [shT,shL]
  rfl
 intro w hw
 obtain ⟨h4,tk0,ea,hg4,hl4⟩:=zW4 base (by omega) .none H w hw
 simp only [ea,zOd,go_sem,↓reduceIte]
 intro p9 hp9
 have sa:=hl4 _ _ sa
 have sb:=hl4 _ _ sb
 have sc:=hl4 _ _ sc
 have fin4:=hl4.trans fin
 have n9a:=zAc hp9 sa
 have n9b:=zAc hp9 sb
 have n9c:=zAc hp9 sc
 have h09:=fin4.none hp9
 have hg:=(hg4.low fin).new hp9 (.cells [.list 8 (zAn base) base.length tk0] 24)
 have fin:=fin4.new (o:=some (.cells [.list 8 (zAn base) base.length tk0] 24)) (fin4.none hp9)
 have sa:=(zAa h4 (some (AObj.cells [.list 8 (zAn base) base.length tk0] 24)) n9a).trans sa
 have sb:=(zAa h4 (some (AObj.cells [.list 8 (zAn base) base.length tk0] 24)) n9b).trans sb
 have sc:=(zAa h4 (some (AObj.cells [.list 8 (zAn base) base.length tk0] 24)) n9c).trans sc
 have s9:=upd_same h4 p9 (some (AObj.cells [.list 8 (zAn base) base.length tk0] 24))
 generalize upd h4 p9 (some (AObj.cells [.list 8 (zAn base) base.length tk0] 24))=H5 at *
 repeat with_reducible first|(apply zS;intro _ R_;simp only [go_sem,↓reduceIte,sa,sb,sc,s9];subst R_)|(apply rN;subst hbq)|refine rG2 ?_|(refine rB fun cq hcq=>?_;subst hcq)|apply nS|refine rS fun bq hbq=>?_
 generalize hρ:(fun n:Int=>n+(base.length:Int))=ρ at hzero
 have hFn:farS base vs=base++vs.map (shV ρ):=by rw [← hρ];rfl
 refine zAz (fun kk τ H=>∃ (i z:Nat) (tk:Tok),kk+i=vs.length∧τ 3=.ptr a 0∧τ 4=.ptr b 0∧τ 5=.ptr c 0∧τ 7=.bool true∧τ 8=.int .i64 base.length∧τ 9=.ptr p9 0∧τ 10=.int .i64 i∧H a=some (sAV vs)∧H b=some (sAV base)∧H c=some (.cells (zQf A B C D) 52)∧H p9=some (.cells [.list z (zAn (base++(vs.take i).map (shV ρ))) (base.length+i) tk] 24)∧(base.length+i=0∨z=8)∧Grow 62 h H tk∧zAh H h) vs.length ?_ ?_
 ·refine ⟨0,8,tk0,rfl,?_⟩
  simp only [go_sem,↓reduceIte]
  exact ⟨rfl,sa,sb,sc,s9,.inr trivial,hg,fin⟩
 clear fin fin4 sa sb sc s9 hg hg4 hl4 hw ea hp9
 intro cc hcc kk τ H hI
 obtain ⟨i,z,tk,hki,g3,g4,g5,g7,g8,g9,g10,sa,sb,sc,s9,hz,hg,fin⟩:=hI
 subst hcc
 by_cases hi:i<vs.length
 ·obtain ⟨v,hv⟩:∃ v,vs[i]?=some v:=⟨_,List.getElem?_eq_getElem hi⟩
  obtain ⟨rr,hr1⟩:=zEr vs i hv
  have hvm:=List.mem_of_getElem? hv
  repeat with_reducible first|((first|apply zS|apply zC);intro _ R_;simp only [go_sem,↓reduceIte,g3,g4,g5,g7,g8,g9,g10,hi,sa,sb,sc,s9,hr1];subst R_)|(apply rN;subst hbq)|refine rG2 ?_|(refine rB fun cq hcq=>?_;subst hcq)|apply nS|refine rS fun bq hbq=>?_|apply rK
  intro q hq1
  have nqa:=zAc hq1 sa
  have nqb:=zAc hq1 sb
  have nqc:=zAc hq1 sc
  have nq9:=zAc hq1 s9
  simp only [go_sem,↓reduceIte]
  have h0q:=fin.none hq1
  have hg:=hg.new hq1 (.cells (zBc v) 62)
  have fin:=fin.new (o:=some (.cells (zBc v) 62)) h0q
  have sa:=(zAa H (some (AObj.cells (zBc v) 62)) nqa).trans sa
  have sb:=(zAa H (some (AObj.cells (zBc v) 62)) nqb).trans sb
  have sc:=(zAa H (some (AObj.cells (zBc v) 62)) nqc).trans sc
  have s9:=(zAa H (some (AObj.cells (zBc v) 62)) nq9).trans s9
  have sq:=upd_same H q (some (AObj.cells (zBc v) 62))
  generalize upd H q (some (AObj.cells (zBc v) 62))=H6 at *
  refine zAe ?_;subst hbq
  refine zAb fun bq hbq=>?_
  refine zCc (fun τ H=>τ 3=.ptr a 0∧τ 4=.ptr b 0∧τ 5=.ptr c 0∧τ 7=.bool true∧τ 8=.int .i64 base.length∧τ 9=.ptr p9 0∧τ 10=.int .i64 i∧τ 11=.ptr q 0∧H a=some (sAV vs)∧H b=some (sAV base)∧H c=some (.cells (zQf A B C D) 52)∧H p9=some (.cells [.list z (zAn (base++(vs.take i).map (shV ρ))) (base.length+i) tk] 24)∧H q=some (.cells (zBc (shV ρ v)) 62)∧Grow 62 h H tk∧zAh H h) ?_ fun τ h' hI=>?_
  ·cases hvi:v.is
   ·rw [hzero v hvm hvi]
    repeat with_reducible first|((first|apply zS|apply zC);intro _ R_;simp only [go_sem,↓reduceIte,g3,g4,g5,g7,g8,g9,g10,sq,hvi];subst R_)|(apply rN;subst hbq)|refine rG2 ?_|apply nS|refine rS fun bq hbq=>?_|apply rK
    refine zAl ?_
    simp only [go_sem,↓reduceIte,g3,g4,g5,g7,g8,g9,g10]
    exact ⟨sa,sb,sc,s9,sq,hg,fin⟩
   ·obtain ⟨hvv,hvs2⟩:=hval v hvm hvi
    repeat with_reducible first|((first|apply zS|apply zC);intro _ R_;simp only [go_sem,↓reduceIte,g3,g4,g5,g7,g8,g9,g10,sq,hvi];subst R_)|(apply rN;subst hbq)|refine rG2 ?_|apply nS|refine rS fun bq hbq=>?_
    refine zT5 vs.length base.length (by omega) _ v.t _ _ (Nat.le_refl _) (by omega) hvv ?_
    rw [hρ]
    try dsimp only
    repeat with_reducible first|(apply zS;intro _ R_;simp only [go_sem,↓reduceIte,g3,g4,g5,g7,g8,g9,g10,sq,hvi];subst R_)|apply nS
    refine zAl ?_
    simp only [go_sem,↓reduceIte,g3,g4,g5,g7,g8,g9,g10,hvi]
    rw [if_neg nqa,if_neg nqb,if_neg nqc,if_neg nq9]
    exact ⟨sa,sb,sc,s9,(by show _=some (AObj.cells [_,_,_,.bool v.is,_,_,_,_] 62);rw [hvi];rfl),hg.upd sq _,fin.new h0q⟩
  clear sa sb sc s9 sq hg fin g3 g4 g5 g7 g8 g9 g10 hq1
  obtain ⟨g3,g4,g5,g7,g8,g9,g10,g11,sa,sb,sc,s9,sq,hg,fin⟩:=hI
  subst hbq
  repeat with_reducible first|(apply zS;intro _ R_;simp only [go_sem,↓reduceIte,g3,g4,g5,g7,g8,g9,g10,g11,sa,sb,sc,s9,sq,yEh];subst R_)|refine rG2 ?_
  refine zAw ?_
  simp only [go_sem,↓reduceIte]
  intro w hw
  obtain ⟨h4,ea,hg4,hl4,keep⟩:=zDz zI0 zI0 zPg zXj zLj ⟨rfl,by decide⟩ fin hw (sz1:=z) (n1:=base.length+i) (c1:=zAn (base++(vs.take i).map (shV ρ))) (c2:=zBc (shV ρ v)) (n2:=1) (t2:=.full) hg hz (sz2:=8) rfl (by decide) (by omega)
  have sa:=keep _ _ _ sa
  have sb:=keep _ _ _ sb
  have sc:=keep _ _ _ sc
  have s9:=keep _ _ _ s9
  have sq:=keep _ _ _ sq
  simp only [ea,go_sem,↓reduceIte,g9,s9]
  repeat with_reducible first|(apply zS;intro _ R_;simp only [go_sem,↓reduceIte,g3,g4,g5,g7,g8,g9,g10,g11,s9,zA3 ((i:Int)+1) (by omega)];subst R_)|(apply rN;subst hbq)|refine rG2 ?_|apply nS|apply rE
  refine zAp (m:=kk - 1) (by omega) ⟨i+1,8,.id w,by omega,?_⟩
  simp only [go_sem,↓reduceIte,g3,g4,g5,g7,g8,g9,g10]
  have eE:zAn (base++(vs.take (i+1)).map (shV ρ))=zAn (base++(vs.take i).map (shV ρ))++zBc (shV ρ v):=by
   rw [List.take_add_one,hv,List.map_append,← List.append_assoc]
   unfold zAn
   rw [List.flatMap_append]
   simp
  rw [eE,if_neg n9a,if_neg n9b,if_neg n9c]
  exact ⟨rfl,sa,sb,sc,rfl,.inr trivial,hg4.upd s9 _,hl4.new h09⟩
 repeat with_reducible first|((first|apply zS|apply zC);intro _ R_;simp only [go_sem,↓reduceIte,g3,g4,g5,g7,g8,g9,g10,hi,sa,sb,sc,s9];subst R_)|(apply rN;subst hbq)|refine rG2 ?_|(apply x1;clear hbq bq)|apply nS|refine rS fun bq hbq=>?_|apply rXx|apply x3|apply x4
 obtain rfl:i=vs.length:=by omega
 rw [List.take_length,← hFn] at s9
 have hFl:=zQn base vs
 have leF:LeAV (.agg [.list z (zAn (farS base vs)) (base.length+vs.length) tk]) (.agg [.list 8 (zAn (farS base vs)) (farS base vs).length .none]):=by
  rw [hFl]
  refine LeAV.agg (.cons ?_ .nil)
  rcases hz with e|e
  ·have:farS base vs=[]:=List.eq_nil_of_length_eq_zero (by omega)
   rw [this,e];exact LeAV.nil _ _ _
  ·rw [e];exact LeAV.list _ _ _ _
 have hfr:∀ t,shT ρ t=mv base.length t:=fun t=>by rw [← hρ]
 refine z0g vs (by omega) .none A B _ _ ?_
 have hbig:=yAv (a:=A) (b:=B) hcb ft
 have hfar:=z5t (a:=A) (b:=B) hcb ft
 have hso1:=@zPb vs A B
 have hso2:=@zPb (farS base vs) (mv base.length A) (mv base.length B)
 generalize zC0 vs A B=R at *
 obtain ⟨ms,is,er⟩:=R
 dsimp only [outU] at hbig hfar hso1 ⊢
 repeat with_reducible (apply zS;intro _ R_;simp only [go_sem,↓reduceIte,g3,g4,g5,g7,g8,g9,g10,sa,sb,sc,s9];subst R_)
 intro p12 hp12
 have n12a:=zAc hp12 sa
 have n12b:=zAc hp12 sb
 have n12c:=zAc hp12 sc
 have n129:=zAc hp12 s9
 have fin:=fin.new (o:=some (sAV ms)) (fin.none hp12)
 have sa:=(zAa H (some (sAV ms)) n12a).trans sa
 have sb:=(zAa H (some (sAV ms)) n12b).trans sb
 have sc:=(zAa H (some (sAV ms)) n12c).trans sc
 have s9:=(zAa H (some (sAV ms)) n129).trans s9
 have s12:=upd_same H p12 (some (sAV ms))
 simp only [go_sem,↓reduceIte]
 generalize upd H p12 (some (sAV ms))=H2 at *
 refine zAe ?_;subst hbq
 repeat with_reducible refine zAb fun bq hbq=>?_
 refine zEg (.take 0 (.take 1 (.take 2 (.take 3 (.take 5 (.take 6 (.take 7 (.one 4 [6,0] (.one 8 [0] (.one 9 [] (.take 10 (.take 11 (.take 12 (.take 13 (.one 14 [] (.one 15 [] (.take 16 (.take 17 (.done))))))))))))))))))) [0,1,2,3,5,6,7,4,8,9,10,11,12,13,14,15,16,17] (by kernel_rfl) (by kernel_rfl) (by simp only [zAm,gtOf,zAk];exact rfl) ?_
 repeat ((first|(with_reducible apply iT;refine sT rfl ?_)|(with_reducible apply iO;refine sO rfl ?_));intro _ _ _ C_ R_ U_;simp only [go_sem,↓reduceIte,g3,g4,g5,g7,g8,g9,g10,sa,sb,sc,s9];subst C_ R_ U_)
 refine zT5 vs.length base.length (by omega) _ A _ _ (Nat.le_refl _) (by omega) hvA ?_
 try dsimp only
 repeat ((first|with_reducible apply sA|(with_reducible apply iO;refine sO rfl ?_));intro _ _ _ C_ R_ U_;simp only [go_sem,↓reduceIte,g3,g4,g5,g7,g8,g9,g10,sa,sb,sc,s9];subst C_ R_ U_)
 refine zT5 vs.length base.length (by omega) _ B _ _ (Nat.le_refl _) (by omega) hvB ?_
 try dsimp only
 repeat ((first|with_reducible apply sA|(with_reducible apply i0;refine s0 rfl ?_));intro _ _ _ C_ R_ U_;simp only [go_sem,↓reduceIte,g3,g4,g5,g7,g8,g9,g10,sa,sb,sc,s9];subst C_ R_ U_)
 refine zAg.args (args':=[.agg [.list 8 (zAn (farS base vs)) (farS base vs).length .none],enc (mv base.length A),enc (mv base.length B)]) (.cons leF (.cons (LeAV.refl _) (.cons (LeAV.refl _) .nil))) (z0g (farS base vs) (by omega) .none _ _ _ _ ?_)
 generalize zC0 (farS base vs) (mv base.length A) (mv base.length B)=R at *
 obtain ⟨Fs,is2,er2⟩:=R
 dsimp only [outU] at hbig hfar hso1 hso2 ⊢
 repeat ((first|(with_reducible apply iT;refine sT rfl ?_)|(with_reducible apply i0;refine s0 rfl ?_));intro _ _ _ C_ R_ U_;simp only [go_sem,↓reduceIte,g3,g4,g5,g7,g8,g9,g10,sa,sb,sc,s9];subst C_ R_ U_)
 intro p15 hp15
 have n15a:=zAc hp15 sa
 have n15b:=zAc hp15 sb
 have n15c:=zAc hp15 sc
 have n1512:=zAc hp15 s12
 have fin:=fin.new (o:=some (sAV Fs)) (fin.none hp15)
 have sa:=(zAa H2 (some (sAV Fs)) n15a).trans sa
 have sb:=(zAa H2 (some (sAV Fs)) n15b).trans sb
 have sc:=(zAa H2 (some (sAV Fs)) n15c).trans sc
 have s12:=(zAa H2 (some (sAV Fs)) n1512).trans s12
 have s15:=upd_same H2 p15 (some (sAV Fs))
 simp only [go_sem,↓reduceIte]
 generalize upd H2 p15 (some (sAV Fs))=H3 at *
 refine zAe ?_;subst hbq
 cases f3:(er==0)
 ·have her:(er==2||er==5)=true:=by
   rcases hbig.1 with e|e
   ·rw [e] at f3;cases f3
   ·exact e
  repeat with_reducible first|((first|apply zS|apply zC);intro _ R_;simp only [go_sem,↓reduceIte,g3,g4,g5,g7,g8,g9,g10,sa,sb,sc,f3];subst R_)|(apply rN;subst hbq)|refine rG2 ?_|apply nS|refine rS fun bq hbq=>?_
  refine zDu er _ _ ?_
  rw [her]
  try dsimp only
  repeat first|(with_reducible first|(apply zS;intro _ R_;simp only [go_sem,↓reduceIte,g3,g4,g5,g7,g8,g9,g10,sa,sb,sc,f3];subst R_)|(apply rN;subst hbq)|(apply r1;clear hbq bq)|apply nS|apply rR)|(with_reducible apply iL;refine rL (by rw [Tryz.results7]) (fin) ?_;simp only [go_sem,↓reduceIte,zAo,Option.some.injEq,exists_eq_left',g3,g4,g5,g7,g8,g9,g10,sa,sb,sc,f3])
  exact hq
 obtain rfl:er=0:=by simpa using f3
 cases f4:(er2==0)
 ·have her:(er2==2||er2==5)=true:=by
   rcases hbig.2 with e|e
   ·rw [e] at f4;cases f4
   ·exact e
  have t0:((0:Int)==2||(0:Int)==5)=false:=rfl
  repeat with_reducible first|((first|apply zS|apply zC);intro _ R_;simp only [go_sem,↓reduceIte,g3,g4,g5,g7,g8,g9,g10,sa,sb,sc,f3,f4];subst R_)|(apply rN;subst hbq)|refine rG2 ?_|apply nS|refine rS fun bq hbq=>?_
  refine zDu 0 _ _ ?_
  rw [t0]
  try dsimp only
  repeat with_reducible (apply zS;intro _ R_;simp only [go_sem,↓reduceIte,g3,g4,g5,g7,g8,g9,g10,sa,sb,sc,f3,f4];subst R_)
  refine zDu er2 _ _ ?_
  rw [her]
  try dsimp only
  repeat first|(with_reducible first|(apply zS;intro _ R_;simp only [go_sem,↓reduceIte,g3,g4,g5,g7,g8,g9,g10,sa,sb,sc,f3,f4];subst R_)|(apply rN;subst hbq)|(apply r1;clear hbq bq)|apply nS|apply rR)|(with_reducible apply iL;refine rL (by rw [Tryz.results7]) (fin) ?_;simp only [go_sem,↓reduceIte,zAo,Option.some.injEq,exists_eq_left',g3,g4,g5,g7,g8,g9,g10,sa,sb,sc,f3,f4])
  exact hq
 obtain rfl:er2=0:=by simpa using f4
 obtain ⟨his,hS⟩:=hfar rfl rfl
 obtain rfl:is2=is:=his
 cases is2 with
 |false =>
  repeat first|(with_reducible first|((first|apply zS|apply zC);intro _ R_;simp only [go_sem,↓reduceIte,g3,g4,g5,g7,g8,g9,g10,sa,sb,sc,f3,f4];subst R_)|(apply rN;subst hbq)|refine rG2 ?_|(apply r1;clear hbq bq)|apply nS|refine rS fun bq hbq=>?_|apply rK|apply rR)|(with_reducible apply iL;refine rL (by rw [Tryz.results7]) (fin) ?_;simp only [go_sem,↓reduceIte,zAo,Option.some.injEq,exists_eq_left',g3,g4,g5,g7,g8,g9,g10,sa,sb,sc,f3,f4])
  exact hq
 |true =>
 obtain ⟨w1,w2,S⟩:=hS rfl
 obtain ⟨hck1,hE1⟩:=hso1 rfl rfl
 obtain ⟨hck2,hE2⟩:=hso2 rfl rfl
 have hl1:ms.length≤2000:=(zG2 hck1).len
 have hl2:Fs.length≤2000:=(zG2 hck2).len
 have hm1:vs.length≤ms.length:=hE1.1
 have hm2:base.length+vs.length≤Fs.length:=by have:=hE2.1;omega
 repeat with_reducible first|((first|apply zS|apply zC);intro _ R_;simp only [go_sem,↓reduceIte,g3,g4,g5,g7,g8,g9,g10,sa,sb,sc,s12,s15,f3,f4];subst R_)|(apply rN;subst hbq)|refine rG2 ?_|apply nS|refine rS fun bq hbq=>?_|apply rK
 have hL1:zD0 ms vs.length []=((zDf ms 40 (zBr ms vs.length)).1,(zDf ms 40 (zBr ms vs.length)).2.2):=by unfold zD0;rw [List.append_nil]
 have z1:=zP7 ms 40 (zBr ms vs.length)
 have z3:(zD0 base base.length []).1.length≤20000∧∀ t ∈ (zD0 base base.length []).1,t.size≤4000:=by unfold zD0;exact zP7 _ _ _
 have b1:=zP8 hck1 hm1 (by omega)
 have b2:=zP8 hck2 hm2 (by omega)
 have b3:=zP8 hcb (Nat.le_refl _) (by omega)
 have hsm:=z4u S rfl hcb hck1 hck2 hm1
 refine zK0 ms (by omega) vs.length hm1 _ _ ?_
 rw [hL1] at b1 hsm ⊢
 generalize zDf ms 40 (zBr ms vs.length)=R1 at *
 obtain ⟨l1,ty1,er1⟩:=R1
 dsimp only at b1 hsm z1 ⊢
 have eN:(base.length:Int)+vs.length=((base.length+vs.length:Nat):Int):=by omega
 repeat with_reducible first|(apply zS;intro _ R_;simp only [go_sem,↓reduceIte,g3,g4,g5,g7,g8,g9,g10,sa,sb,sc,s12,s15,zA3 (((base.length+vs.length:Nat):Int)) (by omega),eN];subst R_)|(apply rN;subst hbq)|refine rG2 ?_|apply nS|refine rS fun bq hbq=>?_
 refine zK0 Fs (by omega) (base.length+vs.length) hm2 _ _ ?_
 generalize zD0 Fs (base.length+vs.length) []=R2 at *
 obtain ⟨l2,er2⟩:=R2
 dsimp only at b2 hsm ⊢
 repeat with_reducible first|(apply zS;intro _ R_;simp only [go_sem,↓reduceIte,g3,g4,g5,g7,g8,g9,g10,sa,sb,sc,s12,s15];subst R_)|(apply rN;subst hbq)|refine rG2 ?_|apply nS|refine rS fun bq hbq=>?_
 refine zK0 base (by omega) base.length (Nat.le_refl _) _ _ ?_
 generalize zD0 base base.length []=R3 at *
 obtain ⟨l3,er3⟩:=R3
 dsimp only at b3 hsm z3 ⊢
 have t0:((0:Int)==2||(0:Int)==5)=false:=rfl
 have big:∀ e:Int,(e=0∨Big e)→(e==0)=false→(e==2||e==5)=true:=fun e h h0=>by
  rcases h with h|h
  ·rw [h] at h0;cases h0
  ·exact h
 cases f5:(er1==0)
 ·repeat with_reducible first|((first|apply zS|apply zC);intro _ R_;simp only [go_sem,↓reduceIte,g3,g4,g5,g7,g8,g9,g10,sa,sb,sc,s12,s15,f5];subst R_)|(apply rN;subst hbq)|refine rG2 ?_|apply nS|refine rS fun bq hbq=>?_
  refine zDu er1 _ _ ?_
  rw [big er1 b1 f5]
  try dsimp only
  repeat first|(with_reducible first|(apply zS;intro _ R_;simp only [go_sem,↓reduceIte,g3,g4,g5,g7,g8,g9,g10,sa,sb,sc,s12,s15,f5];subst R_)|(apply rN;subst hbq)|(apply r1;clear hbq bq)|apply nS|apply rR)|(with_reducible apply iL;refine rL (by rw [Tryz.results7]) (fin) ?_;simp only [go_sem,↓reduceIte,zAo,Option.some.injEq,exists_eq_left',g3,g4,g5,g7,g8,g9,g10,sa,sb,sc,s12,s15,f5])
  exact hq
 obtain rfl:er1=0:=by simpa using f5
 cases f6:(er2==0)
 ·repeat with_reducible first|((first|apply zS|apply zC);intro _ R_;simp only [go_sem,↓reduceIte,g3,g4,g5,g7,g8,g9,g10,sa,sb,sc,s12,s15,f5,f6];subst R_)|(apply rN;subst hbq)|refine rG2 ?_|apply nS|refine rS fun bq hbq=>?_
  refine zDu 0 _ _ ?_
  rw [t0]
  try dsimp only
  repeat with_reducible (apply zS;intro _ R_;simp only [go_sem,↓reduceIte,g3,g4,g5,g7,g8,g9,g10,sa,sb,sc,s12,s15,f5,f6];subst R_)
  refine zDu er2 _ _ ?_
  rw [big er2 b2 f6]
  try dsimp only
  repeat first|(with_reducible first|(apply zS;intro _ R_;simp only [go_sem,↓reduceIte,g3,g4,g5,g7,g8,g9,g10,sa,sb,sc,s12,s15,f5,f6];subst R_)|(apply rN;subst hbq)|(apply r1;clear hbq bq)|apply nS|apply rR)|(with_reducible apply iL;refine rL (by rw [Tryz.results7]) (fin) ?_;simp only [go_sem,↓reduceIte,zAo,Option.some.injEq,exists_eq_left',g3,g4,g5,g7,g8,g9,g10,sa,sb,sc,s12,s15,f5,f6])
  exact hq
 obtain rfl:er2=0:=by simpa using f6
 cases f7:(er3==0)
 ·repeat with_reducible first|((first|apply zS|apply zC);intro _ R_;simp only [go_sem,↓reduceIte,g3,g4,g5,g7,g8,g9,g10,sa,sb,sc,s12,s15,f5,f7];subst R_)|(apply rN;subst hbq)|refine rG2 ?_|apply nS|refine rS fun bq hbq=>?_
  refine zDu 0 _ _ ?_
  rw [t0]
  try dsimp only
  repeat with_reducible (apply zS;intro _ R_;simp only [go_sem,↓reduceIte,g3,g4,g5,g7,g8,g9,g10,sa,sb,sc,s12,s15,f5,f7];subst R_)
  refine zDu 0 _ _ ?_
  rw [t0]
  try dsimp only
  repeat with_reducible (apply zS;intro _ R_;simp only [go_sem,↓reduceIte,g3,g4,g5,g7,g8,g9,g10,sa,sb,sc,s12,s15,f5,f7];subst R_)
  refine zDu er3 _ _ ?_
  rw [big er3 b3 f7]
  try dsimp only
  repeat first|(with_reducible first|(apply zS;intro _ R_;simp only [go_sem,↓reduceIte,g3,g4,g5,g7,g8,g9,g10,sa,sb,sc,s12,s15,f5,f7];subst R_)|(apply rN;subst hbq)|(apply r1;clear hbq bq)|apply nS|apply rR)|(with_reducible apply iL;refine rL (by rw [Tryz.results7]) (fin) ?_;simp only [go_sem,↓reduceIte,zAo,Option.some.injEq,exists_eq_left',g3,g4,g5,g7,g8,g9,g10,sa,sb,sc,s12,s15,f5,f7])
  exact hq
 obtain rfl:er3=0:=by simpa using f7
 obtain ⟨m1,m2,m3⟩:=hsm rfl rfl rfl
 repeat with_reducible first|((first|apply zS|apply zC);intro _ R_;simp only [go_sem,↓reduceIte,g3,g4,g5,g7,g8,g9,g10,sa,sb,sc,s12,s15,f5];subst R_)|(apply rN;subst hbq)|refine rG2 ?_|apply nS|refine rS fun bq hbq=>?_|apply rK
 repeat with_reducible refine zAb fun bq hbq=>?_
 refine zEg (.take 0 (.take 1 (.take 2 (.take 3 (.take 4 (.take 5 (.take 6 (.take 7 (.take 9 (.one 8 [5,0] (.take 10 (.one 11 [5,0] (.one 12 [5] (.take 13 (.take 14 (.take 15 (.take 16 (.take 17 (.take 18 (.take 19 (.done))))))))))))))))))))) [0,1,2,3,4,5,6,7,9,8,10,11,12,13,14,15,16,17,18,19] (by kernel_rfl) (by kernel_rfl) (by simp only [zAm,gtOf,zAk];exact rfl) ?_
 repeat ((first|(with_reducible apply iT;refine sT rfl ?_)|(with_reducible apply iO;refine sO rfl ?_));intro _ _ _ C_ R_ U_;simp only [go_sem,↓reduceIte,g3,g4,g5,g7,g8,g9,g10,sa,sb,sc,s12,s15,zA3 (((base.length+vs.length:Nat):Int)) (by omega),eN,zH7];subst C_ R_ U_)
 refine zVv Fs (by omega) (base.length+vs.length) hm2 _ _ fun z2 tok2 H4 hz2 hg2 hl4=>?_
 have sa:=hl4 _ _ sa
 have s15:=hl4 _ _ s15
 obtain ⟨t',es⟩:=zVn (tk:=tok2) (zGq Fs (base.length+vs.length)) hz2 (k:=base.length) (by omega)
 try dsimp only
 repeat ((first|with_reducible apply sA|(with_reducible apply iT;refine sT rfl ?_)|(with_reducible apply iO;refine sO rfl ?_));intro _ _ _ C_ R_ U_;simp only [go_sem,↓reduceIte,g3,g4,g5,g7,g8,g9,g10,sa,s15,es,zH7];subst C_ R_ U_)
 refine zAw ?_
 simp only [go_sem,↓reduceIte]
 intro w hw
 have hXl:((zBr Fs (base.length+vs.length)).drop base.length).length≤1000000:=by rw [List.length_drop,zGq];omega
 obtain ⟨H5,tk5,ea5,hl5⟩:=zZm ((zBr Fs (base.length+vs.length)).drop base.length) hXl t' H4 w hw
 have sa:=hl5 _ _ sa
 have s15:=hl5 _ _ s15
 have fin:=(hl5.trans hl4).trans fin
 simp only [ea5,go_sem,↓reduceIte,sa,s15]
 skip
 refine zAg.args (args':=[.agg [.list 8 (zAn Fs) Fs.length .none],.int .i64 40,.list 4 (encs ((zBr Fs (base.length+vs.length)).drop base.length)) ((zBr Fs (base.length+vs.length)).drop base.length).length .none]) (.cons (LeAV.refl _) (.cons (LeAV.refl _) (.cons (LeAV.list _ _ _ _) .nil))) (z1f Fs (by omega) 40 _ hXl _ _ ?_)
 rw [m3]
 dsimp only [zFk]
 have z0:((0:Int)==0)=true:=rfl
 have hlen:((l2.length:Int)==(base.length:Int)+l1.length)=true:=by
  rw [m1];simp
 have hsl:=z0r l2 base.length (by omega)
 have hz1:=z1.1
 simp only [go_sem,↓reduceIte,sa,s15]
 repeat with_reducible first|(apply zS;intro _ R_;simp only [go_sem,↓reduceIte,g3,g4,g5,g7,g8,g9,g10,sa,s15,z0,zA3 ((base.length:Int)+l1.length) (by omega),hlen,hsl];subst R_)|(apply rN;subst hbq)|refine rG2 ?_|refine rS fun bq hbq=>?_
 refine zN5 _ l3 (fun x hx=>?_) ?_ _ _ m2 ?_
 ·rw [m2] at hx
  have:=z3.2 x hx;omega
 ·rw [m2]
  have:=z3.1;omega
 try dsimp only
 repeat with_reducible (apply zS;intro _ R_;simp only [go_sem,↓reduceIte,g3,g4,g5,g7,g8,g9,g10,sa,s15,z0,hlen,hsl];subst R_)
 refine zN5 l1 l1 (fun x hx=>by have:=z1.2 x hx;omega) (by omega) _ _ rfl ?_
 try dsimp only
 repeat first|(with_reducible first|(apply zS;intro _ R_;simp only [go_sem,↓reduceIte,g3,g4,g5,g7,g8,g9,g10,sa,s15,z0,hlen,hsl];subst R_)|(apply rN;subst hbq)|apply nS|apply rR)|(with_reducible apply iL;refine rL (by rw [Tryz.results7]) (fin) ?_;simp only [go_sem,↓reduceIte,zAo,Option.some.injEq,exists_eq_left',g3,g4,g5,g7,g8,g9,g10,sa,s15,z0,hlen,hsl])
 exact hq
end Go.Proofs.YthkjmiejaoomcaaGreat.Am
