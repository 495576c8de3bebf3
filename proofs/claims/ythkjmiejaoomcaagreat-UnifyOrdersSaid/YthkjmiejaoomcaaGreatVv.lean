/- Part of the proof of a law of layer 5: own texts, joined. -/
import Derived.Test.YthkjmiejaoomcaaGreatVu
import Derived.Test.YthkjmiejaoomcaaGreatVt
import Derived.Test.YthkjmiejaoomcaaGreatVk
set_option linter.unusedVariables false
set_option linter.unusedSimpArgs false
set_option linter.unnecessarySimpa false
namespace Go.Proofs.YthkjmiejaoomcaaGreat.Am
open Go Go.RowKit Go.Proofs
set_option linter.unusedVariables false
set_option linter.unusedSimpArgs false
set_option maxRecDepth 100000
set_option maxHeartbeats 1000000
abbrev sA2 (vs:List Va):AObj:=.cells [.list 8 (aM vs) vs.length .none] 24
abbrev Cx (a b c d:Term):List AV:=[.int .i64 a.kind,.int .i64 a.n,.str a.name,.list 4 (encs a.args) a.args.length .none,.int .i64 b.kind,.int .i64 b.n,.str b.name,.list 4 (encs b.args) b.args.length .none,.int .i64 c.kind,.int .i64 c.n,.str c.name,.list 4 (encs c.args) c.args.length .none,.int .i64 d.kind,.int .i64 d.n,.str d.name,.list 4 (encs d.args) d.args.length .none]
theorem Oh (a b c d:Term):bn Tryz.prog 25 4 [(0,.agg (ay a)),(1,.agg (ay b)),(2,.agg (ay c)),(3,.agg (ay d))]=some (.list 4 (ay a++(ay b++(ay c++ay d))) 4 .full):=by
 simp only [bn,ed,je,iy,ik]
 rfl
theorem Mq (vs:List Va) (A B C D:Term) (h:ai) (Q:AOut→ai→Prop) (hq:Q (.ret (.bool true)) h) :
  az Tryz.prog 5 [.agg [.list 8 (aM vs) vs.length .none],.agg (Cx A B C D)] h Q:=by
 refine eN Tryz.func5 ?_
 repeat with_reducible first|(apply zS;intro _ R_;simp only [go_sem,↓reduceIte];subst R_)|refine rG2 ?_|refine rS fun bq hbq=>?_
 intro a ha
 repeat with_reducible (apply zS;intro _ R_;simp only [go_sem,↓reduceIte];subst R_)
 intro c hc
 have e1:=aQ hc
 have fin:ax (upd (upd h a (some (sA2 vs))) c (some (.cells (Cx A B C D) 52))) h:=((ax.refl h).new ha |>.new e1.2)
 repeat with_reducible first|(apply zS;intro _ R_;simp only [go_sem,↓reduceIte,e1.1,e1.1.symm];subst R_)|(apply rN;subst hbq)|refine rG2 ?_|apply nS|refine rS fun bq hbq=>?_
 refine Pj _ _ ?_
 have sa:(upd (upd h a (some (sA2 vs))) c (some (.cells (Cx A B C D) 52))) a=some (sA2 vs):=by rw [ae _ _ e1.1.symm,upd_same]
 have sc:(upd (upd h a (some (sA2 vs))) c (some (.cells (Cx A B C D) 52))) c=some (.cells (Cx A B C D) 52):=upd_same _ _ _
 generalize upd (upd h a (some (sA2 vs))) c (some (.cells (Cx A B C D) 52))=H at *
 try dsimp only
 repeat with_reducible first|(apply zS;intro _ R_;simp only [go_sem,↓reduceIte,sa,sc,Oh];subst R_)|(apply rN;subst hbq)|refine rG2 ?_|apply nS|refine rS fun bq hbq=>?_
 have le4:LeAV (.list 4 (ay A++(ay B++(ay C++ay D))) 4 .full) (.list 4 (encs [A,B,C,D]) ([A,B,C,D]:List Term).length .none):=by
  rw [show encs [A,B,C,D]=ay A++(ay B++(ay C++ay D)) by rw [dh];simp]
  exact LeAV.list _ _ _ _
 refine az.args (args':=[.agg [.list 8 (aM vs) vs.length .none],.list 4 (encs [A,B,C,D]) ([A,B,C,D]:List Term).length .none]) (.cons (LeAV.refl _) (.cons le4 .nil)) (Uf vs .none [A,B,C,D] _ _ (by simp) ?_)
 cases c1:QK vs [A,B,C,D]
 ·try dsimp only
  repeat first|(with_reducible first|((first|apply zS|apply zC);intro _ R_;simp only [go_sem,↓reduceIte,sa,sc,c1];subst R_)|(apply rN;subst hbq)|refine rG2 ?_|(apply r1;clear hbq bq)|apply nS|refine rS fun bq hbq=>?_|apply rR)|(with_reducible apply iL;refine rL (by rw [Tryz.results5]) fin ?_;simp only [go_sem,↓reduceIte,aJ,Option.some.injEq,exists_eq_left',sa,sc,c1])
  exact hq
 have hvs:vs.length≤12:=by
  unfold QK at c1
  rw [Bool.and_eq_true,Bool.not_eq_true',decide_eq_false_iff_not] at c1
  omega
 try dsimp only
 repeat with_reducible (apply zS;intro _ R_;simp only [go_sem,↓reduceIte,sa,sc,c1];subst R_)
 refine xe vs (by omega) .none A _ _ ?_
 cases f1:((if (bi vs==0)=true then fP vs A else bi vs)==0)
 ·try dsimp only
  repeat first|(with_reducible first|((first|apply zS|apply zC);intro _ R_;simp only [go_sem,↓reduceIte,sa,sc,f1];subst R_)|(apply rN;subst hbq)|refine rG2 ?_|(apply r1;clear hbq bq)|apply nS|refine rS fun bq hbq=>?_|apply rR)|(with_reducible apply iL;refine rL (by rw [Tryz.results5]) fin ?_;simp only [go_sem,↓reduceIte,aJ,Option.some.injEq,exists_eq_left',sa,sc,f1])
  exact hq
 try dsimp only
 repeat with_reducible (apply zS;intro _ R_;simp only [go_sem,↓reduceIte,sa,sc,f1];subst R_)
 refine xe vs (by omega) .none B _ _ ?_
 cases f2:((if (bi vs==0)=true then fP vs B else bi vs)==0)
 ·try dsimp only
  repeat first|(with_reducible first|((first|apply zS|apply zC);intro _ R_;simp only [go_sem,↓reduceIte,sa,sc,f2];subst R_)|(apply rN;subst hbq)|refine rG2 ?_|(apply r1;clear hbq bq)|apply nS|refine rS fun bq hbq=>?_|apply rR)|(with_reducible apply iL;refine rL (by rw [Tryz.results5]) fin ?_;simp only [go_sem,↓reduceIte,aJ,Option.some.injEq,exists_eq_left',sa,sc,f2])
  exact hq
 try dsimp only
 repeat with_reducible (apply zS;intro _ R_;simp only [go_sem,↓reduceIte,sa,sc,f2];subst R_)
 refine xe vs (by omega) .none C _ _ ?_
 cases f3:((if (bi vs==0)=true then fP vs C else bi vs)==0)
 ·try dsimp only
  repeat first|(with_reducible first|((first|apply zS|apply zC);intro _ R_;simp only [go_sem,↓reduceIte,sa,sc,f3];subst R_)|(apply rN;subst hbq)|refine rG2 ?_|(apply r1;clear hbq bq)|apply nS|refine rS fun bq hbq=>?_|apply rR)|(with_reducible apply iL;refine rL (by rw [Tryz.results5]) fin ?_;simp only [go_sem,↓reduceIte,aJ,Option.some.injEq,exists_eq_left',sa,sc,f3])
  exact hq
 try dsimp only
 repeat with_reducible (apply zS;intro _ R_;simp only [go_sem,↓reduceIte,sa,sc,f3];subst R_)
 refine xe vs (by omega) .none D _ _ ?_
 cases f4:((if (bi vs==0)=true then fP vs D else bi vs)==0)
 ·try dsimp only
  repeat first|(with_reducible first|((first|apply zS|apply zC);intro _ R_;simp only [go_sem,↓reduceIte,sa,sc,f4];subst R_)|(apply rN;subst hbq)|refine rG2 ?_|(apply r1;clear hbq bq)|apply nS|refine rS fun bq hbq=>?_|apply rR)|(with_reducible apply iL;refine rL (by rw [Tryz.results5]) fin ?_;simp only [go_sem,↓reduceIte,aJ,Option.some.injEq,exists_eq_left',sa,sc,f4])
  exact hq
 try dsimp only
 repeat with_reducible first|((first|apply zS|apply zC);intro _ R_;simp only [go_sem,↓reduceIte,sa,sc,f4];subst R_)|(apply rN;subst hbq)|refine rG2 ?_|apply nS|refine rS fun bq hbq=>?_|apply rK
 refine wM vs (by omega) .none A B _ _ ?_
 have hso:=@iH vs A B
 generalize hR:bV vs A B=R at *
 obtain ⟨s1,i1,er⟩:=R
 dsimp only [outU] at hso ⊢
 repeat with_reducible (apply zS;intro _ R_;simp only [go_sem,↓reduceIte,sa,sc];subst R_)
 intro p6 hp6
 have n6a:=aj hp6 sa
 have n6c:=aj hp6 sc
 have h06:=fin.none hp6
 have fin:=fin.new (o:=some (sA2 s1)) h06
 have sa:=(ae H (some (sA2 s1)) n6a).trans sa
 have sc:=(ae H (some (sA2 s1)) n6c).trans sc
 have s6:=upd_same H p6 (some (sA2 s1))
 simp only [go_sem,↓reduceIte]
 generalize upd H p6 (some (sA2 s1))=H2 at *
 apply rN;subst hbq
 cases f5:(er==0)
 ·repeat first|(with_reducible first|((first|apply zS|apply zC);intro _ R_;simp only [go_sem,↓reduceIte,sa,sc,f5];subst R_)|(apply rN;subst hbq)|refine rG2 ?_|(apply r1;clear hbq bq)|apply nS|refine rS fun bq hbq=>?_|apply rR)|(with_reducible apply iL;refine rL (by rw [Tryz.results5]) fin ?_;simp only [go_sem,↓reduceIte,aJ,Option.some.injEq,exists_eq_left',sa,sc,f5])
  exact hq
 obtain rfl:er=0:=by simpa using f5
 refine ah fun b1 hb1=>?_
 repeat with_reducible first|((first|apply zS|apply zC);intro _ R_;simp only [go_sem,↓reduceIte,sa,sc,s6,f5];subst R_)|(apply rN;subst hbq)|refine rG2 ?_|apply nS|refine rS fun bq hbq=>?_|apply rK
 refine sF ?_;subst hb1
 refine ah fun b1 hb1=>?_
 repeat with_reducible first|(apply zS;intro _ R_;simp only [go_sem,↓reduceIte,sa,sc,s6];subst R_)|refine rG2 ?_|apply nS
 refine sF ?_;subst hb1
 refine ah fun bq hbq=>?_
 refine dB (fun τ H=>∃ a1 two,Path vs A B C D a1 two∧τ 2=.ptr a 0∧τ 3=.ptr c 0∧τ 5=.bool true∧τ 6=.ptr p6 0∧τ 9=.bool two∧ax H h∧H a=some (sA2 vs)∧H c=some (.cells (Cx A B C D) 52)∧H p6=some (sA2 a1)) ?_ fun τ h' hI=>?_
 ·cases i1 with
  |false =>
   repeat with_reducible first|((first|apply zS|apply zC);intro _ R_;simp only [go_sem,↓reduceIte,sa,sc,s6];subst R_)|(apply rN;subst hbq)|refine rG2 ?_|apply nS|refine rS fun bq hbq=>?_|apply rK
   refine aD ⟨s1,false,⟨s1,false,hR,.inr ⟨rfl,rfl⟩⟩,?_⟩
   simp only [go_sem,↓reduceIte]
   exact ⟨fin,sa,sc,s6⟩
  |true =>
   obtain ⟨hck1,hE1⟩:=hso rfl rfl
   have hl1:s1.length≤2000:=(dH hck1).len
   repeat with_reducible first|((first|apply zS|apply zC);intro _ R_;simp only [go_sem,↓reduceIte,sa,sc,s6];subst R_)|(apply rN;subst hbq)|refine rG2 ?_|apply nS|refine rS fun bq hbq=>?_
   refine wM s1 (by omega) .none C D _ _ ?_
   generalize hR2:bV s1 C D=R at *
   obtain ⟨s2,i2,er⟩:=R
   dsimp only [outU]
   cases f6:(er==0)
   ·repeat first|(with_reducible first|((first|apply zS|apply zC);intro _ R_;simp only [go_sem,↓reduceIte,sa,sc,s6,f6];subst R_)|(apply rN;subst hbq)|refine rG2 ?_|apply nS|refine rS fun bq hbq=>?_|apply rR|apply r2)|(with_reducible apply iL;refine rL (by rw [Tryz.results5]) (eO fin h06 _) ?_;simp only [go_sem,↓reduceIte,aJ,Option.some.injEq,exists_eq_left',sa,sc,s6,f6])
    exact hq
   obtain rfl:er=0:=by simpa using f6
   repeat with_reducible first|((first|apply zS|apply zC);intro _ R_;simp only [go_sem,↓reduceIte,sa,sc,s6,f6];subst R_)|(apply rN;subst hbq)|refine rG2 ?_|apply nS|refine rS fun bq hbq=>?_|apply rK
   refine aD ⟨s2,i2,⟨s1,true,hR,.inl ⟨rfl,hR2⟩⟩,?_⟩
   simp only [go_sem,↓reduceIte]
   rw [if_neg n6a,if_neg n6c]
   exact ⟨eO fin h06 _,sa,sc⟩
 clear hso fin sa sc s6 hR f5
 obtain ⟨a1,two,hP,g2,g3,g5,g6,g9,fin,sa,sc,s6⟩:=hI
 subst hbq
 repeat with_reducible first|(apply zS;intro _ R_;simp only [go_sem,↓reduceIte,g2,g3,g5,g6,g9,sa,sc,s6];subst R_)|refine rG2 ?_|refine rS fun bq hbq=>?_
 refine wM vs (by omega) .none C D _ _ ?_
 have hso:=@iH vs C D
 generalize hR:bV vs C D=R at *
 obtain ⟨s3,i3,er⟩:=R
 dsimp only [outU] at hso ⊢
 repeat with_reducible (apply zS;intro _ R_;simp only [go_sem,↓reduceIte,g2,g3,g5,g6,g9,sa,sc,s6];subst R_)
 intro p10 hp10
 have n10a:=aj hp10 sa
 have n10c:=aj hp10 sc
 have n106:=aj hp10 s6
 have h010:=fin.none hp10
 have fin:=fin.new (o:=some (sA2 s3)) h010
 have sa:=(ae h' (some (sA2 s3)) n10a).trans sa
 have sc:=(ae h' (some (sA2 s3)) n10c).trans sc
 have s6:=(ae h' (some (sA2 s3)) n106).trans s6
 have s10:=upd_same h' p10 (some (sA2 s3))
 simp only [go_sem,↓reduceIte]
 generalize upd h' p10 (some (sA2 s3))=H3 at *
 apply rN;subst hbq
 cases f5:(er==0)
 ·repeat first|(with_reducible first|((first|apply zS|apply zC);intro _ R_;simp only [go_sem,↓reduceIte,g2,g3,g5,g6,g9,sa,sc,f5];subst R_)|(apply rN;subst hbq)|refine rG2 ?_|(apply r1;clear hbq bq)|apply nS|refine rS fun bq hbq=>?_|apply rR)|(with_reducible apply iL;refine rL (by rw [Tryz.results5]) fin ?_;simp only [go_sem,↓reduceIte,aJ,Option.some.injEq,exists_eq_left',g2,g3,g5,g6,g9,sa,sc,f5])
  exact hq
 obtain rfl:er=0:=by simpa using f5
 refine ah fun b1 hb1=>?_
 repeat with_reducible first|((first|apply zS|apply zC);intro _ R_;simp only [go_sem,↓reduceIte,g2,g3,g5,g6,g9,sa,sc,s6,f5];subst R_)|(apply rN;subst hbq)|refine rG2 ?_|apply nS|refine rS fun bq hbq=>?_|apply rK
 refine sF ?_;subst hb1
 refine ah fun b1 hb1=>?_
 repeat with_reducible first|(apply zS;intro _ R_;simp only [go_sem,↓reduceIte,g2,g3,g5,g6,g9,sa,sc,s6];subst R_)|refine rG2 ?_|apply nS
 refine sF ?_;subst hb1
 refine ah fun bq hbq=>?_
 refine dB (fun τ H=>∃ b1 four,Path vs C D A B b1 four∧τ 2=.ptr a 0∧τ 3=.ptr c 0∧τ 5=.bool true∧τ 6=.ptr p6 0∧τ 9=.bool two∧τ 10=.ptr p10 0∧τ 12=.bool four∧ax H h∧H a=some (sA2 vs)∧H p6=some (sA2 a1)∧H p10=some (sA2 b1)) ?_ fun τ h' hI=>?_
 ·cases i3 with
  |false =>
   repeat with_reducible first|((first|apply zS|apply zC);intro _ R_;simp only [go_sem,↓reduceIte,g2,g3,g5,g6,g9,sa,sc,s6,s10];subst R_)|(apply rN;subst hbq)|refine rG2 ?_|apply nS|refine rS fun bq hbq=>?_|apply rK
   refine aD ⟨s3,false,⟨s3,false,hR,.inr ⟨rfl,rfl⟩⟩,?_⟩
   simp only [go_sem,↓reduceIte,g2,g3,g5,g6,g9]
   exact ⟨fin,sa,s6,s10⟩
  |true =>
   obtain ⟨hck1,hE1⟩:=hso rfl rfl
   have hl1:s3.length≤2000:=(dH hck1).len
   repeat with_reducible first|((first|apply zS|apply zC);intro _ R_;simp only [go_sem,↓reduceIte,g2,g3,g5,g6,g9,sa,sc,s6,s10];subst R_)|(apply rN;subst hbq)|refine rG2 ?_|apply nS|refine rS fun bq hbq=>?_
   refine wM s3 (by omega) .none A B _ _ ?_
   generalize hR2:bV s3 A B=R at *
   obtain ⟨s4,i4,er⟩:=R
   dsimp only [outU]
   cases f6:(er==0)
   ·repeat first|(with_reducible first|((first|apply zS|apply zC);intro _ R_;simp only [go_sem,↓reduceIte,g2,g3,g5,g6,g9,sa,sc,s6,s10,f6];subst R_)|(apply rN;subst hbq)|refine rG2 ?_|apply nS|refine rS fun bq hbq=>?_|apply rR|apply r2)|(with_reducible apply iL;refine rL (by rw [Tryz.results5]) (eO fin h010 _) ?_;simp only [go_sem,↓reduceIte,aJ,Option.some.injEq,exists_eq_left',g2,g3,g5,g6,g9,sa,sc,s6,s10,f6])
    exact hq
   obtain rfl:er=0:=by simpa using f6
   repeat with_reducible first|((first|apply zS|apply zC);intro _ R_;simp only [go_sem,↓reduceIte,g2,g3,g5,g6,g9,sa,sc,s6,s10,f6];subst R_)|(apply rN;subst hbq)|refine rG2 ?_|apply nS|refine rS fun bq hbq=>?_|apply rK
   refine aD ⟨s4,i4,⟨s3,true,hR,.inl ⟨rfl,hR2⟩⟩,?_⟩
   simp only [go_sem,↓reduceIte,g2,g3,g5,g6,g9]
   rw [if_neg n10a,if_neg n106]
   exact ⟨eO fin h010 _,sa,s6⟩
 clear hso fin sa sc s6 s10 hR f5 g2 g3 g5 g6 g9
 obtain ⟨b1,four,hP2,g2,g3,g5,g6,g9,g10,g12,fin,sa,s6,s10⟩:=hI
 subst hbq
 cases two with
 |false =>
  cases four with
  |false =>
   repeat first|(with_reducible first|((first|apply zS|apply zC);intro _ R_;simp only [go_sem,↓reduceIte,g2,g3,g5,g6,g9,g10,g12];subst R_)|(apply rN;subst hbq)|refine rG2 ?_|(apply r1;clear hbq bq)|apply nS|refine rS fun bq hbq=>?_|apply rR)|(with_reducible apply iL;refine rL (by rw [Tryz.results5]) fin ?_;simp only [go_sem,↓reduceIte,aJ,Option.some.injEq,exists_eq_left',g2,g3,g5,g6,g9,g10,g12])
   exact hq
  |true =>
   exfalso
   obtain ⟨_,kb,_⟩:=sM hP2
   have:=(sK hP2 hP ⟨(dH kb).acc⟩).1
   cases this
 |true =>
 obtain ⟨_,ka,Ea⟩:=sM hP
 obtain rfl:four=true:=(sK hP hP2 ⟨(dH ka).acc⟩).1
 obtain ⟨_,kb,Eb⟩:=sM hP2
 have hLs:=JU hP hP2
 have la:=(dH ka).len
 have lb:=(dH kb).len
 have ea:=Ea.len
 have eb:=Eb.len
 repeat with_reducible first|((first|apply zS|apply zC);intro _ R_;simp only [go_sem,↓reduceIte,g2,g3,g5,g6,g9,g10,g12,sa,s6,s10];subst R_)|(apply rN;subst hbq)|refine rG2 ?_|apply nS|refine rS fun bq hbq=>?_|apply rK
 refine ym a1 (by omega) vs.length ea _ _ ?_
 obtain ⟨hsz1,hsz2⟩:(mK a1 vs.length []).1.length≤20000∧∀ t ∈ (mK a1 vs.length []).1,t.size≤4000:=by unfold mK;exact Gn _ _ _
 try dsimp only
 repeat with_reducible first|(apply zS;intro _ R_;simp only [go_sem,↓reduceIte,g2,g3,g5,g6,g9,g10,g12,sa,s6,s10];subst R_)|(apply rN;subst hbq)|refine rG2 ?_|apply nS|refine rS fun bq hbq=>?_
 refine ym b1 (by omega) vs.length eb _ _ ?_
 rw [← hLs]
 generalize mK a1 vs.length []=R at *
 obtain ⟨l,e⟩:=R
 dsimp only at hsz1 hsz2 ⊢
 have zr:(e==e)=true:=by simp
 repeat with_reducible first|(apply zS;intro _ R_;simp only [go_sem,↓reduceIte,g2,g3,g5,g6,g9,g10,g12,zr];subst R_)|(apply rN;subst hbq)|refine rG2 ?_|apply nS|refine rS fun bq hbq=>?_
 refine DK l l (fun x hx=>by have:=hsz2 x hx;omega) (by omega) _ _ rfl ?_
 try dsimp only
 repeat first|(with_reducible first|(apply zS;intro _ R_;simp only [go_sem,↓reduceIte,g2,g3,g5,g6,g9,g10,g12,zr];subst R_)|(apply rN;subst hbq)|apply nS|apply rR)|(with_reducible apply iL;refine rL (by rw [Tryz.results5]) fin ?_;simp only [go_sem,↓reduceIte,aJ,Option.some.injEq,exists_eq_left',g2,g3,g5,g6,g9,g10,g12,zr])
 exact hq
end Go.Proofs.YthkjmiejaoomcaaGreat.Am
