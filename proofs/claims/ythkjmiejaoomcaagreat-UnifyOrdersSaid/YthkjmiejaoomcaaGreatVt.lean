/- Part of the proof of a law of layer 5: own texts, joined. -/
import Derived.Test.YthkjmiejaoomcaaGreatVr
import Derived.Test.YthkjmiejaoomcaaGreatVs
import Derived.Test.YthkjmiejaoomcaaGreatVk
set_option linter.unusedVariables false
set_option linter.unusedSimpArgs false
set_option linter.unnecessarySimpa false
namespace Go.Proofs.YthkjmiejaoomcaaGreat.Am
open Go Go.RowKit Go.Proofs
set_option linter.unusedVariables false
set_option linter.unusedSimpArgs false
set_option maxRecDepth 100000
set_option maxHeartbeats 1000000
theorem dH {vs:List Va} (hc:bi vs=0):Inv vs:=by
 have hc':=hc
 unfold bi at hc'
 split at hc'
 ·cases hc'
 rename_i h2000
 split at hc'
 ·cases hc'
 rename_i hl
 have hl':qX vs 4000=false:=by simpa using hl
 split at hc'
 case isFalse=>cases hc'
 rename_i hall
 split at hc'
 ·cases hc'
 rename_i hcirc
 have hacc:=(yX (Gx vs hl' hall).plain).1 (by simpa using hcirc)
 have hv:=List.all_eq_true.1 hall
 refine ⟨by omega,fun v hm=>?_,fun n=>?_⟩
 ·have hva:=hv v hm
  unfold mG at hva
  rw [Bool.and_eq_true] at hva
  refine ⟨hva.1,fun hi=>?_,fun hi=>?_⟩
  case refine_2 =>
   have h2:=hva.2
   rw [hi] at h2
   simp only [Bool.false_eq_true,if_false] at h2
   unfold vD at h2
   simp only [Bool.and_eq_true] at h2
   have hz:v.t.args=[]:=List.eq_nil_of_length_eq_zero (by have:=h2.2;simpa using this)
   have:=jG v.t
   obtain ⟨la,lt,li,⟨k,n,s,l⟩⟩:=v
   simp only at hz
   subst hz
   show Term.size _≤_
   rw [Term.size,sizes];decide
  have h2:=hva.2
  rw [hi] at h2
  simp only [if_true] at h2
  unfold inF at h2
  simp only [Bool.and_eq_true] at h2
  have hsz:=kJ vs 4000 hl' _ hm hi
  exact ⟨h2.1,h2.2.2.1,h2.2.2.2,by omega⟩
 ·by_cases hn:n<vs.length
  ·have key:∀ j:Int,Acc (Edge vs) j→∀ n:Nat,(n:Int)=j→Acc (En vs) n:=by
    intro j hj
    induction hj with
    |intro j _ ih =>
     intro n hnj
     refine .intro _ fun k hk=>ih k ?_ k rfl
     unfold En at hk
     unfold Edge ak
     rw [← hnj,Int.toNat_natCast]
     exact hk
   exact key n (hacc n hn) n rfl
  ·refine .intro _ fun k hk=>?_
   have:=hk.1
   rw [List.getD_eq_getElem?_getD,List.getElem?_eq_none (by omega)] at this
   cases this
theorem FP {x:Nat} {s:Sv} {h0 h:ai} (S:SObj x s h0 h) (I:Inv s.ms) (hw0:0≤s.wk) (hw:s.wk≤40000) {a b:Term} (ha:aK s.ms a 0=true) (hb:aK s.ms b 0=true) {px pa pb:Nat} (hx:h0 px=some (.cells [.ptr x 0] 97)) (hpa:h0 pa=some (.cells (ay a) 27)) (hpb:h0 pb=some (.cells (ay b) 27)) (Q:AOut→ai→Prop)
  (hq:∀ s' h2,eG 402 s a b 0=.ok s'→SObj x s' h0 h2→Q (.ret (.tuple [])) h2) (hp:∀ pv h2,PanV (eG 402 s a b 0) pv→ax h2 h0→Q (.panic pv) h2):az Tryz.prog 60 [.ptr px 0,.ptr pa 0,.ptr pb 0] h Q:=by
 have mx:=S.lessOf _ _ hx
 have ma:=S.lessOf _ _ hpa
 have mb:=S.lessOf _ _ hpb
 refine eN Tryz.func60 ?_
 repeat with_reducible first|(apply zS;intro _ R_;simp only [go_sem,↓reduceIte,mx,ma,mb];subst R_)|refine rG2 ?_
 refine Pe 402 s a b 0 0 _ _ _ S I hw0 hw ha hb (by decide) (by decide) (by decide) (by decide) (fun s' h2 hr _ S2=>?_) (fun pv h2 hr hl2=>?_)
 ·try dsimp only
  repeat with_reducible apply nS
  exact o7 (by rw [Tryz.results60]) (ax.refl _) (hq _ _ hr S2)
 ·dsimp only
  repeat with_reducible first|refine p5 ?_|refine p1 ?_|refine p2 ?_|refine p3 ?_|refine p4 ?_
  exact pL (ax.refl _) (hp pv h2 hr hl2)
def qK (vs:List Va) (a b:Term):Int:=if bi vs==0 then gW vs [a,b] else bi vs
noncomputable def bV (vs:List Va) (a b:Term):List Va × Bool × Int :=
 if qK vs a b==0 then (match eG 402 ⟨vs,0⟩ a b 0 with
  |.clash=>(vs,false,0)
  |.large e=>if e==0 then (vs,false,0) else ([],false,e)
  |.ok s=>if bi s.ms==2||bi s.ms==50 then ([],false,2) else (s.ms,true,0)) else ([],false,qK vs a b)
abbrev outU (r:List Va × Bool × Int):AV:=.tuple [.agg [.list 8 (aM r.1) r.1.length .none],.bool r.2.1,.int .i64 r.2.2]
theorem Oi (a b:Term):bn Tryz.prog 25 2 [(0,.agg (ay a)),(1,.agg (ay b))]=some (.list 4 (ay a++ay b) 2 .full):=by
 simp only [bn,ed,je,iy,ik]
 rfl
theorem QY (v:AV) (m:Nat) (hv:v.flat=true) (hk:v.known=true):dL Tryz.prog 101 [(0,.agg [v]),(1,.map m)]=some (.agg [v,.map m,.int .i64 0]):=by
 simp only [dL,Rk,Rx,ik]
 cases v <;> first|rfl|cases hv|cases hk
theorem lc {vs:List Va} {a b:Term} (h:(qK vs a b==0)=true):bi vs=0∧aK vs a 0=true∧aK vs b 0=true:=by
 unfold qK at h
 split at h
 ·rename_i hc
  refine ⟨by simpa using hc,?_⟩
  rw [gW,gW,gW] at h
  have h1:∀ t,(fP vs t==0)=true→aK vs t 0=true:=fun t ht=>by
   unfold fP at ht
   split at ht
   ·split at ht
    ·assumption
    ·cases ht
   ·rename_i h2
    exact absurd ht h2
  split at h
  ·rename_i ha
   split at h
   ·rename_i hb
    exact ⟨h1 a ha,h1 b hb⟩
   ·rename_i hb;exact absurd h hb
  ·rename_i ha;exact absurd h ha
 ·rename_i hc;exact absurd h hc
theorem MQ (vs:List Va):kV vs []=vs:=by
 unfold kV
 apply List.ext_getElem?
 intro i
 rw [List.getElem?_mapIdx]
 cases vs[i]? with
 |none=>rfl
 |some v=>rfl
theorem AC:∀ (raw:List (AV × AV × Nat)) (e:AV × AV × Nat),(raw.map fun e=>e.2.2).Nodup→e ∈ raw→raw.find? (fun e'=>e'.2.2==e.2.2)=some e
 |[],e,_,h=>absurd h List.not_mem_nil
 |a::raw,e,hn,h=>by
  rw [List.map_cons,List.nodup_cons] at hn
  rw [List.find?_cons]
  rcases List.mem_cons.1 h with rfl|h
  ·simp
  ·have:(a.2.2==e.2.2)=false:=by
    have:a.2.2≠e.2.2:=fun e2=>hn.1 (e2 ▸ List.mem_map.2 ⟨e,h,rfl⟩)
    simpa using this
   rw [this]
   exact AC raw e hn.2 h
theorem M7 {raw:List (AV × AV × Nat)} {sn:List Nat} {e:AV × AV × Nat} (he:e ∈ rT raw sn):(rT raw (sn++[e.2.2])).length<(rT raw sn).length:=by
 unfold rT at he ⊢
 have h1:(raw.filter fun x=>!(sn++[e.2.2]).contains x.2.2)=(raw.filter fun x=>!sn.contains x.2.2).filter fun x=>!(x.2.2==e.2.2):=by
  rw [List.filter_filter]
  congr 1
  funext x
  by_cases h:x.2.2=e.2.2 <;> simp [h,List.contains_eq_mem]
 rw [h1]
 exact List.length_filter_lt_length_iff_exists.2 ⟨e,he,by simp⟩
theorem ER (v:Va):∀ (arr:List Va) (k:Nat),k<arr.length→List.take (k * 8) (aM arr)++(bO v++List.drop (k * 8+8) (aM arr))=aM (arr.set k v)
 |[],k,h=>by simp at h
 |a::arr,0,h=>by
  have e:aM (a::arr)=bO a++aM arr:=rfl
  rw [e]
  rfl
 |a::arr,k+1,h=>by
  have e:aM (a::arr)=bO a++aM arr:=rfl
  have e2:aM ((a::arr).set (k+1) v)=bO a++aM (arr.set k v):=rfl
  rw [e,e2,← ER v arr k (by simpa using h),show (k+1) * 8=8+k * 8 by omega,show 8+k * 8+8=8+(k * 8+8) by omega]
  have l8:(bO a).length=8:=rfl
  rw [List.take_append,List.drop_append,List.take_of_length_le (show (bO a).length≤8+k * 8 by omega),List.drop_eq_nil_of_le (show (bO a).length≤8+(k * 8+8) by omega),l8,show 8+k * 8 - 8=k * 8 by omega,show 8+(k * 8+8) - 8=k * 8+8 by omega,List.nil_append,List.append_assoc]
theorem ED {f:FuncId} {p z n:Nat} {cs:List AV} {T:TypeId} {h:ai} {Q:AOut→ai→Prop} (hp:h p=some (.cells cs T)) (hl:cs.length=n * z) (hf:cs.all AV.flat=true)
  (k:az Tryz.prog f [.agg [.list z cs n .none]] (upd h p Option.none) Q):az Tryz.prog f [.agg [.sl p 0 n]] h Q:=by
 intro n0
 refine ⟨(k n0).1,fun F m G W vargs hF hr s hn r=>?_⟩
 obtain ⟨G',e,s',hL⟩:=vF s hp hl hf (h':=upd h p Option.none) (LeH.of (fun i o hi=>by
  by_cases e:i=p
  ·subst e;rw [upd_same] at hi;cases hi
  ·rw [ae _ _ e] at hi;exact hi) (upd_same _ _ _))
 have r2:=RelL.mono e _ _ r
 have r':RelL G' W [.agg [.list z cs n .none]] vargs.toList:=by
  simp only [RelL] at r2 ⊢
  obtain ⟨v,q,hv,h1,h3⟩:=r2
  exact ⟨v,q,hv,(LeF.agg (.cons LeF.here .nil)) G' W hL v h1,h3⟩
 refine ((k G'.n).2 F m G' W vargs hF hr s' rfl r').mono fun e' W' ⟨o,h',G2,q,s2,ev,ro⟩=>⟨o,h',G2,q,s2,e.trans ev,ro⟩
theorem NK {τ:Env} {h3 h:ai} {p6:Nat} {vs:List Va} {vv:AV} {is:Bool} {e:Int} {Q:AOut→ai→Prop} (f6:τ 6=.ptr p6 0) (f7:τ 7=.bool is) (f8:τ 8=.int .i64 e) (hvv:(vs=[]∧∃ sz tok,vv=.list sz [] 0 tok)∨∃ p,vv=.sl p 0 vs.length∧h3 p=some (.cells (aM vs) 62)∧h p=Option.none)
  (h6:h3 p6=some (.cells [vv] 24)) (hk:vv.known=true) (hl:ax h3 h) (hq:Q (.ret (outU (vs,is,e))) h):qC Tryz.prog Tryz.f15 Q .ret τ h3:=by
 refine ⟨[.agg [vv],.bool is,.int .i64 e],?_,outU (vs,is,e),h,?_,hq⟩
 ·rw [Tryz.results15]
  rcases hvv with ⟨_,sz,tok,rfl⟩|⟨p,rfl,_⟩ <;> simp only [go_sem,↓reduceIte,f6,f7,f8,h6]
 ·rcases hvv with ⟨rfl,sz,tok,rfl⟩|⟨p,rfl,hp,hp0⟩
  ·exact gF.of (LeAV.tuple (.cons (LeAV.agg (.cons (LeAV.nil _ _ _) .nil)) (.cons (LeAV.refl _) (.cons (LeAV.refl _) .nil)))) hl
  ·exact gF.freeze (p:=p) (n:=vs.length) (z:=8) (cs:=aM vs) (T:=62) hp (gN vs) (qf vs) (LeF.tuple (.cons (LeF.agg (.cons LeF.here .nil)) (.cons (LeF.refl _) (.cons (LeF.refl _) .nil)))) (LeH.of hl hp0)
theorem wM (vs:List Va) (hvs:vs.length≤1000000) (tk:Tok) (a b:Term) (h:ai) (Q:AOut→ai→Prop) (hq:Q (.ret (outU (bV vs a b))) h):az Tryz.prog 15 [.agg [.list 8 (aM vs) vs.length tk],enc a,enc b] h Q:=by
 refine eN Tryz.func15 ?_
 repeat with_reducible first|(apply zS;intro _ R_;simp only [go_sem,↓reduceIte];subst R_)|refine rG2 ?_|refine rS fun bq hbq=>?_
 intro p3 hp3
 repeat with_reducible (apply zS;intro _ R_;simp only [go_sem,↓reduceIte];subst R_)
 intro p4 hp4
 have e4:=aQ hp4
 repeat with_reducible (apply zS;intro _ R_;simp only [go_sem,↓reduceIte,e4.1,e4.1.symm];subst R_)
 intro p5 hp5
 have e5:=aQ hp5
 have e5':=aQ e5.2
 repeat with_reducible (apply zS;intro _ R_;simp only [go_sem,↓reduceIte,e4.1,e4.1.symm,e5.1,e5.1.symm,e5'.1,e5'.1.symm];subst R_)
 intro p6 hp6
 have e6:=aQ hp6
 have e6':=aQ e6.2
 have e6'':=aQ e6'.2
 have fin:ax (upd (upd (upd (upd h p3 (some (.cells [.list 8 (aM vs) vs.length tk] 24))) p4 (some (.cells (ay a) 27))) p5 (some (.cells (ay b) 27))) p6 (some (.cells [.list 0 [] 0 .nil] 24))) h:=((((ax.refl h).new hp3).new e4.2).new e5'.2).new e6''.2
 have s3:(upd (upd (upd (upd h p3 (some (.cells [.list 8 (aM vs) vs.length tk] 24))) p4 (some (.cells (ay a) 27))) p5 (some (.cells (ay b) 27))) p6 (some (.cells [.list 0 [] 0 .nil] 24))) p3=some (.cells [.list 8 (aM vs) vs.length tk] 24):=by rw [ae _ _ e6''.1.symm,ae _ _ e5'.1.symm,ae _ _ e4.1.symm,upd_same]
 have s4:(upd (upd (upd (upd h p3 (some (.cells [.list 8 (aM vs) vs.length tk] 24))) p4 (some (.cells (ay a) 27))) p5 (some (.cells (ay b) 27))) p6 (some (.cells [.list 0 [] 0 .nil] 24))) p4=some (.cells (ay a) 27):=by rw [ae _ _ e6'.1.symm,ae _ _ e5.1.symm,upd_same]
 have s5:(upd (upd (upd (upd h p3 (some (.cells [.list 8 (aM vs) vs.length tk] 24))) p4 (some (.cells (ay a) 27))) p5 (some (.cells (ay b) 27))) p6 (some (.cells [.list 0 [] 0 .nil] 24))) p5=some (.cells (ay b) 27):=by rw [ae _ _ e6.1.symm,upd_same]
 have s6:(upd (upd (upd (upd h p3 (some (.cells [.list 8 (aM vs) vs.length tk] 24))) p4 (some (.cells (ay a) 27))) p5 (some (.cells (ay b) 27))) p6 (some (.cells [.list 0 [] 0 .nil] 24))) p6=some (.cells [.list 0 [] 0 .nil] 24):=upd_same _ _ _
 have h06:=e6''.2
 generalize upd (upd (upd (upd h p3 (some (.cells [.list 8 (aM vs) vs.length tk] 24))) p4 (some (.cells (ay a) 27))) p5 (some (.cells (ay b) 27))) p6 (some (.cells [.list 0 [] 0 .nil] 24))=H at *
 repeat with_reducible first|(apply zS;intro _ R_;simp only [go_sem,↓reduceIte,s3,s4,s5,s6,Oi];subst R_)|(apply rN;subst hbq)|refine rG2 ?_|apply nS|refine rS fun bq hbq=>?_
 have e25:encs [a,b]=ay a++ay b:=by rw [dh];simp
 refine az.args (args':=[.agg [.list 8 (aM vs) vs.length tk],.list 4 (encs [a,b]) ([a,b]:List Term).length .none]) (.cons (LeAV.refl _) (.cons (by rw [e25];exact LeAV.list _ _ _ _) .nil)) (yG vs hvs tk [a,b] _ _ (by simp) ?_)
 rw [show (if bi vs==0 then gW vs [a,b] else bi vs)=qK vs a b from rfl]
 cases hft:(qK vs a b==0)
 case false =>
  have hr:bV vs a b=([],false,qK vs a b):=by unfold bV;rw [hft];rfl
  rw [hr] at hq
  try dsimp only
  repeat with_reducible first|((first|apply zS|apply zC);intro _ R_;simp only [go_sem,↓reduceIte,s3,s4,s5,s6,hft,ui];subst R_)|(apply rN;subst hbq)|refine rG2 ?_|(apply r1;clear hbq bq)|apply nS|refine rS fun bq hbq=>?_|apply rR
  refine df (v:=outU ([],false,qK vs a b)) (by rw [Tryz.results15]) (fin.new h06) ?_ hq
  simp only [go_sem,↓reduceIte,aJ,Option.some.injEq,exists_eq_left']
  exact LeAV.tuple (.cons (LeAV.agg (.cons (LeAV.nil _ _ _) .nil)) (.cons (LeAV.refl _) (.cons (LeAV.refl _) .nil)))
 obtain ⟨hc,hfa,hfb⟩:=lc hft
 try dsimp only
 repeat with_reducible first|((first|apply zS|apply zC);intro _ R_;simp only [go_sem,↓reduceIte,s3,s4,s5,s6,hft];subst R_)|(apply rN;subst hbq)|refine rG2 ?_|apply nS|refine rS fun bq hbq=>?_|apply rK
 have hcs:bi vs==0:=by rw [hc];rfl
 have key:az Tryz.prog 58 [.agg [.list 8 (aM vs) vs.length tk]] H fun o H1=>∃ vv,o=.ret (.agg [vv])∧ax H1 H∧RS vs H H1 vv∧vv.flat=true∧vv.known=true:=by
  refine az.args (args':=[.agg [.list 8 (aM vs) vs.length .none]]) (.cons (LeAV.agg (.cons (LeAV.list _ _ _ _) .nil)) .nil) (jW vs _ _ (by omega) (yZ hcs) (fun hnil=>?_) (fun hne p hp=>?_))
  ·exact ⟨_,rfl,ax.refl _,.inl ⟨hnil,_,_,rfl,.inl rfl⟩,rfl,rfl⟩
  ·exact ⟨_,rfl,ax.one hp,.inr ⟨p,rfl,upd_same _ _ _,hp⟩,rfl,rfl⟩
 refine az.mono key ?_
 intro o H1 ⟨vv,ho,hl1,hvals,hfl,hkn⟩
 subst ho
 try dsimp only
 repeat with_reducible (apply zS;intro _ R_;simp only [go_sem,↓reduceIte];subst R_)
 intro m hm
 repeat with_reducible (apply zS;intro _ R_;simp only [go_sem,↓reduceIte,QY vv m hfl hkn];subst R_)
 intro x hx
 have ex:=aQ hx
 have hm0:=hl1.none hm
 have hx0:=hl1.none ex.2
 have S:SObj x ⟨vs,0⟩ H (upd (upd H1 m (some (.map [] 0))) x (some (.cells [vv,.map m,.int .i64 0] 101))):=by
  refine ⟨m,vv,[],0,vs,[],upd_same _ _ _,by rw [ae _ _ ex.1.symm,upd_same],⟨rfl,by simp,by simp,by simp⟩,?_,(MQ vs).symm,fun k v hk=>absurd hk (by simp [mget]),hx0,hm0,(hl1.new hm0).new hx0⟩
  rcases hvals with h|⟨p,e,hp,hp0⟩
  ·exact .inl h
  ·have pm:=aj hm hp
   have px:=aj ex.2 hp
   exact .inr ⟨p,e,by rw [ae _ _ px,ae _ _ pm];exact hp,hp0⟩
 generalize upd (upd H1 m (some (.map [] 0))) x (some (.cells [vv,.map m,.int .i64 0] 101))=H2 at *
 intro p10 hp10
 obtain ⟨A,S,a10,hA,_⟩:=S.loc hp10 (.cells [.ptr x 0] 97)
 have a3:=hA _ _ s3
 have a4:=hA _ _ s4
 have a5:=hA _ _ s5
 have a6:=hA _ _ s6
 have fin:=hA.trans fin
 simp only [go_sem,↓reduceIte]
 generalize upd H2 p10 (some (.cells [.ptr x 0] 97))=H3 at *
 clear s3 s4 s5 s6 hA hvals hl1 hm0 hx0
 repeat with_reducible first|(apply zS;intro _ R_;simp only [go_sem,↓reduceIte];subst R_)|(apply rN;subst hbq)|refine rG2 ?_|refine rS fun bq hbq=>?_
 have key2:az Tryz.prog 59 [.func (.func 60) [] [.ptr p10 0,.ptr p4 0,.ptr p5 0]] H3 fun out h3=>(∃ s',eG 402 ⟨vs,0⟩ a b 0=.ok s'∧out=.ret (.tuple [.bool true,.int .i64 0])∧SObj x s' A h3)∨(∃ e,(eG 402 ⟨vs,0⟩ a b 0=.large e∨(eG 402 ⟨vs,0⟩ a b 0=.clash∧e=0))∧out=.ret (.tuple [.bool false,.int .i64 e])∧ax h3 A):=by
  refine vL ?_
  intro a0 b0 h1 ha0 hb0 hab hh1
  obtain ⟨A1,S1,c1,hA1,hAa⟩:=S.loc ha0 (.cells [.bool false] 4)
  obtain ⟨A2,S2,c2,hA2,hAb⟩:=S1.loc (b:=b0) (by rw [ae _ _ hab.symm];exact hb0) (.cells [.int .i64 0] 30)
  rw [← hh1] at S2
  have c1:=hA2 _ _ c1
  have hAb0:=hA1.none hAb
  have dropA:∀ h2,ax h2 A2→h2 a0=some (.cells [.bool false] 4)∧h2 b0=some (.cells [.int .i64 0] 30)∧ax (upd (upd h2 a0 Option.none) b0 Option.none) A:=fun h2 hl=>by
   refine ⟨hl _ _ c1,hl _ _ c2,fun j y hj=>?_⟩
   have ea:j≠a0:=fun e=>by subst e;rw [hAa] at hj;cases hj
   have eb:j≠b0:=fun e=>by subst e;rw [hAb0] at hj;cases hj
   rw [ae _ _ eb,ae _ _ ea]
   exact hl _ _ (hA2 _ _ (hA1 _ _ hj))
  have hless:∀ h2:ai,ax h2 (upd (upd h2 a0 Option.none) b0 Option.none):=fun h2 j y hj=>by
   by_cases e:j=b0
   ·subst e;rw [upd_same] at hj;cases hj
   ·rw [ae _ _ e] at hj
    by_cases e3:j=a0
    ·subst e3;rw [upd_same] at hj;cases hj
    ·rw [ae _ _ e3] at hj;exact hj
  refine FP S2 (dH hc) (show (0:Int)≤0 by decide) (show (0:Int)≤40000 by decide) hfa hfb (hA2 _ _ (hA1 _ _ a10)) (hA2 _ _ (hA1 _ _ a4)) (hA2 _ _ (hA1 _ _ a5)) _ (fun s' h2 hr S3=>?_) (fun pv h2 hr hl2=>?_)
  ·obtain ⟨d1,d2,d3⟩:=dropA h2 S3.lessOf
   refine ⟨d1,d2,upd (upd h2 a0 Option.none) b0 Option.none,hless h2,by rw [ae _ _ hab,upd_same],upd_same _ _ _,.inl ⟨s',hr,rfl,?_⟩⟩
   have S4:=(S3.drop c1).drop (f:=b0) (by rw [ae _ _ hab.symm];exact c2)
   refine S4.low (fun j y hj=>?_)
   have ea:j≠a0:=fun e=>by subst e;rw [hAa] at hj;cases hj
   have eb:j≠b0:=fun e=>by subst e;rw [hAb0] at hj;cases hj
   rw [ae _ _ eb,ae _ _ ea]
   exact hA2 _ _ (hA1 _ _ hj)
  ·obtain ⟨d1,d2,d3⟩:=dropA h2 hl2
   refine ⟨d1,d2,upd (upd h2 a0 Option.none) b0 Option.none,hless h2,by rw [ae _ _ hab,upd_same],upd_same _ _ _,?_⟩
   cases hs:eG 402 ⟨vs,0⟩ a b 0 with
   |ok s'=>rw [hs] at hr;exact hr.elim
   |clash =>
    rw [hs] at hr
    have hr:pv=.iface 150 (.agg []):=hr
    subst hr
    exact ⟨0,rfl,.inr ⟨0,.inr ⟨rfl,rfl⟩,rfl,d3⟩⟩
   |large e =>
    rw [hs] at hr
    have hr:pv=.iface 152 (.agg [.int .i64 e]):=hr
    subst hr
    exact ⟨e,rfl,.inr ⟨e,.inl rfl,rfl,d3⟩⟩
 refine az.mono key2 ?_
 intro out h3 hk3
 rcases hk3 with ⟨s',hs,rfl,S3⟩|⟨e,hs,rfl,hl3⟩
 ·obtain ⟨m2,vv2,raw,c,base,es,B⟩:=S3
  have hx2:=B.hx
  have hm2:=B.hm
  have t10:=B.less _ _ a10
  have t6:=B.less _ _ a6
  have hrg:∀ (H:ai) (p:Nat),H m2=some (.map raw c)→Bp Tryz.prog 99 (.map m2) H p=some (.ptr p 0,upd H p (some (.iter (some m2) c [] c))):=fun H p hH=>by simp only [Bp,J6,hH]
  try dsimp only
  repeat with_reducible first|((first|apply zS|apply zC);intro _ R_;simp only [go_sem,↓reduceIte,t10,t6,hx2,hm2,hrg];subst R_)|(apply rN;subst hbq)|refine rG2 ?_|(refine rB fun cq hcq=>?_;subst hcq)|apply nS|refine rS fun bq hbq=>?_|apply rK|apply rE
  intro it hit
  have itx:=aj hit hx2
  have itm:=aj hit hm2
  have it10:=aj hit t10
  have it6:=aj hit t6
  repeat with_reducible first|(apply rN;subst hbq)|(refine rB fun cq hcq=>?_;subst hcq)|apply nS
  have hlow2:∀ (j:Nat) (k:Int) (v:Va),es[j]?=some (k,v)→0≤k∧k<(base.length:Int):=fun j k v hj=>B.low k v (Ng es j B.rel.keys hj)
  have fin3:ax h3 h:=B.less.trans fin
  refine aT (fun k τ h'=>∃ (sn:List Nat) (arr:List Va),k=(rT raw sn).length∧Written base es raw sn arr∧τ 6=.ptr p6 0∧τ 10=.ptr p10 0∧τ 50=.ptr it 0∧ax h' h∧h' x=some (.cells [vv2,.map m2,.int .i64 s'.wk] 101)∧h' m2=some (.map raw c)∧h' it=some (.iter (some m2) c sn c)∧h' p10=some (.cells [.ptr x 0] 97)∧h' p6=some (.cells [.list 0 [] 0 .nil] 24)∧((base=[]∧∃ sz tok,vv2=.list sz [] 0 tok∧(tok=.full∨tok=.nil))∨∃ p,vv2=.sl p 0 base.length∧h' p=some (.cells (aM arr) 62)∧h p=Option.none)) (rT raw []).length ?_ ?_
  ·refine ⟨[],base,rfl,FD _ _ _,?_⟩
   simp only [go_sem,↓reduceIte,itx,itm,it10,it6,hx2,hm2,t10,t6]
   refine ⟨fin3.new (fin3.none hit),?_⟩
   rcases B.vals with hv|⟨p,e,hp,hp0⟩
   ·exact .inl hv
   ·refine .inr ⟨p,e,?_,fin.none hp0⟩
    rw [if_neg (aj hit hp)];exact hp
  ·intro cc hcc k τ h' hI
   obtain ⟨sn,arr,hk,hW,f6,f10,f50,hl',mx,mm,mit,m10,m6,hv⟩:=hI
   subst hcc
   repeat with_reducible first|(apply zS;intro _ R_;simp only [go_sem,↓reduceIte,f6,f10,f50,zw,mit,mm];subst R_)|refine rG2 ?_|refine rS fun bq hbq=>?_
   refine ⟨Nat.le_refl _,B.rel.lt,fun hnil=>?_,fun e he=>?_⟩
   ·have hall:∀ e ∈ raw,e.2.2 ∈ sn:=fun e he=>by
     by_cases h:e.2.2 ∈ sn
     ·exact h
     ·have:e ∈ rT raw sn:=List.mem_filter.2 ⟨he,by simpa using h⟩
      rw [hnil] at this;exact absurd this List.not_mem_nil
    have harr:arr=s'.ms:=(FE B.rel.rel hlow2 hW hall).trans B.ms.symm
    have hIs:=(nk 402 ⟨vs,0⟩ a b 0 0 s' (dH hc) (show (0:Int)≤0 by decide) (by decide) hfa hfb hs).1.inv
    have hsz:∀ v ∈ s'.ms,v.type.size≤1000000000∧v.t.size≤1000000000:=fun v hv=>by
     have ok:=hIs.val v hv
     have h1:=Dt (uQ ok.ty).1
     refine ⟨by omega,?_⟩
     cases hi:v.is
     ·have:=ok.no hi;omega
     ·have:=(ok.val hi).2.2.2;omega
    have hlms:=hIs.len
    repeat with_reducible first|((first|apply zS|apply zC);intro _ R_;simp only [go_sem,↓reduceIte,f6,f10,f50,m10,mx];subst R_)|(apply rN;subst hbq)|refine rG2 ?_|(apply x1;clear hbq bq)|apply nS|refine rS fun bq hbq=>?_|apply rXx|apply x3|apply x4
    have key3:az Tryz.prog 58 [.agg [vv2]] h' fun o H1=>o=.ret (.agg [.list 8 (aM s'.ms) s'.ms.length .none])∧ax H1 h∧H1 p6=some (.cells [.list 0 [] 0 .nil] 24):=by
     refine az.weakV ?_
     rcases hv with ⟨hb0,sz,tok,rfl,_⟩|⟨p,rfl,mp,hp0⟩
     ·have hms:s'.ms=[]:=by
       have:=rY B
       rw [hb0] at this
       exact List.eq_nil_of_length_eq_zero this
      refine az.args (args':=[.agg [.list 8 (aM []) ([]:List Va).length .none]]) (.cons (LeAV.agg (.cons (LeAV.nil _ _ _) .nil)) .nil) (jW [] _ _ (by simp) (fun v hv=>absurd hv List.not_mem_nil) (fun _=>?_) (fun hne=>absurd rfl hne))
      rw [hms]
      exact ⟨_,.agg [.list 8 (aM []) ([]:List Va).length .none],h',rfl,gF.of (LeAV.agg (.cons (LeAV.nil _ _ _) .nil)) (ax.refl _),rfl,hl',m6⟩
     ·have hbl:base.length=s'.ms.length:=(rY B).symm
      rw [harr] at mp
      rw [hbl]
      have hl6:ax (upd h' p Option.none) h:=fun j y hj=>by
       have:j≠p:=fun e=>by subst e;rw [hp0] at hj;cases hj
       rw [ae _ _ this];exact hl' _ _ hj
      have n6:p6≠p:=fun e=>by rw [e,mp] at m6;injection m6 with m6;injection m6 with _ m6;cases m6
      refine ED mp (gN _) (qf _) (jW s'.ms _ _ (by omega) hsz (fun hn=>?_) (fun hne p2 hp2=>?_))
      ·rw [hn]
       exact ⟨_,.agg [.list 8 (aM []) ([]:List Va).length .none],_,rfl,gF.of (LeAV.agg (.cons (LeAV.nil _ _ _) .nil)) (ax.refl _),rfl,hl6,by rw [ae _ _ n6];exact m6⟩
      ·exact ⟨_,.agg [.list 8 (aM s'.ms) s'.ms.length .none],upd h' p Option.none,rfl,gF.freeze (p:=p2) (n:=s'.ms.length) (z:=8) (cs:=aM s'.ms) (T:=62) (upd_same _ _ _) (gN _) (qf _) (LeF.agg (.cons LeF.here .nil)) (LeH.of (ax.one hp2) hp2),rfl,hl6,by rw [ae _ _ n6];exact m6⟩
    refine az.mono key3 ?_
    intro o3 H1 ⟨ho3,hl1,k6⟩
    subst ho3
    try dsimp only
    repeat with_reducible (apply zS;intro _ R_;simp only [go_sem,↓reduceIte];subst R_)
    intro p15 hp15
    have n156:=aj hp15 k6
    repeat with_reducible first|(apply zS;intro _ R_;simp only [go_sem,↓reduceIte,n156,k6];subst R_)|(apply rN;subst hbq)|refine rG2 ?_|apply nS|refine rS fun bq hbq=>?_
    refine CK s'.ms (by omega) .none _ _ ?_
    have hu:bV vs a b=if bi s'.ms==2||bi s'.ms==50 then ([],false,2) else (s'.ms,true,0):=by
     unfold bV
     rw [hft,hs];rfl
    have hlz:ax (upd H1 p15 (some (.cells [.list 8 (aM s'.ms) s'.ms.length .none] 24))) h:=hl1.new (hl1.none hp15)
    cases k2:(bi s'.ms==2)
    ·cases k50:(bi s'.ms==50)
     ·rw [hu,k2,k50] at hq
      try dsimp only
      repeat with_reducible first|((first|apply zS|apply zC);intro _ R_;simp only [go_sem,↓reduceIte,f6,n156,k6,k2,k50];subst R_)|(apply rN;subst hbq)|refine rG2 ?_|apply nS|refine rS fun bq hbq=>?_|apply rK|apply rR
      refine df (v:=outU (s'.ms,true,0)) (by rw [Tryz.results15]) (hlz.new h06) ?_ hq
      simp only [go_sem,↓reduceIte,f6,aJ,Option.some.injEq,exists_eq_left']
      exact LeAV.refl _
     ·rw [hu,k2,k50] at hq
      try dsimp only
      repeat with_reducible first|((first|apply zS|apply zC);intro _ R_;simp only [go_sem,↓reduceIte,f6,n156,k6,k2,k50,ui];subst R_)|(apply rN;subst hbq)|refine rG2 ?_|(apply r1;clear hbq bq)|apply nS|refine rS fun bq hbq=>?_|apply rR
      exact NK (by simp only [go_sem,↓reduceIte,f6]) rfl rfl (.inl ⟨rfl,_,_,rfl⟩) (upd_same _ _ _) rfl (hlz.new h06) hq
    ·rw [hu,k2] at hq
     try dsimp only
     repeat with_reducible first|((first|apply zS|apply zC);intro _ R_;simp only [go_sem,↓reduceIte,f6,n156,k6,k2,ui];subst R_)|(apply rN;subst hbq)|refine rG2 ?_|(apply r1;clear hbq bq)|apply nS|refine rS fun bq hbq=>?_|apply rR
     exact NK (by simp only [go_sem,↓reduceIte,f6]) rfl rfl (.inl ⟨rfl,_,_,rfl⟩) (upd_same _ _ _) rfl (hlz.new h06) hq
   ·have hmem:e ∈ raw:=(List.mem_filter.1 he).1
    obtain ⟨j,hj⟩:=List.getElem?_of_mem hmem
    obtain ⟨kk,v,hes,hev⟩:=F5 es raw B.rel.rel j e hj
    have hent:∀ H:ai,H it=some (.iter (some m2) c (sn++[e.2.2]) c)→H m2=some (.map raw c)→FB (.ptr it 0) H=some (.tuple [.int .i64 kk,vAV v]):=fun H h1 h2=>by
     simp only [FB,h1,h2,if_true,List.getLast?_append,List.getLast?_singleton,Option.some_or,AC raw e B.rel.nod hmem]
     rw [hev]
    have nx:x≠it:=fun e=>by rw [e,mit] at mx;cases mx
    have nm:m2≠it:=fun e=>by rw [e,mit] at mm;cases mm
    have n10:p10≠it:=fun e=>by rw [e,mit] at m10;cases m10
    have n6:p6≠it:=fun e=>by rw [e,mit] at m6;cases m6
    have hl2:ax (upd h' it (some (.iter (some m2) c (sn++[e.2.2]) c))) h:=hl'.new ((fin3.none hit))
    have mx2:upd h' it (some (.iter (some m2) c (sn++[e.2.2]) c)) x=some (.cells [vv2,.map m2,.int .i64 s'.wk] 101):=by rw [ae _ _ nx];exact mx
    have mm2:upd h' it (some (.iter (some m2) c (sn++[e.2.2]) c)) m2=some (.map raw c):=by rw [ae _ _ nm];exact mm
    have m102:upd h' it (some (.iter (some m2) c (sn++[e.2.2]) c)) p10=some (.cells [.ptr x 0] 97):=by rw [ae _ _ n10];exact m10
    have m62:upd h' it (some (.iter (some m2) c (sn++[e.2.2]) c)) p6=some (.cells [.list 0 [] 0 .nil] 24):=by rw [ae _ _ n6];exact m6
    have mit2:upd h' it (some (.iter (some m2) c (sn++[e.2.2]) c)) it=some (.iter (some m2) c (sn++[e.2.2]) c):=upd_same _ _ _
    have hkr:=hlow2 j kk v hes
    rcases hv with ⟨hb0,_⟩|⟨p,rfl,mp,hp0⟩
    ·subst hb0;simp at hkr;omega
    have np:p≠it:=fun e=>by rw [e,mit] at mp;cases mp
    have mp2:upd h' it (some (.iter (some m2) c (sn++[e.2.2]) c)) p=some (.cells (aM arr) 62):=by rw [ae _ _ np];exact mp
    generalize upd h' it (some (.iter (some m2) c (sn++[e.2.2]) c))=H4 at *
    have hen:=hent H4 mit2 mm2
    repeat with_reducible first|((first|apply zS|apply zC);intro _ R_;simp only [go_sem,↓reduceIte,f6,f10,f50,hen];subst R_)|(apply rN;subst hbq)|refine rG2 ?_|(refine rB fun cq hcq=>?_;subst hcq)|apply nS|refine rS fun bq hbq=>?_|apply rK
    intro q hq1
    have qx:=aj hq1 mx2
    have q10:=aj hq1 m102
    have qp:=aj hq1 mp2
    have q6:=aj hq1 m62
    have qm:=aj hq1 mm2
    have qi:=aj hq1 mit2
    repeat with_reducible first|(apply zS;intro _ R_;simp only [go_sem,↓reduceIte,f6,f10,f50,hen];subst R_)|(apply rN;subst hbq)|apply nS
    have px:p≠x:=fun e=>by rw [e,mx2] at mp2;injection mp2 with mp2;injection mp2 with _ mp2;cases mp2
    obtain ⟨vo,hvo⟩:∃ vo,arr[kk.toNat]?=some vo:=⟨_,List.getElem?_eq_getElem (by rw [hW.len];omega)⟩
    obtain ⟨r1,hr1⟩:=iD arr kk.toNat hvo
    have hkl:kk.toNat<base.length:=by omega
    repeat with_reducible refine ah fun bq hbq=>?_
    refine bA (.take 0 (.take 1 (.take 2 (.take 3 (.take 4 (.take 5 (.take 6 (.take 7 (.one 8 [] (.done)))))))))) (by kernel_rfl) (by simp only [aF,gtOf,aA];exact rfl) ?_
    have hle:kk.toNat * 8+8≤(aM arr).length:=by rw [gN,hW.len];omega
    have qpp:q≠p:=fun e=>qp e.symm
    repeat first|(with_reducible first|apply nD|apply rE)|((first|(with_reducible apply iT;refine sT rfl ?_)|(with_reducible apply i0;refine s0 rfl ?_));intro _ _ _ C_ R_ U_;simp only [go_sem,↓reduceIte,f6,f10,m102,mx2,mp2,q10,qx,qp,hkr.1,hkr.2,hr1,hkl,hle,qpp];subst C_ R_ U_)
    have hput:=ER v arr kk.toNat (by rw [hW.len];omega)
    refine aL (m:=(rT raw (sn++[e.2.2])).length) (by rw [hk];exact M7 he) ⟨sn++[e.2.2],arr.set kk.toNat v,rfl,Dn B.rel B.low hlow2 hW hes (by rw [hj,hev]),?_⟩
    have pm:m2≠p:=fun e=>by rw [e,mp2] at mm2;cases mm2
    have p10':p10≠p:=fun e=>by rw [e,mp2] at m102;injection m102 with m102;injection m102 with _ m102;cases m102
    have p6'':p6≠p:=fun e=>by rw [e,mp2] at m62;injection m62 with m62;injection m62 with _ m62;cases m62
    simp only [go_sem,↓reduceIte,f6,f10,f50,qx,qm,qi,q10,q6,px,px.symm,pm,p10',p6'',np.symm,mx2,mm2,mit2,m102,m62]
    refine ⟨(hl2.new (hl2.none hq1)).new hp0,.inr ⟨p,rfl,?_,hp0⟩⟩
    rw [if_pos rfl,← hput]
    rfl
 ·have t6:=hl3 _ _ a6
  have t3:=hl3 _ _ a3
  cases he:(e==0)
  ·have hr:bV vs a b=([],false,e):=by
    unfold bV
    rw [hft]
    rcases hs with hs|⟨hs,h0⟩
    ·rw [hs];simp only [if_true,he,Bool.false_eq_true,if_false]
    ·subst h0;cases he
   rw [hr] at hq
   try dsimp only
   repeat with_reducible first|((first|apply zS|apply zC);intro _ R_;simp only [go_sem,↓reduceIte,t6,he,ui];subst R_)|(apply rN;subst hbq)|refine rG2 ?_|(refine rB fun cq hcq=>?_;subst hcq)|(apply r1;clear hbq bq)|apply nS|refine rS fun bq hbq=>?_|apply rR|apply r4
   exact NK rfl rfl rfl (.inl ⟨rfl,_,_,rfl⟩) (upd_same _ _ _) rfl ((hl3.trans fin).new h06) hq
  ·have e0:e=0:=by simpa using he
   subst e0
   have hr:bV vs a b=(vs,false,0):=by
    unfold bV
    rw [hft]
    rcases hs with hs|⟨hs,_⟩
    ·rw [hs];rfl
    ·rw [hs];rfl
   rw [hr] at hq
   try dsimp only
   repeat with_reducible first|((first|apply zS|apply zC);intro _ R_;simp only [go_sem,↓reduceIte,t6,t3,he];subst R_)|(apply rN;subst hbq)|refine rG2 ?_|(refine rB fun cq hcq=>?_;subst hcq)|apply nS|refine rS fun bq hbq=>?_
   refine az.args (args':=[.agg [.list 8 (aM vs) vs.length .none]]) (.cons (LeAV.agg (.cons (LeAV.list _ _ _ _) .nil)) .nil) (jW vs _ _ (by omega) (yZ hcs) (fun hnil=>?_) (fun hne p hp=>?_))
   ·try dsimp only
    repeat with_reducible first|(apply zS;intro _ R_;simp only [go_sem,↓reduceIte,t6,t3,he];subst R_)|(apply rN;subst hbq)|(apply r1;clear hbq bq)|apply nS|apply rR|apply r4
    exact NK rfl rfl rfl (.inl ⟨hnil,_,_,rfl⟩) (upd_same _ _ _) rfl ((hl3.trans fin).new h06) hq
   ·have p6':=aj hp t6
    try dsimp only
    repeat with_reducible first|(apply zS;intro _ R_;simp only [go_sem,↓reduceIte,t6,t3,he,p6',p6'.symm];subst R_)|(apply rN;subst hbq)|(apply r1;clear hbq bq)|apply nS|apply rR|apply r4
    have hp0:h p=Option.none:=(hl3.trans fin).none hp
    exact NK rfl rfl rfl (.inr ⟨p,rfl,by rw [ae _ _ p6'.symm,upd_same],hp0⟩) (upd_same _ _ _) rfl (((hl3.trans fin).new hp0).new h06) hq
theorem Eu (t:Term) (n:Int) (hn0:0≤n) (hn:n≤1000000) (h:ai) (Q:AOut→ai→Prop) (hq:Q (.ret (enc (fE n.toNat t))) h):az Tryz.prog 77 [enc t,.int .i64 n] h Q:=by
 refine eN Tryz.func77 ?_
 repeat with_reducible first|(apply zS;intro _ R_;simp only [go_sem,↓reduceIte];subst R_)|refine rG2 ?_|refine rS fun bq hbq=>?_
 intro b hb
 repeat with_reducible (apply zS;intro _ R_;simp only [go_sem,↓reduceIte];subst R_)
 intro r hr
 have e:=aQ hr
 have e0:=e.1
 repeat with_reducible first|(apply zS;intro _ R_;simp only [go_sem,↓reduceIte,e.1,e.1.symm];subst R_)|(apply rN;subst hbq)|refine rG2 ?_|(refine rB fun cq hcq=>?_;subst hcq)|apply nS|refine rS fun bq hbq=>?_
 refine aT (fun k τ h'=>∃ (i:Nat) (u:Term) (sz:Nat) (cs:List AV) (tok:Tok),k=n.toNat - i∧(i:Int)≤n∧fE (n.toNat - i) u=fE n.toNat t∧τ 2=.ptr b 0∧τ 4=.ptr r 0∧τ 1=.int .i64 n∧τ 5=.int .i64 i∧ax h' h∧h' b=some (.cells [.int .i64 u.kind,.int .i64 u.n,.str u.name,.list sz cs u.args.length tok] 27)∧LeAV (.list sz cs u.args.length tok) (.list 4 (encs u.args) u.args.length .none)∧h' r=some (.cells [.int .i64 0,.int .i64 0,.str ⟨#[]⟩,.list 0 [] 0 .nil] 27)) n.toNat ?_ ?_
 ·refine ⟨0,t,_,_,_,rfl,hn0,rfl,rfl,rfl,rfl,rfl,((ax.refl h).new hb).new e.2,?_,LeAV.refl _,upd_same _ _ _⟩
  rw [ae _ _ e.1.symm,upd_same]
 ·intro c hc k τ h' hI
  obtain ⟨i,u,sz,cs,tok,rfl,hi,hu,f2,f4,f1,f5,hl',mb,hL,mr⟩:=hI
  subst hc
  by_cases hin:(i:Int)<n
  ·have rb:r≠b:=e0
   repeat with_reducible first|((first|apply zS|apply zC);intro _ R_;simp only [go_sem,↓reduceIte,f2,f4,f1,f5,hin,mb,mU,Bc,bz ((i:Int)+1) (by omega)];subst R_)|(apply rN;subst hbq)|refine rG2 ?_|(refine rB fun cq hcq=>?_;subst hcq)|apply nS|refine rS fun bq hbq=>?_|apply rK|apply rE
   refine aL (m:=n.toNat - (i+1)) (by omega) ⟨i+1,⟨5,0,aB,[u]⟩,4,[.int .i64 u.kind,.int .i64 u.n,.str u.name,.list sz cs u.args.length tok],.full,rfl,by omega,?_⟩
   simp only [go_sem,↓reduceIte,f2,f4,f1,rb]
   refine ⟨by rw [← hu,show n.toNat - i=n.toNat - (i+1)+1 by omega,fE],rfl,hl'.new hb,?_,mr⟩
   have e25:encs [u]=ay u:=by rw [dh];simp
   rw [e25]
   exact fun G W v hr=>LeAV.listL (.cons (LeAV.refl _) (.cons (LeAV.refl _) (.cons (LeAV.refl _) (.cons hL .nil)))) G W v (LeAV.list _ _ _ _ G W v hr)
  ·obtain rfl:n=i:=by omega
   rw [show (i:Int).toNat - i=0 by omega,fE] at hu
   repeat with_reducible first|((first|apply zS|apply zC);intro _ R_;simp only [go_sem,↓reduceIte,f2,f4,f1,f5,hin,mb,mr];subst R_)|(apply rN;subst hbq)|refine rG2 ?_|(apply x1;clear hbq bq)|apply nS|refine rS fun bq hbq=>?_|apply rXx|apply rR|apply x3|apply x4
   refine df (v:=enc u) (by rw [Tryz.results77]) (hl'.new e.2) ?_ (by rw [hu];exact hq)
   simp only [go_sem,↓reduceIte,f4,aJ,Option.some.injEq,exists_eq_left']
   exact LeAV.agg (.cons (LeAV.refl _) (.cons (LeAV.refl _) (.cons (LeAV.refl _) (.cons hL .nil))))
def nL (vs:List Va) (n:Int):Term:=fE (aX (ak vs n).type) (sVar n (bR (aX (ak vs n).type) (List.range (aX (ak vs n).type))))
theorem JN (m i:Nat):rawB m (List.range (i+1))=rawB m (List.range i)++og ((m:Int) - 1 - i):=by
 unfold rawB
 rw [List.range_succ,List.flatMap_append];simp
theorem Ni (vs:List Va) (hvs:vs.length≤1000000) (tk:Tok) (n:Int) (hn0:0≤n) (hn2:n<(vs.length:Int)) (h:ai) (Q:AOut→ai→Prop) (hq:Q (.ret (enc (nL vs n))) h):az Tryz.prog 28 [.agg [.list 8 (aM vs) vs.length tk],.int .i64 n] h Q:=by
 have h8:=fT (ak vs n).type
 unfold nL at hq
 refine eN Tryz.func28 ?_
 repeat with_reducible first|(apply zS;intro _ R_;simp only [go_sem,↓reduceIte];subst R_)|refine rG2 ?_|refine rS fun bq hbq=>?_
 intro a ha
 repeat with_reducible (apply zS;intro _ R_;simp only [go_sem,↓reduceIte];subst R_)
 intro r hr
 have e1:=aQ hr
 repeat with_reducible first|(apply zS;intro _ R_;simp only [go_sem,↓reduceIte,e1.1,e1.1.symm];subst R_)|(apply rN;subst hbq)|refine rG2 ?_|apply nS|refine rS fun bq hbq=>?_
 refine Q4 vs hvs tk n hn0 hn2 _ _ ?_
 generalize aX (ak vs n).type=m at *
 try dsimp only
 repeat with_reducible first|(apply zS;intro _ R_;simp only [go_sem,↓reduceIte,iV];subst R_)|(apply rN;subst hbq)|refine rG2 ?_|apply nS|refine rS fun bq hbq=>?_
 intro b hb
 have e2:=aQ hb
 have e3:=aQ e2.2
 have hl:ax (upd (upd (upd h a (some (.cells [.list 8 (aM vs) vs.length tk] 24))) r (some (.cells zT 27))) b (some (.cells [.int .i64 4,.int .i64 n,.str aB,.list 0 [] 0 .nil] 27))) h:=(((ax.refl h).new ha).new e1.2).new e3.2
 repeat with_reducible first|(apply zS;intro _ R_;simp only [go_sem,↓reduceIte,e2.1,e2.1.symm];subst R_)|(apply rN;subst hbq)|refine rG2 ?_|(refine rB fun cq hcq=>?_;subst hcq)|apply nS|refine rS fun bq hbq=>?_
 refine aT (fun k τ h'=>∃ (i sz:Nat) (tok:Tok),k+i=m∧τ 5=.int .i64 m∧τ 4=.ptr r 0∧τ 6=.ptr b 0∧τ 7=.int .i64 i∧ax h' h∧h' r=some (.cells zT 27)∧h' b=some (.cells [.int .i64 4,.int .i64 n,.str aB,.list sz (rawB m (List.range i)) i tok] 27)∧Grow 27 h h' tok∧(i=0∨sz=4)) m ?_ ?_
 ·refine ⟨0,0,.nil,rfl,?_⟩
  simp only [go_sem,↓reduceIte,e2.1,e2.1.symm]
  exact ⟨rfl,hl,rfl,.inl (.inr rfl),.inl trivial⟩
 ·intro c hc k τ h' hI
  obtain ⟨i,sz,tok,hk,f5,f4,f6,f7,hl',mr,mb,hg,hsz⟩:=hI
  subst hc
  by_cases hi:i<m
  ·repeat with_reducible first|((first|apply zS|apply zC);intro _ R_;simp only [go_sem,↓reduceIte,f4,f5,f6,f7,hi,mb,iV,mU,bz ((m:Int) - 1) (by omega),bz ((m:Int) - 1 - i) (by omega)];subst R_)|(apply rN;subst hbq)|refine rG2 ?_|(refine rB fun cq hcq=>?_;subst hcq)|apply nS|refine rS fun bq hbq=>?_|apply rK
   refine aZ ?_
   simp only [go_sem,↓reduceIte]
   intro w hw
   obtain ⟨h4,ea,hg4,hl4,keep⟩:=iK ed ed je mD iy ⟨rfl,by decide⟩ (h0:=h) (h:=h') (p:=w) hl' hw (sz1:=sz) (c1:=rawB m (List.range i)) (n1:=i) (t:=tok) (c2:=og ((m:Int) - 1 - i)) (n2:=1) (t2:=.full) hg hsz (sz2:=4) rfl (by decide) (by omega)
   have r4:=keep r _ _ mr
   have b4:=keep b _ _ mb
   simp only [ea,go_sem,↓reduceIte,f6,b4]
   repeat with_reducible first|(apply zS;intro _ R_;simp only [go_sem,↓reduceIte,f4,f5,f6,f7,b4,bz ((i:Int)+1) (by omega)];subst R_)|(apply rN;subst hbq)|refine rG2 ?_|apply nS|apply rE
   have rb:r≠b:=fun e=>by rw [e,mb] at mr;injection mr with mr;injection mr with mr _;cases mr
   refine aL (m:=k - 1) (by omega) ⟨i+1,4,.id w,by omega,?_⟩
   rw [JN]
   simp only [go_sem,↓reduceIte,f4,f5,f6,f7,rb,r4]
   refine ⟨rfl,hl4.new e3.2,?_,.inr trivial⟩
   rcases hg4 with e|⟨f,ef,hf,hf0⟩
   ·rcases e with e|e <;> cases e
   ·injection ef with ef;subst ef
    exact .inr ⟨w,rfl,by rw [ae _ _ (by intro e;rw [e,b4] at hf;cases hf)];exact hf,hf0⟩
  ·repeat with_reducible first|((first|apply zS|apply zC);intro _ R_;simp only [go_sem,↓reduceIte,f4,f5,f6,f7,hi,mb];subst R_)|(apply rN;subst hbq)|refine rG2 ?_|(apply x1;clear hbq bq)|apply nS|refine rS fun bq hbq=>?_|apply rXx|apply x3|apply x4
   have hie:i=m:=by omega
   have hb4:(bR m (List.range m)).length=m:=by simp [bR]
   have hlb:LeAV (.list sz (rawB m (List.range i)) i tok) (.list 4 (encs (bR m (List.range m))) (bR m (List.range m)).length .none):=by
    rw [hie]
    have:=IG m (List.range m) sz tok (by
     rcases hsz with e|e
     ·left;rw [← hie,e];rfl
     ·exact .inr e)
    rw [List.length_range] at this
    exact this
   refine az.args (args':=[enc (sVar n (bR m (List.range m))),.int .i64 m]) (.cons (LeAV.agg (.cons (LeAV.refl _) (.cons (LeAV.refl _) (.cons (LeAV.refl _) (.cons hlb .nil))))) (.cons (LeAV.refl _) .nil)) (Eu (sVar n (bR m (List.range m))) m (by omega) (by omega) _ _ ?_)
   rw [Int.toNat_natCast]
   have rb:r≠b:=fun e=>by rw [e,mb] at mr;injection mr with mr;injection mr with mr _;cases mr
   try dsimp only
   repeat with_reducible first|(apply zS;intro _ R_;simp only [go_sem,↓reduceIte,f4,f5,f6,f7,mb,mr];subst R_)|(apply rN;subst hbq)|apply nS|apply rR
   refine df (v:=enc (fE m (sVar n (bR m (List.range m))))) (by rw [Tryz.results28]) (hl'.new e1.2) ?_ hq
   simp only [go_sem,↓reduceIte,f4,aJ,Option.some.injEq,exists_eq_left']
   exact LeAV.refl _
def beforeF (a b:Term):Int:=if a.kind==b.kind then a.n - b.n else a.kind - b.kind
def uF (a:Term):Prop:=-1000000000≤a.n∧a.n≤1000000000∧-1000000000≤a.kind∧a.kind≤1000000000
theorem Ot (a b:Term) (ha:uF a) (hb:uF b) (h:ai) (Q:AOut→ai→Prop) (hq:Q (.ret (.int .i64 (beforeF a b))) h):az Tryz.prog 157 [enc a,enc b] h Q:=by
 obtain ⟨a1,a2,a3,a4⟩:=ha
 obtain ⟨b1,b2,b3,b4⟩:=hb
 unfold beforeF at hq
 refine eN Tryz.func157 ?_
 repeat with_reducible first|(apply zS;intro _ R_;simp only [go_sem,↓reduceIte];subst R_)|refine rG2 ?_|refine rS fun bq hbq=>?_
 intro p hp
 repeat with_reducible (apply zS;intro _ R_;simp only [go_sem,↓reduceIte];subst R_)
 intro q hq'
 have e1:=aQ hq'
 have fin:ax (upd (upd h p (some (.cells (ay a) 27))) q (some (.cells (ay b) 27))) h:=((ax.refl h).new hp).new e1.2
 cases hk:(a.kind==b.kind)
 ·rw [hk] at hq
  repeat first|(with_reducible first|((first|apply zS|apply zC);intro _ R_;simp only [go_sem,↓reduceIte,e1.1,e1.1.symm,hk,bz (a.kind - b.kind) (by omega)];subst R_)|(apply rN;subst hbq)|refine rG2 ?_|(apply r1;clear hbq bq)|apply nS|refine rS fun bq hbq=>?_|apply rR)|(with_reducible apply iL;refine rL (by rw [Tryz.results157]) fin ?_;simp only [go_sem,↓reduceIte,aJ,Option.some.injEq,exists_eq_left',e1.1,e1.1.symm,hk,bz (a.kind - b.kind) (by omega)])
  exact hq
 ·rw [hk] at hq
  repeat first|(with_reducible first|((first|apply zS|apply zC);intro _ R_;simp only [go_sem,↓reduceIte,e1.1,e1.1.symm,hk,bz (a.n - b.n) (by omega)];subst R_)|(apply rN;subst hbq)|refine rG2 ?_|apply nS|refine rS fun bq hbq=>?_|apply rK|apply rR)|(with_reducible apply iL;refine rL (by rw [Tryz.results157]) fin ?_;simp only [go_sem,↓reduceIte,aJ,Option.some.injEq,exists_eq_left',e1.1,e1.1.symm,hk,bz (a.n - b.n) (by omega)])
  exact hq
theorem PU (t:Term) (i j:Nat) {u w:Term} (hi:t.args[i]?=some u) (hj:t.args[j]?=some w) (hu:uF u) (hw:uF w) {p:Nat} (h:ai) (hp:h p=some (.cells (ay t) 27)) (Q:AOut→ai→Prop) (hq:Q (.ret (.int .i64 (beforeF u w))) h):az Tryz.prog 156 [.int .i64 i,.int .i64 j,.ptr p 0] h Q:=by
 have hil:=(List.getElem?_eq_some_iff.1 hi).1
 have hjl:=(List.getElem?_eq_some_iff.1 hj).1
 obtain ⟨r,hr⟩:=dD t.args i hi
 obtain ⟨r2,hr2⟩:=dD t.args j hj
 refine eN Tryz.func156 ?_
 repeat with_reducible first|(apply zS;intro _ R_;simp only [go_sem,↓reduceIte,hp,hil,hjl,hr,hr2];subst R_)|(apply rN;subst hbq)|refine rG2 ?_|apply nS|refine rS fun bq hbq=>?_
 repeat with_reducible refine ah fun bq hbq=>?_
 refine jf (.take 0 (.take 1 (.take 2 (.take 3 (.take 4 (.take 5 (.take 6 (.take 7 (.take 8 (.take 9 (.one 10 [6,1] (.take 11 (.done))))))))))))) [0,1,2,3,4,5,6,7,8,9,10,11] (by kernel_rfl) (by kernel_rfl) (by simp only [aF,gtOf,aA];exact rfl) ?_
 repeat ((first|(with_reducible apply iT;refine sT rfl ?_)|(with_reducible apply iO;refine sO rfl ?_));intro _ _ _ C_ R_ U_;simp only [go_sem,↓reduceIte,hp,hil,hjl,hr,hr2];subst C_ R_ U_)
 refine Ot u w hu hw _ _ ?_
 try dsimp only
 repeat first|(with_reducible first|(apply rN;subst hbq)|apply nD|apply rR)|((first|with_reducible apply sA|(with_reducible apply iT;refine sT rfl ?_));intro _ _ _ C_ R_ U_;simp only [go_sem,↓reduceIte,hp,hil,hjl,hr,hr2];subst C_ R_ U_)|(with_reducible apply iL;refine rL (by rw [Tryz.results156]) (ax.refl _) ?_;simp only [go_sem,↓reduceIte,aJ,Option.some.injEq,exists_eq_left',hp,hil,hjl,hr,hr2])
 exact hq
theorem Ui (m:Int) (h0:0≤m) (h1:m≤255):mh Tryz.prog 212 5 (.int .u64 m)=some (.int .u8 m):=by
 have t1:tk Tryz.prog 212=some (.int .u64):=by kernel_rfl
 have t2:tk Tryz.prog 5=some (.int .u8):=by kernel_rfl
 unfold mh
 rw [t1,t2]
 have:IntKind.u8.wrap m=m:=by
  have:IntKind.u8.wrap m=m % 256:=by simp [IntKind.wrap,IntKind.bits,IntKind.signed]
  omega
 simp only [this]
theorem Je (m:Int) (h0:0≤m) (h1:m≤255):mh Tryz.prog 5 3 (.int .u8 m)=some (.int .i64 m):=by
 have t1:tk Tryz.prog 5=some (.int .u8):=by kernel_rfl
 have t2:tk Tryz.prog 3=some (.int .i64):=by kernel_rfl
 unfold mh
 rw [t1,t2]
 simp only [bz (m) (by omega)]
theorem Jd (m:Int) (h0:0≤m) (h1:m≤255):mh Tryz.prog 3 198 (.int .i64 m)=some (.int .u64 m):=by
 have t1:tk Tryz.prog 3=some (.int .i64):=by kernel_rfl
 have t2:tk Tryz.prog 198=some (.int .u64):=by kernel_rfl
 unfold mh
 rw [t1,t2]
 have:IntKind.u64.wrap m=m:=by
  have:IntKind.u64.wrap m=m % 18446744073709551616:=by simp [IntKind.wrap,IntKind.bits,IntKind.signed]
  omega
 simp only [this]
theorem idx9 (s:ByteArray) (m:Int) (h0:0≤m) (h1:m.toNat<s.size):∃ b:Nat,b≤255∧Br Tryz.prog 9 (.str s) (.int .u8 m)=some (.int .u8 b):=by
 have t1:tk Tryz.prog 9=some .string:=by kernel_rfl
 refine ⟨(s[m.toNat]).toNat,by have:=(s[m.toNat]).toNat_lt;omega,?_⟩
 unfold Br
 simp only [t1,h0,if_true]
 rw [getElem?_pos s m.toNat h1]
theorem P9 {s:ByteArray} {m:Int} {h:ai} {K:AV→ai→Prop} (h0:0≤m) (h8:m≤8) (hs:decide (9≤s.size)=true) (hk:∀ b:Nat,b≤255→K (.int .u8 b) h):match Option.map (fun x=>(x,h)) (Br Tryz.prog 9 (.str s) (.int .u8 m)) with|some (v,h')=>K v h'|Option.none=>False:=by
 have:9≤s.size:=by simpa using hs
 obtain ⟨b,hb,e⟩:=idx9 s m h0 (by omega)
 rw [e]
 exact hk b hb
theorem PY (n:Nat) (hn:n≤8) (h:ai) (Q:AOut→ai→Prop) (hq:∀ k:Int,Q (.ret (.int .i64 k)) h):az Tryz.prog 179 [.int .u64 n] h Q:=by
 have c1:decide ((n:Int)≥4294967296)=false:=decide_eq_false (by omega)
 have c2:decide ((n:Int)≥65536)=false:=decide_eq_false (by omega)
 have c3:decide ((n:Int)≥256)=false:=decide_eq_false (by omega)
 refine eN Tryz.func179 ?_
 repeat with_reducible first|((first|apply zS|apply zC);intro _ R_;simp only [go_sem,↓reduceIte,c1,c2,c3,Ui (n:Int) (by omega) (by omega)];subst R_)|(apply rN;subst hbq)|refine rG2 ?_|apply nS|refine rS fun bq hbq=>?_|apply rK
 refine P9 (m:=n) (by omega) (by omega) (by kernel_rfl) fun b hb=>?_
 repeat first|(with_reducible first|(apply zS;intro _ R_;simp only [go_sem,↓reduceIte,c1,c2,c3,Je (b:Int) (by omega) (by omega),bz ((0:Int)+b) (by omega)];subst R_)|(apply rN;subst hbq)|apply nS|apply rR)|(with_reducible apply iL;refine rL (by rw [Tryz.results179]) (ax.refl _) ?_;simp only [go_sem,↓reduceIte,aJ,Option.some.injEq,exists_eq_left',c1,c2,c3,Je (b:Int) (by omega) (by omega),bz ((0:Int)+b) (by omega)])
 exact hq _
theorem RB (n:Nat) (hn:n≤8) (h:ai) (Q:AOut→ai→Prop) (hq:∀ k:Int,Q (.ret (.int .i64 k)) h):az Tryz.prog 168 [.int .u64 n] h Q:=by
 refine eN Tryz.func168 ?_
 repeat with_reducible first|((first|apply zS|apply zC);intro _ R_;simp only [go_sem,↓reduceIte];subst R_)|(apply rN;subst hbq)|refine rG2 ?_|apply nS|refine rS fun bq hbq=>?_|apply rK
 refine PY n hn _ _ fun k=>?_
 try dsimp only
 repeat first|(with_reducible first|(apply zS;intro _ R_;simp only [go_sem,↓reduceIte];subst R_)|(apply rN;subst hbq)|apply nS|apply rR)|(with_reducible apply iL;refine rL (by rw [Tryz.results168]) (ax.refl _) ?_;simp only [go_sem,↓reduceIte,aJ,Option.some.injEq,exists_eq_left'])
 exact hq k
def BC (l:List Nat) (j:Nat):List Nat:=(l.set (j+1) (l.getD j 0)).set j (l.getD (j+1) 0)
def bubF (lt:Nat→Nat→Bool):Nat→List Nat→List Nat
 |0,l=>l
 |j+1,l=>if lt (l.getD (j+1) 0) (l.getD j 0) then bubF lt j (BC l j) else l
def insF (lt:Nat→Nat→Bool):Nat→Nat→List Nat→List Nat
 |0,_,l=>l
 |k+1,i,l=>insF lt k (i+1) (bubF lt i l)
theorem HZ (l:List Nat) (j:Nat):(BC l j).length=l.length:=by simp [BC]
theorem HY {n:Nat} {l:List Nat} {j:Nat} (hj:j+1<l.length) (h:∀ x ∈ l,x<n):∀ x ∈ BC l j,x<n:=by
 intro x hx
 unfold BC at hx
 rcases List.mem_or_eq_of_mem_set hx with hx|rfl
 ·rcases List.mem_or_eq_of_mem_set hx with hx|rfl
  ·exact h x hx
  ·rw [List.getD_eq_getElem?_getD,List.getElem?_eq_getElem (by omega)];exact h _ (List.getElem_mem _)
 ·rw [List.getD_eq_getElem?_getD,List.getElem?_eq_getElem hj];exact h _ (List.getElem_mem _)
theorem RO {n:Nat} {lt:Nat→Nat→Bool}:∀ (j:Nat) (l:List Nat),j<l.length→(∀ x ∈ l,x<n)→(bubF lt j l).length=l.length∧∀ x ∈ bubF lt j l,x<n
 |0,l,_,h=>⟨rfl,h⟩
 |j+1,l,hj,h=>by
  rw [bubF]
  split
  ·have:=RO (lt:=lt) j (BC l j) (by rw [HZ];omega) (HY hj h)
   rw [HZ] at this
   exact this
  ·exact ⟨rfl,h⟩
def ltA (t:Term) (x y:Nat):Bool:=decide (beforeF (t.args.getD x aG) (t.args.getD y aG)<0)
theorem o8 {α:Type} {l:List α} {i:Nat} (z:α) (h:i<l.length):l[i]?=some (l.getD i z):=by
 rw [List.getD_eq_getElem?_getD,List.getElem?_eq_getElem h];rfl
theorem O5 {h:ai} {p:Nat} {x:Option AObj} (hp:h p=x):upd h p x=h:=by
 funext j
 by_cases e:j=p
 ·subst e;rw [upd_same];exact hp.symm
 ·rw [ae _ _ e]
theorem Lf (h:ai) (p:Nat) (x y:Option AObj):upd (upd h p x) p y=upd h p y:=by
 funext j
 by_cases e:j=p
 ·subst e;rw [upd_same,upd_same]
 ·rw [ae _ _ e,ae _ _ e,ae _ _ e]
theorem WJ (t:Term) (p pt:Nat) (l:List Nat) (hl8:l.length≤8) (hl0:1≤l.length) (hlm:∀ x ∈ l,x<t.args.length) (hs:∀ u ∈ t.args,uF u) (h:ai) (hpt:h pt=some (.cells (ay t) 27)) (hp:h p=some (.cells (cZ l) 3)) (hne:p≠pt) (Q:AOut→ai→Prop)
  (hq:Q (.ret (.tuple [])) (upd h p (some (.cells (cZ (insF (ltA t) (l.length - 1) 1 l)) 3)))):az Tryz.prog 170 [.sl p 0 l.length,.int .i64 0,.int .i64 l.length,.func (.func 156) [] [.ptr pt 0]] h Q:=by
 refine eN Tryz.func170 ?_
 repeat with_reducible first|(apply zS;intro _ R_;simp only [go_sem,↓reduceIte,bz ((0:Int)+1) (by omega)];subst R_)|(apply rN;subst hbq)|refine rG2 ?_|(refine rB fun cq hcq=>?_;subst hcq)|apply nS|refine rS fun bq hbq=>?_
 refine aT (fun k τ h'=>∃ (i:Nat) (m:List Nat),k+i=l.length∧1≤i∧m.length=l.length∧(∀ x ∈ m,x<t.args.length)∧insF (ltA t) k i m=insF (ltA t) (l.length - 1) 1 l∧τ 0=.sl p 0 l.length∧τ 1=.int .i64 0∧τ 2=.int .i64 l.length∧τ 3=.func (.func 156) [] [.ptr pt 0]∧τ 8=.int .i64 i∧h'=upd h p (some (.cells (cZ m) 3))) (l.length - 1) ?_ ?_
 ·refine ⟨1,l,by omega,Nat.le_refl _,rfl,hlm,rfl,?_⟩
  simp only [go_sem,↓reduceIte]
  exact ⟨rfl,(O5 hp).symm⟩
 ·intro c hc k τ h' hI
  obtain ⟨i,m,hk,hi1,hml,hmm,hins,f0,f1,f2,f3,f8,rfl⟩:=hI
  subst hc
  by_cases hi:i<l.length
  ·repeat with_reducible first|((first|apply zS|apply zC);intro _ R_;simp only [go_sem,↓reduceIte,f0,f1,f2,f3,f8,hi];subst R_)|(apply rN;subst hbq)|refine rG2 ?_|apply nS|refine rS fun bq hbq=>?_|apply rK
   repeat with_reducible refine ah fun bq hbq=>?_
   refine bu fun cq hcq=>?_
   subst hcq
   repeat with_reducible first|(apply zS;intro _ R_;simp only [go_sem,↓reduceIte,f0,f1,f2,f3,f8,hi];subst R_)|(apply rN;subst hbq)|refine rG2 ?_|apply nS|refine rS fun bq hbq=>?_
   refine bu fun cq hcq=>?_
   subst hcq
   refine aT (fun j τ h'=>∃ m2:List Nat,j≤i∧m2.length=l.length∧(∀ x ∈ m2,x<t.args.length)∧bubF (ltA t) j m2=bubF (ltA t) i m∧τ 0=.sl p 0 l.length∧τ 1=.int .i64 0∧τ 2=.int .i64 l.length∧τ 3=.func (.func 156) [] [.ptr pt 0]∧τ 8=.int .i64 i∧τ 9=.int .i64 j∧h'=upd h p (some (.cells (cZ m2) 3))) i ?_ ?_
   ·refine ⟨m,Nat.le_refl _,hml,hmm,rfl,?_⟩
    simp only [go_sem,↓reduceIte,f0,f1,f2,f3,f8]
   ·intro c hc j τ h' hI
    clear f0 f1 f2 f3 f8
    obtain ⟨m2,hj,h2l,h2m,hbub,f0,f1,f2,f3,f8,f9,rfl⟩:=hI
    subst hc
    have mp:(upd h p (some (AObj.cells (cZ m2) 3))) p=some (.cells (cZ m2) 3):=upd_same _ _ _
    have mt:(upd h p (some (AObj.cells (cZ m2) 3))) pt=some (.cells (ay t) 27):=by rw [ae _ _ hne.symm];exact hpt
    cases j with
    |zero =>
     have c0:decide (((0:Nat):Int)>0)=false:=by decide
     repeat with_reducible refine ah fun bq hbq=>?_
     refine jf (.take 0 (.take 1 (.take 2 (.take 3 (.take 4 (.take 5 (.take 6 (.take 7 (.take 8 (.take 9 (.take 10 (.take 11 (.take 12 (.take 13 (.one 14 [] (.take 15 (.take 16 (.done)))))))))))))))))) [0,1,2,3,4,5,6,7,8,9,10,11,12,13,14,15,16] (by kernel_rfl) (by kernel_rfl) (by simp only [aF,gtOf,aA];exact rfl) ?_
     repeat first|(with_reducible first|(apply rN;subst hbq)|refine rG2 ?_|(apply x1;clear hbq bq)|apply nS|apply nD|apply rE|apply rXx|apply x3|apply x4)|((first|(with_reducible first|apply sS|apply sC)|(with_reducible apply iT;refine sT rfl ?_)|(with_reducible apply i0;refine s0 rfl ?_));intro _ _ _ C_ R_ U_;simp only [go_sem,↓reduceIte,f0,f1,f2,f3,f8,f9,c0,bz ((i:Int)+1) (by omega)];subst C_ R_ U_)
     refine aL (m:=k - 1) (by omega) ⟨i+1,m2,by omega,by omega,h2l,h2m,?_,?_⟩
     ·obtain ⟨k2,rfl⟩:∃ k2,k=k2+1:=⟨k - 1,by omega⟩
      rw [← hins,insF,← hbub,bubF];rfl
     ·simp only [go_sem,↓reduceIte,f0,f1,f2,f3]
      rfl
    |succ j =>
     have c0:decide (((j+1:Nat):Int)>0)=true:=by simp
     have hjl:j+1<l.length:=by omega
     have hjl2:j<l.length:=by omega
     have ex:m2[j+1]?=some (m2.getD (j+1) 0):=o8 0 (by omega)
     have ey:m2[j]?=some (m2.getD j 0):=o8 0 (by omega)
     have d1:(List.drop (j+1) (cZ m2)).head?=some (.int .i64 ((m2.getD (j+1) 0:Nat):Int)):=by rw [List.head?_drop,List.getElem?_map,ex];rfl
     have d2:(List.drop j (cZ m2)).head?=some (.int .i64 ((m2.getD j 0:Nat):Int)):=by rw [List.head?_drop,List.getElem?_map,ey];rfl
     have cj:((j+1:Nat):Int) - 1=(j:Int):=by omega
     have hx:=h2m _ (List.mem_of_getElem? ex)
     have hy:=h2m _ (List.mem_of_getElem? ey)
     have hX:=o8 aG hx
     have hY:=o8 aG hy
     rw [bubF] at hbub
     unfold BC at hbub
     have wj:=bz ((j:Int)) (by omega)
     repeat with_reducible refine ah fun bq hbq=>?_
     refine jf (.take 0 (.take 1 (.take 2 (.take 3 (.take 4 (.take 5 (.take 6 (.take 7 (.take 8 (.take 9 (.take 10 (.take 11 (.take 12 (.take 13 (.one 14 [] (.take 15 (.take 16 (.done)))))))))))))))))) [0,1,2,3,4,5,6,7,8,9,10,11,12,13,14,15,16] (by kernel_rfl) (by kernel_rfl) (by simp only [aF,gtOf,aA];exact rfl) ?_
     repeat ((first|(with_reducible apply iT;refine sT rfl ?_)|(with_reducible apply i0;refine s0 rfl ?_));intro _ _ _ C_ R_ U_;simp only [go_sem,↓reduceIte,f0,f1,f2,f3,f8,f9,c0,mp,hjl,hjl2,d1,d2,cj,wj];subst C_ R_ U_)
     refine PU t _ _ hX hY (hs _ (List.mem_of_getElem? hX)) (hs _ (List.mem_of_getElem? hY)) _ mt _ ?_
     cases hlt:decide (beforeF (t.args.getD (m2.getD (j+1) 0) aG) (t.args.getD (m2.getD j 0) aG)<0)
     ·rw [show ltA t (m2.getD (j+1) 0) (m2.getD j 0)=false from hlt,if_neg (by decide)] at hbub
      try dsimp only
      repeat first|(with_reducible first|(apply rN;subst hbq)|refine rG2 ?_|(apply x1;clear hbq bq)|apply nS|apply nD|apply rE|apply rXx|apply x3|apply x4)|((first|(with_reducible first|apply sS|apply sC)|(with_reducible apply iT;refine sT rfl ?_));intro _ _ _ C_ R_ U_;simp only [go_sem,↓reduceIte,f0,f1,f2,f3,f8,f9,c0,mp,hlt,bz ((i:Int)+1) (by omega)];subst C_ R_ U_)
      refine aL (m:=k - 1) (by omega) ⟨i+1,m2,by omega,by omega,h2l,h2m,?_,?_⟩
      ·obtain ⟨k2,rfl⟩:∃ k2,k=k2+1:=⟨k - 1,by omega⟩
       rw [← hins,insF,← hbub];rfl
      ·simp only [go_sem,↓reduceIte,f0,f1,f2,f3]
       rfl
     ·rw [show ltA t (m2.getD (j+1) 0) (m2.getD j 0)=true from hlt,if_pos rfl] at hbub
      try dsimp only
      repeat first|(with_reducible first|(apply rN;subst hbq)|(refine rB fun cq hcq=>?_;subst hcq)|apply nD|refine rS fun bq hbq=>?_|apply rK)|((first|with_reducible apply sC|(with_reducible apply iT;refine sT rfl ?_));intro _ _ _ C_ R_ U_;simp only [go_sem,↓reduceIte,f0,f1,f2,f3,f8,f9,c0,mp,hlt];subst C_ R_ U_)
      have l1:j+1+1≤(cZ m2).length:=by rw [List.length_map];omega
      have l2:j+1≤(cZ (m2.set (j+1) (m2.getD j 0))).length:=by rw [List.length_map,List.length_set];omega
      have p1:List.take (j+1) (cZ m2)++AV.int .i64 ((m2.getD j 0:Nat):Int)::List.drop (j+1+1) (cZ m2)=cZ (m2.set (j+1) (m2.getD j 0)):=F7 _ _ m2 (j+1) (by omega)
      have p2:List.take j (cZ (m2.set (j+1) (m2.getD j 0)))++AV.int .i64 ((m2.getD (j+1) 0:Nat):Int)::List.drop (j+1) (cZ (m2.set (j+1) (m2.getD j 0)))=cZ ((m2.set (j+1) (m2.getD j 0)).set j (m2.getD (j+1) 0)):=F7 _ _ (m2.set (j+1) (m2.getD j 0)) j (by rw [List.length_set];omega)
      repeat with_reducible refine ah fun bq hbq=>?_
      refine jf (.take 0 (.take 1 (.take 2 (.take 3 (.take 4 (.take 5 (.take 6 (.take 7 (.take 8 (.take 9 (.take 10 (.take 11 (.take 12 (.take 13 (.take 14 (.one 15 [] (.take 16 (.one 17 [] (.done))))))))))))))))))) [0,1,2,3,4,5,6,7,8,9,10,11,12,13,14,15,16,17] (by kernel_rfl) (by kernel_rfl) (by simp only [aF,gtOf,aA];exact rfl) ?_
      repeat first|(with_reducible first|(apply rN;subst hbq)|refine rG2 ?_|apply nS|apply nD|apply rE)|((first|with_reducible apply sS|(with_reducible apply iT;refine sT rfl ?_)|(with_reducible apply i0;refine s0 rfl ?_));intro _ _ _ C_ R_ U_;simp only [go_sem,↓reduceIte,f0,f1,f2,f3,f8,f9,c0,mp,hjl,hjl2,d1,d2,cj,wj,l1,l2,p1,p2];subst C_ R_ U_)
      refine aL (m:=j) (by omega) ⟨(m2.set (j+1) (m2.getD j 0)).set j (m2.getD (j+1) 0),by omega,by simp [h2l],HY (by omega) h2m,hbub,?_⟩
      simp only [go_sem,↓reduceIte,f0,f1,f2,f3,f8]
  ·repeat with_reducible first|((first|apply zS|apply zC);intro _ R_;simp only [go_sem,↓reduceIte,f0,f1,f2,f3,f8,hi];subst R_)|(apply rN;subst hbq)|refine rG2 ?_|(apply x1;clear hbq bq)|apply nS|refine rS fun bq hbq=>?_|apply rXx|apply x3|apply x4
   obtain rfl:k=0:=by omega
   rw [insF] at hins
   rw [← hins] at hq
   exact o7 (by rw [Tryz.results170]) (ax.refl _) hq
theorem Wz (t:Term) (p pt:Nat) (lim:Int) (l:List Nat) (hl8:l.length≤8) (hl0:1≤l.length) (hlm:∀ x ∈ l,x<t.args.length) (hs:∀ u ∈ t.args,uF u) (h:ai) (hpt:h pt=some (.cells (ay t) 27)) (hp:h p=some (.cells (cZ l) 3)) (hne:p≠pt) (Q:AOut→ai→Prop)
  (hq:Q (.ret (.tuple [])) (upd h p (some (.cells (cZ (insF (ltA t) (l.length - 1) 1 l)) 3)))):az Tryz.prog 167 [.sl p 0 l.length,.int .i64 0,.int .i64 l.length,.int .i64 lim,.func (.func 156) [] [.ptr pt 0]] h Q:=by
 refine eN Tryz.func167 ?_
 repeat with_reducible first|(apply zS;intro _ R_;simp only [go_sem,↓reduceIte];subst R_)|(apply rN;subst hbq)|refine rG2 ?_|apply nS|refine rS fun bq hbq=>?_
 refine bu fun cq hcq=>?_
 subst hcq
 refine aT (fun j τ h'=>τ 0=.sl p 0 l.length∧τ 1=.int .i64 0∧τ 2=.int .i64 l.length∧τ 4=.func (.func 156) [] [.ptr pt 0]∧h'=h) 0 ?_ ?_
 ·simp only [go_sem,↓reduceIte]
 ·intro c hc k τ h' hI
  obtain ⟨f0,f1,f2,f4,rfl⟩:=hI
  subst hc
  have c1:decide ((l.length:Int)≤12)=true:=decide_eq_true (by omega)
  repeat with_reducible first|((first|apply zS|apply zC);intro _ R_;simp only [go_sem,↓reduceIte,f0,f1,f2,f4,c1,bz ((l.length:Int)) (by omega),Int.sub_zero];subst R_)|(apply rN;subst hbq)|refine rG2 ?_|(refine rB fun cq hcq=>?_;subst hcq)|apply nS|refine rS fun bq hbq=>?_
  refine WJ t p pt l hl8 hl0 hlm hs _ hpt hp hne _ ?_
  try dsimp only
  repeat first|(with_reducible first|(apply rN;subst hbq)|(apply r1;clear hbq bq)|apply nS|apply rR|apply r3|apply r4)|(with_reducible apply iL;refine rL (by rw [Tryz.results167]) (ax.refl _) ?_;simp only [go_sem,↓reduceIte,aJ,Option.some.injEq,exists_eq_left',f0,f1,f2,f4,c1])
  exact hq
theorem Sy (t:Term) (p pt:Nat) (l:List Nat) (hl8:l.length≤8) (hl0:1≤l.length) (hlm:∀ x ∈ l,x<t.args.length) (hs:∀ u ∈ t.args,uF u) (h:ai) (hpt:h pt=some (.cells (ay t) 27)) (hp:h p=some (.cells (cZ l) 3)) (hne:p≠pt) (Q:AOut→ai→Prop)
  (hq:Q (.ret (.tuple [])) (upd h p (some (.cells (cZ (insF (ltA t) (l.length - 1) 1 l)) 3)))):az Tryz.prog 155 [.sl p 0 l.length,.func (.func 156) [] [.ptr pt 0]] h Q:=by
 refine eN Tryz.func155 ?_
 repeat with_reducible first|(apply zS;intro _ R_;simp only [go_sem,↓reduceIte,Jd (l.length:Int) (by omega) (by omega)];subst R_)|(apply rN;subst hbq)|refine rG2 ?_|apply nS|refine rS fun bq hbq=>?_
 refine RB l.length hl8 _ _ fun k=>?_
 try dsimp only
 repeat with_reducible (apply zS;intro _ R_;simp only [go_sem,↓reduceIte];subst R_)
 refine Wz t p pt k l hl8 hl0 hlm hs _ hpt hp hne _ ?_
 try dsimp only
 repeat with_reducible apply nS
 exact o7 (by rw [Tryz.results155]) (ax.refl _) hq
theorem TA (pt:Nat) (h:ai) (Q:AOut→ai→Prop) (hq:Q (.ret (.tuple [])) h):az Tryz.prog 170 [.list 0 [] 0 .nil,.int .i64 0,.int .i64 0,.func (.func 156) [] [.ptr pt 0]] h Q:=by
 refine eN Tryz.func170 ?_
 repeat with_reducible first|(apply zS;intro _ R_;simp only [go_sem,↓reduceIte,bz ((0:Int)+1) (by omega)];subst R_)|(apply rN;subst hbq)|refine rG2 ?_|(refine rB fun cq hcq=>?_;subst hcq)|apply nS|refine rS fun bq hbq=>?_
 refine aT (fun k τ h'=>τ 2=.int .i64 0∧τ 8=.int .i64 1∧h'=h) 0 ?_ ?_
 ·simp only [go_sem,↓reduceIte]
  rfl
 ·intro c hc k τ h' hI
  obtain ⟨f2,f8,rfl⟩:=hI
  subst hc
  repeat with_reducible first|((first|apply zS|apply zC);intro _ R_;simp only [go_sem,↓reduceIte,f2,f8];subst R_)|(apply rN;subst hbq)|refine rG2 ?_|(apply x1;clear hbq bq)|apply nS|refine rS fun bq hbq=>?_|apply rXx|apply x3|apply x4
  exact o7 (by rw [Tryz.results170]) (ax.refl _) hq
theorem SX (pt:Nat) (lim:Int) (h:ai) (Q:AOut→ai→Prop) (hq:Q (.ret (.tuple [])) h):az Tryz.prog 167 [.list 0 [] 0 .nil,.int .i64 0,.int .i64 0,.int .i64 lim,.func (.func 156) [] [.ptr pt 0]] h Q:=by
 refine eN Tryz.func167 ?_
 repeat with_reducible first|(apply zS;intro _ R_;simp only [go_sem,↓reduceIte];subst R_)|(apply rN;subst hbq)|refine rG2 ?_|apply nS|refine rS fun bq hbq=>?_
 refine bu fun cq hcq=>?_
 subst hcq
 refine aT (fun j τ h'=>τ 0=.list 0 [] 0 .nil∧τ 1=.int .i64 0∧τ 2=.int .i64 0∧τ 4=.func (.func 156) [] [.ptr pt 0]∧h'=h) 0 ?_ ?_
 ·simp only [go_sem,↓reduceIte]
 ·intro c hc k τ h' hI
  obtain ⟨f0,f1,f2,f4,rfl⟩:=hI
  subst hc
  repeat with_reducible first|((first|apply zS|apply zC);intro _ R_;simp only [go_sem,↓reduceIte,f0,f1,f2,f4,bz ((0:Int)) (by omega),Int.sub_zero];subst R_)|(apply rN;subst hbq)|refine rG2 ?_|(refine rB fun cq hcq=>?_;subst hcq)|apply nS|refine rS fun bq hbq=>?_
  refine TA pt _ _ ?_
  try dsimp only
  repeat first|(with_reducible first|(apply rN;subst hbq)|(apply r1;clear hbq bq)|apply nS|apply rR|apply r3|apply r4)|(with_reducible apply iL;refine rL (by rw [Tryz.results167]) (ax.refl _) ?_;simp only [go_sem,↓reduceIte,aJ,Option.some.injEq,exists_eq_left',f0,f1,f2,f4])
  exact hq
theorem Pd (pt:Nat) (h:ai) (Q:AOut→ai→Prop) (hq:Q (.ret (.tuple [])) h):az Tryz.prog 155 [.list 0 [] 0 .nil,.func (.func 156) [] [.ptr pt 0]] h Q:=by
 refine eN Tryz.func155 ?_
 repeat with_reducible first|(apply zS;intro _ R_;simp only [go_sem,↓reduceIte,Jd ((0:Nat):Int) (by omega) (by omega)];subst R_)|(apply rN;subst hbq)|refine rG2 ?_|apply nS|refine rS fun bq hbq=>?_
 refine RB 0 (by omega) _ _ fun k=>?_
 try dsimp only
 repeat with_reducible (apply zS;intro _ R_;simp only [go_sem,↓reduceIte];subst R_)
 refine SX pt k _ _ ?_
 try dsimp only
 repeat with_reducible apply nS
 exact o7 (by rw [Tryz.results155]) (ax.refl _) hq
structure Nm where
 par:Int
 ord:List Nat
abbrev nmAV (v:Nm):AV:=.agg [.int .i64 v.par,.list 1 (cZ v.ord) v.ord.length .none]
structure NS where
 nms:List (Int × Nm)
 tys:List Ty
structure NB (x m:Nat) (tv:AV) (raw:List (AV × AV × Nat)) (c:Nat) (vs:List Va) (pars:Int) (s:NS) (h0 h:ai):Prop where
 hx:h x=some (.cells [.list 8 (aM vs) vs.length .none,.int .i64 pars,.map m,tv] 128)
 hm:h m=some (.map raw c)
 rel:fJ nmAV s.nms raw
 tys:(s.tys=[]∧tv=.list 0 [] 0 .nil)∨∃ p,tv=.sl p 0 s.tys.length∧h p=some (.cells (dE s.tys) 60)∧h0 p=Option.none
 ok:∀ n v,mget n s.nms=some v→v.ord.length=aX (ak vs n).type∧∀ y ∈ v.ord,y<aX (ak vs n).type
 p0:0≤pars
 bd:pars+(s.tys.length:Int)≤60
 x0:h0 x=Option.none
 m0:h0 m=Option.none
 less:ax h h0
def NObj (x:Nat) (vs:List Va) (pars:Int) (s:NS) (h0 h:ai):Prop:=∃ m tv raw c,NB x m tv raw c vs pars s h0 h
theorem NB.more {x m:Nat} {tv:AV} {raw:List (AV × AV × Nat)} {c:Nat} {vs:List Va} {pars:Int} {s:NS} {h0 h H:ai} (B:NB x m tv raw c vs pars s h0 h) (hl:ax H h):NB x m tv raw c vs pars s h0 H:=by
 refine ⟨hl _ _ B.hx,hl _ _ B.hm,B.rel,?_,B.ok,B.p0,B.bd,B.x0,B.m0,hl.trans B.less⟩
 rcases B.tys with g|⟨p,e,hp,hp0⟩
 ·exact .inl g
 ·exact .inr ⟨p,e,hl _ _ hp,hp0⟩
theorem BN {P:Program} {h:ai} {a b:Code} {K:AK} {τ:Env} (I:Env→ai→Prop) (h1:bE P a (cutK (fun τ h=>∃ τ2 h2,gD τ h τ2 h2∧I τ2 h2) K) τ h) (h2:∀ τ h,I τ h→bE P b K τ h):bE P a (seqK (bE P b) K) τ h:=by
 refine h1.mono fun e τ h hs=>?_
 cases e with
 |normal =>
  obtain ⟨τ2,h3,hw,hi⟩:=hs
  exact ⟨τ2,h3,hw,h2 _ _ hi⟩
 |_=>exact hs
def ordF (t:Term):List Nat:=insF (ltA t) (t.args.length - 1) 1 (List.range t.args.length)
theorem RF {n:Nat} {lt:Nat→Nat→Bool}:∀ (k i:Nat) (l:List Nat),i+k=l.length→(∀ x ∈ l,x<n)→(insF lt k i l).length=l.length∧∀ x ∈ insF lt k i l,x<n
 |0,i,l,_,h=>⟨rfl,h⟩
 |k+1,i,l,hi,h=>by
  rw [insF]
  have b:=RO (lt:=lt) i l (by omega) h
  have:=RF (lt:=lt) k (i+1) (bubF lt i l) (by rw [b.1];omega) b.2
  rw [b.1] at this
  exact this
theorem vY (t:Term):(ordF t).length=t.args.length∧∀ x ∈ ordF t,x<t.args.length:=by
 unfold ordF
 cases hn:t.args.length with
 |zero=>exact ⟨rfl,fun x hx=>absurd hx (by simp [insF])⟩
 |succ n =>
  have:=RF (n:=n+1) (lt:=ltA t) n 1 (List.range (n+1)) (by rw [List.length_range];omega) (fun x hx=>by simpa using hx)
  rw [List.length_range] at this
  exact this
theorem J4 (l:List Nat):(cZ l).all AV.flat=true:=by
 induction l with
 |nil=>rfl
 |cons a l ih =>
  show (AV.flat _&&(cZ l).all AV.flat)=true
  rw [ih];rfl
theorem Jj (i:Nat):bn Tryz.prog 77 1 [(0,.int .i64 (i:Int))]=some (.list 1 [.int .i64 i] 1 .full):=uj yQ sz_3 ze_3 rfl rfl rfl (by decide)
def Ei (vs:List Va) (pars:Int) (t:Term) (s:NS):Option (Nm × NS) :=
 if decide (pars+(s.tys.length:Int)≥60) then none
 else some (⟨pars+s.tys.length,ordF t⟩,⟨mset t.n ⟨pars+s.tys.length,ordF t⟩ s.nms,s.tys++[bK ((ordF t).map fun i=>(nmsF (ak vs t.n)).getD i ⟨#[]⟩) (bU (ak vs t.n).type)]⟩)
theorem LF {D:Int} (hD:D≤1000000) {u:Term} (h:fw D u):uF u:=by
 obtain ⟨h1,h2,h3,h4⟩:=h
 simp only [bF,Bool.and_eq_true,Bool.or_eq_true,beq_iff_eq] at h1
 rcases h1.1 with k|k
 ·have:=h3 k;exact ⟨by omega,by omega,by omega,by omega⟩
 ·have:=h4 k;exact ⟨by omega,by omega,by omega,by omega⟩
theorem MH (l:List Nat) (i:Nat):cZ (l++[i])=cZ l++[AV.int .i64 (i:Int)]:=List.map_append
theorem Pb (t:Term) (p pt:Nat) (h8:t.args.length≤8) (h1:t.args.length≠0) (hs:∀ u ∈ t.args,uF u) (h:ai) (hpt:h pt=some (.cells (ay t) 27)) (hp:h p=some (.cells (cZ (List.range t.args.length)) 3)) (hne:p≠pt) (Q:AOut→ai→Prop)
  (hq:Q (.ret (.tuple [])) (upd h p (some (.cells (cZ (ordF t)) 3)))):az Tryz.prog 155 [.sl p 0 t.args.length,.func (.func 156) [] [.ptr pt 0]] h Q:=by
 have:=Sy t p pt (List.range t.args.length) (by rw [List.length_range];exact h8) (by rw [List.length_range];omega) (fun y hy=>by simpa using hy) hs h hpt hp hne Q
 rw [List.length_range] at this
 exact this hq
def pick (ks:List Nat) (k0:Nat) (v:AV) (τ:Env):Env:=fun k=>if k=k0 then v else if ks.contains k then τ k else .any
theorem K9 {τ:Env} {h h':ai} (ks:List Nat) {k0:Nat} {v:AV} (hv:LeAV (τ k0) v) (hl:ax h h'):gD τ h (pick ks k0 v τ) h':=by
 refine gD.of (fun k=>?_) hl
 unfold pick
 split
 ·rename_i e;subst e;exact hv
 ·split
  ·exact LeAV.refl _
  ·exact fun _ _ _ _=>by simp [Rel]
theorem R8 {τ:Env} {h h':ai} (ks:List Nat) {k0 p n z:Nat} {cs:List AV} {T:TypeId} (hp:h p=some (.cells cs T)) (hl:cs.length=n * z) (hf:cs.all AV.flat=true) (h5:τ k0=.sl p 0 n) (hh:ax h h') (hn:h' p=Option.none):gD τ h (pick ks k0 (.list z cs n .none) τ) h':=by
 refine gD.freeze hp hl hf (fun k=>?_) (LeH.of hh hn)
 unfold pick
 split
 ·rename_i e;subst e;rw [h5];exact LeF.here
 ·split
  ·exact LeF.refl _
  ·exact LeF.of fun _ _ _ _=>by simp [Rel]
theorem xz (par:Int) (l:List AV) (k:Nat):dL Tryz.prog 167 [(0,.int .i64 par),(1,.list 1 l k .none)]=some (.agg [.int .i64 par,.list 1 l k .none]):=by
 simp only [dL,Hq,Rs,ik]
 rfl
theorem qj:bn Tryz.prog 40 1 [(0,.agg [.str ⟨#[]⟩,.list 0 [] 0 .nil])]=some (.list 2 [.str ⟨#[]⟩,.list 0 [] 0 .nil] 1 .full):=uj wE Du zI rfl rfl rfl (by decide)
theorem dW {h:ai} {i j:Nat} {a b:List AV} {S T:TypeId} (hi:h i=some (.cells a S)) (hj:h j=some (.cells b T)) (hST:S≠T):i≠j:=by
 intro e;subst e;rw [hi] at hj;injection hj with hj;injection hj with _ hj;exact hST hj
theorem lQ {h:ai} {i j c:Nat} {a:List AV} {T:TypeId} {raw:List (AV × AV × Nat)} (hi:h i=some (.cells a T)) (hj:h j=some (.map raw c)):j≠i:=by
 intro e;subst e;rw [hi] at hj;cases hj
theorem NB.put {x m:Nat} {tv:AV} {raw:List (AV × AV × Nat)} {c:Nat} {vs:List Va} {pars:Int} {s:NS} {h0 h H2:ai} (B:NB x m tv raw c vs pars s h0 h) {w tq:Nat} {ar:Ty} (b6:pars+(s.tys.length:Int)<60) (nw:h w=Option.none) (q0:h0 tq=Option.none) (mq:m≠tq) (hk:∀ k,k≠x→k≠tq→k≠w→H2 k=h k)
  (hx:H2 x=some (.cells [.list 8 (aM vs) vs.length .none,.int .i64 pars,.map m,.sl w 0 (s.tys.length+1)] 128)) (hw:H2 w=some (.cells (dE (s.tys++[ar])) 60)):NB x m (.sl w 0 (s.tys++[ar]).length) raw c vs pars ⟨s.nms,s.tys++[ar]⟩ h0 H2:=by
 have hl:(s.tys++[ar]).length=s.tys.length+1:=by simp
 refine ⟨by rw [hl];exact hx,by rw [hk m (lQ B.hx B.hm) mq (aj nw B.hm)];exact B.hm,B.rel,.inr ⟨w,rfl,hw,B.less.none nw⟩,B.ok,B.p0,by simp only [hl];omega,B.x0,B.m0,fun i o hi=>?_⟩
 have ix:i≠x:=fun e=>by rw [e,B.x0] at hi;cases hi
 have iq:i≠tq:=fun e=>by rw [e,q0] at hi;cases hi
 have iw:i≠w:=fun e=>by rw [e,B.less.none nw] at hi;cases hi
 rw [hk i ix iq iw];exact B.less i o hi
theorem J8 {h:ai} {m:Nat} {es:List (Int × Nm)} {raw:List (AV × AV × Nat)} {c:Nat} (hm:h m=some (.map raw c)) (hr:fJ nmAV es raw) {k:Int} (v:Nm) (hg:mget k es=none) :
  ∃ raw' c',eY Tryz.prog 126 (.map m) (.int .i64 k) (nmAV v) h=some (upd h m (some (.map raw' c')))∧fJ nmAV (mset k v es) raw':=by
 have hj:=lg (f:=nmAV) es raw 0 hr hg
 refine ⟨raw++[(.int .i64 k,nmAV v,c)],c+1,?_,?_⟩
 ·simp only [eY,Iw,hm,plainKey,tk_3,if_true,hj]
 ·rw [sP es hg]
  exact map_append (f:=nmAV) es raw hr
theorem Tj {x:Nat} {vs:List Va} {pars:Int} {s:NS} {h0 h:ai} (N:NObj x vs pars s h0 h) (t:Term) {D:Int} (hD:D≤1000000) (V:iZ vs t D) (hbl:vs.length≤2000) (no:mget t.n s.nms=none) (Q:AOut→ai→Prop)
  (hq:∀ v s' h2,Ei vs pars t s=some (v,s')→NObj x vs pars s' h0 h2→Q (.ret (nmAV v)) h2) (hpn:∀ h2,Ei vs pars t s=none→ax h2 h0→Q (.panic (.iface 152 (.agg [.int .i64 2]))) h2) :
  az Tryz.prog 127 [.ptr x 0,enc t] h Q:=by
 obtain ⟨m,tv,raw,c,B⟩:=N
 have h8:t.args.length≤8:=by rw [← V.ar];exact fT _
 refine eN Tryz.func127 ?_
 repeat with_reducible first|(apply zS;intro _ R_;simp only [go_sem,↓reduceIte];subst R_)|refine rG2 ?_|refine rS fun bq hbq=>?_
 intro b hb
 repeat with_reducible (apply zS;intro _ R_;simp only [go_sem,↓reduceIte];subst R_)
 intro r hr
 have e:=aQ hr
 have B1:=B.more ((ax.one (o:=some (.cells (ay t) 27)) hb).new (o:=some (.cells [.int .i64 0,.list 0 [] 0 .nil] 167)) e.2)
 have mb:(upd (upd h b (some (.cells (ay t) 27))) r (some (.cells [.int .i64 0,.list 0 [] 0 .nil] 167))) b=some (.cells (ay t) 27):=by rw [ae _ _ e.1.symm,upd_same]
 have mr:(upd (upd h b (some (.cells (ay t) 27))) r (some (.cells [.int .i64 0,.list 0 [] 0 .nil] 167))) r=some (.cells [.int .i64 0,.list 0 [] 0 .nil] 167):=upd_same _ _ _
 have b0:h0 b=Option.none:=B.less.none hb
 have r0:h0 r=Option.none:=B.less.none e.2
 have rb:r≠b:=e.1
 have rx:r≠x:=(aj e.2 B.hx).symm
 have rm:r≠m:=(aj e.2 B.hm).symm
 clear e hr hb
 generalize upd (upd h b (some (AObj.cells (ay t) 27))) r (some (AObj.cells [AV.int .i64 0,AV.list 0 [] 0 .nil] 167))=h1 at *
 clear B
 repeat with_reducible first|(apply zS;intro _ R_;simp only [go_sem,↓reduceIte,mb];subst R_)|(apply rN;subst hbq)|refine rG2 ?_|apply nS|refine rS fun bq hbq=>?_
 refine dB (fun τ h'=>τ 0=.ptr x 0∧τ 3=.ptr b 0∧τ 4=.ptr r 0∧ax h' h1∧((t.args.length=0∧τ 5=.list 0 [] 0 .nil)∨∃ p,t.args.length≠0∧τ 5=.sl p 0 t.args.length∧h' p=some (.cells (cZ (List.range t.args.length)) 3)∧h1 p=Option.none)) ?_ fun τ h' hI=>?_
 ·repeat with_reducible (refine rB fun cq hcq=>?_;subst hcq)
  refine aT (fun k τ h'=>∃ i:Nat,k+i=t.args.length∧τ 0=.ptr x 0∧τ 3=.ptr b 0∧τ 4=.ptr r 0∧τ 16=.int .i64 t.args.length∧τ 17=.int .i64 i∧ax h' h1∧((i=0∧τ 5=.list 0 [] 0 .nil)∨∃ p,i≠0∧τ 5=.sl p 0 i∧h' p=some (.cells (cZ (List.range i)) 3)∧h1 p=Option.none)) t.args.length ?_ ?_
  ·refine ⟨0,rfl,?_⟩
   simp only [go_sem,↓reduceIte]
   exact ⟨rfl,ax.refl _,.inl trivial⟩
  intro cc hc k τ h' hI
  obtain ⟨i,hk,f0,f3,f4,f16,f17,hl',h5⟩:=hI
  subst hc
  by_cases hi:i<t.args.length
  ·have wi:=bz ((i:Int)+1) (by omega)
   rcases h5 with ⟨rfl,f5⟩|⟨p,i0,f5,mp,np⟩
   ·repeat with_reducible first|((first|apply zS|apply zC);intro _ R_;simp only [go_sem,↓reduceIte,f0,f3,f4,f16,f17,f5,hi,Jj];subst R_)|(apply rN;subst hbq)|refine rG2 ?_|(refine rB fun cq hcq=>?_;subst hcq)|apply nS|refine rS fun bq hbq=>?_|apply rK
    refine dP ?_
    simp only [go_sem,↓reduceIte,fG]
    intro w hw
    rw [oP yQ yQ sz_3 by_3 ze_3 ⟨rfl,by decide⟩ (.inr rfl) (.inl rfl) rfl (by decide) (by decide)]
    try dsimp only
    repeat with_reducible first|(apply zS;intro _ R_;simp only [go_sem,↓reduceIte,f0,f3,f4,f16,f17,hi,wi];subst R_)|(apply rN;subst hbq)|refine rG2 ?_|apply nS|apply rE
    refine aL (m:=k - 1) (by omega) ⟨1,by omega,?_⟩
    simp only [go_sem,↓reduceIte,f0,f3,f4,f16]
    exact ⟨rfl,hl'.new (hl'.none hw),.inr ⟨w,by decide,rfl,upd_same _ _ _,hl'.none hw⟩⟩
   ·repeat with_reducible first|((first|apply zS|apply zC);intro _ R_;simp only [go_sem,↓reduceIte,f0,f3,f4,f16,f17,f5,hi,Jj];subst R_)|(apply rN;subst hbq)|refine rG2 ?_|(refine rB fun cq hcq=>?_;subst hcq)|apply nS|refine rS fun bq hbq=>?_|apply rK
    refine dP ?_
    simp only [go_sem,↓reduceIte,fG]
    intro w hw
    rw [sN yQ yQ sz_3 by_3 ze_3 ⟨rfl,by decide⟩ mp (by rw [List.length_map,List.length_range,Nat.mul_one]) rfl (by decide) (by omega)]
    try dsimp only
    repeat with_reducible first|(apply zS;intro _ R_;simp only [go_sem,↓reduceIte,f0,f3,f4,f16,f17,hi,wi];subst R_)|(apply rN;subst hbq)|refine rG2 ?_|apply nS|apply rE
    refine aL (m:=k - 1) (by omega) ⟨i+1,by omega,?_⟩
    simp only [go_sem,↓reduceIte,f0,f3,f4,f16]
    exact ⟨rfl,(hl'.new np).new (hl'.none hw),.inr ⟨w,by omega,rfl,by rw [if_pos rfl,MH],hl'.none hw⟩⟩
  ·repeat with_reducible first|((first|apply zS|apply zC);intro _ R_;simp only [go_sem,↓reduceIte,f0,f3,f4,f16,f17,hi];subst R_)|(apply rN;subst hbq)|refine rG2 ?_|(apply x1;clear hbq bq)|apply nS|refine rS fun bq hbq=>?_|apply rXx|apply x3|apply x4
   have hie:i=t.args.length:=by omega
   subst hie
   refine aD ?_
   simp only [go_sem,↓reduceIte,f0,f3,f4]
   exact ⟨hl',h5⟩
 obtain ⟨f0,f3,f4,hl',h5⟩:=hI
 subst hbq
 repeat with_reducible refine ah fun bq hbq=>?_
 refine BN (fun τ h'=>τ 0=.ptr x 0∧τ 3=.ptr b 0∧τ 4=.ptr r 0∧τ 5=.list 1 (cZ (ordF t)) (ordF t).length .none∧ax h' h1) ?_ fun τ h' hI=>?_
 ·rcases h5 with ⟨h0,f5⟩|⟨p,n0,f5,mp,np⟩
  ·repeat with_reducible first|(apply zS;intro _ R_;simp only [go_sem,↓reduceIte,f0,f3,f4,f5];subst R_)|refine rG2 ?_
   refine Pd b _ _ ?_
   try dsimp only
   repeat with_reducible apply nS
   have hord:ordF t=[]:=List.eq_nil_of_length_eq_zero (by rw [(vY t).1,h0])
   refine aD ⟨pick [0,3,4] 5 (.list 1 (cZ (ordF t)) (ordF t).length .none) _,h',K9 _ ?_ (ax.refl _),?_⟩
   ·simp only [go_sem,↓reduceIte,f5,hord]
    exact LeAV.nil _ _ _
   ·simp only [go_sem,↓reduceIte,pick,f0,f3,f4]
    exact hl'
  ·have hpb:p≠b:=(aj np mb).symm
   repeat with_reducible first|(apply zS;intro _ R_;simp only [go_sem,↓reduceIte,f0,f3,f4,f5];subst R_)|refine rG2 ?_
   refine Pb t p b h8 n0 (fun u hu=>LF hD (V.args u hu)) _ (hl' _ _ mb) mp hpb _ ?_
   try dsimp only
   repeat with_reducible apply nS
   refine aD ⟨pick [0,3,4] 5 (.list 1 (cZ (ordF t)) (ordF t).length .none) _,upd (upd h' p (some (.cells (cZ (ordF t)) 3))) p none,R8 (p:=p) (T:=3) _ (upd_same _ _ _) (by rw [List.length_map,Nat.mul_one]) (J4 _) ?_ (jK _ _) (upd_same _ _ _),?_⟩
   ·simp only [go_sem,↓reduceIte,f5,(vY t).1]
   ·rw [Lf]
    simp only [go_sem,↓reduceIte,pick,f0,f3,f4]
    exact hl'.new np
 obtain ⟨f0,f3,f4,f5,hl2⟩:=hI
 subst hbq
 have B2:=B1.more hl2
 have mb2:=hl2 _ _ mb
 have mr2:=hl2 _ _ mr
 have hx:=B2.hx
 have hm:=B2.hm
 have p0:=B2.p0
 have bd:=B2.bd
 clear B1 mb mr hl2
 obtain ⟨ty,hty⟩:∃ ty,ty=(ak vs t.n).type:=⟨_,rfl⟩
 obtain ⟨par,hpar⟩:∃ par,par=pars+(s.tys.length:Int):=⟨_,rfl⟩
 have wp:=bz (pars+(s.tys.length:Int)) (by omega)
 rw [← hpar] at wp
 have V0:=V.n0
 have V1:=V.n1
 obtain ⟨rv0,hrv0⟩:=iD vs t.n.toNat (v:=ak vs t.n) (o8 noVa (by omega))
 obtain ⟨rv,hrv⟩:∃ l,(aM vs).drop (t.n.toNat * 8+1)=.str ty.name::.list 2 (dE ty.args) ty.args.length .none::l:=⟨_,by rw [← List.drop_drop,hrv0,hty];rfl⟩
 obtain ⟨ord,hord⟩:∃ o,o=ordF t:=⟨_,rfl⟩
 rw [← hord] at f5
 have hol:ord.length=t.args.length:=by rw [hord];exact (vY t).1
 have hom:∀ y ∈ ord,y<t.args.length:=by rw [hord];exact (vY t).2
 repeat with_reducible refine ah fun bq hbq=>?_
 refine dB (fun τ H=>∃ q,τ 0=.ptr x 0∧τ 3=.ptr b 0∧τ 4=.ptr r 0∧τ 5=.list 1 (cZ ord) ord.length .none∧τ 7=.ptr q 0∧H=upd h' q (some (.cells [.int .i64 par,.list 1 (cZ ord) ord.length .none] 167))∧h' q=none) ?_ fun τ H hI=>?_
 ·rcases B2.tys with ⟨et,rfl⟩|⟨tp,rfl,mt,nt⟩
  ·have hp2:pars+((0:Nat):Int)=par:=by rw [hpar,et];rfl
   repeat with_reducible refine ah fun bq hbq=>?_
   refine jf (.take 0 (.take 1 (.take 2 (.take 3 (.take 4 (.take 5 (.take 6 (.take 7 (.take 8 (.take 9 (.take 10 (.take 11 (.one 12 [] (.one 13 [] (.done))))))))))))))) [0,1,2,3,4,5,6,7,8,9,10,11,12,13] (by kernel_rfl) (by kernel_rfl) (by simp only [aF,gtOf,aA];exact rfl) ?_
   repeat ((first|(with_reducible apply iT;refine sT rfl ?_)|(with_reducible apply i0;refine s0 rfl ?_));intro _ _ _ C_ R_ U_;simp only [go_sem,↓reduceIte,f0,f3,f4,f5,hx,hp2,wp,xz];subst C_ R_ U_)
   intro q nq
   have qx:=aj nq hx
   repeat first|with_reducible apply nD|((with_reducible apply i0;refine s0 rfl ?_);intro _ _ _ C_ R_ U_;simp only [go_sem,↓reduceIte,f0,f3,f4,f5,hx,hp2,wp,xz,qx,nq];subst C_ R_ U_)
   refine aD ⟨q,?_⟩
   simp only [go_sem,↓reduceIte,f0,f3,f4,f5,nq]
  ·have hp2:pars+(s.tys.length:Int)=par:=hpar.symm
   repeat with_reducible refine ah fun bq hbq=>?_
   refine jf (.take 0 (.take 1 (.take 2 (.take 3 (.take 4 (.take 5 (.take 6 (.take 7 (.take 8 (.take 9 (.take 10 (.take 11 (.one 12 [] (.one 13 [] (.done))))))))))))))) [0,1,2,3,4,5,6,7,8,9,10,11,12,13] (by kernel_rfl) (by kernel_rfl) (by simp only [aF,gtOf,aA];exact rfl) ?_
   repeat ((first|(with_reducible apply iT;refine sT rfl ?_)|(with_reducible apply i0;refine s0 rfl ?_));intro _ _ _ C_ R_ U_;simp only [go_sem,↓reduceIte,f0,f3,f4,f5,hx,hp2,wp,xz];subst C_ R_ U_)
   intro q nq
   have qx:=aj nq hx
   repeat first|with_reducible apply nD|((with_reducible apply i0;refine s0 rfl ?_);intro _ _ _ C_ R_ U_;simp only [go_sem,↓reduceIte,f0,f3,f4,f5,hx,hp2,wp,xz,qx,nq];subst C_ R_ U_)
   refine aD ⟨q,?_⟩
   simp only [go_sem,↓reduceIte,f0,f3,f4,f5,nq]
 clear f0 f3 f4 f5
 obtain ⟨q,f0,f3,f4,f5,f7,rfl,nq⟩:=hI
 subst hbq
 have qx:=aj nq hx
 have qm:=aj nq hm
 have qb:=aj nq mb2
 have qr:=aj nq mr2
 have B3:=B2.more (ax.one (o:=some (.cells [.int .i64 par,.list 1 (cZ ord) ord.length .none] 167)) nq)
 have mq:(upd h' q (some (.cells [.int .i64 par,.list 1 (cZ ord) ord.length .none] 167))) q=_:=upd_same _ _ _
 have mb3:(upd h' q (some (.cells [.int .i64 par,.list 1 (cZ ord) ord.length .none] 167))) b=_:=(ae _ _ qb).trans mb2
 have mr3:(upd h' q (some (.cells [.int .i64 par,.list 1 (cZ ord) ord.length .none] 167))) r=_:=(ae _ _ qr).trans mr2
 have q0:h0 q=Option.none:=B2.less.none nq
 generalize upd h' q (some (AObj.cells [AV.int .i64 par,.list 1 (cZ ord) ord.length .none] 167))=h3 at *
 clear B2 mb2 mr2 hx hm
 have hx:=B3.hx
 have hm:=B3.hm
 have unf:Ei vs pars t s=if decide (par≥60) then none else some (⟨par,ord⟩,⟨mset t.n ⟨par,ord⟩ s.nms,s.tys++[bK (ord.map fun i=>(nmsF (ak vs t.n)).getD i ⟨#[]⟩) (bU ty)]⟩):=by rw [hpar,hord,hty];rfl
 cases c6:decide (par≥60)
 case true =>
  rw [c6] at unf
  repeat with_reducible first|((first|apply zS|apply zC);intro _ R_;simp only [go_sem,↓reduceIte,f0,f3,f4,f5,f7,mq,c6,ql];subst R_)|(apply rN;subst hbq)|refine rG2 ?_|apply nS|refine rS fun bq hbq=>?_
  exact p1 (pL (ax.refl _) (hpn _ unf B3.less))
 rw [c6] at unf
 repeat with_reducible first|((first|apply zS|apply zC);intro _ R_;simp only [go_sem,↓reduceIte,f0,f3,f4,f5,f7,mq,c6];subst R_)|(apply rN;subst hbq)|refine rG2 ?_|apply nS|refine rS fun bq hbq=>?_|apply rK
 repeat with_reducible refine ah fun bq hbq=>?_
 refine jf (.take 0 (.take 1 (.take 2 (.take 3 (.take 4 (.take 5 (.take 6 (.take 7 (.take 8 (.take 9 (.one 10 [] (.one 11 [] (.done))))))))))))) [0,1,2,3,4,5,6,7,8,9,10,11] (by kernel_rfl) (by kernel_rfl) (by simp only [aF,gtOf,aA];exact rfl) ?_
 repeat ((first|(with_reducible apply iT;refine sT rfl ?_)|(with_reducible apply i0;refine s0 rfl ?_));intro _ _ _ C_ R_ U_;simp only [go_sem,↓reduceIte,f0,f3,f4,f5,f7,mq,hx,mb3,V0,V1,hrv];subst C_ R_ U_)
 intro w nw
 have wx:=aj nw hx
 have wb:=aj nw mb3
 have wq:=aj nw mq
 repeat first|(with_reducible first|(apply rN;subst hbq)|refine rG2 ?_|apply nD|refine rS fun bq hbq=>?_)|((first|with_reducible apply sS|(with_reducible apply i0;refine s0 rfl ?_));intro _ _ _ C_ R_ U_;simp only [go_sem,↓reduceIte,f0,f3,f4,f5,f7,mq,hx,mb3,V0,V1,hrv,wx,wb,wq];subst C_ R_ U_)
 refine rP ty _ _ ?_
 have aV:Ox (fU ty)=.tuple [.list 1 (encS (nmsF (ak vs t.n))) (nmsF (ak vs t.n)).length .none,.bool (fU ty).isSome]:=by
  rw [nmsF,← hty]
  cases fU ty <;> rfl
 rw [aV]
 have B4:=B3.more (ax.one (o:=some (.cells (cB ty) 60)) nw)
 have mw:(upd h3 w (some (.cells (cB ty) 60))) w=_:=upd_same _ _ _
 have mb4:(upd h3 w (some (.cells (cB ty) 60))) b=_:=(ae _ _ wb).trans mb3
 have mr4:(upd h3 w (some (.cells (cB ty) 60))) r=_:=(ae _ _ (aj nw mr3)).trans mr3
 have mq4:(upd h3 w (some (.cells (cB ty) 60))) q=_:=(ae _ _ wq).trans mq
 have w0:h0 w=Option.none:=B3.less.none nw
 generalize upd h3 w (some (AObj.cells (cB ty) 60))=h4 at *
 clear B3 mb3 mr3 mq hx hm
 have nml:(nmsF (ak vs t.n)).length=t.args.length:=by rw [kU,V.ar]
 obtain ⟨nms,hnms⟩:∃ l,l=nmsF (ak vs t.n):=⟨_,rfl⟩
 rw [← hnms] at unf nml ⊢
 try dsimp only
 repeat with_reducible first|(apply zS;intro _ R_;simp only [go_sem,↓reduceIte,f0,f3,f4,f5,f7];subst R_)|(apply rN;subst hbq)|refine rG2 ?_|apply nS|refine rS fun bq hbq=>?_
 refine BN (fun τ H=>τ 0=.ptr x 0∧τ 3=.ptr b 0∧τ 4=.ptr r 0∧τ 7=.ptr q 0∧τ 8=.ptr w 0∧τ 11=.list 1 (encS (ord.map fun i=>nms.getD i ⟨#[]⟩)) (ord.map fun i=>nms.getD i ⟨#[]⟩).length .none∧ax H h4) ?_ fun τ H hI=>?_
 ·repeat with_reducible (refine rB fun cq hcq=>?_;subst hcq)
  refine aT (fun k τ H=>∃ (i sz:Nat) (tok:Tok),k+i=ord.length∧τ 0=.ptr x 0∧τ 3=.ptr b 0∧τ 4=.ptr r 0∧τ 7=.ptr q 0∧τ 8=.ptr w 0∧τ 9=.list 1 (encS nms) nms.length .none∧τ 60=.list 1 (cZ ord) ord.length .none∧τ 61=.int .i64 ord.length∧τ 62=.int .i64 i∧τ 11=.list sz (encS ((ord.take i).map fun i=>nms.getD i ⟨#[]⟩)) i tok∧(i=0∨sz=1)∧Grow 9 h4 H tok∧ax H h4) ord.length ?_ ?_
  ·refine ⟨0,0,.nil,rfl,?_⟩
   simp only [go_sem,↓reduceIte,f0,f3,f4,f5,f7]
   exact ⟨rfl,.inl trivial,.inl (.inr rfl),ax.refl _⟩
  intro cc hc k τ H hI
  clear f0 f3 f4 f5 f7
  obtain ⟨i,sz,tok,hk,f0,f3,f4,f7,f8,f9,f60,f61,f62,f11,hsz,hg,hl⟩:=hI
  subst hc
  by_cases hi:i<ord.length
  ·obtain ⟨j,hj⟩:∃ j,ord[i]?=some j:=⟨_,List.getElem?_eq_getElem hi⟩
   have hjm:=hom j (List.mem_of_getElem? hj)
   have d1:(List.drop i (cZ ord)).head?=some (.int .i64 (j:Int)):=by rw [List.head?_drop,List.getElem?_map,hj];rfl
   have d2:(List.drop j (encS nms)).head?=some (.str (nms.getD j ⟨#[]⟩)):=by rw [List.head?_drop,List.getElem?_map,o8 ⟨#[]⟩ (by omega)];rfl
   have hjn:j<nms.length:=by omega
   repeat with_reducible first|((first|apply zS|apply zC);intro _ R_;simp only [go_sem,↓reduceIte,f0,f3,f4,f7,f8,f9,f60,f61,f62,f11,hi,d1,d2,hjn,lC];subst R_)|(apply rN;subst hbq)|refine rG2 ?_|(refine rB fun cq hcq=>?_;subst hcq)|apply nS|refine rS fun bq hbq=>?_|apply rK
   refine aZ ?_
   simp only [go_sem,↓reduceIte]
   intro w2 hw2
   obtain ⟨h5,ea,hg5,hl5,keep⟩:=iK qB qB sz_9 by_9 ze_9 ⟨rfl,by decide⟩ hl hw2 (sz1:=sz) (n1:=i) (c1:=encS ((ord.take i).map fun i=>nms.getD i ⟨#[]⟩)) (c2:=[.str (nms.getD j ⟨#[]⟩)]) (n2:=1) (t2:=.full) hg hsz (sz2:=1) rfl (by decide) (by omega)
   have ht:encS ((ord.take (i+1)).map fun i=>nms.getD i ⟨#[]⟩)=encS ((ord.take i).map fun i=>nms.getD i ⟨#[]⟩)++[.str (nms.getD j ⟨#[]⟩)]:=by rw [List.take_add_one,hj,List.map_append,encS,List.map_append];rfl
   simp only [ea,go_sem,↓reduceIte]
   repeat with_reducible first|(apply zS;intro _ R_;simp only [go_sem,↓reduceIte,f0,f3,f4,f7,f8,f9,f60,f61,f62,bz ((i:Int)+1) (by omega)];subst R_)|(apply rN;subst hbq)|refine rG2 ?_|apply nS|apply rE
   refine aL (m:=k - 1) (by omega) ⟨i+1,1,.id w2,by omega,?_⟩
   simp only [go_sem,↓reduceIte,f0,f3,f4,f7,f8,f9,f60,f61,ht]
   exact ⟨rfl,.inr trivial,hg5,hl5⟩
  ·repeat with_reducible first|((first|apply zS|apply zC);intro _ R_;simp only [go_sem,↓reduceIte,f0,f3,f4,f7,f8,f9,f60,f61,f62,f11,hi];subst R_)|(apply rN;subst hbq)|refine rG2 ?_|(apply x1;clear hbq bq)|apply nS|refine rS fun bq hbq=>?_|apply rXx|apply x3|apply x4
   have hie:i=ord.length:=by omega
   subst hie
   refine aD ⟨pick [0,3,4,7,8] 11 (.list 1 (encS (ord.map fun i=>nms.getD i ⟨#[]⟩)) (ord.map fun i=>nms.getD i ⟨#[]⟩).length .none) _,H,K9 _ ?_ (ax.refl _),?_⟩
   ·simp only [go_sem,↓reduceIte,f11,List.take_length,List.length_map]
    rcases hsz with e|e
    ·rw [List.eq_nil_of_length_eq_zero e]
     exact LeAV.nil _ _ _
    ·subst e;exact LeAV.list _ _ _ _
   ·simp only [go_sem,↓reduceIte,pick,f0,f3,f4,f7,f8]
    exact hl
 clear f0 f3 f4 f5 f7
 obtain ⟨f0,f3,f4,f7,f8,f11,hl5⟩:=hI
 subst hbq
 have B5:=B4.more hl5
 have mw5:=hl5 _ _ mw
 have mb5:=hl5 _ _ mb4
 have mr5:=hl5 _ _ mr4
 have mq5:=hl5 _ _ mq4
 clear B4 mw mb4 mr4 mq4 hl5
 obtain ⟨outs,hou⟩:∃ l,l=ord.map fun i=>nms.getD i ⟨#[]⟩:=⟨_,rfl⟩
 rw [← hou] at f11 unf
 have oul:outs.length=t.args.length:=by rw [hou,List.length_map,hol]
 have hx:=B5.hx
 have hm:=B5.hm
 obtain ⟨ar,har⟩:∃ a,a=bK outs (bU ty):=⟨_,rfl⟩
 rw [← har] at unf
 have bx:=dW mb5 hx (by decide)
 have rx:=dW mr5 hx (by decide)
 have qx:=dW mq5 hx (by decide)
 have b6:pars+(s.tys.length:Int)<60:=by simp at c6;omega
 repeat with_reducible refine ah fun bq hbq=>?_
 refine dB (fun τ H=>∃ tp,τ 0=.ptr x 0∧τ 3=.ptr b 0∧τ 4=.ptr r 0∧τ 7=.ptr q 0∧NB x m (.sl tp 0 (s.tys++[ar]).length) raw c vs pars ⟨s.nms,s.tys++[ar]⟩ h0 H∧H b=some (.cells (ay t) 27)∧H r=some (.cells [.int .i64 0,.list 0 [] 0 .nil] 167)∧H q=some (.cells [.int .i64 par,.list 1 (cZ ord) ord.length .none] 167)) ?_ fun τ H hI=>?_
 ·rcases B5.tys with ⟨et,rfl⟩|⟨tp,rfl,mt,nt⟩
  ·repeat with_reducible refine ah fun bq hbq=>?_
   refine bA (.take 0 (.take 1 (.take 2 (.take 3 (.take 4 (.take 5 (.take 8 (.take 9 (.one 6 [3] (.one 7 [3] (.one 10 [] (.take 11 (.take 13 (.take 14 (.two 12 [] (.one 15 [] (.done)) 15 [] (.one 12 [] (.done))))))))))))))))) (by kernel_rfl) (by simp only [aF,gtOf,aA];exact rfl) ?_
   repeat ((first|(with_reducible apply iT;refine sT rfl ?_)|(with_reducible apply iO;refine sO rfl ?_));intro _ _ _ C_ R_ U_;simp only [go_sem,↓reduceIte,f0,f3,f4,f7,f8,f11,hx,mw5,qj];subst C_ R_ U_)
   refine si ty _ _ ?_
   try dsimp only
   repeat ((first|with_reducible apply sA|(with_reducible apply iO;refine sO rfl ?_));intro _ _ _ C_ R_ U_;simp only [go_sem,↓reduceIte,f0,f3,f4,f7,f8,f11,hx,mw5,qj];subst C_ R_ U_)
   refine xA outs 1 (.inr rfl) (by omega) _ _ _ ?_
   rw [← har]
   try dsimp only
   repeat ((first|with_reducible apply sA|(with_reducible apply i0;refine s0 rfl ?_));intro _ _ _ C_ R_ U_;simp only [go_sem,↓reduceIte,f0,f3,f4,f7,f8,f11,hx,mw5,qj];subst C_ R_ U_)
   refine dP ?_
   simp only [go_sem,↓reduceIte,fG]
   intro w2 nw2
   rw [oP wE wE Du Oc zI ⟨rfl,by decide⟩ (.inr rfl) (.inl rfl) rfl (by decide) (by decide)]
   simp only [go_sem,↓reduceIte]
   have ex:=aj nw2 hx
   have bw:=aj nw2 mb5
   have rw':=aj nw2 mr5
   have qw:=aj nw2 mq5
   simp only [go_sem,↓reduceIte,hx,ex,ex.symm,Nat.zero_lt_one,Nat.zero_mul]
   refine ⟨?_,?_⟩
   all_goals
    refine aD ⟨w2,?_⟩
    simp only [go_sem,↓reduceIte,f0,f3,f4,f7]
    refine ⟨B5.put b6 nw2 B5.x0 (lQ hx hm) (fun k k1 k2 k3=>?_) ?_ ?_,?_⟩
    ·simp only [upd,k1,k2,k3,if_false]
    ·simp [upd,ex,et]
    ·simp [upd,ex,ex.symm,et,iU,pg]
    ·simp [upd,bx,rx,qx,bw,rw',qw,mb5,mr5,mq5]
  ·repeat with_reducible refine ah fun bq hbq=>?_
   refine bA (.take 0 (.take 1 (.take 2 (.take 3 (.take 4 (.take 5 (.take 8 (.take 9 (.one 6 [3] (.one 7 [3] (.one 10 [] (.take 11 (.take 13 (.take 14 (.two 12 [] (.one 15 [] (.done)) 15 [] (.one 12 [] (.done))))))))))))))))) (by kernel_rfl) (by simp only [aF,gtOf,aA];exact rfl) ?_
   repeat ((first|(with_reducible apply iT;refine sT rfl ?_)|(with_reducible apply iO;refine sO rfl ?_));intro _ _ _ C_ R_ U_;simp only [go_sem,↓reduceIte,f0,f3,f4,f7,f8,f11,hx,mw5,qj];subst C_ R_ U_)
   refine si ty _ _ ?_
   try dsimp only
   repeat ((first|with_reducible apply sA|(with_reducible apply iO;refine sO rfl ?_));intro _ _ _ C_ R_ U_;simp only [go_sem,↓reduceIte,f0,f3,f4,f7,f8,f11,hx,mw5,qj];subst C_ R_ U_)
   refine xA outs 1 (.inr rfl) (by omega) _ _ _ ?_
   rw [← har]
   try dsimp only
   repeat ((first|with_reducible apply sA|(with_reducible apply i0;refine s0 rfl ?_));intro _ _ _ C_ R_ U_;simp only [go_sem,↓reduceIte,f0,f3,f4,f7,f8,f11,hx,mw5,qj];subst C_ R_ U_)
   refine dP ?_
   simp only [go_sem,↓reduceIte,fG]
   intro w2 nw2
   rw [sN wE wE Du Oc zI ⟨rfl,by decide⟩ mt (iR _) rfl (by decide) (by omega)]
   simp only [go_sem,↓reduceIte]
   have ex:=aj nw2 hx
   have bw:=aj nw2 mb5
   have rw':=aj nw2 mr5
   have qw:=aj nw2 mq5
   have xt:=dW hx mt (by decide)
   have bt:=dW mb5 mt (by decide)
   have rt:=dW mr5 mt (by decide)
   have qt:=dW mq5 mt (by decide)
   have l1:=Nat.lt_succ_self s.tys.length
   have l2:s.tys.length * 2+2≤(dE s.tys++[AV.str ⟨#[]⟩,AV.list 0 [] 0 .nil]).length:=by rw [List.length_append,iR];exact Nat.le_refl _
   have et:List.take (s.tys.length * 2) (dE s.tys++[AV.str ⟨#[]⟩,AV.list 0 [] 0 .nil])++AV.str ar.name::AV.list 2 (dE ar.args) ar.args.length .none::List.drop (s.tys.length * 2+2) (dE s.tys++[AV.str ⟨#[]⟩,AV.list 0 [] 0 .nil])=dE (s.tys++[ar]):=by
    rw [← iR,List.take_left,List.drop_append,List.drop_eq_nil_of_le (by omega)]
    rw [lZ (s.tys++[ar]),List.flatMap_append,← lZ,Nat.add_sub_cancel_left]
    rfl
   simp only [go_sem,↓reduceIte,hx,ex,ex.symm,xt,l1,l2,et]
   refine ⟨?_,?_⟩
   all_goals
    refine aD ⟨w2,?_⟩
    simp only [go_sem,↓reduceIte,f0,f3,f4,f7]
    refine ⟨B5.put b6 nw2 nt (lQ mt hm) (fun k k1 k2 k3=>?_) ?_ ?_,?_⟩
    ·simp only [upd,k1,k2,k3,if_false]
    ·simp [upd,ex,xt,xt.symm,bt,rt,qt,et]
    ·simp [upd,ex,ex.symm,xt,xt.symm,bt,rt,qt,et,iU,pg]
    ·simp [upd,xt,xt.symm,bt,rt,qt,bx,rx,qx,bw,rw',qw,mb5,mr5,mq5]
 clear f0 f3 f4 f7 f8 f11
 obtain ⟨tp,f0,f3,f4,f7,B6,mb6,mr6,mq6⟩:=hI
 subst hbq
 have hx6:=B6.hx
 have hm6:=B6.hm
 obtain ⟨raw',c',hput,hr'⟩:=J8 hm6 B6.rel ⟨par,ord⟩ no
 have mx:=lQ hx6 hm6
 have mb:=lQ mb6 hm6
 have mr:=lQ mr6 hm6
 have mq:=lQ mq6 hm6
 have xr:=dW hx6 mr6 (by decide)
 repeat with_reducible refine ah fun bq hbq=>?_
 refine bA (.take 0 (.take 1 (.take 2 (.take 3 (.take 4 (.take 5 (.take 6 (.one 7 [] (.done))))))))) (by kernel_rfl) (by simp only [aF,gtOf,aA];exact rfl) ?_
 repeat first|(with_reducible first|(apply rN;subst hbq)|refine rG2 ?_|apply nS|apply nD|refine rS fun bq hbq=>?_|apply rR)|((first|with_reducible apply sS|(with_reducible apply iT;refine sT rfl ?_)|(with_reducible apply i0;refine s0 rfl ?_));intro _ _ _ C_ R_ U_;simp only [go_sem,↓reduceIte,f0,f3,f4,f7,hx6,mb6,mq6,hput,mx.symm,mb.symm,mr.symm,mq.symm,mr6,qr.symm,mq6];subst C_ R_ U_)|(with_reducible apply iL;refine rL (by rw [Tryz.results127]) (ax.refl _) ?_;simp only [go_sem,↓reduceIte,aJ,Option.some.injEq,exists_eq_left',f0,f3,f4,f7,hx6,mb6,mq6,hput,mx.symm,mb.symm,mr.symm,mq.symm,mr6,qr.symm,mq6])
 obtain ⟨t0,mt6⟩:h0 tp=none∧H tp=some (.cells (dE (s.tys++[ar])) 60):=by
  rcases B6.tys with ⟨e,_⟩|⟨p,e,hp,hp0⟩
  ·simp at e
  ·injection e with e;subst e;exact ⟨hp0,hp⟩
 refine hq _ _ _ unf ⟨m,.sl tp 0 (s.tys++[ar]).length,raw',c',?_⟩
 refine ⟨?_,?_,hr',?_,?_,B6.p0,B6.bd,B6.x0,B6.m0,?_⟩
 ·simp [upd,xr,mx.symm,hx6]
 ·simp [upd,mr]
 ·refine .inr ⟨tp,rfl,?_,?_⟩
  ·simp [upd,dW mt6 mr6 (by decide),(lQ mt6 hm6).symm,mt6]
  ·exact t0
 ·intro n v hv
  rw [ji] at hv
  split at hv
  ·rename_i e
   have e:n=t.n:=by simpa using e
   injection hv with hv
   subst hv;subst e
   rw [V.ar];exact ⟨hol,hom⟩
  ·exact B6.ok n v hv
 ·exact eO (eO B6.less B6.m0 _) r0 _
theorem NObj.both {x:Nat} {vs:List Va} {pars:Int} {s:NS} {A H:ai} (S:NObj x vs pars s A H) {f:Nat} (hf:(∃ o,A f=some o)∨H f=Option.none) (o:Option AObj):NObj x vs pars s (upd A f o) (upd H f o):=by
 obtain ⟨m,tv,raw,c,B⟩:=S
 have key:∀ j y,A j=Option.none→H j=some y→j≠f:=fun j y ha hh e=>by
  subst e
  rcases hf with ⟨o,h⟩|h
  ·rw [h] at ha;cases ha
  ·rw [h] at hh;cases hh
 have xf:=key _ _ B.x0 B.hx
 have mf:=key _ _ B.m0 B.hm
 refine ⟨m,tv,raw,c,(ae _ _ xf).trans B.hx,(ae _ _ mf).trans B.hm,B.rel,?_,B.ok,B.p0,B.bd,(ae _ _ xf).trans B.x0,(ae _ _ mf).trans B.m0,fun j y hj=>?_⟩
 ·rcases B.tys with h|⟨p,e,hp,hp0⟩
  ·exact .inl h
  ·have pf:=key _ _ hp0 hp
   exact .inr ⟨p,e,(ae _ _ pf).trans hp,(ae _ _ pf).trans hp0⟩
 ·by_cases e:j=f
  ·subst e;rw [upd_same] at hj ⊢;exact hj
  ·rw [ae _ _ e] at hj ⊢;exact B.less _ _ hj
theorem NObj.lessOf {x:Nat} {vs:List Va} {pars:Int} {s:NS} {A H:ai} (S:NObj x vs pars s A H):ax H A:=by
 obtain ⟨m,tv,raw,c,B⟩:=S
 exact B.less
theorem NObj.low {x:Nat} {vs:List Va} {pars:Int} {s:NS} {A h0 H:ai} (S:NObj x vs pars s A H) (hl:ax A h0):NObj x vs pars s h0 H:=by
 obtain ⟨m,tv,raw,c,B⟩:=S
 refine ⟨m,tv,raw,c,B.hx,B.hm,B.rel,?_,B.ok,B.p0,B.bd,hl.none B.x0,hl.none B.m0,B.less.trans hl⟩
 rcases B.tys with h|⟨p,e,hp,hp0⟩
 ·exact .inl h
 ·exact .inr ⟨p,e,hp,hl.none hp0⟩
theorem NObj.loc {x:Nat} {vs:List Va} {pars:Int} {s:NS} {h0 h:ai} (S:NObj x vs pars s h0 h) {b:Nat} (hb:h b=Option.none) (o:AObj):∃ A,NObj x vs pars s A (upd h b (some o))∧A b=some o∧ax A h0∧h0 b=Option.none:=by
 have h0b:=S.lessOf.none hb
 exact ⟨upd h0 b (some o),S.both (.inr hb) _,upd_same _ _ _,ax.one h0b,h0b⟩
theorem NObj.wr {x:Nat} {vs:List Va} {pars:Int} {s:NS} {h0 A h:ai} (S:NObj x vs pars s A h) (hA:ax A h0) {b:Nat} {o:AObj} (hb:A b=some o) (hb0:h0 b=Option.none) (o':AObj):∃ A',NObj x vs pars s A' (upd h b (some o'))∧A' b=some o'∧ax A' h0∧∀ j y,j≠b→A j=some y→A' j=some y :=
 ⟨upd A b (some o'),S.both (.inl ⟨_,hb⟩) _,upd_same _ _ _,hA.new hb0,fun j y hj hy=>(ae _ _ hj).trans hy⟩
theorem Jo {x:Nat} {vs:List Va} {pars:Int} {s:NS} {h0 A H:ai} (S:NObj x vs pars s A H) {tS tX E:TypeId} {z b:Nat} {zv:Value} (hS:dm Tryz.prog tS=some E) (hX:dm Tryz.prog tX=some E) (hz:tsz Tryz.prog E=some z) (hb:bv Tryz.prog E=some b) (hv:bI Tryz.prog E=some zv) (hc:zv.cells.size=z∧0<b)
  {p:Nat} (hA:ax A h0) (hp:H p=Option.none) {sz1 sz2 n1 n2:Nat} {c1 c2:List AV} {t t2:Tok} (hg:Grow E h0 A t) (h1:n1=0∨sz1=z) (h2:sz2=z) (hn:n2≠0) (hm:(n1+n2) * b≤70368744177664) :
  ∃ A' H',dX Tryz.prog tS tX (.list sz1 c1 n1 t) (.list sz2 c2 n2 t2) H p=some (.list z (c1++c2) (n1+n2) (.id p),H')∧NObj x vs pars s A' H'∧Grow E h0 A' (.id p)∧ax A' h0∧∀ j o,A j=some o→t≠.id j→A' j=some o:=by
 have hpA:=S.lessOf.none hp
 have hp0:=hA.none hpA
 rcases hg with (rfl|rfl)|⟨f,rfl,hf,hf0⟩
 ·refine ⟨upd A p (some (.front E)),upd H p (some (.front E)),?_,S.both (.inr hp) _,.inr ⟨p,rfl,upd_same _ _ _,hp0⟩,hA.new hp0,fun j o hj _=>?_⟩
  ·simp only [dX,hS,hX,hz,hb,hv]
   rw [if_pos ⟨h1,.inr h2,hc.2,hm,hc.1⟩,if_neg hn]
  ·rw [ae _ _ (aj hpA hj)];exact hj
 ·refine ⟨upd A p (some (.front E)),upd H p (some (.front E)),?_,S.both (.inr hp) _,.inr ⟨p,rfl,upd_same _ _ _,hp0⟩,hA.new hp0,fun j o hj _=>?_⟩
  ·simp only [dX,hS,hX,hz,hb,hv]
   rw [if_pos ⟨h1,.inr h2,hc.2,hm,hc.1⟩,if_neg hn]
  ·rw [ae _ _ (aj hpA hj)];exact hj
 ·have hfH:=S.lessOf _ _ hf
  have hpf:p≠f:=fun e=>by rw [e,hfH] at hp;cases hp
  have S1:=S.both (.inl ⟨_,hf⟩) Option.none
  refine ⟨upd (upd A f Option.none) p (some (.front E)),upd (upd H f Option.none) p (some (.front E)),?_,S1.both (.inr (by rw [ae _ _ hpf];exact hp)) _,.inr ⟨p,rfl,upd_same _ _ _,hp0⟩,(eO hA hf0 _).new hp0,fun j o hj hjf=>?_⟩
  ·simp only [dX,hS,hX,hz,hb,hv]
   rw [if_pos ⟨h1,.inr h2,hc.2,hm,hc.1⟩,if_neg hn]
   simp only [hfH]
   rw [if_pos ⟨trivial,hn⟩]
  ·have e1:j≠f:=fun e=>hjf (by rw [e])
   rw [ae _ _ (aj hpA hj),ae _ _ e1];exact hj
theorem yz {H:ai} {m:Nat} {es:List (Int × Nm)} {raw:List (AV × AV × Nat)} {c:Nat} (hm:H m=some (.map raw c)) (hr:fJ nmAV es raw) {k:Int} {w:Nm} (hg:mget k es=some w):iM Tryz.prog 126 (.map m) (.int .i64 k) true H=some (.tuple [nmAV w,.bool true]):=by
 obtain ⟨j,hj,_⟩:=tC (f:=nmAV) es raw 0 hr hg
 simp only [iM,Iw,hm,Hq,plainKey,tk_3,if_true,hj]
theorem yA {H:ai} {m:Nat} {es:List (Int × Nm)} {raw:List (AV × AV × Nat)} {c:Nat} (hm:H m=some (.map raw c)) (hr:fJ nmAV es raw) {k:Int} (hg:mget k es=none):iM Tryz.prog 126 (.map m) (.int .i64 k) true H=some (.tuple [.agg [.int .i64 0,.list 0 [] 0 .nil],.bool false]):=by
 have hj:=lg (f:=nmAV) es raw 0 hr hg
 simp only [iM,Iw,hm,Hq,plainKey,tk_3,if_true,hj]
 rfl
def qz (vs:List Va) (pars:Int) (t:Term) (s:NS):Option (Nm × NS):=match mget t.n s.nms with
 |some v=>some (v,s)
 |none=>Ei vs pars t s
def mapN (f:NS→Term→Option (Term × NS)):NS→List Term→Option (List Term × NS)
 |s,[]=>some ([],s)
 |s,t::ts=>(f s t).bind fun p=>(mapN f p.2 ts).map fun q=>(p.1::q.1,q.2)
def named (v:Nm) (t:Term):Term:=⟨3,v.par,t.name,v.ord.map fun i=>t.args.getD i aG⟩
def fH (vs:List Va) (pars:Int):Nat→NS→Term→Option (Term × NS)
 |0,_,_=>none
 |f+1,s,t=>if t.kind==4 then (qz vs pars t s).map fun p=>(named p.1 t,p.2) else (mapN (fH vs pars f) s t.args).map fun p=>(⟨t.kind,t.n,t.name,p.1⟩,p.2)
theorem MM {vs:List Va} {pars:Int} {t:Term} {D:Int} (V:iZ vs t D) {s:NS} {v:Nm} {s':NS} (ok:∀ n v,mget n s.nms=some v→v.ord.length=aX (ak vs n).type∧∀ y ∈ v.ord,y<aX (ak vs n).type) (h:qz vs pars t s=some (v,s')):v.ord.length=t.args.length∧∀ y ∈ v.ord,y<t.args.length:=by
 unfold qz at h
 cases hg:mget t.n s.nms with
 |some w =>
  rw [hg] at h
  injection h with h;injection h with h1 h2
  subst h1
  rw [← V.ar];exact ok _ _ hg
 |none =>
  rw [hg] at h
  dsimp only at h
  unfold Ei at h
  split at h
  ·cases h
  ·injection h with h;injection h with h1 h2
   subst h1
   exact vY t
theorem Lx {x:Nat} {vs:List Va} {pars:Int} (hvs:vs.length≤2000):∀ (f:Nat) (t:Term) (s:NS) (D:Int) (h0 h:ai) (Q:AOut→ai→Prop),NObj x vs pars s h0 h→t.size≤f→0≤D→D+t.size≤1000000→aK vs t D=true→(∀ r s' h2,fH vs pars f s t=some (r,s')→NObj x vs pars s' h0 h2→Q (.ret (enc r)) h2)→(∀ h2,fH vs pars f s t=none→ax h2 h0→Q (.panic (.iface 152 (.agg [.int .i64 2]))) h2)→az Tryz.prog 81 [.ptr x 0,enc t] h Q:=by
 intro f
 induction f with
 |zero=>intro t s D h0 h Q _ ht;obtain ⟨a,b,c,l⟩:=t;rw [Term.size] at ht;omega
 |succ f ih =>
  intro t s D h0 h Q S ht hD0 hD1 hf hq hp
  rw [fH] at hq hp
  have h8:=lU hf
  refine eN Tryz.func81 ?_
  repeat with_reducible first|(apply zS;intro _ R_;simp only [go_sem,↓reduceIte];subst R_)|refine rG2 ?_|refine rS fun bq hbq=>?_
  intro p3 hp3
  repeat with_reducible (apply zS;intro _ R_;simp only [go_sem,↓reduceIte];subst R_)
  intro p4 hp4
  have n34:=(aQ hp4).1.symm
  obtain ⟨A,S,b3,hA,h03⟩:=S.loc hp3 (.cells (ay t) 27)
  obtain ⟨A1,S,b4,hA1,hA4⟩:=S.loc hp4 (.cells zT 27)
  have b3:=hA1 _ _ b3
  have h04:=hA.none hA4
  have hA:=hA1.trans hA
  clear hA1 hA4 hp3 hp4
  simp only [go_sem,↓reduceIte]
  generalize upd (upd h p3 (some (AObj.cells (ay t) 27))) p4 (some (AObj.cells zT 27))=H at *
  have s3:=S.lessOf _ _ b3
  repeat with_reducible first|(apply zS;intro _ R_;simp only [go_sem,↓reduceIte,s3];subst R_)|(apply rN;subst hbq)|refine rG2 ?_|refine rS fun bq hbq=>?_
  intro p5 hp5
  have n35:=aj hp5 s3
  have n45:=aj hp5 (S.lessOf _ _ b4)
  obtain ⟨A2,S,b5,hA2,hA5⟩:=S.loc hp5 (.cells (ay t) 27)
  have b3:=hA2 _ _ b3
  have b4:=hA2 _ _ b4
  have h05:=hA.none hA5
  have hA:=hA2.trans hA
  clear hA2 hA5 hp5 s3
  simp only [go_sem,↓reduceIte]
  generalize upd H p5 (some (AObj.cells (ay t) 27))=H2 at *
  have s5:=S.lessOf _ _ b5
  apply rN;subst hbq
  repeat with_reducible refine ah fun bq hbq=>?_
  repeat with_reducible refine ah fun bq hbq=>?_
  refine rG2 ?_
  simp only [go_sem,↓reduceIte,s5]
  obtain ⟨A3,S,b5,hA3,hk3⟩:=S.wr hA b5 h05 (.cells (agT t (.list 0 [] 0 .nil)) 27)
  have b3:=hk3 _ _ n35 b3
  have b4:=hk3 _ _ n45 b4
  clear hA hk3 s5
  generalize upd H2 p5 (some (AObj.cells (agT t (.list 0 [] 0 .nil)) 27))=H3 at *
  have s3:=S.lessOf _ _ b3
  have s4:=S.lessOf _ _ b4
  have s5:=S.lessOf _ _ b5
  cases k4:(t.kind==4)
  case true =>
   rw [k4,if_pos rfl] at hq hp
   have V:=dG hf k4
   have S0ok:∀ n v,mget n s.nms=some v→v.ord.length=aX (ak vs n).type∧∀ y ∈ v.ord,y<aX (ak vs n).type:=by
    obtain ⟨m,tv,raw,c,B⟩:=S
    exact B.ok
   repeat with_reducible first|((first|apply zS|apply zC);intro _ R_;simp only [go_sem,↓reduceIte,s3,k4];subst R_)|(apply rN;subst hbq)|refine rG2 ?_|apply nS|refine rS fun bq hbq=>?_
   refine dB (fun τ H=>∃ p6 A l,NObj x vs pars s A H∧ax A h0∧A p3=some (.cells (ay t) 27)∧A p4=some (.cells zT 27)∧A p5=some (.cells (agT t (.list 0 [] 0 .nil)) 27)∧A p6=some (.cells l 167)∧h0 p6=none∧τ 0=.ptr x 0∧τ 3=.ptr p3 0∧τ 4=.ptr p4 0∧τ 5=.ptr p5 0∧τ 6=.ptr p6 0∧τ 7=.bool (mget t.n s.nms).isSome∧(∀ v,mget t.n s.nms=some v→l=[.int .i64 v.par,.list 1 (cZ v.ord) v.ord.length .none])∧l.length=2) ?_ fun τ h' hI=>?_
   ·have S0:=S
    obtain ⟨m,tv,raw,c,B⟩:=S
    have hx:=B.hx
    have hm:=B.hm
    repeat with_reducible refine ah fun bq hbq=>?_
    refine jf (.take 0 (.take 1 (.take 2 (.take 3 (.take 4 (.take 5 (.take 6 (.take 7 (.take 8 (.take 9 (.one 10 [] (.one 11 [] (.take 12 (.done)))))))))))))) [0,1,2,3,4,5,6,7,8,9,10,11,12] (by kernel_rfl) (by kernel_rfl) (by simp only [aF,gtOf,aA];exact rfl) ?_
    cases hg:mget t.n s.nms
    case some v =>
     have hlk:=yz hm B.rel hg
     repeat ((first|(with_reducible apply iT;refine sT rfl ?_)|(with_reducible apply i0;refine s0 rfl ?_));intro _ _ _ C_ R_ U_;simp only [go_sem,↓reduceIte,s3,hx,hlk];subst C_ R_ U_)
     intro p6 hp6
     have n63:=aj hp6 s3
     have n6x:=aj hp6 hx
     have n6m:=aj hp6 hm
     have hlk2:=yz (H:=upd H3 p6 (some (.cells [.int .i64 0,.list 0 [] 0 .nil] 167))) ((ae _ _ n6m).trans hm) B.rel hg
     repeat first|with_reducible apply nD|((first|(with_reducible apply iT;refine sT rfl ?_)|(with_reducible apply i0;refine s0 rfl ?_));intro _ _ _ C_ R_ U_;simp only [go_sem,↓reduceIte,s3,hx,hlk2,n63,n6x];subst C_ R_ U_)
     obtain ⟨A4,S,b6,hA4,h06⟩:=S0.loc hp6 (.cells [.int .i64 v.par,.list 1 (cZ v.ord) v.ord.length .none] 167)
     refine aD ⟨p6,A4,_,S,hA4.trans hA3,hA4 _ _ b3,hA4 _ _ b4,hA4 _ _ b5,b6,hA3.none h06,?_⟩
     simp only [go_sem,↓reduceIte]
     exact ⟨rfl,fun w hw=>by injection hw with hw;subst hw;rfl⟩
    case none =>
     have hlk:=yA hm B.rel hg
     repeat ((first|(with_reducible apply iT;refine sT rfl ?_)|(with_reducible apply i0;refine s0 rfl ?_));intro _ _ _ C_ R_ U_;simp only [go_sem,↓reduceIte,s3,hx,hlk];subst C_ R_ U_)
     intro p6 hp6
     have n63:=aj hp6 s3
     have n6x:=aj hp6 hx
     have n6m:=aj hp6 hm
     have hlk2:=yA (H:=upd H3 p6 (some (.cells [.int .i64 0,.list 0 [] 0 .nil] 167))) ((ae _ _ n6m).trans hm) B.rel hg
     repeat first|with_reducible apply nD|((first|(with_reducible apply iT;refine sT rfl ?_)|(with_reducible apply i0;refine s0 rfl ?_));intro _ _ _ C_ R_ U_;simp only [go_sem,↓reduceIte,s3,hx,hlk2,n63,n6x];subst C_ R_ U_)
     obtain ⟨A4,S,b6,hA4,h06⟩:=S0.loc hp6 (.cells [.int .i64 0,.list 0 [] 0 .nil] 167)
     refine aD ⟨p6,A4,_,S,hA4.trans hA3,hA4 _ _ b3,hA4 _ _ b4,hA4 _ _ b5,b6,hA3.none h06,?_⟩
     simp only [go_sem,↓reduceIte]
     rfl
   clear S hA3 b3 b4 b5 s3 s4 s5
   obtain ⟨p6,A,l,S,hA,b3,b4,b5,b6,h06,f0,f3,f4,f5,f6,f7,hl,hl2⟩:=hI
   subst hbq
   have s3:=S.lessOf _ _ b3
   repeat with_reducible refine ah fun bq hbq=>?_
   repeat with_reducible refine ah fun bq hbq=>?_
   refine rG2 ?_
   simp only [go_sem,↓reduceIte,f7]
   apply rN;subst hbq
   repeat with_reducible refine ah fun bq hbq=>?_
   refine dB (fun τ H=>∃ v s' A,qz vs pars t s=some (v,s')∧NObj x vs pars s' A H∧ax A h0∧A p3=some (.cells (ay t) 27)∧A p4=some (.cells zT 27)∧A p5=some (.cells (agT t (.list 0 [] 0 .nil)) 27)∧A p6=some (.cells [.int .i64 v.par,.list 1 (cZ v.ord) v.ord.length .none] 167)∧τ 0=.ptr x 0∧τ 3=.ptr p3 0∧τ 4=.ptr p4 0∧τ 5=.ptr p5 0∧τ 6=.ptr p6 0) ?_ fun τ h' hI=>?_
   ·cases hg:mget t.n s.nms with
    |some v =>
     have hn:qz vs pars t s=some (v,s):=by unfold qz;rw [hg]
     have hlv:=hl v hg
     subst hlv
     rw [hg] at f7
     repeat with_reducible first|(apply zC;intro _ R_;simp only [go_sem,↓reduceIte,f0,f3,f4,f5,f6,f7,Option.isSome,Bool.not_true];subst R_)|apply rK
     refine aD ⟨v,s,A,hn,S,hA,b3,b4,b5,b6,?_⟩
     simp only [go_sem,↓reduceIte,f0,f3,f4,f5,f6]
    |none =>
     have hn:qz vs pars t s=Ei vs pars t s:=by unfold qz;rw [hg]
     rw [hg] at f7
     repeat with_reducible first|((first|apply zS|apply zC);intro _ R_;simp only [go_sem,↓reduceIte,f0,f3,f4,f5,f6,f7,s3,Option.isSome,Bool.not_false];subst R_)|refine rG2 ?_
     refine Tj S t (D:=D) (by omega) V hvs hg _ (fun v s' H2 hm S=>?_) (fun H2 hm hl2=>?_)
     ·have s6:=S.lessOf _ _ b6
      obtain ⟨a1,a2,rfl⟩:∃ a1 a2,l=[a1,a2]:=by
       match l,hl2 with
       |[a1,a2],_=>exact ⟨a1,a2,rfl⟩
      try dsimp only
      repeat with_reducible first|(apply zS;intro _ R_;simp only [go_sem,↓reduceIte,f0,f3,f4,f5,f6,s6];subst R_)|apply nS
      have c3:=dW b3 b6 (by decide)
      have c4:=dW b4 b6 (by decide)
      have c5:=dW b5 b6 (by decide)
      obtain ⟨A4,S,b6,hA4,hk⟩:=S.wr hA b6 h06 (.cells [.int .i64 v.par,.list 1 (cZ v.ord) v.ord.length .none] 167)
      refine aD ⟨v,s',A4,by rw [hn];exact hm,S,hA4,hk _ _ c3 b3,hk _ _ c4 b4,hk _ _ c5 b5,b6,?_⟩
      simp only [go_sem,↓reduceIte,f0,f3,f4,f5,f6]
     ·dsimp only
      repeat with_reducible first|refine p5 ?_|refine p1 ?_|refine p2 ?_|refine p3 ?_|refine p4 ?_
      exact pL (ax.refl _) (hp H2 (by rw [hn,hm];rfl) (hl2.trans hA))
   clear S hA b3 b4 b5 b6 s3 f0 f3 f4 f5 f6 f7 hl
   obtain ⟨v,s',A,hn,S,hA,b3,b4,b5,b6,f0,f3,f4,f5,f6⟩:=hI
   subst hbq
   rw [hn] at hq
   obtain ⟨vo1,vo2⟩:v.ord.length=t.args.length∧∀ y ∈ v.ord,y<t.args.length:=MM V S0ok hn
   have s5:=S.lessOf _ _ b5
   have s6:=S.lessOf _ _ b6
   have n65:=dW b6 b5 (by decide)
   have n35:=n35
   repeat with_reducible refine ah fun bq hbq=>?_
   refine bA (.take 0 (.take 1 (.take 2 (.one 3 [1] (.take 4 (.one 5 [] (.done))))))) (by kernel_rfl) (by simp only [aF,gtOf,aA];exact rfl) ?_
   repeat first|(with_reducible first|(apply rN;subst hbq)|refine rG2 ?_|(refine rB fun cq hcq=>?_;subst hcq)|apply nS|apply nD|refine rS fun bq hbq=>?_)|((first|with_reducible apply sS|(with_reducible apply iT;refine sT rfl ?_)|(with_reducible apply i0;refine s0 rfl ?_)|(with_reducible apply iO;refine sO rfl ?_));intro _ _ _ C_ R_ U_;simp only [go_sem,↓reduceIte,f0,f3,f4,f5,f6,s5,s6,n65];subst C_ R_ U_)
   obtain ⟨A5,S,b5,hA5,hk⟩:=S.wr hA b5 h05 (.cells (agT ⟨3,v.par,t.name,[]⟩ (.list 0 [] 0 .nil)) 27)
   have b3:=hk _ _ n35 b3
   have b4:=hk _ _ n45 b4
   have b6:=hk _ _ n65 b6
   refine aT (fun k τ H=>∃ (i z:Nat) (tk:Tok) (A:ai),k+i=v.ord.length∧NObj x vs pars s' A H∧ax A h0∧A p3=some (.cells (ay t) 27)∧A p4=some (.cells zT 27)∧A p5=some (.cells (agT ⟨3,v.par,t.name,[]⟩ (.list z (encs ((v.ord.take i).map fun j=>t.args.getD j aG)) i tk)) 27)∧τ 3=.ptr p3 0∧τ 4=.ptr p4 0∧τ 5=.ptr p5 0∧τ 37=.list 1 (cZ v.ord) v.ord.length .none∧τ 38=.int .i64 v.ord.length∧τ 39=.int .i64 i∧(i=0∨z=4)∧Grow 27 h0 A tk) v.ord.length ?_ ?_
   ·refine ⟨0,0,.nil,A5,rfl,S,hA5,b3,b4,?_,?_⟩
    ·rw [List.take_zero,List.map_nil,bB];exact b5
    ·simp only [go_sem,↓reduceIte,f3,f4,f5]
     exact ⟨rfl,.inl trivial,.inl (.inr rfl)⟩
   intro cc hcc k τ H hI
   clear S hA5 b3 b4 b5 b6 s5 s6 f0 f3 f4 f5 f6 hk
   obtain ⟨i,z,tk,A5,hki,S,hA5,b3,b4,b5,f3,f4,f5,f37,f38,f39,hz,hg⟩:=hI
   subst hcc
   have s3:=S.lessOf _ _ b3
   have s4:=S.lessOf _ _ b4
   have s5:=S.lessOf _ _ b5
   by_cases hi:i<v.ord.length
   ·obtain ⟨j,hj⟩:∃ j,v.ord[i]?=some j:=⟨_,List.getElem?_eq_getElem hi⟩
    have hjm:=vo2 j (List.mem_of_getElem? hj)
    have d1:(List.drop i (cZ v.ord)).head?=some (.int .i64 (j:Int)):=by rw [List.head?_drop,List.getElem?_map,hj];rfl
    obtain ⟨r1,hr1⟩:=dD t.args j (o8 aG hjm)
    repeat with_reducible first|((first|apply zS|apply zC);intro _ R_;simp only [go_sem,↓reduceIte,f3,f4,f5,f37,f38,f39,hi,d1,s3,s5];subst R_)|(apply rN;subst hbq)|refine rG2 ?_|(refine rB fun cq hcq=>?_;subst hcq)|apply nS|refine rS fun bq hbq=>?_|apply rK
    repeat with_reducible refine ah fun bq hbq=>?_
    refine bA (.take 0 (.take 1 (.take 2 (.take 3 (.take 4 (.take 5 (.take 6 (.take 7 (.one 8 [6,3] (.take 9 (.one 10 [] (.done)))))))))))) (by kernel_rfl) (by simp only [aF,gtOf,aA];exact rfl) ?_
    repeat ((first|(with_reducible apply iT;refine sT rfl ?_)|(with_reducible apply iO;refine sO rfl ?_));intro _ _ _ C_ R_ U_;simp only [go_sem,↓reduceIte,f3,f4,f5,f37,f38,f39,hi,d1,s3,s5,hjm,hr1,ic];subst C_ R_ U_)
    refine aZ ?_
    simp only [go_sem,↓reduceIte]
    intro w hw
    obtain ⟨A6,H4,ea,S6,hg4,hA6,hkp⟩:=Jo S ed ed je mD iy ⟨rfl,by decide⟩ hA5 hw (sz1:=z) (n1:=i) (c1:=encs ((v.ord.take i).map fun j=>t.args.getD j aG)) (c2:=ay (t.args.getD j aG)) (n2:=1) (t2:=.full) hg hz (sz2:=4) rfl (by decide) (by omega)
    have b3:=hkp _ _ b3 (aN hg b3)
    have b4:=hkp _ _ b4 (aN hg b4)
    have b5:=hkp _ _ b5 (aN hg b5)
    have s3:=S6.lessOf _ _ b3
    have s5:=S6.lessOf _ _ b5
    simp only [ea,go_sem,↓reduceIte,f3,f5,s3,s5]
    repeat with_reducible first|(apply zS;intro _ R_;simp only [go_sem,↓reduceIte,f3,f4,f5,f37,f38,f39,bz ((i:Int)+1) (by omega)];subst R_)|(apply rN;subst hbq)|refine rG2 ?_|apply nS|apply rE
    obtain ⟨A7,S7,e5,hA7,hk7⟩:=S6.wr hA6 b5 h05 (.cells (agT ⟨3,v.par,t.name,[]⟩ (.list 4 (encs ((v.ord.take i).map fun j=>t.args.getD j aG)++ay (t.args.getD j aG)) (i+1) (.id w))) 27)
    refine aL (m:=k - 1) (by omega) ⟨i+1,4,.id w,A7,by omega,S7,hA7,hk7 _ _ n35 b3,hk7 _ _ n45 b4,?_,?_⟩
    ·rw [List.take_add_one,hj,List.map_append]
     show A7 p5=some (.cells (agT _ (.list 4 (encs (_++[t.args.getD j aG])) (i+1) (.id w))) 27)
     rw [lh];exact e5
    ·simp only [go_sem,↓reduceIte,f3,f4,f5,f37,f38]
     exact ⟨rfl,.inr trivial,hg4.putA b5 hk7⟩
   ·repeat with_reducible first|((first|apply zS|apply zC);intro _ R_;simp only [go_sem,↓reduceIte,f3,f4,f5,f37,f38,f39,hi,s4,s5];subst R_)|(apply rN;subst hbq)|refine rG2 ?_|(apply x1;clear hbq bq)|(apply r1;clear hbq bq)|apply nS|refine rS fun bq hbq=>?_|apply rXx|apply rR|apply x3|apply x4
    obtain ⟨A7,S7,e4,hA7,hk7⟩:=S.wr hA5 b4 h04 (.cells (agT ⟨3,v.par,t.name,[]⟩ (.list z (encs ((v.ord.take i).map fun j=>t.args.getD j aG)) i tk)) 27)
    have hie:i=v.ord.length:=by omega
    subst hie
    refine df (v:=enc (named v t)) (by rw [Tryz.results81]) (ax.refl _) ?_ (hq _ _ _ rfl (S7.low hA7))
    simp only [go_sem,↓reduceIte,f4,aJ,Option.some.injEq,exists_eq_left']
    refine LeAV.agg (.cons (LeAV.refl _) (.cons (LeAV.refl _) (.cons (LeAV.refl _) (.cons ?_ .nil))))
    show LeAV _ (.list 4 (encs (v.ord.map fun j=>t.args.getD j aG)) (v.ord.map fun j=>t.args.getD j aG).length .none)
    rw [List.length_map,List.take_length]
    rcases hz with e|e
    ·rw [List.eq_nil_of_length_eq_zero e,List.map_nil,bB];exact LeAV.nil _ _ _
    ·rw [e];exact LeAV.list _ _ _ _
  case false =>
   rw [k4] at hq hp
   simp only [Bool.false_eq_true,if_false] at hq hp
   have hfa:∀ u ∈ t.args,aK vs u (inner t.kind D)=true:=by
    rw [cO,Bool.and_eq_true] at hf
    exact (bT _ _ _).1 hf.2
   have hin0:=cz (k:=t.kind) hD0
   have hind:inner t.kind D≤D+1:=by unfold inner;split <;> omega
   repeat with_reducible first|((first|apply zS|apply zC);intro _ R_;simp only [go_sem,↓reduceIte,s3,k4];subst R_)|(apply rN;subst hbq)|refine rG2 ?_|(refine rB fun cq hcq=>?_;subst hcq)|apply nS|refine rS fun bq hbq=>?_|apply rK
   refine aT (fun k τ H=>∃ (i z:Nat) (tk:Tok) (s2:NS) (outs:List Term) (A:ai),k+i=t.args.length∧mapN (fH vs pars f) s t.args=(mapN (fH vs pars f) s2 (t.args.drop i)).map (fun q=>(outs++q.1,q.2))∧outs.length=i∧NObj x vs pars s2 A H∧ax A h0∧A p4=some (.cells zT 27)∧A p5=some (.cells (agT t (.list z (encs outs) i tk)) 27)∧τ 0=.ptr x 0∧τ 4=.ptr p4 0∧τ 5=.ptr p5 0∧τ 56=.list 4 (encs t.args) t.args.length .none∧τ 57=.int .i64 t.args.length∧τ 58=.int .i64 i∧(i=0∨z=4)∧Grow 27 h0 A tk) t.args.length ?_ ?_
   ·refine ⟨0,0,.nil,s,[],A3,rfl,?_,rfl,S,hA3,b4,?_,?_⟩
    ·rw [List.drop_zero]
     cases mapN (fH vs pars f) s t.args <;> rfl
    ·rw [bB];exact b5
    ·simp only [go_sem,↓reduceIte]
     exact ⟨rfl,.inl trivial,.inl (.inr rfl)⟩
   intro cc hcc k τ H hI
   clear S hA3 b3 b4 b5 s3 s4 s5
   obtain ⟨i,z,tk,s2,outs,A,hki,hmap,hol,S,hA,b4,b5,f0,f4,f5,f56,f57,f58,hz,hg⟩:=hI
   subst hcc
   have s4:=S.lessOf _ _ b4
   have s5:=S.lessOf _ _ b5
   by_cases hi:i<t.args.length
   ·obtain ⟨y,hy⟩:∃ y,t.args[i]?=some y:=⟨_,List.getElem?_eq_getElem hi⟩
    obtain ⟨r1,hr1⟩:=dD t.args i hy
    have d1:t.args.drop i=y::t.args.drop (i+1):=by
     rw [List.drop_eq_getElem_cons hi]
     rw [List.getElem?_eq_getElem hi] at hy;injection hy with hy;rw [hy]
    rw [d1,mapN] at hmap
    have hfy:=hfa y (List.mem_of_getElem? hy)
    have hsy:=fF t i hy
    repeat with_reducible first|((first|apply zS|apply zC);intro _ R_;simp only [go_sem,↓reduceIte,f0,f4,f5,f56,f57,f58,hi,hr1];subst R_)|(apply rN;subst hbq)|refine rG2 ?_|(refine rB fun cq hcq=>?_;subst hcq)|apply nS|refine rS fun bq hbq=>?_|apply rK
    intro q hq1
    have q4:=aj hq1 s4
    have q5:=aj hq1 s5
    simp only [go_sem,↓reduceIte]
    obtain ⟨A1,S,bq,hA1,_⟩:=S.loc hq1 (.cells (ay y) 27)
    have b4:=hA1 _ _ b4
    have b5:=hA1 _ _ b5
    have hg:=hg.stay (t:=.none) (fun _ _ e=>by cases e) (fun j o hj _=>hA1 j o hj)
    have hA:=hA1.trans hA
    clear hA1
    generalize upd H q (some (.cells (ay y) 27))=H2 at *
    have s5:=S.lessOf _ _ b5
    have sq:=S.lessOf _ _ bq
    apply rN;subst hbq
    repeat with_reducible refine ah fun bq hbq=>?_
    refine bA (.take 0 (.take 1 (.take 2 (.take 3 (.one 4 [1] (.take 5 (.one 6 [] (.take 7 (.one 8 [] (.done)))))))))) (by kernel_rfl) (by simp only [aF,gtOf,aA];exact rfl) ?_
    repeat ((first|(with_reducible apply iT;refine sT rfl ?_)|(with_reducible apply iO;refine sO rfl ?_));intro _ _ _ C_ R_ U_;simp only [go_sem,↓reduceIte,f0,f4,f5,s5,sq];subst C_ R_ U_)
    refine ih y s2 (inner t.kind D) _ _ _ S (by omega) hin0 (by omega) hfy (fun out s3 H3 hr S3=>?_) (fun H3 hr hl3=>?_)
    ·rw [hr] at hmap
     have s5:=S3.lessOf _ _ b5
     have sq:=S3.lessOf _ _ bq
     try dsimp only
     repeat ((first|with_reducible apply sA|(with_reducible apply iT;refine sT rfl ?_)|(with_reducible apply i0;refine s0 rfl ?_));intro _ _ _ C_ R_ U_;simp only [go_sem,↓reduceIte,f0,f4,f5,s5,sq,ic];subst C_ R_ U_)
     refine aZ ?_
     simp only [go_sem,↓reduceIte]
     intro w hw
     obtain ⟨A4,H4,ea,S4,hg4,hA4,hkp⟩:=Jo S3 ed ed je mD iy ⟨rfl,by decide⟩ hA hw (sz1:=z) (n1:=i) (c1:=encs outs) (c2:=ay out) (n2:=1) (t2:=.full) hg hz (sz2:=4) rfl (by decide) (by omega)
     have c4:=hkp _ _ b4 (aN hg b4)
     have c5:=hkp _ _ b5 (aN hg b5)
     have s5:=S4.lessOf _ _ c5
     have sq4:=S4.lessOf _ _ (hkp _ _ bq (aN hg bq))
     simp only [ea,go_sem,↓reduceIte,f5,s5,sq4]
     repeat with_reducible first|(apply zS;intro _ R_;simp only [go_sem,↓reduceIte,f0,f4,f5,f56,f57,f58,bz ((i:Int)+1) (by omega)];subst R_)|(apply rN;subst hbq)|refine rG2 ?_|apply nS|apply rE
     obtain ⟨A5,S5,e5,hA5,hk5⟩:=S4.wr hA4 c5 h05 (.cells (agT t (.list 4 (encs outs++ay out) (i+1) (.id w))) 27)
     refine aL (m:=k - 1) (by omega) ⟨i+1,4,.id w,s3,outs++[out],A5,by omega,?_,by simp [hol],S5,hA5,hk5 _ _ n45 c4,by rw [lh];exact e5,?_⟩
     ·rw [hmap]
      dsimp only [Option.bind]
      cases mapN (fH vs pars f) s3 (t.args.drop (i+1)) <;> simp
     ·simp only [go_sem,↓reduceIte,f0,f4,f5,f56,f57]
      exact ⟨rfl,.inr trivial,hg4.putA c5 hk5⟩
    ·dsimp only
     repeat with_reducible first|refine p5 ?_|refine p1 ?_|refine p2 ?_|refine p3 ?_|refine p4 ?_
     have hno:mapN (fH vs pars f) s t.args=none:=by rw [hmap,hr];rfl
     exact ⟨_,H3,gF.of (LeAV.refl _) (ax.refl _),hp H3 (by rw [hno];rfl) (hl3.trans hA)⟩
   ·rw [List.drop_eq_nil_of_le (show t.args.length≤i by omega)] at hmap
    have hmr:mapN (fH vs pars f) s t.args=some (outs,s2):=by
     rw [hmap,mapN];simp
    repeat with_reducible first|((first|apply zS|apply zC);intro _ R_;simp only [go_sem,↓reduceIte,f0,f4,f5,f56,f57,f58,hi,s4,s5];subst R_)|(apply rN;subst hbq)|refine rG2 ?_|(apply x1;clear hbq bq)|apply nS|refine rS fun bq hbq=>?_|apply rXx|apply rR|apply x3|apply x4
    obtain ⟨A5,S5,_,hA5,_⟩:=S.wr hA b4 h04 (.cells (agT t (.list z (encs outs) i tk)) 27)
    refine df (v:=enc ⟨t.kind,t.n,t.name,outs⟩) (by rw [Tryz.results81]) (ax.refl _) ?_ (hq _ s2 _ (by rw [hmr];rfl) (S5.low hA5))
    simp only [go_sem,↓reduceIte,f4,aJ,Option.some.injEq,exists_eq_left']
    refine LeAV.agg (.cons (LeAV.refl _) (.cons (LeAV.refl _) (.cons (LeAV.refl _) (.cons ?_ .nil))))
    show LeAV _ (.list 4 (encs outs) outs.length .none)
    rw [hol]
    rcases hz with e|e
    ·subst e
     have:outs=[]:=List.eq_nil_of_length_eq_zero hol
     subst this
     rw [bB];exact LeAV.nil _ _ _
    ·rw [e];exact LeAV.list _ _ _ _
theorem xy:bn Tryz.prog 25 1 [(0,.agg [.int .i64 0,.int .i64 0,.str ⟨#[]⟩,.list 0 [] 0 .nil])]=some (.list 4 zT 1 .full):=uj ed je iy rfl rfl rfl (by decide)
def OutV (outs:List Term) (v:AV) (A h0:ai):Prop:=(outs=[]∧v=.list 0 [] 0 .nil)∨∃ p,v=.sl p 0 outs.length∧A p=some (.cells (encs outs) 27)∧h0 p=Option.none
theorem EY {x:Nat} {vs:List Va} {pars:Int} {s:NS} {A H H':ai} (S:NObj x vs pars s A H') (e:H=H'):NObj x vs pars s A H:=e ▸ S
theorem Io (l:List Term) (y:Term):List.take (l.length * 4) (encs l++zT)++AV.int .i64 y.kind::AV.int .i64 y.n::AV.str y.name::AV.list 4 (encs y.args) y.args.length .none::List.drop (l.length * 4+4) (encs l++zT)=encs (l++[y]):=by
 rw [← gM,List.take_left,List.drop_append,List.drop_eq_nil_of_le (by omega),lh,Nat.add_sub_cancel_left]
 rfl
theorem M9 {x:Nat} {vs:List Va} {pars:Int} (hvs:vs.length≤2000) (f:Nat) (ts:List Term) {s:NS} {h0 A h:ai} (S:NObj x vs pars s A h) (hA:ax A h0) (hfs:∀ t ∈ ts,t.size≤f∧t.size≤100000∧aK vs t 0=true) (hn:ts.length≤100000) {ct co cx:Nat}
  (act:A ct=some (.cells [.list 4 (encs ts) ts.length .none] 25)) (aco:A co=some (.cells [.list 0 [] 0 .nil] 25)) (acx:A cx=some (.cells [.ptr x 0] 125)) (n1:ct≠co) (o0:h0 co=Option.none) (Q:AOut→ai→Prop)
  (hq:∀ outs s' A' h2 ov,mapN (fH vs pars f) s ts=some (outs,s')→NObj x vs pars s' A' h2→ax A' h0→A' co=some (.cells [ov] 25)→OutV outs ov A' h0→A' cx=some (.cells [.ptr x 0] 125)→Q (.ret (.tuple [])) h2)
  (hp:∀ h2,mapN (fH vs pars f) s ts=none→ax h2 h0→Q (.panic (.iface 152 (.agg [.int .i64 2]))) h2):az Tryz.prog 80 [.ptr ct 0,.ptr co 0,.ptr cx 0] h Q:=by
 have n2:=dW acx aco (by decide)
 have sct:=S.lessOf _ _ act
 refine eN Tryz.func80 ?_
 repeat with_reducible first|(apply zS;intro _ R_;simp only [go_sem,↓reduceIte,sct];subst R_)|(apply rN;subst hbq)|refine rG2 ?_|(refine rB fun cq hcq=>?_;subst hcq)|apply nS|refine rS fun bq hbq=>?_
 refine aT (fun k τ H=>∃ (i:Nat) (s2:NS) (outs:List Term) (A:ai) (ov:AV),k+i=ts.length∧mapN (fH vs pars f) s ts=(mapN (fH vs pars f) s2 (ts.drop i)).map (fun q=>(outs++q.1,q.2))∧outs.length=i∧NObj x vs pars s2 A H∧ax A h0∧A co=some (.cells [ov] 25)∧A cx=some (.cells [.ptr x 0] 125)∧OutV outs ov A h0∧τ 1=.ptr co 0∧τ 2=.ptr cx 0∧τ 5=.list 4 (encs ts) ts.length .none∧τ 6=.int .i64 ts.length∧τ 7=.int .i64 i) ts.length ?_ ?_
 ·refine ⟨0,s,[],A,_,rfl,?_,rfl,S,hA,aco,acx,.inl ⟨rfl,rfl⟩,?_⟩
  ·rw [List.drop_zero]
   cases mapN (fH vs pars f) s ts <;> rfl
  ·simp only [go_sem,↓reduceIte]
   rfl
 intro cc hcc k τ H hI
 clear S hA act aco acx sct
 obtain ⟨i,s2,outs,A,ov,hki,hmap,hol,S,hA,aco,acx,hov,f1,f2,f5,f6,f7⟩:=hI
 subst hcc
 by_cases hi:i<ts.length
 ·obtain ⟨y,hy⟩:∃ y,ts[i]?=some y:=⟨_,List.getElem?_eq_getElem hi⟩
  obtain ⟨r1,hr1⟩:=dD ts i hy
  have d1:ts.drop i=y::ts.drop (i+1):=by
   rw [List.drop_eq_getElem_cons hi]
   rw [List.getElem?_eq_getElem hi] at hy;injection hy with hy;rw [hy]
  rw [d1,mapN] at hmap
  obtain ⟨hy1,hy2,hy3⟩:=hfs y (List.mem_of_getElem? hy)
  repeat with_reducible first|((first|apply zS|apply zC);intro _ R_;simp only [go_sem,↓reduceIte,f1,f2,f5,f6,f7,hi,hr1];subst R_)|(apply rN;subst hbq)|refine rG2 ?_|(refine rB fun cq hcq=>?_;subst hcq)|apply nS|refine rS fun bq hbq=>?_|apply rK
  intro q hq1
  obtain ⟨A1,S,bq,hA1,_⟩:=S.loc hq1 (.cells (ay y) 27)
  simp only [go_sem,↓reduceIte]
  have hov:OutV outs ov A1 h0:=by
   rcases hov with g|⟨p,e,hp1,hp0⟩
   ·exact .inl g
   ·exact .inr ⟨p,e,hA1 _ _ hp1,hp0⟩
  have aco:=hA1 _ _ aco
  have acx:=hA1 _ _ acx
  have hA:=hA1.trans hA
  clear hA1
  generalize upd H q (some (.cells (ay y) 27))=H2 at *
  have sco:=S.lessOf _ _ aco
  have scx:=S.lessOf _ _ acx
  have sq:=S.lessOf _ _ bq
  apply rN;subst hbq
  repeat with_reducible refine ah fun bq hbq=>?_
  refine bA (.take 0 (.take 1 (.take 2 (.take 4 (.take 5 (.one 3 [0] (.one 6 [] (.take 7 (.two 8 [] (.one 9 [] (.done)) 9 [] (.one 8 [] (.done))))))))))) (by kernel_rfl) (by simp only [aF,gtOf,aA];exact rfl) ?_
  rcases hov with ⟨rfl,rfl⟩|⟨p,rfl,hp1,hp0⟩
  ·obtain rfl:i=0:=hol.symm
   repeat ((first|(with_reducible apply iT;refine sT rfl ?_)|(with_reducible apply iO;refine sO rfl ?_));intro _ _ _ C_ R_ U_;simp only [go_sem,↓reduceIte,f1,f2,sco,scx,sq,xy];subst C_ R_ U_)
   refine Lx hvs f y s2 0 _ _ _ S hy1 (by decide) (by omega) hy3 (fun out s3 H3 hr S3=>?_) (fun H3 hr hl3=>?_)
   ·rw [hr] at hmap
    have sco:=S3.lessOf _ _ aco
    have scx:=S3.lessOf _ _ acx
    try dsimp only
    repeat ((first|with_reducible apply sA|(with_reducible apply i0;refine s0 rfl ?_));intro _ _ _ C_ R_ U_;simp only [go_sem,↓reduceIte,f1,f2,sco,scx];subst C_ R_ U_)
    refine dP ?_
    simp only [go_sem,↓reduceIte,fG]
    intro w nw
    have nwc:=aj nw sco
    rw [oP ed ed je mD iy ⟨rfl,by decide⟩ (.inr rfl) (.inl rfl) rfl (by decide) (by decide)]
    simp only [go_sem,↓reduceIte]
    simp only [go_sem,↓reduceIte,f1,sco,nwc,nwc.symm,Nat.zero_lt_one,Nat.zero_mul]
    have w0:h0 w=none:=hA.none (S3.lessOf.none nw)
    have S5:=(S3.both (.inr nw) (some (.cells (encs [out]) 27))).both (f:=co) (.inl ⟨_,(ae _ _ nwc).trans aco⟩) (some (.cells [.sl w 0 1] 25))
    have nwx:cx≠w:=fun e=>by have:=S3.lessOf.none nw;rw [← e,acx] at this;cases this
    have hA5:=(hA.new (o:=some (.cells (encs [out]) 27)) w0).new (o:=some (.cells [.sl w 0 1] 25)) o0
    have e1:encs [out]=ay out:=by rw [dh];simp
    refine ⟨?_,?_⟩
    all_goals
     repeat with_reducible first|(apply zS;intro _ R_;simp only [go_sem,↓reduceIte,f1,f2,f5,f6,f7,bz (((0:Nat):Int)+1) (by omega)];subst R_)|(apply rN;subst hbq)|refine rG2 ?_|apply nS|apply rE
     refine aL (m:=k - 1) (by omega) ⟨1,s3,[out],_,.sl w 0 1,by omega,?_,rfl,EY S5 ?_,hA5,upd_same _ _ _,?_,.inr ⟨w,rfl,?_,w0⟩,?_⟩
     ·rw [hmap]
      dsimp only [Option.bind]
      cases mapN (fH vs pars f) s3 (ts.drop 1) <;> simp
     ·funext j
      by_cases j1:j=w <;> by_cases j2:j=co <;> simp [upd,j1,j2,nwc,nwc.symm,e1]
     ·rw [ae _ _ n2,ae _ _ nwx];exact acx
     ·rw [ae _ _ nwc.symm,upd_same]
     ·simp only [go_sem,↓reduceIte,f1,f2,f5,f6]
      rfl
   ·dsimp only
    have hno:mapN (fH vs pars f) s ts=none:=by rw [hmap,hr];rfl
    repeat with_reducible first|refine p5 ?_|refine p1 ?_|refine p2 ?_|refine p3 ?_|refine p4 ?_
    exact ⟨_,H3,gF.of (LeAV.refl _) (ax.refl _),hp H3 hno (hl3.trans hA)⟩
  ·repeat ((first|(with_reducible apply iT;refine sT rfl ?_)|(with_reducible apply iO;refine sO rfl ?_));intro _ _ _ C_ R_ U_;simp only [go_sem,↓reduceIte,f1,f2,sco,scx,sq,xy];subst C_ R_ U_)
   refine Lx hvs f y s2 0 _ _ _ S hy1 (by decide) (by omega) hy3 (fun out s3 H3 hr S3=>?_) (fun H3 hr hl3=>?_)
   ·rw [hr] at hmap
    have sco:=S3.lessOf _ _ aco
    have scx:=S3.lessOf _ _ acx
    have sp:=S3.lessOf _ _ hp1
    try dsimp only
    repeat ((first|with_reducible apply sA|(with_reducible apply i0;refine s0 rfl ?_));intro _ _ _ C_ R_ U_;simp only [go_sem,↓reduceIte,f1,f2,sco,scx];subst C_ R_ U_)
    refine dP ?_
    simp only [go_sem,↓reduceIte,fG]
    intro w nw
    have nwc:=aj nw sco
    have nwp:=aj nw sp
    have npc:=dW sp sco (by decide)
    rw [sN ed ed je mD iy ⟨rfl,by decide⟩ sp (gM outs) rfl (by decide) (by omega)]
    simp only [go_sem,↓reduceIte]
    have l1:=Nat.lt_succ_self outs.length
    have l2:outs.length * 4+4≤(encs outs++[AV.int .i64 0,AV.int .i64 0,AV.str ⟨#[]⟩,AV.list 0 [] 0 .nil]).length:=by rw [List.length_append,gM];exact Nat.le_refl _
    have et:=Io outs out
    unfold zT at et
    simp only [go_sem,↓reduceIte,f1,sco,nwc,nwc.symm,npc,npc.symm,l1,l2,et]
    have w0:h0 w=none:=hA.none (S3.lessOf.none nw)
    have S5:=((S3.both (.inl ⟨_,hp1⟩) none).both (f:=w) (.inr ((ae _ _ nwp.symm).trans nw)) (some (.cells (encs (outs++[out])) 27))).both (f:=co) (.inl ⟨_,(ae _ _ nwc).trans ((ae _ _ npc.symm).trans aco)⟩) (some (.cells [.sl w 0 (outs.length+1)] 25))
    have nwx:cx≠w:=fun e=>by have:=S3.lessOf.none nw;rw [← e,acx] at this;cases this
    have npx:cx≠p:=dW acx hp1 (by decide)
    have hA5:=((eO hA hp0 none).new (o:=some (.cells (encs (outs++[out])) 27)) w0).new (o:=some (.cells [.sl w 0 (outs.length+1)] 25)) o0
    have ol1:(outs++[out]).length=outs.length+1:=by simp
    refine ⟨?_,?_⟩
    all_goals
     repeat with_reducible first|(apply zS;intro _ R_;simp only [go_sem,↓reduceIte,f1,f2,f5,f6,f7,bz ((i:Int)+1) (by omega)];subst R_)|(apply rN;subst hbq)|refine rG2 ?_|apply nS|apply rE
     refine aL (m:=k - 1) (by omega) ⟨i+1,s3,outs++[out],_,.sl w 0 (outs.length+1),by omega,?_,by omega,EY S5 ?_,hA5,upd_same _ _ _,?_,.inr ⟨w,by rw [ol1],?_,w0⟩,?_⟩
     ·rw [hmap]
      dsimp only [Option.bind]
      cases mapN (fH vs pars f) s3 (ts.drop (i+1)) <;> simp
     ·funext j
      by_cases j1:j=w <;> by_cases j2:j=co <;> by_cases j3:j=p <;> simp [upd,j1,j2,j3,nwc,nwc.symm,nwp,nwp.symm,npc,npc.symm]
     ·rw [ae _ _ n2,ae _ _ nwx,ae _ _ npx];exact acx
     ·rw [ae _ _ nwc.symm,upd_same]
     ·simp only [go_sem,↓reduceIte,f1,f2,f5,f6]
      rfl
   ·dsimp only
    have hno:mapN (fH vs pars f) s ts=none:=by rw [hmap,hr];rfl
    repeat with_reducible first|refine p5 ?_|refine p1 ?_|refine p2 ?_|refine p3 ?_|refine p4 ?_
    exact ⟨_,H3,gF.of (LeAV.refl _) (ax.refl _),hp H3 hno (hl3.trans hA)⟩
 ·rw [List.drop_eq_nil_of_le (show ts.length≤i by omega)] at hmap
  have hmr:mapN (fH vs pars f) s ts=some (outs,s2):=by
   rw [hmap,mapN];simp
  repeat with_reducible first|((first|apply zS|apply zC);intro _ R_;simp only [go_sem,↓reduceIte,f1,f2,f5,f6,f7,hi];subst R_)|(apply rN;subst hbq)|refine rG2 ?_|(apply x1;clear hbq bq)|apply nS|refine rS fun bq hbq=>?_|apply rXx|apply x3|apply x4
  exact o7 (by rw [Tryz.results80]) (ax.refl _) (hq outs s2 A _ ov hmr S hA aco hov acx)
def gq (vs:List Va):List Term→Int
 |[]=>0
 |t::ts=>if il t==0 then (if aK vs t 0 then gq vs ts else 6) else il t
noncomputable def valC (vs:List Va) (t:Term):Term:=@dite _ (∃ v,Good vs 0 t v) (Classical.propDecidable _) (fun h=>Classical.choose h) (fun _=>t)
theorem ou {vs:List Va} {t:Term} (h:∃ v,Good vs 0 t v):Good vs 0 t (valC vs t):=by
 unfold valC
 rw [dif_pos h]
 exact Classical.choose_spec h
noncomputable def gm (vs:List Va):List Term→Int
 |[]=>0
 |t::ts=>if kC (valC vs t)==0 then gm vs ts else kC (valC vs t)
noncomputable def sQ (vs:List Va) (n:Int) (l:List Term):List Term × List Ty × Int :=
 if bi vs==0 then
  if decide (n<0)||(decide (n>60)||decide ((l.length:Int)>20000)) then ([],[],1)
  else if gq vs l==0 then
   if gm vs l==0 then
    match mapN (fH vs n 4000) ⟨[],[]⟩ (l.map (valC vs)) with
    |none=>([],[],2)
    |some q=>(q.1,q.2.tys,0)
   else ([],[],gm vs l)
  else ([],[],gq vs l)
 else ([],[],bi vs)
abbrev jI (r:List Term × List Ty × Int):AV:=.tuple [.list 4 (encs r.1) r.1.length .none,.list 2 (dE r.2.1) r.2.1.length .none,.int .i64 r.2.2]
theorem oW (e:Int):LeAV (.tuple [.list 0 [] 0 .nil,.list 0 [] 0 .nil,.int .i64 e]) (jI ([],[],e)):=by
 refine LeAV.tuple (.cons ?_ (.cons ?_ (.cons (LeAV.refl _) .nil)))
 ·show LeAV _ (.list 4 (encs []) 0 .none)
  rw [bB];exact LeAV.nil _ _ _
 ·show LeAV _ (.list 2 (dE []) 0 .none)
  rw [pg];exact LeAV.nil _ _ _
theorem OZ {τ:Env} {h:ai} (ks:List Nat) {k0 p n z ct:Nat} {cs:List AV} {T U:TypeId} {v:AV} (hp:h p=some (.cells cs T)) (hl:cs.length=n * z) (hf:cs.all AV.flat=true) (pc:p≠ct) (hc:h ct=some (.cells [.sl p 0 n] U)) (hv:τ k0=v):gD τ h (pick ks k0 v τ) (upd (upd h p none) ct (some (.cells [.list z cs n .none] U))):=by
 refine gD.freeze hp hl hf (fun k=>?_) (fun i o' hi=>?_)
 ·unfold pick
  split
  ·rename_i e;subst e;rw [hv];exact LeF.refl _
  ·split
   ·exact LeF.refl _
   ·exact LeF.of fun _ _ _ _=>by simp [Rel]
 ·by_cases e:i=ct
  ·subst e
   rw [upd_same] at hi
   injection hi with hi
   subst hi
   exact ⟨pc.symm,_,hc,rfl,.cons LeF.here .nil⟩
  ·rw [ae _ _ e] at hi
   by_cases e2:i=p
   ·subst e2;rw [upd_same] at hi;cases hi
   ·rw [ae _ _ e2] at hi
    exact ⟨e2,o',hi,LeOb.refl _⟩
theorem La {τ:Env} {h:ai} (ks:List Nat) {k0 p:Nat} {xs ys:List AV} {T:TypeId} {v:AV} (hp:h p=some (.cells xs T)) (hl:LeL xs ys) (hv:τ k0=v):gD τ h (pick ks k0 v τ) (upd h p (some (.cells ys T))):=by
 refine fun P nt G W a s r=>⟨G,Evo.refl _ _,s.cells hp hl,⟨r.size,fun k=>?_⟩⟩
 have:=r.get k
 unfold pick
 split
 ·rename_i e;subst e;rw [hv] at this;exact this
 ·split
  ·exact this
  ·simp [Rel]
theorem Jm (cs:List AV) (k:Nat) (n:Int) (m:Nat):dL Tryz.prog 128 [(0,.agg [.list 8 cs k .none]),(1,.int .i64 n),(2,.map m),(3,.list 0 [] 0 .nil)]=some (.agg [.list 8 cs k .none,.int .i64 n,.map m,.list 0 [] 0 .nil]):=by
 simp only [dL,Rj,Rw,ik]
 rfl
theorem att80 {x:Nat} {vs:List Va} {pars:Int} (hvs:vs.length≤2000) (f:Nat) (ts:List Term) {s:NS} {h0 A h:ai} (S:NObj x vs pars s A h) (hA:ax A h0) (hfs:∀ t ∈ ts,t.size≤f∧t.size≤100000∧aK vs t 0=true) (hn:ts.length≤100000) {ct co cx:Nat}
  (act:A ct=some (.cells [.list 4 (encs ts) ts.length .none] 25)) (aco:A co=some (.cells [.list 0 [] 0 .nil] 25)) (acx:A cx=some (.cells [.ptr x 0] 125)) (n1:ct≠co) (o0:h0 co=Option.none) :
  az Tryz.prog 59 [.func (.func 80) [] [.ptr ct 0,.ptr co 0,.ptr cx 0]] h fun out h3=>(∃ outs s' A' ov,mapN (fH vs pars f) s ts=some (outs,s')∧out=.ret (.tuple [.bool true,.int .i64 0])∧NObj x vs pars s' A' h3∧ax A' h0∧A' co=some (.cells [ov] 25)∧OutV outs ov A' h0∧A' cx=some (.cells [.ptr x 0] 125))∨(mapN (fH vs pars f) s ts=none∧out=.ret (.tuple [.bool false,.int .i64 2])∧ax h3 h0):=by
 refine vL ?_
 intro a0 b0 h1 ha0 hb0 hab hh1
 obtain ⟨A1,S1,c1,hA1,hAa⟩:=S.loc ha0 (.cells [.bool false] 4)
 obtain ⟨A2,S2,c2,hA2,hAb⟩:=S1.loc (b:=b0) (by rw [ae _ _ hab.symm];exact hb0) (.cells [.int .i64 0] 30)
 rw [← hh1] at S2
 have a00:=hA.none hAa
 have b00:=hA.none (hA1.none hAb)
 have k2:∀ j o,A j=some o→A2 j=some o:=fun j o hj=>hA2 _ _ (hA1 _ _ hj)
 have c1:=hA2 _ _ c1
 obtain ⟨h0',e0⟩:∃ h',h'=upd (upd h0 a0 (some (.cells [.bool false] 4))) b0 (some (.cells [.int .i64 0] 30)):=⟨_,rfl⟩
 have hA0:ax A2 h0':=by
  intro j o hj
  rw [e0] at hj
  by_cases jb:j=b0
  ·subst jb;rw [upd_same] at hj;injection hj with hj;subst hj;exact c2
  ·rw [ae _ _ jb] at hj
   by_cases ja:j=a0
   ·subst ja;rw [upd_same] at hj;injection hj with hj;subst hj;exact c1
   ·rw [ae _ _ ja] at hj;exact k2 _ _ (hA _ _ hj)
 have la:h0' a0=some (.cells [.bool false] 4):=by rw [e0,ae _ _ hab,upd_same]
 have lb:h0' b0=some (.cells [.int .i64 0] 30):=by rw [e0,upd_same]
 have l0:∀ j,j≠a0→j≠b0→h0' j=h0 j:=fun j ja jb=>by rw [e0,ae _ _ jb,ae _ _ ja]
 have l1:∀ j o,h0 j=some o→h0' j=some o:=fun j o hj=>by
  rw [l0 j (fun e=>by rw [e,a00] at hj;cases hj) (fun e=>by rw [e,b00] at hj;cases hj)];exact hj
 have hless:∀ h2:ai,ax h2 (upd (upd h2 a0 Option.none) b0 Option.none):=fun h2=>(jK _ _).trans (jK _ _)
 have hdrop:∀ A':ai,ax A' h0'→ax (upd (upd A' a0 Option.none) b0 Option.none) h0:=fun A' hl j o hj=>by
  rw [ae _ _ (fun e=>by rw [e,b00] at hj;cases hj),ae _ _ (fun e=>by rw [e,a00] at hj;cases hj)]
  exact hl _ _ (l1 _ _ hj)
 have aco2:=k2 _ _ aco
 have oa:co≠a0:=dW aco2 c1 (by decide)
 have ob:co≠b0:=dW aco2 c2 (by decide)
 have acx2:=k2 _ _ acx
 have xa:cx≠a0:=dW acx2 c1 (by decide)
 have xb:cx≠b0:=dW acx2 c2 (by decide)
 refine M9 hvs f ts S2 hA0 hfs hn (k2 _ _ act) aco2 acx2 n1 (by rw [l0 _ oa ob];exact o0) _ (fun outs s' A' h2 ov hm N hA' ho hov hx=>?_) (fun h2 hm hl=>?_)
 ·have la':=hA' _ _ la
  have lb':=hA' _ _ lb
  refine ⟨N.lessOf _ _ la',N.lessOf _ _ lb',upd (upd h2 a0 Option.none) b0 Option.none,hless h2,by rw [ae _ _ hab,upd_same],upd_same _ _ _,.inl ⟨outs,s',upd (upd A' a0 Option.none) b0 Option.none,ov,hm,rfl,?_,hdrop _ hA',?_,?_,?_⟩⟩
  ·exact (N.both (.inl ⟨_,la'⟩) _).both (.inl ⟨_,(ae _ _ hab.symm).trans lb'⟩) _
  ·rw [ae _ _ ob,ae _ _ oa];exact ho
  ·rcases hov with g|⟨p,e,hp,hp0⟩
   ·exact .inl g
   ·have pa:p≠a0:=dW hp la' (by decide)
    have pb:p≠b0:=dW hp lb' (by decide)
    refine .inr ⟨p,e,by rw [ae _ _ pb,ae _ _ pa];exact hp,?_⟩
    rw [l0 _ pa pb] at hp0;exact hp0
  ·rw [ae _ _ xb,ae _ _ xa];exact hx
 ·exact ⟨hl _ _ la,hl _ _ lb,upd (upd h2 a0 Option.none) b0 Option.none,hless h2,by rw [ae _ _ hab,upd_same],upd_same _ _ _,2,rfl,.inr ⟨hm,rfl,hdrop _ hl⟩⟩
theorem uO {vs:List Va}:∀ l:List Term,gm vs l=0→∀ t ∈ l,(valC vs t).size≤4000
 |[],_,t,ht=>absurd ht (List.not_mem_nil)
 |u::l,h,t,ht=>by
  rw [gm] at h
  split at h
  ·rename_i hu
   rcases List.mem_cons.1 ht with rfl|ht
   ·unfold kC at hu
    split at hu
    ·cases hu
    ·omega
   ·exact uO l h t ht
  ·rename_i hz;rw [h] at hz;exact absurd rfl hz
theorem yo {vs:List Va}:∀ l:List Term,gq vs l=0→∀ t ∈ l,aK vs t 0=true
 |[],_,t,ht=>absurd ht (List.not_mem_nil)
 |u::l,h,t,ht=>by
  rw [gq] at h
  split at h
  ·split at h
   ·rename_i hf
    rcases List.mem_cons.1 ht with rfl|ht
    ·exact hf
    ·exact yo l h t ht
   ·cases h
  ·rename_i hz;rw [h] at hz;exact absurd rfl hz
theorem PZ (vs:List Va) (hvs:vs.length≤1000000) (n:Int) (l:List Term) (hln:l.length≤1000000) (h:ai) (Q:AOut→ai→Prop) (hq:Q (.ret (jI (sQ vs n l))) h):az Tryz.prog 31 [.agg [.list 8 (aM vs) vs.length .none],.int .i64 n,.list 4 (encs l) l.length .none] h Q:=by
 unfold sQ at hq
 refine eN Tryz.func31 ?_
 repeat with_reducible first|(apply zS;intro _ R_;simp only [go_sem,↓reduceIte];subst R_)|refine rG2 ?_|refine rS fun bq hbq=>?_
 intro p3 hp3
 have fin1:ax (upd h p3 (some (.cells [.list 8 (aM vs) vs.length .none] 24))) h:=ax.one hp3
 have s3:upd h p3 (some (.cells [.list 8 (aM vs) vs.length .none] 24)) p3=some (.cells [.list 8 (aM vs) vs.length .none] 24):=upd_same _ _ _
 have z3:=hp3
 simp only [go_sem,↓reduceIte]
 generalize upd h p3 (some (.cells [.list 8 (aM vs) vs.length .none] 24))=H at *
 repeat with_reducible first|(apply zS;intro _ R_;simp only [go_sem,↓reduceIte,s3];subst R_)|(apply rN;subst hbq)|refine rG2 ?_|refine rS fun bq hbq=>?_
 refine CK vs hvs .none _ _ ?_
 cases hc:(bi vs==0)
 ·rw [hc] at hq
  simp only [Bool.false_eq_true,if_false] at hq
  try dsimp only
  repeat with_reducible first|((first|apply zS|apply zC);intro _ R_;simp only [go_sem,↓reduceIte,hc];subst R_)|(apply rN;subst hbq)|refine rG2 ?_|(apply r1;clear hbq bq)|apply nS|refine rS fun bq hbq=>?_|apply rR
  refine df (v:=jI ([],[],bi vs)) (by rw [Tryz.results31]) fin1 ?_ hq
  simp only [go_sem,↓reduceIte,aJ,Option.some.injEq,exists_eq_left']
  exact oW _
 rw [hc,if_pos rfl] at hq
 cases b1:decide (n<0)
 case true =>
  rw [b1,Bool.true_or,if_pos rfl] at hq
  try dsimp only
  repeat with_reducible first|((first|apply zS|apply zC);intro _ R_;simp only [go_sem,↓reduceIte,hc,b1];subst R_)|(apply rN;subst hbq)|refine rG2 ?_|(apply r1;clear hbq bq)|apply nS|refine rS fun bq hbq=>?_|apply rK|apply rR
  refine df (v:=jI ([],[],1)) (by rw [Tryz.results31]) fin1 ?_ hq
  simp only [go_sem,↓reduceIte,aJ,Option.some.injEq,exists_eq_left']
  exact oW _
 cases b2:decide (n>60)
 case true =>
  rw [b2,Bool.true_or,Bool.or_true,if_pos rfl] at hq
  try dsimp only
  repeat with_reducible first|((first|apply zS|apply zC);intro _ R_;simp only [go_sem,↓reduceIte,hc,b1,b2];subst R_)|(apply rN;subst hbq)|refine rG2 ?_|(apply r1;clear hbq bq)|apply nS|refine rS fun bq hbq=>?_|apply rK|apply rR
  refine df (v:=jI ([],[],1)) (by rw [Tryz.results31]) fin1 ?_ hq
  simp only [go_sem,↓reduceIte,aJ,Option.some.injEq,exists_eq_left']
  exact oW _
 cases b3:decide ((l.length:Int)>20000)
 case true =>
  rw [b3,Bool.or_true,Bool.or_true,if_pos rfl] at hq
  try dsimp only
  repeat with_reducible first|((first|apply zS|apply zC);intro _ R_;simp only [go_sem,↓reduceIte,hc,b1,b2,b3];subst R_)|(apply rN;subst hbq)|refine rG2 ?_|(apply r1;clear hbq bq)|apply nS|refine rS fun bq hbq=>?_|apply rK|apply rR
  refine df (v:=jI ([],[],1)) (by rw [Tryz.results31]) fin1 ?_ hq
  simp only [go_sem,↓reduceIte,aJ,Option.some.injEq,exists_eq_left']
  exact oW _
 rw [b1,b2,b3] at hq
 simp only [Bool.or_false,Bool.false_eq_true,if_false] at hq
 try dsimp only
 repeat with_reducible first|((first|apply zS|apply zC);intro _ R_;simp only [go_sem,↓reduceIte,hc,b1,b2,b3];subst R_)|(apply rN;subst hbq)|refine rG2 ?_|apply nS|refine rS fun bq hbq=>?_|apply rK
 have hc0:bi vs=0:=by simpa using hc
 refine dB (fun τ h'=>gq vs l=0∧τ 1=.int .i64 n∧τ 2=.list 4 (encs l) l.length .none∧τ 3=.ptr p3 0∧ax h' H) ?_ fun τ h' hI=>?_
 ·repeat with_reducible (refine rB fun cq hcq=>?_;subst hcq)
  refine aT (fun k τ h'=>∃ i:Nat,k+i=l.length∧gq vs (l.drop i)=gq vs l∧τ 1=.int .i64 n∧τ 2=.list 4 (encs l) l.length .none∧τ 3=.ptr p3 0∧τ 38=.list 4 (encs l) l.length .none∧τ 39=.int .i64 l.length∧τ 40=.int .i64 i∧ax h' H) l.length ?_ ?_
  ·refine ⟨0,rfl,rfl,?_⟩
   simp only [go_sem,↓reduceIte]
   exact ⟨rfl,ax.refl _⟩
  intro cc hcc k τ h' hI
  obtain ⟨i,hk,hle,f1,f2,f3,f38,f39,f40,hl'⟩:=hI
  subst hcc
  by_cases hi:i<l.length
  ·obtain ⟨y,hy⟩:∃ y,l[i]?=some y:=⟨_,List.getElem?_eq_getElem hi⟩
   obtain ⟨r1,hr1⟩:=dD l i hy
   have d1:l.drop i=y::l.drop (i+1):=by
    rw [List.drop_eq_getElem_cons hi]
    rw [List.getElem?_eq_getElem hi] at hy;injection hy with hy;rw [hy]
   rw [d1,gq] at hle
   have s3:=hl' _ _ s3
   repeat with_reducible first|((first|apply zS|apply zC);intro _ R_;simp only [go_sem,↓reduceIte,f1,f2,f3,f38,f39,f40,hi,hr1];subst R_)|(apply rN;subst hbq)|refine rG2 ?_|(refine rB fun cq hcq=>?_;subst hcq)|apply nS|refine rS fun bq hbq=>?_|apply rK
   intro q hq1
   have n3:=aj hq1 s3
   have hl2:=hl'.new (o:=some (.cells (ay y) 27)) (hl'.none hq1)
   repeat with_reducible first|(apply zS;intro _ R_;simp only [go_sem,↓reduceIte,f1,f2,f3,f38,f39,f40,hi];subst R_)|(apply rN;subst hbq)|refine rG2 ?_|apply nS|refine rS fun bq hbq=>?_
   refine BG y _ _ ?_
   cases hz:(il y==0)
   ·rw [hz] at hle
    simp only [Bool.false_eq_true,if_false] at hle
    have hze:(gq vs l==0)=false:=by rw [← hle];exact hz
    rw [hze] at hq
    simp only [Bool.false_eq_true,if_false] at hq
    rw [← hle] at hq
    try dsimp only
    repeat with_reducible first|((first|apply zS|apply zC);intro _ R_;simp only [go_sem,↓reduceIte,f1,f2,f3,f38,f39,f40,hz];subst R_)|(apply rN;subst hbq)|refine rG2 ?_|apply nS|refine rS fun bq hbq=>?_|apply rR
    refine df (v:=jI ([],[],il y)) (by rw [Tryz.results31]) (hl2.trans fin1) ?_ hq
    simp only [go_sem,↓reduceIte,aJ,Option.some.injEq,exists_eq_left']
    exact oW _
   ·rw [hz,if_pos rfl] at hle
    have hs4:=FR y hz
    try dsimp only
    repeat with_reducible first|((first|apply zS|apply zC);intro _ R_;simp only [go_sem,↓reduceIte,f1,f2,f3,f38,f39,f40,hz,s3,n3,n3.symm];subst R_)|(apply rN;subst hbq)|refine rG2 ?_|apply nS|refine rS fun bq hbq=>?_|apply rK
    refine GD vs hvs .none y.size y 0 _ _ (Nat.le_refl _) (by decide) (by omega) ?_
    cases hf:aK vs y 0
    ·rw [hf] at hle
     simp only [Bool.false_eq_true,if_false] at hle
     rw [← hle] at hq
     try dsimp only
     repeat with_reducible first|((first|apply zS|apply zC);intro _ R_;simp only [go_sem,↓reduceIte,f1,f2,f3,f38,f39,f40,hf];subst R_)|(apply rN;subst hbq)|refine rG2 ?_|apply nS|refine rS fun bq hbq=>?_|apply rR|apply r4
     refine df (v:=jI ([],[],6)) (by rw [Tryz.results31]) (hl2.trans fin1) ?_ hq
     simp only [go_sem,↓reduceIte,aJ,Option.some.injEq,exists_eq_left']
     exact oW _
    ·rw [hf,if_pos rfl] at hle
     try dsimp only
     repeat with_reducible first|((first|apply zS|apply zC);intro _ R_;simp only [go_sem,↓reduceIte,f1,f2,f3,f38,f39,f40,hf,bz ((i:Int)+1) (by omega)];subst R_)|(apply rN;subst hbq)|refine rG2 ?_|apply nS|apply rK|apply rE
     refine aL (m:=k - 1) (by omega) ⟨i+1,by omega,hle,?_⟩
     simp only [go_sem,↓reduceIte,f1,f2,f3,f38,f39]
     exact ⟨rfl,hl2⟩
  ·rw [List.drop_eq_nil_of_le (by omega),gq] at hle
   repeat with_reducible first|((first|apply zS|apply zC);intro _ R_;simp only [go_sem,↓reduceIte,f1,f2,f3,f38,f39,f40,hi];subst R_)|(apply rN;subst hbq)|refine rG2 ?_|(apply x1;clear hbq bq)|apply nS|refine rS fun bq hbq=>?_|apply rXx|apply x3|apply x4
   refine aD ?_
   simp only [go_sem,↓reduceIte,f1,f2,f3]
   exact ⟨hle.symm,hl'⟩
 obtain ⟨hle,f1,f2,f3,hl1⟩:=hI
 subst hbq
 have hfz:∀ t ∈ l,aK vs t 0=true:=yo l hle
 rw [hle] at hq
 simp only [show ((0:Int)==0)=true from rfl,if_true] at hq
 repeat with_reducible first|(apply zS;intro _ R_;simp only [go_sem,↓reduceIte,f1,f2,f3];subst R_)|refine rG2 ?_|refine rS fun bq hbq=>?_
 intro ct hct
 have fct:=hl1.none hct
 have hl1:=hl1.new (o:=some (.cells [.list 0 [] 0 .nil] 25)) fct
 have mct:upd h' ct (some (.cells [.list 0 [] 0 .nil] 25)) ct=some (.cells [.list 0 [] 0 .nil] 25):=upd_same _ _ _
 repeat with_reducible first|(apply zS;intro _ R_;simp only [go_sem,↓reduceIte,f1,f2,f3];subst R_)|(apply rN;subst hbq)|refine rG2 ?_|apply nS|refine rS fun bq hbq=>?_
 generalize upd h' ct (some (.cells [.list 0 [] 0 .nil] 25))=H1 at *
 refine BN (fun τ h'=>gm vs l=0∧τ 1=.int .i64 n∧τ 3=.ptr p3 0∧τ 13=.ptr ct 0∧h' ct=some (.cells [.list 4 (encs (l.map (valC vs))) (l.map (valC vs)).length .none] 25)∧ax h' H) ?_ fun τ h' hI=>?_
 ·repeat with_reducible (refine rB fun cq hcq=>?_;subst hcq)
  refine aT (fun k τ h'=>∃ (i:Nat) (ov:AV),k+i=l.length∧gm vs (l.drop i)=gm vs l∧τ 1=.int .i64 n∧τ 3=.ptr p3 0∧τ 13=.ptr ct 0∧τ 54=.list 4 (encs l) l.length .none∧τ 55=.int .i64 l.length∧τ 56=.int .i64 i∧ax h' H∧h' ct=some (.cells [ov] 25)∧OutV ((l.take i).map (valC vs)) ov h' H) l.length ?_ ?_
  ·refine ⟨0,.list 0 [] 0 .nil,rfl,rfl,?_⟩
   simp only [go_sem,↓reduceIte,f1,f2,f3]
   exact ⟨rfl,hl1,mct,.inl ⟨rfl,rfl⟩⟩
  intro cc hcc k τ h' hI
  clear f1 f2 f3 hl1 mct
  obtain ⟨i,ov,hk,hve,f1,f3,f13,f54,f55,f56,hl',mc,hov⟩:=hI
  subst hcc
  by_cases hi:i<l.length
  ·obtain ⟨y,hy⟩:∃ y,l[i]?=some y:=⟨_,List.getElem?_eq_getElem hi⟩
   obtain ⟨r1,hr1⟩:=dD l i hy
   have d1:l.drop i=y::l.drop (i+1):=by
    rw [List.drop_eq_getElem_cons hi]
    rw [List.getElem?_eq_getElem hi] at hy;injection hy with hy;rw [hy]
   rw [d1,gm] at hve
   have hgood:=ou (mO hc0 (Int.le_refl 0) (hfz y (List.mem_of_getElem? hy)))
   have s3:=hl' _ _ s3
   repeat with_reducible first|((first|apply zS|apply zC);intro _ R_;simp only [go_sem,↓reduceIte,f1,f3,f13,f54,f55,f56,hi,hr1];subst R_)|(apply rN;subst hbq)|refine rG2 ?_|(refine rB fun cq hcq=>?_;subst hcq)|apply nS|refine rS fun bq hbq=>?_|apply rK
   intro q hq1
   have n3:=aj hq1 s3
   have nqc:=aj hq1 mc
   have hl2:=hl'.new (o:=some (.cells (ay y) 27)) (hl'.none hq1)
   repeat with_reducible first|(apply zS;intro _ R_;simp only [go_sem,↓reduceIte,f1,f3,f13,f54,f55,f56,s3,n3,n3.symm];subst R_)|(apply rN;subst hbq)|refine rG2 ?_|apply nS|refine rS fun bq hbq=>?_
   refine O1 vs hvs .none hgood.1 _ _ ?_
   try dsimp only
   repeat with_reducible (apply zS;intro _ R_;simp only [go_sem,↓reduceIte,f1,f3,f13,f54,f55,f56,s3,n3,n3.symm];subst R_)
   intro q2 hq2
   have e2:=aQ hq2
   have n2c:=aj e2.2 mc
   have hl3:=hl2.new (o:=some (.cells (ay (qG (valC vs y))) 27)) (hl'.none e2.2)
   cases hz:(kC (valC vs y)==0)
   ·rw [hz] at hve
    simp only [Bool.false_eq_true,if_false] at hve
    have hze:(gm vs l==0)=false:=by rw [← hve];exact hz
    rw [hze] at hq
    simp only [Bool.false_eq_true,if_false] at hq
    rw [← hve] at hq
    repeat with_reducible first|((first|apply zS|apply zC);intro _ R_;simp only [go_sem,↓reduceIte,f1,f3,f13,f54,f55,f56,hz,e2.1,e2.1.symm];subst R_)|(apply rN;subst hbq)|refine rG2 ?_|apply nS|refine rS fun bq hbq=>?_|apply rR
    refine df (v:=jI ([],[],kC (valC vs y))) (by rw [Tryz.results31]) (hl3.trans fin1) ?_ hq
    simp only [go_sem,↓reduceIte,aJ,Option.some.injEq,exists_eq_left']
    exact oW _
   ·rw [hz,if_pos rfl] at hve
    have hvo:qG (valC vs y)=valC vs y:=by unfold qG;rw [hz];rfl
    rw [hvo] at hl3 ⊢
    have mc5:(upd (upd h' q (some (.cells (ay y) 27))) q2 (some (.cells (ay (valC vs y)) 27))) ct=some (.cells [ov] 25):=by rw [ae _ _ n2c,ae _ _ nqc];exact mc
    have mq5:(upd (upd h' q (some (.cells (ay y) 27))) q2 (some (.cells (ay (valC vs y)) 27))) q2=some (.cells (ay (valC vs y)) 27):=upd_same _ _ _
    have hov5:OutV ((l.take i).map (valC vs)) ov (upd (upd h' q (some (.cells (ay y) 27))) q2 (some (.cells (ay (valC vs y)) 27))) H:=by
     rcases hov with g|⟨p,e,hp1,hp0⟩
     ·exact .inl g
     ·exact .inr ⟨p,e,by rw [ae _ _ (aj e2.2 hp1),ae _ _ (aj hq1 hp1)];exact hp1,hp0⟩
    have htk:(l.take (i+1)).map (valC vs)=(l.take i).map (valC vs)++[valC vs y]:=by rw [List.take_add_one,hy,List.map_append];rfl
    have hli:(l.take i).length=i:=by rw [List.length_take];omega
    have hlo:((l.take i).map (valC vs)).length=i:=by rw [List.length_map,hli]
    simp only [go_sem,↓reduceIte]
    generalize upd (upd h' q (some (.cells (ay y) 27))) q2 (some (.cells (ay (valC vs y)) 27))=H5 at *
    repeat with_reducible first|((first|apply zS|apply zC);intro _ R_;simp only [go_sem,↓reduceIte,f1,f3,f13,f54,f55,f56,hz,e2.1,e2.1.symm];subst R_)|(apply rN;subst hbq)|refine rG2 ?_|apply nS|refine rS fun bq hbq=>?_|apply rK
    repeat with_reducible refine ah fun bq hbq=>?_
    refine bA (.take 0 (.take 1 (.take 2 (.take 3 (.one 4 [] (.take 5 (.two 6 [] (.one 7 [] (.done)) 7 [] (.one 6 [] (.done))))))))) (by kernel_rfl) (by simp only [aF,gtOf,aA];exact rfl) ?_
    rcases hov5 with ⟨e0,rfl⟩|⟨p,rfl,hp1,hp0⟩
    ·rw [e0] at hlo htk
     obtain rfl:i=0:=hlo.symm
     repeat ((first|(with_reducible apply iT;refine sT rfl ?_)|(with_reducible apply i0;refine s0 rfl ?_));intro _ _ _ C_ R_ U_;simp only [go_sem,↓reduceIte,f1,f3,f13,mc5,mq5,xy];subst C_ R_ U_)
     refine dP ?_
     simp only [go_sem,↓reduceIte,fG]
     intro w nw
     have nwc:=aj nw mc5
     have w0:H w=none:=hl3.none nw
     rw [oP ed ed je mD iy ⟨rfl,by decide⟩ (.inr rfl) (.inl rfl) rfl (by decide) (by decide)]
     simp only [go_sem,↓reduceIte]
     simp only [go_sem,↓reduceIte,f13,mc5,nwc,nwc.symm,Nat.zero_lt_one,Nat.zero_mul]
     have wi1:=bz (((0:Nat):Int)+1) (by omega)
     refine ⟨?_,?_⟩
     all_goals
      repeat with_reducible first|(apply zS;intro _ R_;simp only [go_sem,↓reduceIte,f1,f3,f13,f54,f55,f56,wi1];subst R_)|(apply rN;subst hbq)|refine rG2 ?_|apply nS|apply rE
      refine aL (m:=k - 1) (by omega) ⟨1,.sl w 0 1,by omega,hve,?_⟩
      simp only [go_sem,↓reduceIte,f1,f3,f13,f54,f55,nwc]
      refine ⟨rfl,?_,?_⟩
      ·intro j o hj
       have j1:j≠w:=fun e=>by rw [e,w0] at hj;cases hj
       have j2:j≠ct:=fun e=>by rw [e,fct] at hj;cases hj
       simp only [upd,j1,j2,if_false]
       exact hl3 j o hj
      ·rw [htk]
       exact .inr ⟨w,rfl,by simp [upd,nwc,nwc.symm,dh],w0⟩
    ·rw [hlo] at mc5
     repeat ((first|(with_reducible apply iT;refine sT rfl ?_)|(with_reducible apply i0;refine s0 rfl ?_));intro _ _ _ C_ R_ U_;simp only [go_sem,↓reduceIte,f1,f3,f13,mc5,mq5,xy];subst C_ R_ U_)
     refine dP ?_
     simp only [go_sem,↓reduceIte,fG]
     intro w nw
     have nwc:=aj nw mc5
     have nwp:=aj nw hp1
     have npc:=dW hp1 mc5 (by decide)
     have w0:H w=none:=hl3.none nw
     have el:=gM ((l.take i).map (valC vs))
     rw [hlo] at el
     rw [sN ed ed je mD iy ⟨rfl,by decide⟩ hp1 el rfl (by decide) (by omega)]
     simp only [go_sem,↓reduceIte]
     have l1:=Nat.lt_succ_self i
     have l2:i * 4+4≤(encs ((l.take i).map (valC vs))++[AV.int .i64 0,AV.int .i64 0,AV.str ⟨#[]⟩,AV.list 0 [] 0 .nil]).length:=by rw [List.length_append,el];exact Nat.le_refl _
     have et:=Io ((l.take i).map (valC vs)) (valC vs y)
     unfold zT at et
     rw [hlo] at et
     simp only [go_sem,↓reduceIte,f13,mc5,nwc,nwc.symm,npc,npc.symm,l1,l2,et]
     have wi1:=bz ((i:Int)+1) (by omega)
     refine ⟨?_,?_⟩
     all_goals
      repeat with_reducible first|(apply zS;intro _ R_;simp only [go_sem,↓reduceIte,f1,f3,f13,f54,f55,f56,wi1];subst R_)|(apply rN;subst hbq)|refine rG2 ?_|apply nS|apply rE
      refine aL (m:=k - 1) (by omega) ⟨i+1,.sl w 0 (i+1),by omega,hve,?_⟩
      simp only [go_sem,↓reduceIte,f1,f3,f13,f54,f55,nwc]
      refine ⟨rfl,?_,?_⟩
      ·intro j o hj
       have j1:j≠w:=fun e=>by rw [e,w0] at hj;cases hj
       have j2:j≠ct:=fun e=>by rw [e,fct] at hj;cases hj
       have j3:j≠p:=fun e=>by rw [e,hp0] at hj;cases hj
       simp only [upd,j1,j2,j3,if_false]
       exact hl3 j o hj
      ·rw [htk]
       exact .inr ⟨w,by rw [List.length_append,hlo];rfl,by simp [upd,nwc,nwc.symm,et,nwp,nwp.symm,npc,npc.symm],w0⟩
  ·repeat with_reducible first|((first|apply zS|apply zC);intro _ R_;simp only [go_sem,↓reduceIte,f1,f3,f13,f54,f55,f56,hi];subst R_)|(apply rN;subst hbq)|refine rG2 ?_|(apply x1;clear hbq bq)|apply nS|refine rS fun bq hbq=>?_|apply rXx|apply x3|apply x4
   rw [List.take_of_length_le (by omega)] at hov
   rw [List.drop_eq_nil_of_le (by omega),gm] at hve
   rcases hov with ⟨e0,rfl⟩|⟨p,rfl,hp1,hp0⟩
   ·refine aD ⟨pick [1,3,13] 1 (.int .i64 n) (eupd τ 57 (.bool false)),upd h' ct (some (.cells [.list 4 (encs (l.map (valC vs))) (l.map (valC vs)).length .none] 25)),?_,hve.symm,?_⟩
    ·refine La _ mc (.cons ?_ .nil) f1
     have em:l.map (valC vs)=[]:=e0
     rw [em,bB];exact LeAV.nil _ _ _
    ·simp only [go_sem,↓reduceIte,pick,f1,f3,f13]
     intro j o hj
     have j2:j≠ct:=fun e=>by rw [e,fct] at hj;cases hj
     rw [ae _ _ j2];exact hl' j o hj
   ·have npc:=dW hp1 mc (by decide)
    refine aD ⟨pick [1,3,13] 1 (.int .i64 n) (eupd τ 57 (.bool false)),upd (upd h' p none) ct (some (.cells [.list 4 (encs (l.map (valC vs))) (l.map (valC vs)).length .none] 25)),?_,hve.symm,?_⟩
    ·refine OZ _ hp1 (by rw [gM]) (tV _) npc mc f1
    ·simp only [go_sem,↓reduceIte,pick,f1,f3,f13]
     intro j o hj
     have j2:j≠ct:=fun e=>by rw [e,fct] at hj;cases hj
     have j3:j≠p:=fun e=>by rw [e,hp0] at hj;cases hj
     rw [ae _ _ j2,ae _ _ j3];exact hl' j o hj
 clear f1 f2 f3 hl1 mct
 obtain ⟨hve,f1,f3,f13,mc,hl1⟩:=hI
 subst hbq
 rw [hve] at hq
 simp only [show ((0:Int)==0)=true from rfl,if_true] at hq
 have s3:=hl1 _ _ s3
 obtain ⟨ws,hws⟩:∃ ws,ws=l.map (valC vs):=⟨_,rfl⟩
 rw [← hws] at hq mc
 have hl3:=hl1.trans fin1
 repeat with_reducible first|(apply zS;intro _ R_;simp only [go_sem,↓reduceIte,f1,f3,f13,s3];subst R_)|refine rG2 ?_|refine rS fun bq hbq=>?_
 intro m hm
 repeat with_reducible (apply zS;intro _ R_;simp only [go_sem,↓reduceIte,f1,f3,f13,s3,Jm];subst R_)
 intro x hx
 have ex:=aQ hx
 repeat with_reducible (apply zS;intro _ R_;simp only [go_sem,↓reduceIte,f1,f3,f13,s3,Jm];subst R_)
 intro cx hcx
 have ec:=aQ hcx
 have N0:NObj x vs n ⟨[],[]⟩ h' (upd (upd h' m (some (.map [] 0))) x (some (.cells [.list 8 (aM vs) vs.length .none,.int .i64 n,.map m,.list 0 [] 0 .nil] 128))):=by
  refine ⟨m,.list 0 [] 0 .nil,[],0,upd_same _ _ _,by rw [ae _ _ ex.1.symm,upd_same],rfl,.inl ⟨rfl,rfl⟩,fun k v hk=>(by exact absurd hk (by simp [mget])),?_,?_,ex.2,hm,((ax.refl h').new hm).new ex.2⟩
  ·simpa using b1
  ·have:n≤60:=by simpa using b2
   show n+0≤60
   omega
 repeat with_reducible first|(apply zS;intro _ R_;simp only [go_sem,↓reduceIte];subst R_)|(apply rN;subst hbq)|refine rG2 ?_|apply nS|refine rS fun bq hbq=>?_
 intro co hco
 obtain ⟨A1,N1,acx,hA1,_⟩:=N0.loc hcx (.cells [.ptr x 0] 125)
 obtain ⟨A2,N2,aco,hA2,oA1⟩:=N1.loc hco (.cells [.list 0 [] 0 .nil] 25)
 have acx:=hA2 _ _ acx
 have act:=hA2 _ _ (hA1 _ _ mc)
 have hA1':=hA1.trans hl3
 simp only [go_sem,↓reduceIte]
 generalize upd (upd (upd (upd h' m (some (.map [] 0))) x (some (.cells [.list 8 (aM vs) vs.length .none,.int .i64 n,.map m,.list 0 [] 0 .nil] 128))) cx (some (.cells [.ptr x 0] 125))) co (some (.cells [.list 0 [] 0 .nil] 25))=H2 at *
 repeat with_reducible first|(apply zS;intro _ R_;simp only [go_sem,↓reduceIte,f13];subst R_)|(apply rN;subst hbq)|refine rG2 ?_|refine rS fun bq hbq=>?_
 have hA3:ax A2 h:=hA2.trans hA1'
 have o0:h co=none:=hA1'.none oA1
 have hws0:∀ t ∈ ws,t.size≤4000∧t.size≤100000∧aK vs t 0=true:=fun t ht=>by
  rw [hws] at ht
  obtain ⟨y,hy,rfl⟩:=List.mem_map.1 ht
  have h1:=uO l hve y hy
  exact ⟨h1,by omega,(ou (mO hc0 (Int.le_refl 0) (hfz y hy))).2.1⟩
 have nto:ct≠co:=fun e=>by have:=hA1 _ _ mc;rw [e,oA1] at this;cases this
 have hv2:vs.length≤2000:=(dH hc0).len
 have hwl:ws.length≤100000:=by
  rw [hws,List.length_map]
  have:(l.length:Int)≤20000:=by simpa using b3
  omega
 refine az.mono (att80 hv2 4000 ws N2 hA3 hws0 hwl act aco acx nto o0) ?_
 intro out h3 hk
 rcases hk with ⟨outs,s',A',ov,hm,rfl,N3,hA',ho,hov,hx3⟩|⟨hm,rfl,hl4⟩
 ·rw [hm] at hq
  have so:=N3.lessOf _ _ ho
  have sx:=N3.lessOf _ _ hx3
  try dsimp only
  repeat with_reducible first|((first|apply zS|apply zC);intro _ R_;simp only [go_sem,↓reduceIte];subst R_)|(apply rN;subst hbq)|refine rG2 ?_|apply nS|refine rS fun bq hbq=>?_|apply rK
  obtain ⟨m3,tv,raw,c,B⟩:=N3
  have hx4:=B.hx
  repeat with_reducible refine ah fun bq hbq=>?_
  refine bA (.take 0 (.take 1 (.take 2 (.take 3 (.take 4 (.take 5 (.take 6 (.take 7 (.done))))))))) (by kernel_rfl) (by simp only [aF,gtOf,aA];exact rfl) ?_
  repeat first|(with_reducible first|(apply rN;subst hbq)|apply nD|apply rR)|((with_reducible apply iT;refine sT rfl ?_);intro _ _ _ C_ R_ U_;simp only [go_sem,↓reduceIte,so,sx,hx4];subst C_ R_ U_)
  have f1:∃ h4,gF (.tuple [ov,tv,.int .i64 0]) h3 (.tuple [.list 4 (encs outs) outs.length .none,tv,.int .i64 0]) h4∧ax h4 h∧∀ tp cs,h3 tp=some (.cells cs 60)→h4 tp=some (.cells cs 60):=by
   rcases hov with ⟨rfl,rfl⟩|⟨p,rfl,hp,hp0⟩
   ·refine ⟨h3,gF.of (LeAV.tuple (.cons ?_ (.cons (LeAV.refl _) (.cons (LeAV.refl _) .nil)))) (ax.refl _),B.less.trans hA',fun _ _ e=>e⟩
    rw [bB];exact LeAV.nil _ _ _
   ·have hp3:=B.less _ _ hp
    refine ⟨upd h3 p none,gF.freeze hp3 (gM _) (tV _) (LeF.tuple (.cons LeF.here (.cons (LeF.refl _) (.cons (LeF.refl _) .nil)))) (LeH.of (jK _ _) (upd_same _ _ _)),?_,fun tp cs e=>?_⟩
    ·exact eO (B.less.trans hA') hp0 _
    ·rw [ae _ _ (dW e hp3 (by decide))];exact e
  obtain ⟨h4,w4,hl4,k4⟩:=f1
  have f2:∃ h5,gF (.tuple [.list 4 (encs outs) outs.length .none,tv,.int .i64 0]) h4 (jI (outs,s'.tys,0)) h5∧ax h5 h:=by
   rcases B.tys with ⟨e,rfl⟩|⟨tp,rfl,ht,ht0⟩
   ·refine ⟨h4,gF.of (LeAV.tuple (.cons (LeAV.refl _) (.cons ?_ (.cons (LeAV.refl _) .nil)))) (ax.refl _),hl4⟩
    dsimp only
    rw [e,pg];exact LeAV.nil _ _ _
   ·refine ⟨upd h4 tp none,gF.freeze (k4 _ _ ht) (iR _) (vH _) (LeF.tuple (.cons (LeF.refl _) (.cons LeF.here (.cons (LeF.refl _) .nil)))) (LeH.of (jK _ _) (upd_same _ _ _)),eO hl4 (hA'.none ht0) _⟩
  obtain ⟨h5,w5,hl5⟩:=f2
  refine ⟨[ov,tv,.int .i64 0],?_,jI (outs,s'.tys,0),h,fun P G W u s r=>?_,hq⟩
  ·rw [Tryz.results31]
   simp only [go_sem,↓reduceIte]
  ·obtain ⟨G1,e1,s1,r1⟩:=w4 P G W u s r
   obtain ⟨G2,e2,s2,r2⟩:=w5 P G1 W u s1 r1
   exact ⟨G2,e1.trans e2,s2.less hl5,r2⟩
 ·rw [hm] at hq
  try dsimp only
  repeat with_reducible first|((first|apply zS|apply zC);intro _ R_;simp only [go_sem,↓reduceIte];subst R_)|(apply rN;subst hbq)|refine rG2 ?_|(apply r1;clear hbq bq)|apply nS|refine rS fun bq hbq=>?_|apply rR
  refine df (v:=jI ([],[],2)) (by rw [Tryz.results31]) hl4 ?_ hq
  simp only [go_sem,↓reduceIte,aJ,Option.some.injEq,exists_eq_left']
  exact oW _
def dC (vs:List Va) (m:Nat):List Term:=(List.range m).map fun i=>nL vs (i:Nat)
theorem FU (vs:List Va) (i:Nat):encs (dC vs (i+1))=encs (dC vs i)++ay (nL vs i):=by
 unfold dC
 rw [List.range_succ,List.map_append]
 exact lh _ _
theorem LH (vs:List Va) (hvs:vs.length≤1000000) (m:Nat) (hm:m≤vs.length) (h:ai) (Q:AOut→ai→Prop) (hq:∀ z tok h2,(m=0∨z=4)→Grow 27 h h2 tok→ax h2 h→Q (.ret (.list z (encs (dC vs m)) m tok)) h2):az Tryz.prog 21 [.agg [.list 8 (aM vs) vs.length .none],.int .i64 m] h Q:=by
 refine eN Tryz.func21 ?_
 repeat with_reducible first|(apply zS;intro _ R_;simp only [go_sem,↓reduceIte];subst R_)|refine rG2 ?_|refine rS fun bq hbq=>?_
 intro a ha
 repeat with_reducible first|(apply zS;intro _ R_;simp only [go_sem,↓reduceIte];subst R_)|(apply rN;subst hbq)|refine rG2 ?_|(refine rB fun cq hcq=>?_;subst hcq)|apply nS|refine rS fun bq hbq=>?_
 have sa:(upd h a (some (.cells [.list 8 (aM vs) vs.length .none] 24))) a=some (.cells [.list 8 (aM vs) vs.length .none] 24):=upd_same _ _ _
 have fin:ax (upd h a (some (.cells [.list 8 (aM vs) vs.length .none] 24))) h:=ax.one ha
 refine aT (fun k τ H=>∃ (i z:Nat) (tok:Tok),k+i=m∧τ 1=.int .i64 m∧τ 2=.ptr a 0∧τ 5=.list z (encs (dC vs i)) i tok∧τ 6=.int .i64 i∧H a=some (.cells [.list 8 (aM vs) vs.length .none] 24)∧(i=0∨z=4)∧Grow 27 h H tok∧ax H h) m ?_ ?_
 ·refine ⟨0,0,.nil,rfl,?_⟩
  simp only [go_sem,↓reduceIte]
  refine ⟨?_,rfl,.inl trivial,.inl (.inr rfl),fin⟩
  show AV.list 0 [] 0 .nil=.list 0 (encs []) 0 .nil
  rw [bB]
 intro cc hcc k τ H hI
 obtain ⟨i,z,tok,hk,f1,f2,f5,f6,sa,hz,hg,hl⟩:=hI
 subst hcc
 by_cases hi:i<m
 ·repeat with_reducible first|((first|apply zS|apply zC);intro _ R_;simp only [go_sem,↓reduceIte,f1,f2,f5,f6,hi,sa];subst R_)|(apply rN;subst hbq)|refine rG2 ?_|(refine rB fun cq hcq=>?_;subst hcq)|apply nS|refine rS fun bq hbq=>?_|apply rK
  refine Ni vs hvs .none i (by omega) (by omega) _ _ ?_
  try dsimp only
  repeat with_reducible (apply zS;intro _ R_;simp only [go_sem,↓reduceIte,f1,f2,f5,f6,hi,sa,ic];subst R_)
  refine aZ ?_
  simp only [go_sem,↓reduceIte]
  intro w hw
  obtain ⟨h4,ea,hg4,hl4,keep⟩:=iK ed ed je mD iy ⟨rfl,by decide⟩ hl hw (sz1:=z) (n1:=i) (c1:=encs (dC vs i)) (c2:=ay (nL vs i)) (n2:=1) (t2:=.full) hg hz (sz2:=4) rfl (by decide) (by omega)
  have sa:=keep _ _ _ sa
  simp only [ea,go_sem,↓reduceIte]
  repeat with_reducible first|(apply zS;intro _ R_;simp only [go_sem,↓reduceIte,f1,f2,f6,bz ((i:Int)+1) (by omega)];subst R_)|(apply rN;subst hbq)|refine rG2 ?_|apply nS|apply rE
  refine aL (m:=k - 1) (by omega) ⟨i+1,4,.id w,by omega,?_⟩
  rw [FU]
  simp only [go_sem,↓reduceIte,f1,f2]
  exact ⟨rfl,sa,.inr trivial,hg4,hl4⟩
 ·obtain rfl:i=m:=by omega
  repeat first|(with_reducible first|((first|apply zS|apply zC);intro _ R_;simp only [go_sem,↓reduceIte,f1,f2,f5,f6,hi];subst R_)|(apply rN;subst hbq)|refine rG2 ?_|(apply x1;clear hbq bq)|apply nS|refine rS fun bq hbq=>?_|apply rXx|apply rR|apply x3|apply x4)|(with_reducible apply iL;refine rL (by rw [Tryz.results21]) (ax.refl _) ?_;simp only [go_sem,↓reduceIte,aJ,Option.some.injEq,exists_eq_left',f1,f2,f5,f6,hi])
  exact hq z tok H hz hg hl
noncomputable def mK (vs:List Va) (m:Nat) (l:List Term):List Term × Int:=((sQ vs 40 (dC vs m++l)).1,(sQ vs 40 (dC vs m++l)).2.2)
theorem DK (l m:List Term) (hs:∀ t ∈ l,t.size≤1000000) (hl:l.length≤1000000) (h:ai) (Q:AOut→ai→Prop) (he:l=m) (hq:Q (.ret (.bool true)) h):az Tryz.prog 22 [.list 4 (encs l) l.length .none,.list 4 (encs m) m.length .none] h Q:=by
 subst he
 have z:((l.length:Int)==l.length)=true:=by simp
 refine eN Tryz.func22 ?_
 repeat with_reducible first|((first|apply zS|apply zC);intro _ R_;simp only [go_sem,↓reduceIte,z];subst R_)|(apply rN;subst hbq)|refine rG2 ?_|(refine rB fun cq hcq=>?_;subst hcq)|apply nS|refine rS fun bq hbq=>?_|apply rK
 refine aT (fun k τ H=>∃ i:Nat,k+i=l.length∧τ 0=.list 4 (encs l) l.length .none∧τ 1=.list 4 (encs l) l.length .none∧τ 5=.int .i64 i∧ax H h) l.length ?_ ?_
 ·refine ⟨0,rfl,?_⟩
  simp only [go_sem,↓reduceIte]
  exact ⟨rfl,ax.refl _⟩
 intro cc hcc k τ H hI
 obtain ⟨i,hk,f0,f1,f5,hl⟩:=hI
 subst hcc
 by_cases hi:i<l.length
 ·obtain ⟨y,hy⟩:∃ y,l[i]?=some y:=⟨_,List.getElem?_eq_getElem hi⟩
  obtain ⟨r1,hr1⟩:=dD l i hy
  repeat with_reducible first|((first|apply zS|apply zC);intro _ R_;simp only [go_sem,↓reduceIte,f0,f1,f5,hi];subst R_)|(apply rN;subst hbq)|refine rG2 ?_|(refine rB fun cq hcq=>?_;subst hcq)|apply nS|refine rS fun bq hbq=>?_|apply rK
  repeat with_reducible refine ah fun bq hbq=>?_
  refine bA (.take 0 (.take 1 (.take 2 (.take 3 (.take 4 (.take 5 (.take 6 (.take 7 (.one 8 [] (.take 9 (.done))))))))))) (by kernel_rfl) (by simp only [aF,gtOf,aA];exact rfl) ?_
  repeat ((first|(with_reducible apply iT;refine sT rfl ?_)|(with_reducible apply i0;refine s0 rfl ?_));intro _ _ _ C_ R_ U_;simp only [go_sem,↓reduceIte,f0,f1,f5,hi,hr1];subst C_ R_ U_)
  have hys:=hs y (List.mem_of_getElem? hy)
  refine SH y.size y y _ _ (Nat.le_refl _) (by omega) ?_
  rw [Ah]
  try dsimp only
  repeat first|(with_reducible first|(apply rN;subst hbq)|refine rG2 ?_|apply nS|apply nD|apply rK|apply rE)|((first|(with_reducible first|apply sS|apply sC)|(with_reducible apply iT;refine sT rfl ?_));intro _ _ _ C_ R_ U_;simp only [go_sem,↓reduceIte,f0,f1,f5,bz ((i:Int)+1) (by omega)];subst C_ R_ U_)
  refine aL (m:=k - 1) (by omega) ⟨i+1,by omega,?_⟩
  simp only [go_sem,↓reduceIte,f0,f1]
  exact ⟨rfl,hl⟩
 ·repeat first|(with_reducible first|((first|apply zS|apply zC);intro _ R_;simp only [go_sem,↓reduceIte,f0,f1,f5,hi];subst R_)|(apply rN;subst hbq)|refine rG2 ?_|(apply x1;clear hbq bq)|apply nS|refine rS fun bq hbq=>?_|apply rXx|apply rR|apply x3|apply x4)|(with_reducible apply iL;refine rL (by rw [Tryz.results22]) (hl) ?_;simp only [go_sem,↓reduceIte,aJ,Option.some.injEq,exists_eq_left',f0,f1,f5,hi])
  exact hq
theorem Fj {P:Program} {h:ai} {tS tX E:TypeId} {z b:Nat} {zv:Value} (hS:dm P tS=some E) (hX:dm P tX=some E) (hz:tsz P E=some z) (hb:bv P E=some b) (hv:bI P E=some zv) (hc:zv.cells.size=z∧0<b) {sz1 sz2 n1:Nat} {c1 c2:List AV} {t t2:Tok} (h1:n1=0∨sz1=z) (hm:n1 * b≤70368744177664) {p:Nat} :
  dX P tS tX (.list sz1 c1 n1 t) (.list sz2 c2 0 t2) h p=some (.list sz1 c1 n1 t,h):=by
 simp only [dX,hS,hX,hz,hb,hv]
 rw [if_pos ⟨h1,by simp,hc.2,by simpa using hm,hc.1⟩]
 cases t <;> simp
theorem ym (vs:List Va) (hvs:vs.length≤10000) (m:Nat) (hm:m≤vs.length) (h:ai) (Q:AOut→ai→Prop) (hq:Q (.ret (.tuple [.list 4 (encs (mK vs m []).1) (mK vs m []).1.length .none,.int .i64 (mK vs m []).2])) h):az Tryz.prog 25 [.agg [.list 8 (aM vs) vs.length .none],.int .i64 m,.list 0 [] 0 .nil] h Q:=by
 have c1:decide (vs.length<m)=false:=decide_eq_false (by omega)
 unfold mK at hq
 refine eN Tryz.func25 ?_
 repeat with_reducible first|(apply zS;intro _ R_;simp only [go_sem,↓reduceIte];subst R_)|refine rG2 ?_|refine rS fun bq hbq=>?_
 intro a ha
 have sa:(upd h a (some (.cells [.list 8 (aM vs) vs.length .none] 24))) a=some (.cells [.list 8 (aM vs) vs.length .none] 24):=upd_same _ _ _
 have fin:ax (upd h a (some (.cells [.list 8 (aM vs) vs.length .none] 24))) h:=ax.one ha
 simp only [go_sem,↓reduceIte]
 generalize upd h a (some (.cells [.list 8 (aM vs) vs.length .none] 24))=H at *
 repeat with_reducible first|((first|apply zS|apply zC);intro _ R_;simp only [go_sem,↓reduceIte,sa,c1];subst R_)|(apply rN;subst hbq)|refine rG2 ?_|apply nS|refine rS fun bq hbq=>?_|apply rK
 repeat with_reducible refine ah fun bq hbq=>?_
 refine bA (.take 0 (.take 1 (.take 2 (.take 4 (.one 3 [0] (.one 5 [0] (.one 6 [] (.take 7 (.take 8 (.take 9 (.take 10 (.take 11 (.take 12 (.take 13 (.done))))))))))))))) (by kernel_rfl) (by simp only [aF,gtOf,aA];exact rfl) ?_
 repeat ((first|(with_reducible apply iT;refine sT rfl ?_)|(with_reducible apply iO;refine sO rfl ?_));intro _ _ _ C_ R_ U_;simp only [go_sem,↓reduceIte,sa,c1];subst C_ R_ U_)
 refine LH vs (by omega) m hm _ _ fun z tok h2 hz hg hl2=>?_
 have sa2:=hl2 _ _ sa
 try dsimp only
 repeat ((first|with_reducible apply sA|(with_reducible apply iO;refine sO rfl ?_));intro _ _ _ C_ R_ U_;simp only [go_sem,↓reduceIte,sa2];subst C_ R_ U_)
 refine aZ ?_
 simp only [go_sem,↓reduceIte]
 intro w hw
 rw [Fj ed ed je mD iy ⟨rfl,by decide⟩ hz (by omega)]
 simp only [go_sem,↓reduceIte,sa2]
 skip
 have el:(dC vs m).length=m:=by unfold dC;simp
 refine az.args (args':=[.agg [.list 8 (aM vs) vs.length .none],.int .i64 40,.list 4 (encs (dC vs m++[])) (dC vs m++[]).length .none]) (.cons (LeAV.refl _) (.cons (LeAV.refl _) (.cons (by
  rw [List.append_nil,el]
  rcases hz with e|e
  ·subst e
   have:dC vs 0=[]:=rfl
   rw [this,bB];exact LeAV.nil _ _ _
  ·subst e;exact LeAV.list _ _ _ _) .nil))) (PZ vs (by omega) 40 (dC vs m++[]) (by rw [List.append_nil];omega) _ _ ?_)
 generalize sQ vs 40 (dC vs m++[])=R at *
 obtain ⟨r1,r2,r3⟩:=R
 dsimp only [jI] at hq ⊢
 simp only [go_sem,↓reduceIte]
 repeat first|(with_reducible first|(apply zS;intro _ R_;simp only [go_sem,↓reduceIte];subst R_)|(apply rN;subst hbq)|refine rG2 ?_|apply nS|refine rS fun bq hbq=>?_|apply rR)|(with_reducible apply iL;refine rL (by rw [Tryz.results25]) (hl2.trans fin) ?_;simp only [go_sem,↓reduceIte,aJ,Option.some.injEq,exists_eq_left'])
 exact hq
end Go.Proofs.YthkjmiejaoomcaaGreat.Am
