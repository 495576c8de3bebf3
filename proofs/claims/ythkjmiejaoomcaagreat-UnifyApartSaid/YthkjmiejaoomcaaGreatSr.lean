/- Part of the proof of a law of layer 5: own texts, joined. -/
import Derived.Test.YthkjmiejaoomcaaGreatSq
import Derived.Test.YthkjmiejaoomcaaGreatSi
import Derived.Test.YthkjmiejaoomcaaGreatSb
import Derived.Test.YthkjmiejaoomcaaGreatSk
import Derived.Test.YthkjmiejaoomcaaGreatSp
import Derived.Test.YthkjmiejaoomcaaGreatSf
set_option linter.unusedVariables false
set_option linter.unusedSimpArgs false
set_option linter.unnecessarySimpa false
namespace Go.Proofs.YthkjmiejaoomcaaGreat.Am
open Go Go.RowKit Go.Proofs
set_option linter.unusedVariables false
set_option linter.unusedSimpArgs false
set_option maxRecDepth 100000
set_option maxHeartbeats 1000000
theorem zAg.weakV {f:FuncId} {args:List AV} {h:zAd} {Q:AOut→zAd→Prop} (k:zAg Tryz.prog f args h fun o h'=>∃ v v' h2,o=.ret v∧zEf v h' v' h2∧Q (.ret v') h2):zAg Tryz.prog f args h Q:=fun n =>
 ⟨(k n).1,fun F m G W vargs hF hr s hn r=>((k n).2 F m G W vargs hF hr s hn r).mono fun e W' ⟨o,h',G',⟨v,v',h2,ho,hw,q⟩,s',ev,ro⟩=>by
  subst ho
  cases e with
  |returned x =>
   obtain ⟨G2,e2,s2,r2⟩:=hw _ G' W' x s' ro
   exact ⟨.ret v',h2,G2,q,s2,ev.trans e2,r2⟩
  |_=>exact ro.elim⟩
abbrev vAV (v:Va):AV:=.agg (zBc v)
def zGy (base:List Va) (es:List (Int × Va)):List Va:=base.mapIdx fun i v=>(mget (i:Int) es).getD v
def yFq (base:List Va) (h0 h:zAd) (vv:AV):Prop:=(base=[]∧∃ sz tok,vv=.list sz [] 0 tok∧(tok=.full∨tok=.nil))∨∃ p,vv=.sl p 0 base.length∧h p=some (.cells (zAn base) 62)∧h0 p=Option.none
structure MapB (es:List (Int × Va)) (raw:List (AV × AV × Nat)) (c:Nat):Prop where
 rel:zDr vAV es raw
 lt:∀ e ∈ raw,e.2.2<c
 nod:(raw.map fun e=>e.2.2).Nodup
 keys:(es.map fun e=>e.1).Nodup
theorem zQ5 (f:AV × AV × Nat→AV × AV × Nat) (hf:∀ e,(f e).2.2=e.2.2):∀ (raw:List (AV × AV × Nat)) (j:Nat),((raw.modify j f).map fun e=>e.2.2)=raw.map fun e=>e.2.2
 |[],j=>by cases j <;> rfl
 |a::l,0=>by simp [hf]
 |a::l,j+1=>by simp [zQ5 f hf l j]
theorem zP5 {k:Int}:∀ es:List (Int × Va),mget k es=none→k ∉ es.map fun e=>e.1
 |[],_=>by simp
 |(k',v')::es,h=>by
  rw [mget] at h
  cases hk:(k==k')
  ·rw [hk] at h
   have:=zP5 es (by simpa using h)
   have hne:k≠k':=by simpa using hk
   simp only [List.map_cons,List.mem_cons,not_or]
   exact ⟨hne,this⟩
  ·rw [hk] at h;cases h
theorem zWf {k:Int} {v w:Va}:∀ es:List (Int × Va),mget k es=some w→((mset k v es).map fun e=>e.1)=es.map fun e=>e.1
 |[],h=>by cases h
 |(k',v')::es,h=>by
  rw [mget] at h
  rw [mset]
  cases hk:(k==k')
  ·rw [hk] at h
   simp only [Bool.false_eq_true,if_false,List.map_cons]
   rw [zWf es (by simpa using h)]
  ·have:k=k':=by simpa using hk
   subst this
   simp
structure SB (x m:Nat) (vv:AV) (raw:List (AV × AV × Nat)) (c:Nat) (base:List Va) (es:List (Int × Va)) (s:Sv) (h0 h:zAd):Prop where
 hx:h x=some (.cells [vv,.map m,.int .i64 s.wk] 101)
 hm:h m=some (.map raw c)
 rel:MapB es raw c
 vals:yFq base h0 h vv
 ms:s.ms=zGy base es
 low:∀ k v,mget k es=some v→0≤k∧k<(base.length:Int)
 x0:h0 x=Option.none
 m0:h0 m=Option.none
 less:zAh h h0
def SObj (x:Nat) (s:Sv) (h0 h:zAd):Prop:=∃ m vv raw c base es,SB x m vv raw c base es s h0 h
theorem z8j (base:List Va) (es:List (Int × Va)):(zGy base es).length=base.length:=by unfold zGy;rw [List.length_mapIdx]
theorem yCq {base:List Va} {es:List (Int × Va)} {n:Int} (h0:0≤n) (h1:n<(base.length:Int)):zAi (zGy base es) n=(mget n es).getD (zAi base n):=by
 unfold zAi zGy
 rw [List.getD_eq_getElem?_getD,List.getElem?_mapIdx,List.getElem?_eq_getElem (by omega),List.getD_eq_getElem?_getD,List.getElem?_eq_getElem (by omega),Int.toNat_of_nonneg h0]
 rfl
theorem SObj.lessOf {x:Nat} {s:Sv} {h0 h:zAd} (S:SObj x s h0 h):zAh h h0:=by
 obtain ⟨m,vv,raw,c,base,es,B⟩:=S
 exact B.less
theorem zLm {x m:Nat} {vv:AV} {raw:List (AV × AV × Nat)} {c:Nat} {base:List Va} {es:List (Int × Va)} {s:Sv} {h0 h:zAd} (B:SB x m vv raw c base es s h0 h):s.ms.length=base.length:=by rw [B.ms,z8j]
abbrev zV:List AV:=[.int .i64 0,.str ⟨#[]⟩,.list 0 [] 0 .nil,.bool false,.int .i64 0,.int .i64 0,.str ⟨#[]⟩,.list 0 [] 0 .nil]
theorem z4b {H:zAd} {m:Nat} {es:List (Int × Va)} {raw:List (AV × AV × Nat)} {c:Nat} (hm:H m=some (.map raw c)) (hr:zDr vAV es raw) {k:Int} {w:Va} (hg:mget k es=some w):zE7 Tryz.prog 99 (.map m) (.int .i64 k) true H=some (.tuple [vAV w,.bool true]):=by
 obtain ⟨j,hj,_⟩:=zL7 (f:=vAV) es raw 0 hr hg
 simp only [zE7,z3n,hm,zLj,plainKey,tk_3,if_true,hj]
theorem z4c {H:zAd} {m:Nat} {es:List (Int × Va)} {raw:List (AV × AV × Nat)} {c:Nat} (hm:H m=some (.map raw c)) (hr:zDr vAV es raw) {k:Int} (hg:mget k es=none):zE7 Tryz.prog 99 (.map m) (.int .i64 k) true H=some (.tuple [.agg zV,.bool false]):=by
 have hj:=zG5 (f:=vAV) es raw 0 hr hg
 simp only [zE7,z3n,hm,zLj,plainKey,tk_3,if_true,hj]
 rfl
theorem z8n {h:zAd} {m:Nat} {es:List (Int × Va)} {raw:List (AV × AV × Nat)} {c:Nat} (hm:h m=some (.map raw c)) (hr:MapB es raw c) (k:Int) (v:Va) :
  ∃ raw' c',zDc Tryz.prog 99 (.map m) (.int .i64 k) (vAV v) h=some (upd h m (some (.map raw' c')))∧MapB (mset k v es) raw' c':=by
 cases hg:mget k es with
 |none =>
  have hj:=zG5 (f:=vAV) es raw 0 hr.rel hg
  refine ⟨raw++[(.int .i64 k,vAV v,c)],c+1,?_,?_⟩
  ·simp only [zDc,z3n,hm,plainKey,tk_3,if_true,hj]
  ·rw [zL2 es hg]
   refine ⟨map_append (f:=vAV) es raw hr.rel,fun e he=>?_,?_,?_⟩
   ·rcases List.mem_append.1 he with he|he
    ·have:=hr.lt e he;omega
    ·rw [List.mem_singleton] at he;subst he;exact Nat.lt_succ_self _
   ·rw [List.map_append,List.nodup_append]
    refine ⟨hr.nod,by simp,fun a ha b hb=>?_⟩
    obtain ⟨e,he,rfl⟩:=List.mem_map.1 ha
    have:=hr.lt e he
    simp only [List.map_cons,List.map_nil,List.mem_singleton] at hb
    omega
   ·rw [List.map_append,List.nodup_append]
    refine ⟨hr.keys,by simp,fun a ha b hb=>?_⟩
    simp only [List.map_cons,List.map_nil,List.mem_singleton] at hb
    subst hb
    intro e;subst e
    exact zP5 es hg ha
 |some w =>
  obtain ⟨j,hj,h2⟩:=zUk (f:=vAV) v es raw 0 hr.rel hg
  rw [Nat.zero_add] at hj
  have hb:=zQ5 (fun e=>(.int .i64 k,vAV v,e.2.2)) (fun _=>rfl) raw j
  refine ⟨_,c,?_,⟨h2,fun e he=>?_,?_,?_⟩⟩
  ·simp only [zDc,z3n,hm,plainKey,tk_3,if_true,hj]
  ·have h3:e.2.2 ∈ (raw.modify j fun e=>(.int .i64 k,vAV v,e.2.2)).map fun e=>e.2.2:=List.mem_map_of_mem he
   rw [hb] at h3
   obtain ⟨e',he',e2⟩:=List.mem_map.1 h3
   have:=hr.lt e' he'
   omega
  ·rw [hb];exact hr.nod
  ·rw [zWf es hg];exact hr.keys
theorem zR1 {x:Nat} {s:Sv} {h0 h:zAd} (S:SObj x s h0 h) {n:Int} (n0:0≤n) (n1:n<(s.ms.length:Int)) (Q:AOut→zAd→Prop) (hq:Q (.ret (vAV (zAi s.ms n))) h):zAg Tryz.prog 142 [.ptr x 0,.int .i64 n] h Q:=by
 obtain ⟨m,vv,raw,c,base,es,B⟩:=S
 have hlen:=zLm B
 rw [hlen] at n1
 rw [B.ms,yCq n0 n1] at hq
 have hx:=B.hx
 have hm:=B.hm
 obtain ⟨v,hv⟩:∃ v,base[n.toNat]?=some v:=⟨_,List.getElem?_eq_getElem (by omega)⟩
 have hva:zAi base n=v:=by unfold zAi;rw [List.getD_eq_getElem?_getD,hv];rfl
 rcases B.vals with ⟨rfl,_⟩|⟨p,rfl,hp,hp0⟩
 ·simp at n1;omega
 refine zAg.of_sem (fn:=Tryz.f142) Tryz.func142 rfl (by kernel_rfl) (by rw [Tryz.ntmps142];simp) (enters_of Tryz.func142 (by kernel_rfl) (by kernel_rfl)) ?_
 repeat with_reducible first|(apply zS;intro _ R_;simp only [go_sem,↓reduceIte];subst R_)|refine rG2 ?_|refine rS fun bq hbq=>?_
 intro q hq0
 have qx:=zAc hq0 hx
 have qm:=zAc hq0 hm
 have qp:=zAc hq0 hp
 have hx2:upd h q (some (.cells zV 62)) x=some (.cells [.sl p 0 base.length,.map m,.int .i64 s.wk] 101):=by rw [zAa _ _ qx];exact hx
 have hm2:upd h q (some (.cells zV 62)) m=some (.map raw c):=by rw [zAa _ _ qm];exact hm
 have hp2:upd h q (some (.cells zV 62)) p=some (.cells (zAn base) 62):=by rw [zAa _ _ qp];exact hp
 have hq2:upd h q (some (.cells zV 62)) q=some (.cells zV 62):=upd_same _ _ _
 have hl2:zAh (upd h q (some (.cells zV 62))) h:=zAh.one hq0
 generalize upd h q (some (.cells zV 62))=H at *
 cases hg:mget n es with
 |some w =>
  have hlk:=z4b hm2 B.rel.rel hg
  rw [hg] at hq
  repeat with_reducible first|(apply zS;intro _ R_;simp only [go_sem,↓reduceIte,hx2,hlk];subst R_)|(apply rN;subst hbq)|refine rG2 ?_|apply nS|refine rS fun bq hbq=>?_
  intro r hr
  have rx:=zAc hr hx2
  have rq:=zAc hr hq2
  repeat first|(with_reducible first|((first|apply zS|apply zC);intro _ R_;simp only [go_sem,↓reduceIte,hx2,hlk,rx,rq,hq2];subst R_)|(apply rN;subst hbq)|refine rG2 ?_|(apply r1;clear hbq bq)|apply nS|refine rS fun bq hbq=>?_|apply rR)|(with_reducible apply iL;refine rL (by rw [Tryz.results142]) ((hl2.new (hl2.none hr)).new hq0) ?_;simp only [go_sem,↓reduceIte,zAo,Option.some.injEq,exists_eq_left',hx2,hlk,rx,rq,hq2])
  exact hq
 |none =>
  have hlk:=z4c hm2 B.rel.rel hg
  rw [hg] at hq
  repeat with_reducible first|(apply zS;intro _ R_;simp only [go_sem,↓reduceIte,hx2,hlk];subst R_)|(apply rN;subst hbq)|refine rG2 ?_|apply nS|refine rS fun bq hbq=>?_
  intro r hr
  have rx:=zAc hr hx2
  have rq:=zAc hr hq2
  have rp:=zAc hr hp2
  obtain ⟨rr,hrr⟩:=zEr base n.toNat hv
  rw [hva] at hq
  repeat first|(with_reducible first|((first|apply zS|apply zC);intro _ R_;simp only [go_sem,↓reduceIte,hx2,hlk,rx,rq,rp,hq2,hp2,n0,n1,hrr];subst R_)|(apply rN;subst hbq)|refine rG2 ?_|apply nS|refine rS fun bq hbq=>?_|apply rK|apply rR)|(with_reducible apply iL;refine rL (by rw [Tryz.results142]) ((hl2.new (hl2.none hr)).new hq0) ?_;simp only [go_sem,↓reduceIte,zAo,Option.some.injEq,exists_eq_left',hx2,hlk,rx,rq,rp,hq2,hp2,n0,n1,hrr])
  exact hq
def PanV {α:Type}:Rz α→AV→Prop
 |.ok _,_=>False
 |.clash,v=>v=.iface 150 (.agg [])
 |.large e,v=>v=.iface 152 (.agg [.int .i64 e])
theorem SB.setWk {x m:Nat} {vv:AV} {raw:List (AV × AV × Nat)} {c:Nat} {base:List Va} {es:List (Int × Va)} {s:Sv} {h0 h:zAd} (B:SB x m vv raw c base es s h0 h) (w:Int) :
  SB x m vv raw c base es ⟨s.ms,w⟩ h0 (upd h x (some (.cells [vv,.map m,.int .i64 w] 101))):=by
 have hmx:m≠x:=fun e=>by have:=B.hm;rw [e,B.hx] at this;cases this
 refine ⟨upd_same _ _ _,(zAa _ _ hmx).trans B.hm,B.rel,?_,B.ms,B.low,B.x0,B.m0,B.less.new B.x0⟩
 rcases B.vals with h|⟨p,e,hp,hp0⟩
 ·exact .inl h
 ·refine .inr ⟨p,e,?_,hp0⟩
  have hpx:p≠x:=fun e=>by rw [e,B.hx] at hp;injection hp with hp;injection hp with _ hp;cases hp
  exact (zAa _ _ hpx).trans hp
theorem zJn {P:Program} {h:zAd} {fn:Func} {Q:AOut→zAd→Prop} {τ:Env} {h':zAd} (hr:fn.results.toList=[]) (hl:zAh h h') (hq:Q (.ret (.tuple [])) h'):zLg P fn Q .normal τ h :=
 zI7 hr hl ⟨[],rfl,hq⟩
theorem z13 {x:Nat} {s:Sv} {h0 h:zAd} (S:SObj x s h0 h) (deep:Int) (hw:-1000000≤s.wk∧s.wk≤1000000) (Q:AOut→zAd→Prop) (hq:∀ s' h2,zGh s deep=.ok s'→SObj x s' h0 h2→Q (.ret (.tuple [])) h2) (hp:∀ v h2,PanV (zGh s deep) v→zAh h2 h0→Q (.panic v) h2) :
  zAg Tryz.prog 107 [.ptr x 0,.int .i64 deep] h Q:=by
 obtain ⟨m,vv,raw,c,base,es,B⟩:=S
 have hx:=B.hx
 have B2:=B.setWk (s.wk+1)
 have hx2:=B2.hx
 have hl2:=B2.less
 refine zAg.of_sem (fn:=Tryz.f107) Tryz.func107 rfl (by kernel_rfl) (by rw [Tryz.ntmps107];simp) (enters_of Tryz.func107 (by kernel_rfl) (by kernel_rfl)) ?_
 cases c1:decide (s.wk+1>40000)
 ·cases c2:decide (deep>400)
  ·have hc:zGh s deep=.ok ⟨s.ms,s.wk+1⟩:=by unfold zGh;rw [c1,c2];rfl
   repeat with_reducible first|((first|apply zS|apply zC);intro _ R_;simp only [go_sem,↓reduceIte,hx,c1,c2,zA3 (s.wk+1) (by omega)];subst R_)|(apply rN;subst hbq)|refine rG2 ?_|apply nS|refine rS fun bq hbq=>?_|apply rK
   exact zJn (by rw [Tryz.results107]) (zAh.refl _) (hq _ _ hc ⟨m,vv,raw,c,base,es,B2⟩)
  ·have hc:zGh s deep=.large 5:=by unfold zGh;rw [c1,c2];rfl
   repeat with_reducible first|((first|apply zS|apply zC);intro _ R_;simp only [go_sem,↓reduceIte,hx,c1,c2,zJ9,zA3 (s.wk+1) (by omega)];subst R_)|(apply rN;subst hbq)|refine rG2 ?_|apply nS|refine rS fun bq hbq=>?_|apply rK
   exact pL (zAh.refl _) (hp _ _ (by rw [hc];rfl) hl2)
 ·have hc:zGh s deep=.large 2:=by unfold zGh;rw [c1];rfl
  repeat with_reducible first|((first|apply zS|apply zC);intro _ R_;simp only [go_sem,↓reduceIte,hx,c1,zJ9,zA3 (s.wk+1) (by omega)];subst R_)|(apply rN;subst hbq)|refine rG2 ?_|apply nS|refine rS fun bq hbq=>?_
  exact p1 (pL (zAh.refl _) (hp _ _ (by rw [hc];rfl) hl2))
theorem LeL.length {xs ys:List AV} (h:LeL xs ys):xs.length=ys.length:=by
 induction h with
 |nil=>rfl
 |cons _ _ ih=>simp [ih]
theorem Sim.cells {P:Program} {G:Gh} {h:zAd} {W:World} {p:Nat} {xs ys:List AV} {T:TypeId} (s:Sim P G h W) (hp:h p=some (.cells xs T)) (hl:LeL xs ys):Sim P G (upd h p (some (.cells ys T))) W:=by
 have old:∀ i o,upd h p (some (.cells ys T)) i=some o→∃ o',h i=some o':=fun i o hi=>by
  by_cases e:i=p
  ·subst e;exact ⟨_,hp⟩
  ·rw [zAa _ _ e] at hi;exact ⟨_,hi⟩
 refine ⟨fun i o hi=>?_,fun i o hi=>?_,fun i j a b ha hb hlo=>?_,s.stab,s.prt⟩
 ·obtain ⟨o',ho⟩:=old i o hi;exact s.dom i o' ho
 ·by_cases e:i=p
  ·subst e
   rw [upd_same] at hi
   injection hi with hi
   subst hi
   obtain ⟨h1,h2,h3,c,h4,h5,h6,h7⟩:=s.obj _ _ hp
   exact ⟨h1,h2,h3,c,h4,h5,by rw [← hl.length];exact h6,by rw [← hl.length];exact hl.rel _ _ _ h7⟩
  ·rw [zAa _ _ e] at hi;exact s.obj i o hi
 ·obtain ⟨a',ha'⟩:=old i a ha
  obtain ⟨b',hb'⟩:=old j b hb
  exact s.inj i j a' b' ha' hb' hlo
theorem zEf.cells {v:AV} {h:zAd} {p:Nat} {xs ys:List AV} {T:TypeId} (hp:h p=some (.cells xs T)) (hl:LeL xs ys):zEf v h v (upd h p (some (.cells ys T))):=fun P G W u s r=>⟨G,Evo.refl _ _,s.cells hp hl,r⟩
theorem yHg (base:List Va) (lv:Int) (ty:Ty):LeL (zAn base++[.int .i64 lv,.str ty.name,.list 2 (zCg ty.args) ty.args.length .none,.bool false,.int .i64 0,.int .i64 0,.str zAr,.list 0 [] 0 .nil]) (zAn (base++[zJi lv ty])):=by
 have h1:zAn (base++[zJi lv ty])=zAn base++zBc (zJi lv ty):=by unfold zAn;rw [List.flatMap_append];simp
 rw [h1]
 refine LeL.app ?_ (zAn base)
 refine .cons (LeAV.refl _) (.cons (LeAV.refl _) (.cons (LeAV.refl _) (.cons (LeAV.refl _) (.cons (LeAV.refl _) (.cons (LeAV.refl _) (.cons (LeAV.refl _) (.cons ?_ .nil)))))))
 show LeAV _ (.list 4 (encs []) 0 .none)
 rw [zBa]
 exact LeAV.nil _ _ _
theorem z8k {base:List Va} {es:List (Int × Va)} (hlow:∀ k v,mget k es=some v→0≤k∧k<(base.length:Int)) (w:Va):zGy (base++[w]) es=zGy base es++[w]:=by
 unfold zGy
 rw [List.mapIdx_append]
 congr 1
 simp only [List.mapIdx_cons,List.mapIdx_nil]
 have:mget ((0+base.length:Nat):Int) es=none:=by
  cases h:mget ((0+base.length:Nat):Int) es with
  |none=>rfl
  |some v=>have:=hlow _ _ h;omega
 rw [this];rfl
theorem z8a {τ:Env} {H:zAd} {w:Nat} {lv k:Int} {ty:Ty} (base:List Va) {Q:AOut→zAd→Prop} {n:Int}
  (hw:H w=some (.cells (zAn base++[.int .i64 lv,.str ty.name,.list 2 (zCg ty.args) ty.args.length .none,.bool false,.int .i64 0,.int .i64 0,.str zAr,.list 0 [] 0 .nil]) 62)) (h6:τ 6=.int .i64 k)
  (hq:Q (.ret (.int .i64 n)) (upd H w (some (.cells (zAn (base++[zJi lv ty])) 62)))) (hn:k=n):zLg Tryz.prog Tryz.f161 Q .ret τ H:=by
 subst hn
 refine ⟨[.int .i64 k],?_,_,_,zEf.cells hw (yHg base lv ty),hq⟩
 rw [Tryz.results161]
 simp only [go_sem,↓reduceIte,h6]
theorem SB.grown {x m:Nat} {vv:AV} {raw:List (AV × AV × Nat)} {c:Nat} {base:List Va} {es:List (Int × Va)} {s:Sv} {h0 h:zAd} (B:SB x m vv raw c base es s h0 h) {w:Nat} {H:zAd} {new:Va}
  (hx:H x=some (.cells [.sl w 0 (base.length+1),.map m,.int .i64 s.wk] 101)) (hm:H m=some (.map raw c)) (hw:H w=some (.cells (zAn (base++[new])) 62)) (hw0:h0 w=Option.none) (hl:zAh H h0):SObj x ⟨s.ms++[new],s.wk⟩ h0 H :=
 ⟨m,.sl w 0 (base++[new]).length,raw,c,base++[new],es,by rw [List.length_append];exact hx,hm,B.rel,.inr ⟨w,rfl,hw,hw0⟩,by show s.ms++[new]=_;rw [B.ms,z8k B.low],fun k v hk=>by have:=B.low k v hk;rw [List.length_append];simp;omega,B.x0,B.m0,hl⟩
theorem zQe {x:Nat} {s:Sv} {h0 h:zAd} (S:SObj x s h0 h) (lv:Int) (ty:Ty) (hbl:s.ms.length≤1000000) (Q:AOut→zAd→Prop) (hq:∀ s' n h2,zE0 s lv ty=.ok (s',n)→SObj x s' h0 h2→Q (.ret (.int .i64 n)) h2) (hpn:∀ v h2,PanV (zE0 s lv ty) v→zAh h2 h0→Q (.panic v) h2) :
  zAg Tryz.prog 161 [.ptr x 0,.int .i64 lv,zKd ty] h Q:=by
 obtain ⟨m,vv,raw,c,base,es,B⟩:=S
 have hlen:=zLm B
 have hx:=B.hx
 have hm:=B.hm
 refine zAg.of_sem (fn:=Tryz.f161) Tryz.func161 rfl (by kernel_rfl) (by rw [Tryz.ntmps161];simp) (enters_of Tryz.func161 (by kernel_rfl) (by kernel_rfl)) ?_
 repeat with_reducible first|(apply zS;intro _ R_;simp only [go_sem,↓reduceIte];subst R_)|refine rG2 ?_|refine rS fun bq hbq=>?_
 intro b hb
 have bx:=zAc hb hx
 have bm:=zAc hb hm
 rcases B.vals with ⟨rfl,sz,tok,rfl,htok⟩|⟨p,rfl,hp,hp0⟩
 ·have hfr:zE0 s lv ty=.ok (⟨s.ms++[zJi lv ty],s.wk⟩,s.ms.length):=by
   unfold zE0
   rw [decide_eq_false (by simp at hlen;rw [hlen];simp)];rfl
  have z0:decide (((0:Nat):Int)≥2000)=false:=rfl
  have hx2:upd h b (some (.cells (zBz ty) 60)) x=some (.cells [.list sz [] 0 tok,.map m,.int .i64 s.wk] 101):=by rw [zAa _ _ bx];exact hx
  have hm2:upd h b (some (.cells (zBz ty) 60)) m=some (.map raw c):=by rw [zAa _ _ bm];exact hm
  have hb2:upd h b (some (.cells (zBz ty) 60)) b=some (.cells (zBz ty) 60):=upd_same _ _ _
  have hl2:zAh (upd h b (some (.cells (zBz ty) 60))) h:=zAh.one hb
  generalize upd h b (some (.cells (zBz ty) 60))=H at *
  repeat with_reducible first|((first|apply zS|apply zC);intro _ R_;simp only [go_sem,↓reduceIte,hx2,z0];subst R_)|(apply rN;subst hbq)|refine rG2 ?_|apply nS|refine rS fun bq hbq=>?_|apply rK
  repeat with_reducible refine zAb fun bq hbq=>?_
  refine zA9 (.take 0 (.take 1 (.take 2 (.take 3 (.take 4 (.take 5 (.take 6 (.take 7 (.take 8 (.take 9 (.one 10 [7] (.take 11 (.take 12 (.take 13 (.one 14 [] (.done)))))))))))))))) (by kernel_rfl) (by simp only [zAm,gtOf,zAk];exact rfl) ?_
  repeat ((first|(with_reducible apply iT;refine sT rfl ?_)|(with_reducible apply iO;refine sO rfl ?_));intro _ _ _ C_ R_ U_;simp only [go_sem,↓reduceIte,hx2,hb2,z2d,z2e];subst C_ R_ U_)
  refine zCp ?_
  simp only [go_sem,↓reduceIte,zDm]
  intro w hw
  have wx:=zAc hw hx2
  have wm:=zAc hw hm2
  rw [zJd zI0 zI0 zPg zXj zLj ⟨rfl,by decide⟩ htok (.inl rfl) rfl (by decide) (by decide)]
  simp only [go_sem,↓reduceIte]
  have wb:=zAc hw hb2
  simp only [go_sem,↓reduceIte,hx2,wx,wx.symm,wb,wb.symm,hb2]
  repeat with_reducible first|(apply zS;intro _ R_;simp only [go_sem,↓reduceIte,hx2,wx,wx.symm,wb,wb.symm,hb2,zA3 (((1:Nat):Int) - 1) (by omega)];subst R_)|(apply rN;subst hbq)|refine rG2 ?_|apply nS|refine rS fun bq hbq=>?_|apply rR
  have hw2:upd (upd H w (some (.cells ([]++[.int .i64 lv,.str ty.name,.list 2 (zCg ty.args) ty.args.length .none,.bool false,.int .i64 0,.int .i64 0,.str zAr,.list 0 [] 0 .nil]) 62))) x (some (.cells [.sl w 0 (0+1),.map m,.int .i64 s.wk] 101)) w=some (.cells ([]++[.int .i64 lv,.str ty.name,.list 2 (zCg ty.args) ty.args.length .none,.bool false,.int .i64 0,.int .i64 0,.str zAr,.list 0 [] 0 .nil]) 62):=by rw [zAa _ _ wx.symm,upd_same]
  refine z8a [] hw2 rfl (hq _ _ _ hfr ?_) (by rw [hlen];rfl)
  have w0:h0 w=Option.none:=B.less.none (hl2.none hw)
  have mx:m≠x:=fun e=>by rw [e] at hm2;rw [hx2] at hm2;cases hm2
  refine B.grown (w:=w) ?_ ?_ (upd_same _ _ _) w0 ?_
  ·rw [zAa _ _ wx,upd_same];rfl
  ·rw [zAa _ _ wm,zAa _ _ mx,zAa _ _ wm];exact hm2
  ·exact (((hl2.trans B.less).new w0).new B.x0).new w0
 ·cases c1:decide ((base.length:Int)≥2000)
  ·have bp:=zAc hb hp
   have hx2:upd h b (some (.cells (zBz ty) 60)) x=some (.cells [.sl p 0 base.length,.map m,.int .i64 s.wk] 101):=by rw [zAa _ _ bx];exact hx
   have hm2:upd h b (some (.cells (zBz ty) 60)) m=some (.map raw c):=by rw [zAa _ _ bm];exact hm
   have hp2:upd h b (some (.cells (zBz ty) 60)) p=some (.cells (zAn base) 62):=by rw [zAa _ _ bp];exact hp
   have hb2:upd h b (some (.cells (zBz ty) 60)) b=some (.cells (zBz ty) 60):=upd_same _ _ _
   have hl2:zAh (upd h b (some (.cells (zBz ty) 60))) h:=zAh.one hb
   generalize upd h b (some (.cells (zBz ty) 60))=H at *
   repeat with_reducible first|((first|apply zS|apply zC);intro _ R_;simp only [go_sem,↓reduceIte,hx2,c1];subst R_)|(apply rN;subst hbq)|refine rG2 ?_|apply nS|refine rS fun bq hbq=>?_|apply rK
   repeat with_reducible refine zAb fun bq hbq=>?_
   refine zA9 (.take 0 (.take 1 (.take 2 (.take 3 (.take 4 (.take 5 (.take 6 (.take 7 (.take 8 (.take 9 (.one 10 [7] (.take 11 (.take 12 (.take 13 (.one 14 [] (.done)))))))))))))))) (by kernel_rfl) (by simp only [zAm,gtOf,zAk];exact rfl) ?_
   repeat ((first|(with_reducible apply iT;refine sT rfl ?_)|(with_reducible apply iO;refine sO rfl ?_));intro _ _ _ C_ R_ U_;simp only [go_sem,↓reduceIte,hx2,hb2,z2d,z2e];subst C_ R_ U_)
   refine zCp ?_
   simp only [go_sem,↓reduceIte,zDm]
   intro w hw
   have wx:=zAc hw hx2
   have wm:=zAc hw hm2
   have wp:=zAc hw hp2
   rw [zL0 zI0 zI0 zPg zXj zLj ⟨rfl,by decide⟩ (k:=p) (cs:=zAn base) (n1:=base.length) hp2 (by rw [zEn]) rfl (by decide) (by omega)]
   simp only [go_sem,↓reduceIte]
   have wb:=zAc hw hb2
   have pb:b≠p:=fun e=>by rw [e] at hb2;rw [hb2] at hp2;injection hp2 with hp2;injection hp2 with _ hp2;cases hp2
   have px:x≠p:=fun e=>by rw [e] at hx2;rw [hx2] at hp2;injection hp2 with hp2;injection hp2 with _ hp2;cases hp2
   simp only [go_sem,↓reduceIte,hx2,wx,wx.symm,px,px.symm,wb,wb.symm,hb2,pb,pb.symm]
   repeat with_reducible first|(apply zS;intro _ R_;simp only [go_sem,↓reduceIte,hx2,wx,wx.symm,px,px.symm,wb,wb.symm,hb2,pb,pb.symm,zA3 (((base.length+1:Nat):Int) - 1) (by omega)];subst R_)|(apply rN;subst hbq)|refine rG2 ?_|apply nS|refine rS fun bq hbq=>?_|apply rR
   have hfr:zE0 s lv ty=.ok (⟨s.ms++[zJi lv ty],s.wk⟩,s.ms.length):=by
    unfold zE0
    rw [hlen,c1];rfl
   refine z8a base (w:=w) (lv:=lv) (ty:=ty) ?_ rfl (hq _ _ _ hfr ?_) (by omega)
   ·rw [zAa _ _ wx.symm,upd_same]
   have w0:h0 w=Option.none:=B.less.none (hl2.none hw)
   have mx:m≠x:=fun e=>by rw [e] at hm2;rw [hx2] at hm2;cases hm2
   have mp:m≠p:=fun e=>by rw [e] at hm2;rw [hp2] at hm2;cases hm2
   refine B.grown (w:=w) ?_ ?_ (upd_same _ _ _) w0 ?_
   ·rw [zAa _ _ wx,upd_same]
   ·rw [zAa _ _ wm,zAa _ _ mx,zAa _ _ wm,zAa _ _ mp];exact hm2
   ·exact ((zEk (hl2.trans B.less) hp0 _ |>.new w0).new B.x0).new w0
  ·have hfr:zE0 s lv ty=.large 2:=by
    unfold zE0
    rw [hlen,c1];rfl
   repeat with_reducible first|((first|apply zS|apply zC);intro _ R_;simp only [go_sem,↓reduceIte,hx,bx,c1,zJ9];subst R_)|(apply rN;subst hbq)|refine rG2 ?_|apply nS|refine rS fun bq hbq=>?_
   exact p1 (pL (zAh.refl _) (hpn _ _ (by rw [hfr];rfl) ((zAh.one hb).trans B.less)))
theorem zH6 (k n:Int) (nm:ByteArray) (sz:Nat) (cs:List AV) (m:Nat) (tok:Tok):zA8 Tryz.prog 25 1 [(0,.agg [.int .i64 k,.int .i64 n,.str nm,.list sz cs m tok])]=some (.list 4 [.int .i64 k,.int .i64 n,.str nm,.list sz cs m tok] 1 .full):=zKn zCo zEz zEd rfl rfl rfl (by decide)
theorem zSz (k:Int) (sz:Nat) (cs:List AV) (m:Nat) (tok:Tok):zCh Tryz.prog 27 [(0,.int .i64 k),(3,.list sz cs m tok)]=some (.agg [.int .i64 k,.int .i64 0,.str zAr,.list sz cs m tok]):=by
 simp only [zCh,zEd,zYx,zEt]
 rfl
theorem z3w (t:Term) (n:Int) (hn0:0≤n) (hn:n≤1000000) (h:zAd) (Q:AOut→zAd→Prop) (hq:Q (.ret (enc (zDh n.toNat t))) h):zAg Tryz.prog 164 [enc t,.int .i64 n] h Q:=by
 refine zAg.of_sem (fn:=Tryz.f164) Tryz.func164 rfl (by kernel_rfl) (by rw [Tryz.ntmps164];simp) (enters_of Tryz.func164 (by kernel_rfl) (by kernel_rfl)) ?_
 repeat with_reducible first|(apply zS;intro _ R_;simp only [go_sem,↓reduceIte];subst R_)|refine rG2 ?_|refine rS fun bq hbq=>?_
 intro b hb
 repeat with_reducible (apply zS;intro _ R_;simp only [go_sem,↓reduceIte];subst R_)
 intro r hr
 have e:=zAs hr
 have e0:=e.1
 repeat with_reducible first|(apply zS;intro _ R_;simp only [go_sem,↓reduceIte,e.1,e.1.symm];subst R_)|(apply rN;subst hbq)|refine rG2 ?_|(refine rB fun cq hcq=>?_;subst hcq)|apply nS|refine rS fun bq hbq=>?_
 refine zAz (fun k τ h'=>∃ (i:Nat) (u:Term) (sz:Nat) (cs:List AV) (tok:Tok),k=n.toNat - i∧(i:Int)≤n∧zDh (n.toNat - i) u=zDh n.toNat t∧τ 2=.ptr b 0∧τ 4=.ptr r 0∧τ 5=.int .i64 n∧τ 6=.int .i64 i∧zAh h' h∧h' b=some (.cells [.int .i64 u.kind,.int .i64 u.n,.str u.name,.list sz cs u.args.length tok] 27)∧LeAV (.list sz cs u.args.length tok) (.list 4 (encs u.args) u.args.length .none)∧h' r=some (.cells [.int .i64 0,.int .i64 0,.str ⟨#[]⟩,.list 0 [] 0 .nil] 27)) n.toNat ?_ ?_
 ·refine ⟨0,t,_,_,_,rfl,hn0,rfl,rfl,rfl,rfl,rfl,((zAh.refl h).new hb).new e.2,?_,LeAV.refl _,upd_same _ _ _⟩
  rw [zAa _ _ e.1.symm,upd_same]
 ·intro c hc k τ h' hI
  obtain ⟨i,u,sz,cs,tok,rfl,hi,hu,f2,f4,f5,f6,hl',mb,hL,mr⟩:=hI
  subst hc
  by_cases hin:(i:Int)<n
  ·have rb:r≠b:=e0
   repeat with_reducible first|((first|apply zS|apply zC);intro _ R_;simp only [go_sem,↓reduceIte,f2,f4,f5,f6,hin,mb,zH6,zSz,zA3 ((i:Int)+1) (by omega)];subst R_)|(apply rN;subst hbq)|refine rG2 ?_|(refine rB fun cq hcq=>?_;subst hcq)|apply nS|refine rS fun bq hbq=>?_|apply rK|apply rE
   refine zAp (m:=n.toNat - (i+1)) (by omega) ⟨i+1,⟨5,0,zAr,[u]⟩,4,[.int .i64 u.kind,.int .i64 u.n,.str u.name,.list sz cs u.args.length tok],.full,rfl,by omega,?_⟩
   simp only [go_sem,↓reduceIte,f2,f4,f5,rb]
   refine ⟨by rw [← hu,show n.toNat - i=n.toNat - (i+1)+1 by omega,zDh],rfl,hl'.new hb,?_,mr⟩
   have e25:encs [u]=zAj u:=by rw [zB6];simp
   rw [e25]
   exact fun G W v hr=>LeAV.listL (.cons (LeAV.refl _) (.cons (LeAV.refl _) (.cons (LeAV.refl _) (.cons hL .nil)))) G W v (LeAV.list _ _ _ _ G W v hr)
  ·obtain rfl:n=i:=by omega
   rw [show (i:Int).toNat - i=0 by omega,zDh] at hu
   repeat with_reducible first|((first|apply zS|apply zC);intro _ R_;simp only [go_sem,↓reduceIte,f2,f4,f5,f6,hin,mb,mr];subst R_)|(apply rN;subst hbq)|refine rG2 ?_|(apply x1;clear hbq bq)|apply nS|refine rS fun bq hbq=>?_|apply rXx|apply rR|apply x3|apply x4
   refine zBx (v:=enc u) (by rw [Tryz.results164]) (hl'.new e.2) ?_ (by rw [hu];exact hq)
   simp only [go_sem,↓reduceIte,f4,zAo,Option.some.injEq,exists_eq_left']
   exact LeAV.agg (.cons (LeAV.refl _) (.cons (LeAV.refl _) (.cons (LeAV.refl _) (.cons hL .nil))))
theorem SB.add {x m:Nat} {vv:AV} {raw:List (AV × AV × Nat)} {c:Nat} {base:List Va} {es:List (Int × Va)} {s:Sv} {h0 h:zAd} (B:SB x m vv raw c base es s h0 h) {b:Nat} (hb:h b=Option.none) (o:AObj):SB x m vv raw c base es s (upd h0 b (some o)) (upd h b (some o)):=by
 have xb:=zAc hb B.hx
 have mb:=zAc hb B.hm
 refine ⟨(zAa _ _ xb).trans B.hx,(zAa _ _ mb).trans B.hm,B.rel,?_,B.ms,B.low,(zAa _ _ xb).trans B.x0,(zAa _ _ mb).trans B.m0,fun j y hj=>?_⟩
 ·rcases B.vals with h|⟨p,e,hp,hp0⟩
  ·exact .inl h
  ·have pb:=zAc hb hp
   exact .inr ⟨p,e,(zAa _ _ pb).trans hp,(zAa _ _ pb).trans hp0⟩
 ·by_cases e:j=b
  ·subst e;rw [upd_same] at hj ⊢;exact hj
  ·rw [zAa _ _ e] at hj ⊢;exact B.less _ _ hj
theorem SObj.add {x:Nat} {s:Sv} {h0 h:zAd} (S:SObj x s h0 h) {b:Nat} (hb:h b=Option.none) (o:AObj):SObj x s (upd h0 b (some o)) (upd h b (some o)):=by
 obtain ⟨m,vv,raw,c,base,es,B⟩:=S
 exact ⟨m,vv,raw,c,base,es,B.add hb o⟩
theorem SObj.low {x:Nat} {s:Sv} {h1 h0 h:zAd} (S:SObj x s h1 h) (hl:zAh h1 h0):SObj x s h0 h:=by
 obtain ⟨m,vv,raw,c,base,es,B⟩:=S
 refine ⟨m,vv,raw,c,base,es,B.hx,B.hm,B.rel,?_,B.ms,B.low,hl.none B.x0,hl.none B.m0,B.less.trans hl⟩
 rcases B.vals with h|⟨p,e,hp,hp0⟩
 ·exact .inl h
 ·exact .inr ⟨p,e,hp,hl.none hp0⟩
theorem SObj.put {x:Nat} {s:Sv} {h0 h:zAd} (S:SObj x s h0 h) {b:Nat} {o:AObj} (hb:h0 b=some o) (o':AObj):SObj x s (upd h0 b (some o')) (upd h b (some o')):=by
 obtain ⟨m,vv,raw,c,base,es,B⟩:=S
 have xb:x≠b:=fun e=>by have:=B.x0;rw [e,hb] at this;cases this
 have mb:m≠b:=fun e=>by have:=B.m0;rw [e,hb] at this;cases this
 refine ⟨m,vv,raw,c,base,es,(zAa _ _ xb).trans B.hx,(zAa _ _ mb).trans B.hm,B.rel,?_,B.ms,B.low,(zAa _ _ xb).trans B.x0,(zAa _ _ mb).trans B.m0,fun j y hj=>?_⟩
 ·rcases B.vals with h|⟨p,e,hp,hp0⟩
  ·exact .inl h
  ·have pb:p≠b:=fun e=>by rw [e,hb] at hp0;cases hp0
   exact .inr ⟨p,e,(zAa _ _ pb).trans hp,(zAa _ _ pb).trans hp0⟩
 ·by_cases e:j=b
  ·subst e;rw [upd_same] at hj ⊢;exact hj
  ·rw [zAa _ _ e] at hj ⊢;exact B.less _ _ hj
theorem z8h {base:List Va} {es:List (Int × Va)} {n:Int} (h0:0≤n) (v:Va):zGy base (mset n v es)=(zGy base es).set n.toNat v:=by
 apply List.ext_getElem?
 intro i
 unfold zGy
 rw [List.getElem?_mapIdx,List.getElem?_set,List.getElem?_mapIdx,List.length_mapIdx]
 by_cases e:n.toNat=i
 ·subst e
  by_cases hb:n.toNat<base.length
  ·rw [if_pos rfl,if_pos hb,List.getElem?_eq_getElem hb]
   simp only [Option.map_some]
   rw [zGx,Int.toNat_of_nonneg h0]
   simp
  ·rw [if_pos rfl,if_neg hb,List.getElem?_eq_none (by omega)];rfl
 ·rw [if_neg e]
  cases hb:base[i]? with
  |none=>rfl
  |some w =>
   simp only [Option.map_some]
   rw [zGx]
   have:((i:Int)==n)=false:=by
    have:(i:Int)≠n:=by omega
    simpa using this
   rw [this];rfl
theorem SObj.loc {x:Nat} {s:Sv} {h0 h:zAd} (S:SObj x s h0 h) {b:Nat} (hb:h b=Option.none) (o:AObj):∃ A,SObj x s A (upd h b (some o))∧A b=some o∧zAh A h0∧h0 b=Option.none:=by
 have h0b:=S.lessOf.none hb
 exact ⟨upd h0 b (some o),S.add hb o,upd_same _ _ _,zAh.one h0b,h0b⟩
theorem SObj.wr {x:Nat} {s:Sv} {h0 A h:zAd} (S:SObj x s A h) (hA:zAh A h0) {b:Nat} {o:AObj} (hb:A b=some o) (hb0:h0 b=Option.none) (o':AObj):∃ A',SObj x s A' (upd h b (some o'))∧A' b=some o'∧zAh A' h0∧∀ j y,j≠b→A j=some y→A' j=some y :=
 ⟨upd A b (some o'),S.put hb o',upd_same _ _ _,hA.new hb0,fun j y hj hy=>(zAa _ _ hj).trans hy⟩
theorem zZ0 {x:Nat} {s:Sv} {h0 h:zAd} (S:SObj x s h0 h) {n:Int} (n0:0≤n) (n1:n<(s.ms.length:Int)) (b:Term) (Q:AOut→zAd→Prop) (hq:∀ h2,SObj x (zH8 s n b) h0 h2→Q (.ret (.tuple [])) h2):zAg Tryz.prog 146 [.ptr x 0,.int .i64 n,enc b] h Q:=by
 refine zAg.of_sem (fn:=Tryz.f146) Tryz.func146 rfl (by kernel_rfl) (by rw [Tryz.ntmps146];simp) (enters_of Tryz.func146 (by kernel_rfl) (by kernel_rfl)) ?_
 repeat with_reducible first|(apply zS;intro _ R_;simp only [go_sem,↓reduceIte];subst R_)|refine rG2 ?_|refine rS fun bq hbq=>?_
 intro q hq0
 obtain ⟨A,S,aq,hA,_⟩:=S.loc hq0 (.cells (zAj b) 27)
 generalize upd h q (some (.cells (zAj b) 27))=H at *
 repeat with_reducible first|(apply zS;intro _ R_;simp only [go_sem,↓reduceIte];subst R_)|(apply rN;subst hbq)|refine rG2 ?_|apply nS|refine rS fun bq hbq=>?_
 refine zR1 S n0 n1 _ ?_
 try dsimp only
 repeat with_reducible (apply zS;intro _ R_;simp only [go_sem,↓reduceIte];subst R_)
 intro r hr
 have sq:=S.lessOf _ _ aq
 have rq:=zAc hr sq
 repeat with_reducible first|(apply zS;intro _ R_;simp only [go_sem,↓reduceIte,rq,sq];subst R_)|(apply rN;subst hbq)|refine rG2 ?_|apply nS|refine rS fun bq hbq=>?_
 refine zLh _ _ _ ?_
 rw [zIr]
 obtain ⟨A2,S,ar,hA2,hAr⟩:=S.loc hr (.cells (zBc (zAi s.ms n)) 62)
 generalize upd H r (some (.cells (zBc (zAi s.ms n)) 62))=H2 at *
 have sr:=S.lessOf _ _ ar
 have sq:=S.lessOf _ _ (hA2 _ _ aq)
 try dsimp only
 repeat with_reducible first|(apply zS;intro _ R_;simp only [go_sem,↓reduceIte,sr,sq];subst R_)|(apply rN;subst hbq)|refine rG2 ?_|apply nS|refine rS fun bq hbq=>?_
 have h8:=zEb (zAi s.ms n).type
 refine z3w b ((zD2 (zAi s.ms n).type).getD []).length (by omega) (by unfold zBg at h8;omega) _ _ ?_
 try dsimp only
 repeat with_reducible first|(apply zS;intro _ R_;simp only [go_sem,↓reduceIte,sr,sq];subst R_)|(apply rN;subst hbq)|apply nS
 have eh:(AV.int .i64 (zAi s.ms n).level::AV.str (zAi s.ms n).type.name::AV.list 2 (zCg (zAi s.ms n).type.args) (zAi s.ms n).type.args.length .none::AV.bool true::zAj (zDh ((zD2 (zAi s.ms n).type).getD []).length b))=zBc (zQ4 (zAi s.ms n) b):=rfl
 rw [eh]
 obtain ⟨A3,S,ar3,hA3,_⟩:=S.wr hA2 ar hAr (.cells (zBc (zQ4 (zAi s.ms n) b)) 62)
 generalize upd H2 r (some (.cells (zBc (zQ4 (zAi s.ms n) b)) 62))=H3 at *
 have sr3:=S.lessOf _ _ ar3
 have S4:=(S.low hA3).low hA
 obtain ⟨m,vv,raw,c,base,es,B⟩:=S4
 obtain ⟨raw2,c2,hup,hrel⟩:=z8n B.hm B.rel n (zQ4 (zAi s.ms n) b)
 have hx:=B.hx
 repeat with_reducible refine zAb fun bq hbq=>?_
 refine zA9 (.take 0 (.take 1 (.take 2 (.take 3 (.take 4 (.take 5 (.one 6 [] (.done)))))))) (by kernel_rfl) (by simp only [zAm,gtOf,zAk];exact rfl) ?_
 repeat first|with_reducible apply nD|((first|(with_reducible apply iT;refine sT rfl ?_)|(with_reducible apply i0;refine s0 rfl ?_));intro _ _ _ C_ R_ U_;simp only [go_sem,↓reduceIte,hx,sr3,hup];subst C_ R_ U_)
 refine zJn (by rw [Tryz.results146]) (zAh.refl _) (hq _ ⟨m,vv,raw2,c2,base,mset n (zQ4 (zAi s.ms n) b) es,?_⟩)
 have xm:x≠m:=fun e=>by have:=B.hm;rw [← e,hx] at this;cases this
 have hlen:=zLm B
 refine ⟨(zAa _ _ xm).trans hx,upd_same _ _ _,hrel,?_,?_,fun k v hk=>?_,B.x0,B.m0,B.less.new B.m0⟩
 ·rcases B.vals with h|⟨p,e,hp,hp0⟩
  ·exact .inl h
  ·have pm:p≠m:=fun e=>by rw [e,B.hm] at hp;cases hp
   exact .inr ⟨p,e,(zAa _ _ pm).trans hp,hp0⟩
 ·rw [z8h n0,← B.ms];rfl
 ·rw [zGx] at hk
  split at hk
  ·rename_i e
   have:k=n:=by simpa using e
   omega
  ·exact B.low k v hk
theorem SObj.more {x:Nat} {s:Sv} {h0 h h':zAd} (S:SObj x s h0 h) (hl:zAh h' h):SObj x s h0 h':=by
 obtain ⟨m,vv,raw,c,base,es,B⟩:=S
 refine ⟨m,vv,raw,c,base,es,hl _ _ B.hx,hl _ _ B.hm,B.rel,?_,B.ms,B.low,B.x0,B.m0,hl.trans B.less⟩
 rcases B.vals with h|⟨p,e,hp,hp0⟩
 ·exact .inl h
 ·exact .inr ⟨p,e,hl _ _ hp,hp0⟩
theorem zUh {x:Nat} {s:Sv} {h0 h:zAd} (S:SObj x s h0 h) (I:Inv s.ms) {d:Int} (hd:0≤d) (hd2:d≤1000000) (t:Term) (hf:zAv s.ms t d=true) (Q:AOut→zAd→Prop) (hq:Q (.ret (enc (zEx s.ms t))) h):zAg Tryz.prog 108 [.ptr x 0,enc t] h Q:=by
 obtain ⟨_,_,_,k,hs⟩:=zD3 I hd hf
 generalize zEx s.ms t=u at *
 refine zAg.of_sem (fn:=Tryz.f108) Tryz.func108 rfl (by kernel_rfl) (by rw [Tryz.ntmps108];simp) (enters_of Tryz.func108 (by kernel_rfl) (by kernel_rfl)) ?_
 repeat with_reducible first|(apply zS;intro _ R_;simp only [go_sem,↓reduceIte];subst R_)|refine rG2 ?_|refine rS fun bq hbq=>?_
 intro b hb
 repeat with_reducible (apply zS;intro _ R_;simp only [go_sem,↓reduceIte];subst R_)
 intro r hr
 have e:=zAs hr
 repeat with_reducible first|(apply rN;subst hbq)|(refine rB fun cq hcq=>?_;subst hcq)|apply nS|refine rS fun bq hbq=>?_
 refine zAz (fun k τ h'=>∃ t',zMs s.ms k t' u∧zAv s.ms t' d=true∧τ 0=.ptr x 0∧τ 3=.ptr b 0∧τ 4=.ptr r 0∧zAh h' h∧h' b=some (.cells (zAj t') 27)∧h' r=some (.cells [.int .i64 0,.int .i64 0,.str ⟨#[]⟩,.list 0 [] 0 .nil] 27)) k ?_ ?_
 ·refine ⟨t,hs,hf,rfl,rfl,rfl,((zAh.refl h).new hb).new e.2,?_,upd_same _ _ _⟩
  rw [zAa _ _ e.1.symm,upd_same]
 ·intro c hc k τ h' hI
  obtain ⟨t',hs',hf',f0,f3,f4,hl',mb,mr⟩:=hI
  subst hc
  have rb:r≠b:=e.1
  have S':=S.more hl'
  cases h4:(t'.kind==4)
  ·cases hs' with
   |step h4' _ _=>rw [h4] at h4';cases h4'
   |done _ =>
    repeat first|(with_reducible first|((first|apply zS|apply zC);intro _ R_;simp only [go_sem,↓reduceIte,f0,f3,f4,mb,mr,h4,rb];subst R_)|(apply rN;subst hbq)|refine rG2 ?_|(apply x1;clear hbq bq)|apply nS|refine rS fun bq hbq=>?_|apply rXx|apply rR|apply x3|apply x4)|(with_reducible apply iL;refine rL (by rw [Tryz.results108]) ((hl'.new e.2)) ?_;simp only [go_sem,↓reduceIte,zAo,Option.some.injEq,exists_eq_left',f0,f3,f4,mb,mr,h4,rb])
    exact hq
  ·have hv:=zHj hf' h4
   repeat with_reducible first|((first|apply zS|apply zC);intro _ R_;simp only [go_sem,↓reduceIte,f0,f3,f4,mb,mr,h4,rb];subst R_)|(apply rN;subst hbq)|refine rG2 ?_|(refine rB fun cq hcq=>?_;subst hcq)|apply nS|refine rS fun bq hbq=>?_|apply rK
   refine zR1 S' hv.1 hv.2.1 _ ?_
   try dsimp only
   repeat with_reducible (apply zS;intro _ R_;simp only [go_sem,↓reduceIte,f0,f3,f4,mb,mr,h4,rb];subst R_)
   intro w hw
   have wb:=zAc hw mb
   have wr:=zAc hw mr
   cases hs' with
   |done hflex =>
    rw [h4,Bool.true_and] at hflex
    repeat first|(with_reducible first|((first|apply zS|apply zC);intro _ R_;simp only [go_sem,↓reduceIte,f0,f3,f4,mb,mr,h4,rb,wb,wr,hflex];subst R_)|(apply rN;subst hbq)|refine rG2 ?_|(apply r1;clear hbq bq)|apply nS|refine rS fun bq hbq=>?_|apply rR|apply r3|apply r4)|(with_reducible apply iL;refine rL (by rw [Tryz.results108]) ((hl'.new (hl'.none hw)).new e.2) ?_;simp only [go_sem,↓reduceIte,zAo,Option.some.injEq,exists_eq_left',f0,f3,f4,mb,mr,h4,rb,wb,wr,hflex])
    exact hq
   |@step _ _ k _ hi hs2 =>
    obtain ⟨hp,h2,h3,h1,h6,h5,hn0,hn1⟩:=zTg I hd hf' h4 hi
    have hlen:=zHk hf'
    have hff:=zG6 hp (zC4 s.ms t') 0 (Int.le_refl _) (by rw [Int.add_zero];exact h2) h3
    rw [Int.add_zero] at hff
    have hbs:(zC4 s.ms t').size≤(zAi s.ms t'.n).t.size:=zUp _ _
    repeat with_reducible first|((first|apply zS|apply zC);intro _ R_;simp only [go_sem,↓reduceIte,f0,f3,f4,mb,mr,h4,rb,wb,wr,hi];subst R_)|(apply rN;subst hbq)|refine rG2 ?_|apply nS|refine rS fun bq hbq=>?_|apply rK
    refine zUq (zAi s.ms t'.n).t t'.args.length _ _ (by omega) ?_
    rw [Int.toNat_natCast,h1]
    rw [show (zCw t'.args.length (zAi s.ms t'.n).t).1=zC4 s.ms t' from rfl]
    try dsimp only
    repeat with_reducible (apply zS;intro _ R_;simp only [go_sem,↓reduceIte,f0,f3,f4,mb,mr,h4,rb,wb,wr,hi];subst R_)
    intro q hq1
    have q1:=zAs hq1
    have qb:=zAc q1.2 mb
    have qr:=zAc q1.2 mr
    repeat with_reducible first|(apply zS;intro _ R_;simp only [go_sem,↓reduceIte,f0,f3,f4,mb,mr,h4,rb,wb,wr,hi,q1.1,q1.1.symm,qb,qr];subst R_)|(apply rN;subst hbq)|refine rG2 ?_|apply nS
    refine zW5 (zC4 s.ms t').size (zC4 s.ms t') t'.args 0 _ _ (Nat.le_refl _) (by decide) (by omega) (by omega) (fun a ha=>?_) h6 ?_
    ·have hA:=hp.args a ha
     rcases (zBi hA.1).1 with e|e
     ·have:=hA.2.2.1 e;omega
     ·have:=hA.2.2.2 e;omega
    ·try dsimp only
     repeat with_reducible first|(apply zS;intro _ R_;simp only [go_sem,↓reduceIte,f0,f3,f4,mb,mr,h4,rb,wb,wr,hi,q1.1,q1.1.symm,qb,qr];subst R_)|apply nS|apply rE
     refine zAp (m:=k) (by omega) ⟨_,hs2,hff,?_⟩
     simp only [go_sem,↓reduceIte,f0,f3,f4,qb,qr,wb,wr,rb,mr]
     exact ((hl'.new (hl'.none hw)).new (hl'.none q1.2)).new hb
abbrev zT:List AV:=[.int .i64 0,.int .i64 0,.str ⟨#[]⟩,.list 0 [] 0 .nil]
theorem z7j {lv:Int} {us:List Term} {y:Term} {d:Int} (h2:(y.kind==2)=true) (hl:decide (y.n<d)=true):zDe lv us y d=(y,true):=by unfold zDe;rw [h2,hl];rfl
theorem z7i {lv:Int} {us:List Term} {y:Term} {d:Int} (h3:(y.kind==3)=true) (hl:decide (y.n<lv)=true):zDe lv us y d=(y,true):=by
 have e:y.kind=3:=by simpa using h3
 unfold zDe;rw [e,hl];rfl
def zD7 (y:Term) (d:Int):Term:=if y.kind==2 then ⟨y.kind,y.n - d,y.name,y.args⟩ else y
theorem yB8 {lv:Int} {us:List Term} {y:Term} {d:Int} (h2:(y.kind==2)=true→decide (y.n<d)=false) (h3:(y.kind==3)=true→decide (y.n<lv)=false):zDe lv us y d=zGi us (zD7 y d) d:=by
 unfold zDe zD7
 cases k2:(y.kind==2)
 ·simp only [Bool.false_eq_true,if_false]
  cases k3:(y.kind==3)
  ·rfl
  ·rw [h3 k3];rfl
 ·simp only [if_true]
  rw [h2 k2];rfl
theorem yHp (v:Va):zX3 Tryz.prog 62 (vAV v) 0=some (.int .i64 v.level):=by
 simp only [zX3,z9m,sz_3,ag_3]
 rfl
abbrev agT (y:Term) (L:AV):List AV:=[.int .i64 y.kind,.int .i64 y.n,.str y.name,L]
theorem zV2 {x:Nat} {s:Sv} {h0 h:zAd} (S:SObj x s h0 h) (v y:Term) (d:Int) (n0:0≤v.n) (n1:v.n<(s.ms.length:Int)) (hus:v.args.length≤1000000) (hy:-1000000≤y.n∧y.n≤1000000) (hd:0≤d∧d≤1000000) (zy my:Nat) (cy:List AV) (ty:Tok) (hLy:LeAV (.list zy cy my ty) (.list 4 (encs y.args) y.args.length .none))
  (Q:AOut→zAd→Prop) (hq0:∀ z ok,zDe (zAi s.ms v.n).level v.args y d=(z,ok)→(z=y∨z=⟨y.kind,y.n - d,y.name,y.args⟩)→Q (.ret (.tuple [.agg (agT z (.list zy cy my ty)),.bool ok])) h) (hq1:∀ z,zDe (zAi s.ms v.n).level v.args y d=(z,true)→z.args=[]→Q (.ret (.tuple [.agg (agT z (.list 0 [] 0 .nil)),.bool true])) h):zAg Tryz.prog 163 [.ptr x 0,enc v,.agg (agT y (.list zy cy my ty)),.int .i64 d] h Q:=by
 refine zAg.of_sem (fn:=Tryz.f163) Tryz.func163 rfl (by kernel_rfl) (by rw [Tryz.ntmps163];simp) (enters_of Tryz.func163 (by kernel_rfl) (by kernel_rfl)) ?_
 repeat with_reducible first|(apply zS;intro _ R_;simp only [go_sem,↓reduceIte];subst R_)|refine rG2 ?_|refine rS fun bq hbq=>?_
 intro b hb
 repeat with_reducible (apply zS;intro _ R_;simp only [go_sem,↓reduceIte];subst R_)
 intro c hc
 have e1:=zAs hc
 repeat with_reducible (apply zS;intro _ R_;simp only [go_sem,↓reduceIte,e1.1,e1.1.symm];subst R_)
 intro r hr
 have e2:=zAs hr
 have e3:=zAs e2.2
 have hl:zAh (upd (upd (upd h b (some (.cells (zAj v) 27))) c (some (.cells (agT y (.list zy cy my ty)) 27))) r (some (.cells zT 27))) h:=(((zAh.refl h).new hb).new e1.2).new e3.2
 have mb:upd (upd (upd h b (some (.cells (zAj v) 27))) c (some (.cells (agT y (.list zy cy my ty)) 27))) r (some (.cells zT 27)) b=some (.cells (zAj v) 27):=by rw [zAa _ _ e3.1.symm,zAa _ _ e1.1.symm,upd_same]
 have mc:upd (upd (upd h b (some (.cells (zAj v) 27))) c (some (.cells (agT y (.list zy cy my ty)) 27))) r (some (.cells zT 27)) c=some (.cells (agT y (.list zy cy my ty)) 27):=by rw [zAa _ _ e2.1.symm,upd_same]
 have mr:upd (upd (upd h b (some (.cells (zAj v) 27))) c (some (.cells (agT y (.list zy cy my ty)) 27))) r (some (.cells zT 27)) r=some (.cells zT 27):=upd_same _ _ _
 have rb:=e3.1
 have rc:=e2.1
 have cb:=e1.1
 have rh:=e3.2
 have ch:=e1.2
 generalize upd (upd (upd h b (some (.cells (zAj v) 27))) c (some (.cells (agT y (.list zy cy my ty)) 27))) r (some (.cells zT 27))=H at *
 repeat with_reducible first|(apply zS;intro _ R_;simp only [go_sem,↓reduceIte];subst R_)|apply nS
 refine zAe ?_;subst hbq
 repeat with_reducible refine zAb fun bq hbq=>?_
 repeat with_reducible refine zAb fun bq hbq=>?_
 refine rG2 ?_
 simp only [go_sem,↓reduceIte,mc]
 refine zAe ?_;subst hbq
 repeat with_reducible refine zAb fun bq hbq=>?_
 refine zCc (fun τ' h'=>τ' 0=.ptr x 0∧τ' 3=.int .i64 d∧τ' 5=.ptr b 0∧τ' 6=.ptr c 0∧τ' 8=.ptr r 0∧zAh h' h∧h' b=some (.cells (zAj v) 27)∧h' c=some (.cells (agT (zD7 y d) (.list zy cy my ty)) 27)∧h' r=some (.cells zT 27)∧((y.kind==2)=true→decide (y.n<d)=false)) ?_ fun τ h' hI=>?_
 ·cases k2:(y.kind==2)
  ·have el:zD7 y d=y:=by unfold zD7;rw [k2];rfl
   repeat with_reducible first|(apply zC;intro _ R_;simp only [go_sem,↓reduceIte,mb,mc,mr,rb,rc,cb,k2];subst R_)|apply rK
   refine zAl ?_
   simp only [go_sem,↓reduceIte,el]
   exact ⟨hl,mb,mc,mr⟩
  ·have e2:y.kind=2:=by simpa using k2
   cases kd:decide (y.n<d)
   ·have el:zD7 y d=⟨y.kind,y.n - d,y.name,y.args⟩:=by unfold zD7;rw [k2];rfl
    repeat with_reducible first|((first|apply zS|apply zC);intro _ R_;simp only [go_sem,↓reduceIte,mb,mc,mr,rb,rc,cb,k2,kd,zA3 (y.n - d) (by omega)];subst R_)|(apply rN;subst hbq)|refine rG2 ?_|apply nS|refine rS fun bq hbq=>?_|apply rK
    refine zAl ?_
    simp only [go_sem,↓reduceIte,el,cb.symm,rc,mb,mr]
    exact hl.new ch
   ·have hq:=hq0 _ _ (z7j k2 kd) (.inl rfl)
    repeat first|(with_reducible first|((first|apply zS|apply zC);intro _ R_;simp only [go_sem,↓reduceIte,mb,mc,mr,rb,rc,cb,k2,kd];subst R_)|(apply rN;subst hbq)|refine rG2 ?_|(apply r1;clear hbq bq)|apply nS|refine rS fun bq hbq=>?_|apply rR|apply r2)|(with_reducible apply iL;refine rL (by rw [Tryz.results163]) (hl.new rh) ?_;simp only [go_sem,↓reduceIte,zAo,Option.some.injEq,exists_eq_left',mb,mc,mr,rb,rc,cb,k2,kd])
    exact hq
 clear mb mc mr hl
 obtain ⟨f0,f3,f5,f6,f8,hl,mb,mc,mr,hk2⟩:=hI
 have S':=S.more hl
 have lk:(zD7 y d).kind=y.kind:=by unfold zD7;split <;> rfl
 have ln:(y.kind==3)=true→zD7 y d=y:=fun e=>by
  unfold zD7;have:y.kind=3:=(by simpa using e);rw [this];rfl
 subst hbq
 repeat with_reducible refine zAb fun bq hbq=>?_
 refine zCc (fun τ' h''=>h''=h'∧τ' 3=.int .i64 d∧τ' 5=.ptr b 0∧τ' 6=.ptr c 0∧τ' 8=.ptr r 0∧τ' 37=.bool (y.kind==3&&decide (y.n<(zAi s.ms v.n).level))) ?_ fun τ h' hI=>?_
 ·cases k3:(y.kind==3)
  ·repeat with_reducible refine zAb fun bq hbq=>?_
   refine zA9 (.take 0 (.take 1 (.take 2 (.take 3 (.take 4 (.take 5 (.take 6 (.take 7 (.take 8 (.one 9 [5,1] (.one 10 [5,1] (.take 11 (.take 12 (.done)))))))))))))) (by kernel_rfl) (by simp only [zAm,gtOf,zAk];exact rfl) ?_
   repeat first|with_reducible apply nD|((first|(with_reducible apply iT;refine sT rfl ?_)|(with_reducible apply iO;refine sO rfl ?_));intro _ _ _ C_ R_ U_;simp only [go_sem,↓reduceIte,f0,f3,f5,f6,f8,mb,mc,mr,lk,k3];subst C_ R_ U_)
   refine zAl ?_
   simp only [go_sem,↓reduceIte,f0,f3,f5,f6,f8]
  ·rw [ln k3] at mc
   repeat with_reducible refine zAb fun bq hbq=>?_
   refine zA9 (.take 0 (.take 1 (.take 2 (.take 3 (.take 4 (.take 5 (.take 6 (.take 7 (.take 8 (.one 9 [5,1] (.one 10 [5,1] (.take 11 (.take 12 (.done)))))))))))))) (by kernel_rfl) (by simp only [zAm,gtOf,zAk];exact rfl) ?_
   repeat ((first|(with_reducible apply iT;refine sT rfl ?_)|(with_reducible apply iO;refine sO rfl ?_));intro _ _ _ C_ R_ U_;simp only [go_sem,↓reduceIte,f0,f3,f5,f6,f8,mb,mc,mr,lk,k3];subst C_ R_ U_)
   refine zR1 S' n0 n1 _ ?_
   try dsimp only
   repeat first|with_reducible apply nD|((first|with_reducible apply sA|(with_reducible apply iT;refine sT rfl ?_)|(with_reducible apply iO;refine sO rfl ?_));intro _ _ _ C_ R_ U_;simp only [go_sem,↓reduceIte,f0,f3,f5,f6,f8,mb,mc,mr,lk,k3,yHp];subst C_ R_ U_)
   refine zAl ?_
   simp only [go_sem,↓reduceIte,f0,f3,f5,f6,f8]
 obtain ⟨rfl,g3,g5,g6,g8,g37⟩:=hI
 subst hbq
 clear f0 f3 f5 f6 f8
 cases hp:(y.kind==3&&decide (y.n<(zAi s.ms v.n).level))
 case true =>
  rw [Bool.and_eq_true] at hp
  have hq:=hq0 _ _ (z7i hp.1 hp.2) (.inl rfl)
  rw [ln hp.1] at mc
  rw [hp.1,hp.2] at g37
  repeat first|(with_reducible first|((first|apply zS|apply zC);intro _ R_;simp only [go_sem,↓reduceIte,g3,g5,g6,g8,g37,mb,mc,mr,rc,rb];subst R_)|(apply rN;subst hbq)|refine rG2 ?_|(apply r1;clear hbq bq)|apply nS|refine rS fun bq hbq=>?_|apply rR)|(with_reducible apply iL;refine rL (by rw [Tryz.results163]) (hl.new rh) ?_;simp only [go_sem,↓reduceIte,zAo,Option.some.injEq,exists_eq_left',g3,g5,g6,g8,g37,mb,mc,mr,rc,rb])
  exact hq
 case false =>
  rw [hp] at g37
  have hpg0:=yB8 (us:=v.args) hk2 (fun e=>by rw [e,Bool.true_and] at hp;exact hp)
  have hL0:LeAV (.list zy cy my ty) (.list 4 (encs (zD7 y d).args) (zD7 y d).args.length .none):=by unfold zD7;split <;> exact hLy
  have hy0:zD7 y d=y∨zD7 y d=⟨y.kind,y.n - d,y.name,y.args⟩:=by
   unfold zD7
   split
   ·exact .inr rfl
   ·exact .inl rfl
  generalize zD7 y d=y0 at *
  repeat with_reducible first|((first|apply zS|apply zC);intro _ R_;simp only [go_sem,↓reduceIte,g3,g5,g6,g8,g37,mb,mc,mr,rc,rb];subst R_)|(apply rN;subst hbq)|refine rG2 ?_|(refine rB fun cq hcq=>?_;subst hcq)|apply nS|refine rS fun bq hbq=>?_|apply rK
  refine zAz (fun k τ h''=>∃ i:Nat,k+i=v.args.length∧zKl (v.args.drop i) y0 i=zKl v.args y0 0∧τ 3=.int .i64 d∧τ 5=.ptr b 0∧τ 6=.ptr c 0∧τ 8=.ptr r 0∧τ 40=.list 4 (encs v.args) v.args.length .none∧τ 41=.int .i64 v.args.length∧τ 42=.int .i64 i∧zAh h'' h' ) v.args.length ?_ ?_
  ·refine ⟨0,rfl,rfl,?_⟩
   simp only [go_sem,↓reduceIte,g3,g5,g6,g8]
   exact ⟨rfl,zAh.refl _⟩
  ·intro k0 hk0 k τ2 h2 hI
   obtain ⟨i,hk,hix,e3,e5,e6,e8,e40,e41,e42,hl2⟩:=hI
   subst hk0
   have nb:=hl2 _ _ mb
   have nc:=hl2 _ _ mc
   have nr:=hl2 _ _ mr
   by_cases hi:i<v.args.length
   ·obtain ⟨u,hu⟩:∃ u,v.args[i]?=some u:=⟨_,List.getElem?_eq_getElem hi⟩
    obtain ⟨q,hqd⟩:=zB7 v.args i hu
    have hdrop:v.args.drop i=u::v.args.drop (i+1):=by
     rw [List.drop_eq_getElem_cons hi]
     rw [List.getElem?_eq_getElem hi] at hu;injection hu with hu;rw [hu]
    rw [hdrop,zKl] at hix
    repeat with_reducible first|((first|apply zS|apply zC);intro _ R_;simp only [go_sem,↓reduceIte,e3,e5,e6,e8,e40,e41,e42,hi,hqd];subst R_)|(apply rN;subst hbq)|refine rG2 ?_|(refine rB fun cq hcq=>?_;subst hcq)|apply nS|refine rS fun bq hbq=>?_|apply rK
    intro w hw
    have wb:=zAc hw nb
    have wc:=zAc hw nc
    have wr:=zAc hw nr
    repeat with_reducible first|(apply zS;intro _ R_;simp only [go_sem,↓reduceIte,e3,e5,e6,e8,e40,e41,e42,nc,wc];subst R_)|(apply rN;subst hbq)|refine rG2 ?_|apply nS|refine rS fun bq hbq=>?_
    refine zAg.args (args':=[enc u,enc y0]) (.cons (LeAV.refl _) (.cons (LeAV.agg (.cons (LeAV.refl _) (.cons (LeAV.refl _) (.cons (LeAV.refl _) (.cons hL0 .nil))))) .nil)) (yHk u y0 _ _ ?_)
    cases hf:isF u y0
    ·rw [hf] at hix
     try dsimp only
     repeat with_reducible first|((first|apply zS|apply zC);intro _ R_;simp only [go_sem,↓reduceIte,e3,e5,e6,e8,e40,e41,e42,hf,zA3 ((i:Int)+1) (by omega)];subst R_)|(apply rN;subst hbq)|refine rG2 ?_|apply nS|apply rK|apply rE
     refine zAp (m:=k - 1) (by omega) ⟨i+1,by omega,hix,?_⟩
     simp only [go_sem,↓reduceIte,e3,e5,e6,e8,e40,e41]
     exact ⟨rfl,(zAh.one hw).trans hl2⟩
    ·rw [hf] at hix
     simp only [if_true] at hix
     have hpg:zGi v.args y0 d=(sBnd ((v.args.length:Int) - 1 - i+d),true):=by unfold zGi;rw [← hix]
     have hq:=hq1 _ (hpg0.trans hpg) rfl
     try dsimp only
     repeat with_reducible first|((first|apply zS|apply zC);intro _ R_;simp only [go_sem,↓reduceIte,e3,e5,e6,e8,e40,e41,e42,hf,nb,nr,wb,wr,zFb,zA3 ((v.args.length:Int) - 1) (by omega),zA3 ((v.args.length:Int) - 1 - i) (by omega),zA3 ((v.args.length:Int) - 1 - i+d) (by omega)];subst R_)|(apply rN;subst hbq)|refine rG2 ?_|(apply r1;clear hbq bq)|apply nS|refine rS fun bq hbq=>?_|apply rR|apply r3|apply r4
     refine zBx (v:=.tuple [.agg (agT (sBnd ((v.args.length:Int) - 1 - i+d)) (.list 0 [] 0 .nil)),.bool true]) (by rw [Tryz.results163]) (((zAh.one hw).trans (hl2.trans hl)).new rh) ?_ hq
     simp only [go_sem,↓reduceIte,e8,zAo,Option.some.injEq,exists_eq_left']
     exact LeAV.refl _
   ·rw [List.drop_eq_nil_of_le (by omega),zKl] at hix
    have hpg:zGi v.args y0 d=(y0,false):=by unfold zGi;rw [← hix]
    have hq:=hq0 _ _ (hpg0.trans hpg) hy0
    repeat first|(with_reducible first|((first|apply zS|apply zC);intro _ R_;simp only [go_sem,↓reduceIte,e3,e5,e6,e8,e40,e41,e42,hi,nc,nr];subst R_)|(apply rN;subst hbq)|refine rG2 ?_|(apply x1;clear hbq bq)|apply nS|refine rS fun bq hbq=>?_|apply rXx|apply rR|apply x3|apply x4)|(with_reducible apply iL;refine rL (by rw [Tryz.results163]) ((hl2.trans hl).new rh) ?_;simp only [go_sem,↓reduceIte,zAo,Option.some.injEq,exists_eq_left',e3,e5,e6,e8,e40,e41,e42,hi,nc,nr])
    exact hq
theorem zAg.weakR {P:Program} {f:FuncId} {args:List AV} {h:zAd} {Q:AOut→zAd→Prop} (k:zAg P f args h fun o h'=>∃ v v',o=.ret v∧LeAV v v'∧Q (.ret v') h'):zAg P f args h Q:=fun n =>
 ⟨(k n).1,fun F m G W vargs hF hr s hn r=>((k n).2 F m G W vargs hF hr s hn r).mono fun e W' ⟨o,h',G',⟨v,v',ho,hle,q⟩,s',ev,ro⟩=>⟨.ret v',h',G',q,s',ev,by
  subst ho
  cases e with
  |returned x=>exact hle G' W' x ro
  |_=>exact ro⟩⟩
theorem yB9 {x:Nat} {s:Sv} {h0 h:zAd} (S:SObj x s h0 h) (v y:Term) (d:Int) (n0:0≤v.n) (n1:v.n<(s.ms.length:Int)) (hus:v.args.length≤1000000) (hy:-1000000≤y.n∧y.n≤1000000) (hd:0≤d∧d≤1000000)
  (Q:AOut→zAd→Prop) (hq:Q (.ret (.tuple [enc (zDe (zAi s.ms v.n).level v.args y d).1,.bool (zDe (zAi s.ms v.n).level v.args y d).2])) h):zAg Tryz.prog 163 [.ptr x 0,enc v,enc y,.int .i64 d] h Q:=by
 refine zAg.weakR (zV2 S v y d n0 n1 hus hy hd 4 y.args.length (encs y.args) .none (LeAV.refl _) _ (fun z ok hz hz2=>?_) (fun z hz hz2=>?_))
 ·rw [hz] at hq
  have e:z.args=y.args:=by rcases hz2 with e|e <;> rw [e]
  refine ⟨_,_,rfl,?_,hq⟩
  show LeAV _ (.tuple [.agg (agT z (.list 4 (encs z.args) z.args.length .none)),.bool ok])
  rw [e]
  exact LeAV.refl _
 ·rw [hz] at hq
  refine ⟨_,_,rfl,?_,hq⟩
  show LeAV _ (.tuple [.agg (agT z (.list 4 (encs z.args) z.args.length .none)),.bool true])
  rw [hz2,zBa]
  exact LeAV.tuple (.cons (LeAV.agg (.cons (LeAV.refl _) (.cons (LeAV.refl _) (.cons (LeAV.refl _) (.cons (LeAV.nil _ _ _) .nil))))) (.cons (LeAV.refl _) .nil))
theorem yAg (s:ByteArray):zCh Tryz.prog 60 [(0,.str s)]=some (.agg [.str s,.list 0 [] 0 .nil]):=by
 simp only [zCh,zRj,yG0,zEt]
 rfl
theorem yAf (s:ByteArray) (sz:Nat) (cs:List AV) (n:Nat) (tok:Tok):zCh Tryz.prog 60 [(0,.str s),(1,.list sz cs n tok)]=some (.agg [.str s,.list sz cs n tok]):=by
 simp only [zCh,zRj,yG0,zEt]
 rfl
theorem yAh (s s':ByteArray) (sz sz':Nat) (cs cs':List AV) (n n':Nat) (tok tok':Tok):zA8 Tryz.prog 40 2 [(0,.agg [.str s,.list sz cs n tok]),(1,.agg [.str s',.list sz' cs' n' tok'])]=some (.list 2 [.str s,.list sz cs n tok,.str s',.list sz' cs' n' tok'] 2 .full):=by
 simp only [zA8,zOh,zVj,zRj,zEt]
 rfl
theorem z4q {L p:Nat} {l:List ByteArray} {sz:Nat} {h0:zAd} {Own:Nat→zAd→Prop} (hp:h0 p=some (.cells [.list sz (encS l) l.length .none] 70)) (hsz:l=[]∨sz=1) (hl1:l.length≤1000000)
  (hR:∀ (i:Nat) (a:ByteArray) (h':zAd) (Q:AOut→zAd→Prop),l[i]?=some a→Own (i+1) h'→zAh h' h0→(∀ h2,Own i h2→zAh h2 h0→Q (.ret (.bool true)) h2)→zNw Tryz.prog L [.int .i64 i,.str a] h' Q)
  (h:zAd) (Q:AOut→zAd→Prop) (hO:Own l.length h) (hl:zAh h h0) (hq:∀ h2,Own 0 h2→zAh h2 h0→Q (.ret (.tuple [])) h2):zAg Tryz.prog 180 [.yield L,.ptr p 0] h Q:=by
 have mp:=hl _ _ hp
 refine zAg.of_sem (fn:=Tryz.f180) Tryz.func180 rfl (by kernel_rfl) (by rw [Tryz.ntmps180];simp) (enters_of Tryz.func180 (by kernel_rfl) (by kernel_rfl)) ?_
 repeat with_reducible first|(apply zS;intro _ R_;simp only [go_sem,↓reduceIte,mp,zA3 ((l.length:Int) - 1) (by omega)];subst R_)|(apply rN;subst hbq)|refine rG2 ?_|(refine rB fun cq hcq=>?_;subst hcq)|apply nS|refine rS fun bq hbq=>?_
 refine zAz (fun k τ h'=>∃ i:Nat,k=i∧i≤l.length∧τ 0=.yield L∧τ 1=.ptr p 0∧τ 3=.int .i64 ((i:Int) - 1)∧Own i h'∧zAh h' h0) l.length ?_ ?_
 ·exact ⟨l.length,rfl,Nat.le_refl _,rfl,rfl,rfl,hO,hl⟩
 ·intro c hc k τ h' hI
  obtain ⟨i,hk,hi,f0,f1,f3,hO',hl'⟩:=hI
  subst hc
  have mp:=hl' _ _ hp
  cases i with
  |zero =>
   have c0:decide ((((0:Nat):Int) - 1)≥0)=false:=by decide
   repeat with_reducible first|((first|apply zS|apply zC);intro _ R_;simp only [go_sem,↓reduceIte,f0,f1,f3,c0];subst R_)|(apply rN;subst hbq)|refine rG2 ?_|(apply x1;clear hbq bq)|apply nS|refine rS fun bq hbq=>?_|apply rXx|apply x3|apply x4
   exact zI7 (by rw [Tryz.results180]) (zAh.refl _) ⟨[],rfl,hq _ hO' hl'⟩
  |succ i =>
   have e1:((i+1:Nat):Int) - 1=(i:Int):=by omega
   rw [e1] at f3
   have c0:decide ((i:Int)≥0)=true:=decide_eq_true (by omega)
   have hi':i<l.length:=by omega
   obtain ⟨a,ha⟩:∃ a,l[i]?=some a:=⟨_,List.getElem?_eq_getElem hi'⟩
   have hne:l≠[]:=fun e=>by subst e;simp at hi'
   obtain rfl:sz=1:=hsz.resolve_left hne
   have d1:(List.drop i (encS l)).head?=some (.str a):=by rw [List.head?_drop,List.getElem?_map,ha];rfl
   repeat with_reducible first|((first|apply zS|apply zC);intro _ R_;simp only [go_sem,↓reduceIte,f0,f1,f3,c0];subst R_)|(apply rN;subst hbq)|refine rG2 ?_|apply nS|refine rS fun bq hbq=>?_|apply rK
   repeat with_reducible refine zAb fun bq hbq=>?_
   refine zA6 fun cq hcq=>?_
   subst hcq
   repeat with_reducible refine zAb fun bq hbq=>?_
   refine zYr fun n ds rd0=>?_
   simp only [zJt,zC5,amOp,zI1,aop,zAx,aPut,go_sem,↓reduceIte,f0,f1,f3,mp,hi',d1]
   intro _ _ _ _ _ _
   have hrd:zNw Tryz.prog L [.int .i64 i,.str a] h' fun o h2=>o=.ret (.bool true)∧zAh h2 h0∧Own i h2:=hR i a _ _ ha hO' hl' (fun h2 ho hl2=>⟨rfl,hl2,ho⟩)
   refine zZ8 ((hrd n).mono fun o h2 n' ⟨ho,hl2,hO2⟩=>?_)
   subst ho
   simp only [go_sem,↓reduceIte]
   intro _
   refine ⟨rfl,rfl,?_⟩
   simp only [yL8]
   repeat with_reducible first|((first|apply zS|apply zC);intro _ R_;simp only [go_sem,↓reduceIte,f3,zA3 ((i:Int) - 1) (by omega)];subst R_)|(apply rN;subst hbq)|refine rG2 ?_|apply nS|apply rK|apply rE
   refine zAp (m:=i) (by omega) ⟨i,rfl,by omega,?_⟩
   simp only [go_sem,↓reduceIte,f0,f1]
   exact ⟨hO2,hl2⟩
theorem z4r (l:List ByteArray) (sz:Nat) (h:zAd) (Q:AOut→zAd→Prop) (hq:∀ p,h p=Option.none→Q (.ret (.func (.func 180) [] [.ptr p 0])) (upd h p (some (.cells [.list sz (encS l) l.length .none] 70)))):zAg Tryz.prog 169 [.list sz (encS l) l.length .none] h Q:=by
 refine zAg.of_sem (fn:=Tryz.f169) Tryz.func169 rfl (by kernel_rfl) (by rw [Tryz.ntmps169];simp) (enters_of Tryz.func169 (by kernel_rfl) (by kernel_rfl)) ?_
 repeat with_reducible first|(apply zS;intro _ R_;simp only [go_sem,↓reduceIte];subst R_)|refine rG2 ?_|refine rS fun bq hbq=>?_
 intro p hp
 repeat first|(with_reducible first|(apply zS;intro _ R_;simp only [go_sem,↓reduceIte];subst R_)|(apply rN;subst hbq)|refine rG2 ?_|apply nS|refine rS fun bq hbq=>?_|apply rR)|(with_reducible apply iL;refine rL (by rw [Tryz.results169]) (zAh.refl _) ?_;simp only [go_sem,↓reduceIte,zAo,Option.some.injEq,exists_eq_left'])
 exact hq p hp
theorem zO5 (l:List ByteArray) (sz:Nat) (hsz:l=[]∨sz=1) (hl1:l.length≤1000000) (to:Ty) (h:zAd) (Q:AOut→zAd→Prop) (hq:Q (.ret (zKd (zBp l to))) h):zAg Tryz.prog 158 [.list sz (encS l) l.length .none,zKd to] h Q:=by
 intro n0
 refine zEp.of_semM (fn:=Tryz.f158) Tryz.func158 rfl (by kernel_rfl) (by rw [Tryz.ntmps158];simp) (enters_of Tryz.func158 (by kernel_rfl) (by kernel_rfl)) ?_
 refine NSem.seqN (fun τ h'=>∃ c r,τ 0=.list sz (encS l) l.length .none∧τ 3=.ptr c 0∧τ 4=.ptr r 0∧zAh h' h∧h' c=some (.cells (zBz to) 60)∧h' r=some (.cells [.str ⟨#[]⟩,.list 0 [] 0 .nil] 60)∧h c=Option.none∧h r=Option.none∧r≠c) ?_ fun τ h1 n1 hI=>?_
 ·try dsimp only
  repeat with_reducible first|(apply zS;intro _ R_;simp only [go_sem,↓reduceIte];subst R_)|refine rG2 ?_
  intro c hc
  repeat with_reducible (apply zS;intro _ R_;simp only [go_sem,↓reduceIte];subst R_)
  intro r hr
  have e:=zAs hr
  repeat with_reducible apply nS
  refine zTy ⟨c,r,?_⟩
  simp only [go_sem,↓reduceIte,e.1,e.1.symm]
  exact ⟨((zAh.refl h).new hc).new e.2,hc,e.2,e.1⟩
 obtain ⟨c,r,f0,f3,f4,hl1',mc,mr,nc,nr,rc⟩:=hI
 refine .seq ?_
 refine NSem.seqN (fun τ h'=>∃ p,τ 3=.ptr c 0∧τ 4=.ptr r 0∧τ 8=.func (.func 180) [] [.ptr p 0]∧zAh h' h1∧h' p=some (.cells [.list sz (encS l) l.length .none] 70)∧p≠c∧p≠r∧h1 p=Option.none) ?_ fun τ h2 n2 hI=>?_
 ·try dsimp only
  repeat with_reducible first|(apply zS;intro _ R_;simp only [go_sem,↓reduceIte,f0];subst R_)|refine rG2 ?_
  refine z4r l sz _ _ fun p hp=>?_
  try dsimp only
  repeat with_reducible apply nS
  refine zTy ⟨p,?_⟩
  simp only [go_sem,↓reduceIte,f3,f4]
  exact ⟨zAh.one hp,fun e=>zAc hp mc e.symm,fun e=>zAc hp mr e.symm,hp⟩
 clear f0 f3 f4
 obtain ⟨p,f3,f4,f8,hl2,mp,pc,pr,np⟩:=hI
 refine .block (.hideRF fun asg bd hasg hbd=>.of_fresh fun hfresh=>?_)
 have fD:h2 n2=Option.none:=hfresh _ (Nat.le_refl _)
 have fL:h2 (n2+1)=Option.none:=hfresh _ (Nat.le_succ _)
 have hDL:n2≠n2+1:=by omega
 refine NSem.rangeFunc rfl (f:=180) (first:=[]) (cap:=[.ptr p 0]) f8 ?_
 show zEp Tryz.prog 180 [.yield (n2+1),.ptr p 0] (upd (upd h2 n2 (some .defs)) (n2+1) (some (.loop .ready Option.none Tryz.f158.ntmps τ [9,10] asg bd n2))) (n2+2) _
 obtain ⟨L,hLdef⟩:∃ L,L=n2+1:=⟨_,rfl⟩
 rw [← hLdef] at fL hDL ⊢
 have mc:=hl2 _ _ mc
 have mr:=hl2 _ _ mr
 have cL:c≠L:=fun e=>by rw [e,fL] at mc;cases mc
 have cD:c≠n2:=fun e=>by rw [e,fD] at mc;cases mc
 have rL:r≠L:=fun e=>by rw [e,fL] at mr;cases mr
 have rD:r≠n2:=fun e=>by rw [e,fD] at mr;cases mr
 have pL':p≠L:=fun e=>by rw [e,fL] at mp;cases mp
 have pD:p≠n2:=fun e=>by rw [e,fD] at mp;cases mp
 let Own:Nat→zAd→Prop:=fun i H=>H L=some (.loop .ready Option.none Tryz.f158.ntmps τ [9,10] asg bd n2)∧∃ zs cs tok,H c=some (.cells [.str (zBp (l.drop i) to).name,.list zs cs (zBp (l.drop i) to).args.length tok] 60)∧LeAV (.list zs cs (zBp (l.drop i) to).args.length tok) (.list 2 (zCg (zBp (l.drop i) to).args) (zBp (l.drop i) to).args.length .none)
 obtain ⟨H0,hH0⟩:∃ H0,H0=cutH [L,c] (upd (upd h2 n2 (some .defs)) L (some (.loop .ready Option.none Tryz.f158.ntmps τ [9,10] asg bd n2))):=⟨_,rfl⟩
 have zL:H0 L=Option.none:=by rw [hH0];exact z95 (by simp)
 have zc:H0 c=Option.none:=by rw [hH0];exact z95 (by simp)
 have at0:∀ j o,h2 j=some o→j≠c→H0 j=some o:=fun j o hj hjc=>by
  have e1:j≠L:=by intro e;rw [e,fL] at hj;cases hj
  have e2:j≠n2:=by intro e;rw [e,fD] at hj;cases hj
  rw [hH0,z96 (by simp [e1,hjc]),zAa _ _ e1,zAa _ _ e2];exact hj
 have zD:H0 n2=some .defs:=by rw [hH0,z96 (by simp [hDL,cD.symm]),zAa _ _ hDL,upd_same]
 have zless:zAh (upd (upd h2 n2 (some .defs)) L (some (.loop .ready Option.none Tryz.f158.ntmps τ [9,10] asg bd n2))) H0:=by rw [hH0];exact z94 _ _
 have call:=z4q (L:=L) (p:=p) (l:=l) (sz:=sz) (h0:=H0) (Own:=Own) (at0 _ _ mp pc) hsz hl1 (by
   intro i a h' Q ha hO hl0 hqT
   obtain ⟨oL,zs,cs,tok,oc,hle⟩:=hO
   have hdrop:l.drop i=a::l.drop (i+1):=by
    obtain ⟨hi,he⟩:=List.getElem?_eq_some_iff.1 ha
    rw [List.drop_eq_getElem_cons hi,he]
   refine zNw.of_sem (args:=[.int .i64 i,.str a]) oL rfl ?_
   show zBf _ asg _ (eupd (eupd τ 9 (.int .i64 i)) 10 (.str a)) _
   rw [hasg]
   repeat with_reducible first|(apply zS;intro _ R_;simp only [go_sem,↓reduceIte];subst R_)|refine rG2 ?_|apply nS
   refine ⟨_,_,_,_,_,_,oL,?_⟩
   rw [hbd]
   have oc2:upd h' L (some (.loop .busy Option.none Tryz.f158.ntmps τ [9,10] asg bd n2)) c=some (.cells [.str (zBp (l.drop (i+1)) to).name,.list zs cs (zBp (l.drop (i+1)) to).args.length tok] 60):=by rw [zAa _ _ cL];exact oc
   have oL2:upd h' L (some (.loop .busy Option.none Tryz.f158.ntmps τ [9,10] asg bd n2)) L=some (.loop .busy Option.none Tryz.f158.ntmps τ [9,10] asg bd n2):=upd_same _ _ _
   have hl2':zAh (upd h' L (some (.loop .busy Option.none Tryz.f158.ntmps τ [9,10] asg bd n2))) H0:=hl0.new zL
   rw [← hbd]
   generalize upd h' L (some (.loop .busy Option.none Tryz.f158.ntmps τ [9,10] asg bd n2))=H2 at *
   rw [hbd]
   repeat with_reducible first|(apply zS;intro _ R_;simp only [go_sem,↓reduceIte,f3,oc2,yAg,yAh,yAf];subst R_)|refine rG2 ?_|(refine rB fun cq hcq=>?_;subst hcq)|apply nS|apply rE
   refine ⟨_,_,_,_,_,_,(zAa _ _ cL.symm).trans oL2,hqT _ ⟨upd_same _ _ _,?_⟩ ((hl2'.new zc).new zL)⟩
   rw [hdrop,zBp]
   refine ⟨2,[.str a,.list 0 [] 0 .nil,.str (zBp (l.drop (i+1)) to).name,.list zs cs (zBp (l.drop (i+1)) to).args.length tok],.full,?_,?_⟩
   ·rw [zAa _ _ cL,upd_same];rfl
   ·have e:zCg [⟨a,[]⟩,zBp (l.drop (i+1)) to]=[.str a,.list 2 (zCg []) 0 .none,.str (zBp (l.drop (i+1)) to).name,.list 2 (zCg (zBp (l.drop (i+1)) to).args) (zBp (l.drop (i+1)) to).args.length .none]:=by
     rw [zHm];simp
    rw [e]
    refine fun G W v hr=>LeAV.listL (.cons (LeAV.refl _) (.cons ?_ (.cons (LeAV.refl _) (.cons hle .nil)))) G W v (LeAV.list _ _ _ _ G W v hr)
    rw [zCg]
    exact LeAV.nil _ _ _)
  (upd (upd h2 n2 (some .defs)) L (some (.loop .ready Option.none Tryz.f158.ntmps τ [9,10] asg bd n2)))
  (fun out h'=>out=.ret (.tuple [])∧zAh h' H0∧Own 0 h')
  ⟨upd_same _ _ _,by
   rw [List.drop_length,zBp]
   exact ⟨2,zCg to.args,.none,by rw [zAa _ _ cL,zAa _ _ cD];exact mc,LeAV.refl _⟩⟩ zless (fun h3 hO hl=>⟨rfl,hl,hO⟩)
 refine (call (n2+2)).mono fun out h5 n5 hq5=>?_
 obtain ⟨rfl,hl5,oL,zs,cs,tok,oc,hle⟩:=hq5
 rw [List.drop_zero] at oc hle
 refine ⟨.ready,Option.none,_,_,_,_,_,_,by rw [← hLdef];exact oL,by decide,?_⟩
 show NSem Tryz.prog _ _ _ _
 have mr5:=hl5 _ _ (at0 _ _ mr rc)
 have hD5:=hl5 _ _ zD
 refine NSem.seqN (fun τ' h3=>τ' 4=.ptr r 0∧h3=upd (upd h5 L Option.none) r (some (.cells [.str (zBp l to).name,.list zs cs (zBp l to).args.length tok] 60))) ?_ fun τ' h3 n3 hI=>.ret ?_
 ·rw [← hLdef]
  have oc':upd h5 L Option.none c=some (.cells [.str (zBp l to).name,.list zs cs (zBp l to).args.length tok] 60):=by rw [zAa _ _ cL];exact oc
  have mr':upd h5 L Option.none r=some (.cells [.str ⟨#[]⟩,.list 0 [] 0 .nil] 60):=by rw [zAa _ _ rL];exact mr5
  try dsimp only
  repeat with_reducible first|(apply zS;intro _ R_;simp only [go_sem,↓reduceIte,f3,f4,oc',mr'];subst R_)|refine rG2 ?_|apply nS
  refine zTy ?_
  simp only [go_sem,↓reduceIte,f4]
 ·obtain ⟨g4,rfl⟩:=hI
  have hhL:h L=Option.none:=hl1'.none (hl2.none fL)
  have hhD:h n2=Option.none:=hl1'.none (hl2.none fD)
  have nDr:n2≠r:=rD.symm
  refine ⟨by show upd (upd h5 L Option.none) r _ n2=_;rw [zAa _ _ nDr,zAa _ _ hDL];exact hD5,[.agg [.str (zBp l to).name,.list zs cs (zBp l to).args.length tok]],?_,EndV.weak (zEf.of (LeAV.agg (.cons (LeAV.refl _) (.cons hle .nil))) (show zAh (upd (upd (upd h5 L Option.none) r (some (.cells [.str (zBp l to).name,.list zs cs (zBp l to).args.length tok] 60))) n2 Option.none) h from fun j y hj=>?_)) fun _=>hq⟩
  ·rw [Tryz.results158]
   have hrn:upd (upd (upd h5 L Option.none) r (some (.cells [.str (zBp l to).name,.list zs cs (zBp l to).args.length tok] 60))) n2 Option.none r=some (.cells [.str (zBp l to).name,.list zs cs (zBp l to).args.length tok] 60):=by rw [zAa _ _ rD,upd_same]
   simp only [go_sem,↓reduceIte,g4,hrn,rD,rD.symm]
  ·have e1:j≠n2:=fun e=>by subst e;rw [hhD] at hj;cases hj
   have e2:j≠L:=fun e=>by subst e;rw [hhL] at hj;cases hj
   have e3:j≠r:=fun e=>by subst e;rw [nr] at hj;cases hj
   have e4:j≠c:=fun e=>by subst e;rw [nc] at hj;cases hj
   rw [zAa _ _ e1,zAa _ _ e3,zAa _ _ e2]
   exact hl5 _ _ (at0 _ _ (hl2 _ _ (hl1' _ _ hj)) e4)
theorem SObj.drop {x:Nat} {s:Sv} {A H:zAd} (S:SObj x s A H) {f:Nat} {o:AObj} (hf:A f=some o):SObj x s (upd A f Option.none) (upd H f Option.none):=by
 obtain ⟨m,vv,raw,c,base,es,B⟩:=S
 have xf:x≠f:=fun e=>by have:=B.x0;rw [e,hf] at this;cases this
 have mf:m≠f:=fun e=>by have:=B.m0;rw [e,hf] at this;cases this
 refine ⟨m,vv,raw,c,base,es,(zAa _ _ xf).trans B.hx,(zAa _ _ mf).trans B.hm,B.rel,?_,B.ms,B.low,(zAa _ _ xf).trans B.x0,(zAa _ _ mf).trans B.m0,fun j y hj=>?_⟩
 ·rcases B.vals with h|⟨p,e,hp,hp0⟩
  ·exact .inl h
  ·have pf:p≠f:=fun e=>by rw [e,hf] at hp0;cases hp0
   exact .inr ⟨p,e,(zAa _ _ pf).trans hp,(zAa _ _ pf).trans hp0⟩
 ·by_cases e:j=f
  ·subst e;rw [upd_same] at hj;cases hj
  ·rw [zAa _ _ e] at hj ⊢;exact B.less _ _ hj
theorem zE2 {x:Nat} {s:Sv} {h0 A H:zAd} (S:SObj x s A H) {tS tX E:TypeId} {z b:Nat} {zv:Value} (hS:zB1 Tryz.prog tS=some E) (hX:zB1 Tryz.prog tX=some E) (hz:tsz Tryz.prog E=some z) (hb:zA5 Tryz.prog E=some b) (hv:zBh Tryz.prog E=some zv) (hc:zv.cells.size=z∧0<b)
  {p:Nat} (hA:zAh A h0) (hp:H p=Option.none) {sz1 sz2 n1 n2:Nat} {c1 c2:List AV} {t t2:Tok} (hg:Grow E h0 A t) (h1:n1=0∨sz1=z) (h2:sz2=z) (hn:n2≠0) (hm:(n1+n2) * b≤70368744177664) :
  ∃ A' H',zB8 Tryz.prog tS tX (.list sz1 c1 n1 t) (.list sz2 c2 n2 t2) H p=some (.list z (c1++c2) (n1+n2) (.id p),H')∧SObj x s A' H'∧Grow E h0 A' (.id p)∧zAh A' h0∧∀ j o,A j=some o→t≠.id j→A' j=some o:=by
 have hpA:=S.lessOf.none hp
 have hp0:=hA.none hpA
 rcases hg with (rfl|rfl)|⟨f,rfl,hf,hf0⟩
 ·refine ⟨upd A p (some (.front E)),upd H p (some (.front E)),?_,S.add hp _,.inr ⟨p,rfl,upd_same _ _ _,hp0⟩,hA.new hp0,fun j o hj _=>?_⟩
  ·simp only [zB8,hS,hX,hz,hb,hv]
   rw [if_pos ⟨h1,.inr h2,hc.2,hm,hc.1⟩,if_neg hn]
  ·rw [zAa _ _ (zAc hpA hj)];exact hj
 ·refine ⟨upd A p (some (.front E)),upd H p (some (.front E)),?_,S.add hp _,.inr ⟨p,rfl,upd_same _ _ _,hp0⟩,hA.new hp0,fun j o hj _=>?_⟩
  ·simp only [zB8,hS,hX,hz,hb,hv]
   rw [if_pos ⟨h1,.inr h2,hc.2,hm,hc.1⟩,if_neg hn]
  ·rw [zAa _ _ (zAc hpA hj)];exact hj
 ·have hfH:=S.lessOf _ _ hf
  have hpf:p≠f:=fun e=>by rw [e,hfH] at hp;cases hp
  have S1:=S.drop hf
  refine ⟨upd (upd A f Option.none) p (some (.front E)),upd (upd H f Option.none) p (some (.front E)),?_,S1.add (by rw [zAa _ _ hpf];exact hp) _,.inr ⟨p,rfl,upd_same _ _ _,hp0⟩,(zEk hA hf0 _).new hp0,fun j o hj hjf=>?_⟩
  ·simp only [zB8,hS,hX,hz,hb,hv]
   rw [if_pos ⟨h1,.inr h2,hc.2,hm,hc.1⟩,if_neg hn]
   simp only [hfH]
   rw [if_pos ⟨trivial,hn⟩]
  ·have e1:j≠f:=fun e=>hjf (by rw [e])
   rw [zAa _ _ (zAc hpA hj),zAa _ _ e1];exact hj
abbrev zB3 (l:List Nat):List AV:=l.map fun (k:Nat)=>AV.int .i64 (k:Int)
abbrev zIu (n:Int):List AV:=[.int .i64 2,.int .i64 n,.str zAr,.list 0 [] 0 .nil]
def rawB (n:Nat) (keep:List Nat):List AV:=keep.flatMap fun (k:Nat)=>zIu ((n:Int) - 1 - (k:Int))
theorem zWo (n:Int):LeL (zIu n) (zAj (sBnd n)):=by
 refine .cons (LeAV.refl _) (.cons (LeAV.refl _) (.cons (LeAV.refl _) (.cons ?_ .nil)))
 show LeAV _ (.list 4 (encs []) 0 .none)
 rw [zBa]
 exact LeAV.nil _ _ _
theorem LeL.append {a b c d:List AV} (h:LeL a b) (k:LeL c d):LeL (a++c) (b++d):=by
 induction h with
 |nil=>exact k
 |cons h _ ih=>exact .cons h ih
theorem zZa (n:Nat):∀ keep:List Nat,LeL (rawB n keep) (encs (zCm n keep))
 |[]=>by rw [show zCm n []=[] from rfl,zBa];exact .nil
 |k::keep=>by
  have e:encs (zCm n (k::keep))=zAj (sBnd ((n:Int) - 1 - (k:Int)))++encs (zCm n keep):=by
   rw [zB6,zB6];simp [zCm]
  rw [e]
  exact LeL.append (zWo _) (zZa n keep)
theorem zV0 {n:Nat} {keep:List Nat} {i k:Nat} (h:keep[i]?=some k):rawB n (keep.take (i+1))=rawB n (keep.take i)++zIu ((n:Int) - 1 - k):=by
 unfold rawB
 rw [List.take_add_one,h,List.flatMap_append];simp
theorem zSb {l:List ByteArray} {keep:List Nat} {i k:Nat} (h:keep[i]?=some k):zA7 l (keep.take (i+1))=zA7 l (keep.take i)++[l.getD k zAr]:=by
 unfold zA7
 rw [List.take_add_one,h,List.map_append];rfl
theorem zG3 {E E':TypeId} {h0 A:zAd} {t t':Tok} (hne:E≠E') (h:Grow E h0 A t) (h':Grow E' h0 A t'):∀ f,t'=.id f→t≠.id f:=by
 intro f hf hf2
 rcases h with h|⟨g,eg,hg,_⟩
 ·rcases h with h|h <;> rw [h] at hf2 <;> cases hf2
 ·rcases h' with h'|⟨g',eg',hg',_⟩
  ·rcases h' with h'|h' <;> rw [h'] at hf <;> cases hf
  ·rw [eg] at hf2;rw [eg'] at hf
   injection hf2 with hf2;injection hf with hf
   subst hf2;subst hf
   rw [hg] at hg'
   injection hg' with hg';injection hg' with hg'
   exact hne hg'
theorem Grow.stay {E:TypeId} {h0 A A':zAd} {t':Tok} (h':Grow E h0 A t') {t:Tok} (hne:∀ f,t'=.id f→t≠.id f) (hk:∀ j o,A j=some o→t≠.id j→A' j=some o):Grow E h0 A' t':=by
 rcases h' with h'|⟨g,eg,hg,hg0⟩
 ·exact .inl h'
 ·exact .inr ⟨g,eg,hk _ _ hg (hne g eg),hg0⟩
theorem zAq {E:TypeId} {h0 A:zAd} {t:Tok} (h:Grow E h0 A t) {j:Nat} {cs:List AV} {T:TypeId} (hj:A j=some (.cells cs T)):t≠.id j:=by
 intro e
 rcases h with h|⟨g,eg,hg,_⟩
 ·rcases h with h|h <;> rw [h] at e <;> cases e
 ·rw [eg] at e;injection e with e;subst e;rw [hg] at hj;cases hj
theorem Grow.putA {E:TypeId} {h0 A:zAd} {t:Tok} (h:Grow E h0 A t) {j:Nat} {cs:List AV} {T:TypeId} (hj:A j=some (.cells cs T)) {A':zAd} (hk:∀ i o,i≠j→A i=some o→A' i=some o):Grow E h0 A' t:=by
 rcases h with h|⟨g,eg,hg,hg0⟩
 ·exact .inl h
 ·exact .inr ⟨g,eg,hk _ _ (fun e=>by subst e;rw [hg] at hj;cases hj) hg,hg0⟩
theorem zXl:zCh Tryz.prog 27 [(0,.int .i64 4)]=some (.agg [.int .i64 4,.int .i64 0,.str zAr,.list 0 [] 0 .nil]):=by
 simp only [zCh,zEd,zYx,zEt]
 rfl
theorem z1i (n:Nat) (keep:List Nat) (zA:Nat) (tok:Tok) (h:keep=[]∨zA=4):LeAV (.list zA (rawB n keep) keep.length tok) (.list 4 (encs (zCm n keep)) (zCm n keep).length .none):=by
 have hl:(zCm n keep).length=keep.length:=by simp [zCm]
 rw [hl]
 rcases h with rfl|rfl
 ·rw [show zCm n []=[] from rfl,zBa]
  exact LeAV.nil _ _ _
 ·exact fun G W v hr=>LeAV.listL (zZa n keep) G W v (LeAV.list _ _ _ _ G W v hr)
theorem zY1 {x:Nat} {s:Sv} {h0 h:zAd} (S:SObj x s h0 h) (hbl:s.ms.length≤1000000) {n:Int} (n0:0≤n) (n1:n<(s.ms.length:Int)) (keep:List Nat) (hk:∀ k ∈ keep,k<zBg (zAi s.ms n).type) (h8:keep.length≤8) (zk:Nat) (hzk:keep=[]∨zk=1) (Q:AOut→zAd→Prop)
  (hq:∀ s' h2,zFi s n keep=.ok s'→SObj x s' h0 h2→Q (.ret (.tuple [])) h2) (hp:∀ v h2,PanV (zFi s n keep) v→zAh h2 h0→Q (.panic v) h2):zAg Tryz.prog 144 [.ptr x 0,.int .i64 n,.list zk (zB3 keep) keep.length .none] h Q:=by
 refine zAg.of_sem (fn:=Tryz.f144) Tryz.func144 rfl (by kernel_rfl) (by rw [Tryz.ntmps144];simp) (enters_of Tryz.func144 (by kernel_rfl) (by kernel_rfl)) ?_
 repeat with_reducible first|(apply zS;intro _ R_;simp only [go_sem,↓reduceIte];subst R_)|refine rG2 ?_|refine rS fun bq hbq=>?_
 refine zR1 S n0 n1 _ ?_
 try dsimp only
 repeat with_reducible (apply zS;intro _ R_;simp only [go_sem,↓reduceIte];subst R_)
 intro a ha
 repeat with_reducible first|(apply zS;intro _ R_;simp only [go_sem,↓reduceIte];subst R_)|(apply rN;subst hbq)|refine rG2 ?_|apply nS|refine rS fun bq hbq=>?_
 refine zLh _ _ _ ?_
 rw [zIr]
 obtain ⟨A,S,aa,hA,_⟩:=S.loc ha (.cells (zBc (zAi s.ms n)) 62)
 generalize upd h a (some (.cells (zBc (zAi s.ms n)) 62))=H at *
 have sa:=S.lessOf _ _ aa
 try dsimp only
 repeat with_reducible first|(apply zS;intro _ R_;simp only [go_sem,↓reduceIte,zXl];subst R_)|(apply rN;subst hbq)|refine rG2 ?_|apply nS|refine rS fun bq hbq=>?_
 intro b hb
 have ba:=zAc hb sa
 repeat with_reducible first|(apply zS;intro _ R_;simp only [go_sem,↓reduceIte,ba,sa];subst R_)|(apply rN;subst hbq)|refine rG2 ?_|(refine rB fun cq hcq=>?_;subst hcq)|apply nS|refine rS fun bq hbq=>?_
 obtain ⟨A2,S,ab,hA2,hAb⟩:=S.loc hb (.cells [.int .i64 4,.int .i64 0,.str zAr,.list 0 [] 0 .nil] 27)
 have aa:=hA2 _ _ aa
 generalize upd H b (some (.cells [.int .i64 4,.int .i64 0,.str zAr,.list 0 [] 0 .nil] 27))=H2 at *
 have hb0:=hA.none hAb
 have hA:=hA2.trans hA
 clear hA2 ba sa
 have har:(nmsF (zAi s.ms n)).length=zBg (zAi s.ms n).type:=rfl
 have ha8:=zEb (zAi s.ms n).type
 skip
 refine zAz (fun k τ H=>∃ (i:Nat) (A:zAd) (zN zA:Nat) (tN tA:Tok),k+i=keep.length∧SObj x s A H∧zAh A h0∧A a=some (.cells (zBc (zAi s.ms n)) 62)∧A b=some (.cells [.int .i64 4,.int .i64 0,.str zAr,.list zA (rawB (nmsF (zAi s.ms n)).length (keep.take i)) i tA] 27) ∧
   τ 0=.ptr x 0∧τ 1=.int .i64 n∧τ 6=.ptr a 0∧τ 7=.list 1 (encS (nmsF (zAi s.ms n))) (nmsF (zAi s.ms n)).length .none∧τ 9=.list zN (encS (zA7 (nmsF (zAi s.ms n)) (keep.take i))) i tN∧τ 10=.ptr b 0∧τ 23=.list zk (zB3 keep) keep.length .none∧τ 24=.int .i64 keep.length∧τ 25=.int .i64 i ∧
   (i=0∨zN=1)∧(i=0∨zA=4)∧Grow 9 h0 A tN∧Grow 27 h0 A tA) keep.length ?_ ?_
 ·exact ⟨0,A2,0,0,.nil,.nil,rfl,S,hA,aa,ab,rfl,rfl,rfl,rfl,rfl,rfl,rfl,rfl,rfl,.inl rfl,.inl rfl,.inl (.inr rfl),.inl (.inr rfl)⟩
 ·intro c hc k τ H hI
  clear S aa ab hA
  obtain ⟨i,A,zN,zA,tN,tA,hki,S,hA,aa,ab,f0,f1,f6,f7,f9,f10,f23,f24,f25,hzN,hzA,hgN,hgA⟩:=hI
  subst hc
  have sa:=S.lessOf _ _ aa
  have sb:=S.lessOf _ _ ab
  by_cases hi:i<keep.length
  ·obtain ⟨kk,hkk⟩:∃ kk,keep[i]?=some kk:=⟨_,List.getElem?_eq_getElem hi⟩
   have hklt:=hk kk (List.mem_of_getElem? hkk)
   have hne:keep≠[]:=fun e=>by subst e;simp at hi
   obtain rfl:zk=1:=hzk.resolve_left hne
   have d1:(List.drop i (zB3 keep)).head?=some (.int .i64 (kk:Int)):=by rw [List.head?_drop,List.getElem?_map,hkk];rfl
   have hkn:kk<(nmsF (zAi s.ms n)).length:=hklt
   have d2:(List.drop kk (encS (nmsF (zAi s.ms n)))).head?=some (.str ((nmsF (zAi s.ms n)).getD kk zAr)):=by
    rw [List.head?_drop,List.getElem?_map,List.getD_eq_getElem?_getD,List.getElem?_eq_getElem hkn];rfl
   repeat with_reducible first|((first|apply zS|apply zC);intro _ R_;simp only [go_sem,↓reduceIte,f0,f1,f6,f7,f9,f10,f23,f24,f25,hi,d1,d2,hkn,zHb];subst R_)|(apply rN;subst hbq)|refine rG2 ?_|(refine rB fun cq hcq=>?_;subst hcq)|apply nS|refine rS fun bq hbq=>?_|apply rK
   refine zAw ?_
   simp only [go_sem,↓reduceIte]
   intro w hw
   obtain ⟨A3,H3,ea,S3,hgN3,hA3,hkp⟩:=zE2 S zKe zKe sz_9 by_9 ze_9 ⟨rfl,by decide⟩ hA hw (sz1:=zN) (n1:=i) (c1:=encS (zA7 (nmsF (zAi s.ms n)) (keep.take i))) (c2:=[.str ((nmsF (zAi s.ms n)).getD kk zAr)]) (n2:=1) (t2:=.full) hgN hzN (sz2:=1) rfl (by decide) (by omega)
   have ab3:=hkp _ _ ab (zAq hgN ab)
   have aa3:=hkp _ _ aa (zAq hgN aa)
   have hgA3:=hgA.stay (zG3 (by decide) hgN hgA) hkp
   have sb3:=S3.lessOf _ _ ab3
   simp only [ea,go_sem,↓reduceIte]
   repeat with_reducible first|(apply zS;intro _ R_;simp only [go_sem,↓reduceIte,f0,f1,f6,f7,f9,f10,f23,f24,f25,sb3,zFb,zH6,zA3 (((nmsF (zAi s.ms n)).length:Int) - 1) (by omega),zA3 (((nmsF (zAi s.ms n)).length:Int) - 1 - kk) (by omega)];subst R_)|(apply rN;subst hbq)|refine rG2 ?_
   refine zAw ?_
   simp only [go_sem,↓reduceIte]
   intro w4 hw4
   obtain ⟨A4,H4,ea4,S4,hgA4,hA4,hkp4⟩:=zE2 S3 zCo zCo zEz zGn zEd ⟨rfl,by decide⟩ hA3 hw4 (sz1:=zA) (n1:=i) (c1:=rawB (nmsF (zAi s.ms n)).length (keep.take i)) (c2:=zIu (((nmsF (zAi s.ms n)).length:Int) - 1 - kk)) (n2:=1) (t2:=.full) hgA3 hzA (sz2:=4) rfl (by decide) (by omega)
   have ab4:=hkp4 _ _ ab3 (zAq hgA3 ab3)
   have aa4:=hkp4 _ _ aa3 (zAq hgA3 aa3)
   have hgN4:=hgN3.stay (zG3 (by decide) hgA3 hgN3) hkp4
   have sb4:=S4.lessOf _ _ ab4
   simp only [ea4,go_sem,↓reduceIte,f10,sb4]
   have hba:b≠a:=fun e=>by rw [e,aa] at ab;injection ab with ab;injection ab with _ ab;cases ab
   repeat with_reducible first|(apply zS;intro _ R_;simp only [go_sem,↓reduceIte,f0,f1,f6,f7,f10,f23,f24,f25,sb4,zA3 ((i:Int)+1) (by omega)];subst R_)|(apply rN;subst hbq)|refine rG2 ?_|apply nS|apply rE
   obtain ⟨A5,S5,ab5,hA5,hkp5⟩:=S4.wr hA4 ab4 hb0 (.cells [.int .i64 4,.int .i64 0,.str zAr,.list 4 (rawB (nmsF (zAi s.ms n)).length (keep.take i)++zIu (((nmsF (zAi s.ms n)).length:Int) - 1 - kk)) (i+1) (.id w4)] 27)
   refine zAp (m:=k - 1) (by omega) ⟨i+1,A5,1,4,.id w,.id w4,by omega,S5,hA5,hkp5 _ _ hba.symm aa4,?_,?_⟩
   ·rw [zV0 hkk];exact ab5
   ·rw [zSb hkk]
    simp only [go_sem,↓reduceIte,f0,f1,f6,f7,f10,f23,f24,f25]
    refine ⟨?_,rfl,.inr trivial,.inr trivial,hgN4.putA ab4 hkp5,hgA4.putA ab4 hkp5⟩
    simp
  ·have hie:i=keep.length:=by omega
   have htk:keep.take i=keep:=by rw [hie];exact List.take_length
   rw [htk] at ab f9
   have hnl:(zA7 (nmsF (zAi s.ms n)) keep).length=keep.length:=by simp [zA7]
   repeat with_reducible first|((first|apply zS|apply zC);intro _ R_;simp only [go_sem,↓reduceIte,f0,f1,f6,f7,f9,f10,f23,f24,f25,hi];subst R_)|(apply rN;subst hbq)|refine rG2 ?_|(apply x1;clear hbq bq)|apply nS|refine rS fun bq hbq=>?_|apply rXx|apply x3|apply x4
   repeat with_reducible refine zAb fun bq hbq=>?_
   refine zA9 (.take 0 (.take 1 (.take 2 (.take 3 (.take 4 (.take 5 (.one 6 [2] (.one 7 [2] (.one 8 [] (.take 9 (.one 10 [] (.done)))))))))))) (by kernel_rfl) (by simp only [zAm,gtOf,zAk];exact rfl) ?_
   repeat ((first|(with_reducible apply iT;refine sT rfl ?_)|(with_reducible apply iO;refine sO rfl ?_));intro _ _ _ C_ R_ U_;simp only [go_sem,↓reduceIte,f0,f1,f6,f9,f10,sa];subst C_ R_ U_)
   refine zLq _ _ _ ?_
   try dsimp only
   repeat ((first|with_reducible apply sA|(with_reducible apply iO;refine sO rfl ?_));intro _ _ _ C_ R_ U_;simp only [go_sem,↓reduceIte,f0,f1,f6,f9,f10,sa];subst C_ R_ U_)
   refine zAg.args (args':=[.list zN (encS (zA7 (nmsF (zAi s.ms n)) keep)) (zA7 (nmsF (zAi s.ms n)) keep).length .none,zKd (zCe (zAi s.ms n).type)]) (.cons (by rw [hnl,← hie];exact LeAV.list _ _ _ _) (.cons (LeAV.refl _) .nil)) (zO5 (zA7 (nmsF (zAi s.ms n)) keep) zN (by
    rcases hzN with e|e
    ·left;rw [← htk,e];rfl
    ·exact .inr e) (by omega) _ _ _ ?_)
   try dsimp only
   repeat ((first|with_reducible apply sA|(with_reducible apply i0;refine s0 rfl ?_));intro _ _ _ C_ R_ U_;simp only [go_sem,↓reduceIte,f0,f1,f6,f9,f10,sa];subst C_ R_ U_)
   refine zQe S (zAi s.ms n).level (zBp (zA7 (nmsF (zAi s.ms n)) keep) (zCe (zAi s.ms n).type)) hbl _ (fun s' m H5 hfr S5=>?_) (fun v H5 hpv hl5=>?_)
   ·have ab5:=S5.lessOf _ _ ab
    have aa5:=S5.lessOf _ _ aa
    try dsimp only
    repeat first|(with_reducible first|(apply rN;subst hbq)|refine rG2 ?_|apply nD)|((first|with_reducible apply sS|(with_reducible apply iT;refine sT rfl ?_)|(with_reducible apply i0;refine s0 rfl ?_));intro _ _ _ C_ R_ U_;simp only [go_sem,↓reduceIte,f0,f1,f6,f9,f10,aa5,ab5];subst C_ R_ U_)
    obtain ⟨A6,S6,ab6,hA6,hkp6⟩:=S5.wr hA ab hb0 (.cells [.int .i64 4,.int .i64 m,.str zAr,.list zA (rawB (nmsF (zAi s.ms n)).length keep) i tA] 27)
    have hkz:keep=[]∨zA=4:=by
     rcases hzA with e|e
     ·left;rw [← htk,e];rfl
     ·exact .inr e
    have hlb:LeAV (.list zA (rawB (nmsF (zAi s.ms n)).length keep) i tA) (.list 4 (encs (zCm (nmsF (zAi s.ms n)).length keep)) (zCm (nmsF (zAi s.ms n)).length keep).length .none):=by
     rw [hie];exact z1i _ _ _ _ hkz
    obtain ⟨hlt,e1,e2⟩:=zJ1 hfr
    have hlen5:n<(s'.ms.length:Int):=by rw [e1];simp;omega
    refine zAg.args (args':=[.ptr x 0,.int .i64 n,enc (sVar m (zCm (nmsF (zAi s.ms n)).length keep))]) (.cons (LeAV.refl _) (.cons (LeAV.refl _) (.cons (LeAV.agg (.cons (LeAV.refl _) (.cons (LeAV.refl _) (.cons (LeAV.refl _) (.cons hlb .nil))))) .nil))) (zZ0 S6 n0 hlen5 (sVar m (zCm (nmsF (zAi s.ms n)).length keep)) _ (fun h7 S7=>?_))
    try dsimp only
    repeat with_reducible apply nS
    refine zJn (by rw [Tryz.results144]) (zAh.refl _) (hq _ _ ?_ (S7.low hA6))
    unfold zFi
    dsimp only
    rw [hfr];rfl
   ·refine p5 (p1 (pL (zAh.refl _) (hp v H5 ?_ (hl5.trans hA))))
    unfold zFi
    dsimp only
    cases hc:zE0 s (zAi s.ms n).level (zBp (zA7 (nmsF (zAi s.ms n)) keep) (zCe (zAi s.ms n).type)) with
    |ok a=>rw [hc] at hpv;exact hpv.elim
    |clash=>rw [hc] at hpv;exact hpv
    |large e=>rw [hc] at hpv;exact hpv
theorem yEs {x:Nat} {s:Sv} {h0 h:zAd} (S:SObj x s h0 h) (hbl:s.ms.length≤1000000) {a b:Term} {D:Int} (V:zFn s.ms a D) (hab:a.args.length=b.args.length) (Q:AOut→zAd→Prop)
  (hq:∀ s' h2,zGm s a b=.ok s'→SObj x s' h0 h2→Q (.ret (.tuple [])) h2) (hp:∀ v h2,PanV (zGm s a b) v→zAh h2 h0→Q (.panic v) h2):zAg Tryz.prog 109 [.ptr x 0,enc a,enc b] h Q:=by
 have h8:=zEb (zAi s.ms a.n).type
 have har:=V.ar
 refine zAg.of_sem (fn:=Tryz.f109) Tryz.func109 rfl (by kernel_rfl) (by rw [Tryz.ntmps109];simp) (enters_of Tryz.func109 (by kernel_rfl) (by kernel_rfl)) ?_
 repeat with_reducible first|(apply zS;intro _ R_;simp only [go_sem,↓reduceIte];subst R_)|refine rG2 ?_|refine rS fun bq hbq=>?_
 intro p hp1
 repeat with_reducible (apply zS;intro _ R_;simp only [go_sem,↓reduceIte];subst R_)
 intro q hq1
 have e1:=zAs hq1
 have qp:=e1.1
 obtain ⟨A1,S,ap,hA1,_⟩:=S.loc hp1 (.cells (zAj a) 27)
 obtain ⟨A,S,aq,hA2,_⟩:=S.loc (by rw [zAa _ _ e1.1];exact e1.2) (.cells (zAj b) 27) (b:=q)
 have ap:=hA2 _ _ ap
 have hA:=hA2.trans hA1
 clear hA1 hA2
 generalize upd (upd h p (some (.cells (zAj a) 27))) q (some (.cells (zAj b) 27))=H at *
 have sp:=S.lessOf _ _ ap
 repeat with_reducible first|(apply zS;intro _ R_;simp only [go_sem,↓reduceIte,sp];subst R_)|(apply rN;subst hbq)|refine rG2 ?_|(refine rB fun cq hcq=>?_;subst hcq)|apply nS|refine rS fun bq hbq=>?_
 refine zAz (fun k τ H=>∃ (i:Nat) (ks:List Nat) (A:zAd) (z:Nat) (tk:Tok),k+i=a.args.length∧ks++zGa (a.args.drop i) (b.args.drop i) i=zGa a.args b.args 0∧ks.length≤i∧SObj x s A H∧zAh A h0∧A p=some (.cells (zAj a) 27)∧A q=some (.cells (zAj b) 27) ∧
   τ 0=.ptr x 0∧τ 4=.ptr p 0∧τ 5=.ptr q 0∧τ 6=.list z (zB3 ks) ks.length tk∧τ 10=.int .i64 a.args.length∧τ 11=.int .i64 i∧(ks=[]∨z=1)∧Grow 3 h0 A tk) a.args.length ?_ ?_
 ·exact ⟨0,[],A,0,.nil,rfl,rfl,Nat.le_refl _,S,hA,ap,aq,rfl,rfl,rfl,rfl,rfl,rfl,.inl rfl,.inl (.inr rfl)⟩
 ·intro c hc k τ H hI
  clear S ap aq hA sp
  obtain ⟨i,ks,A,z,tk,hki,hix,hkl,S,hA,ap,aq,f0,f4,f5,f6,f10,f11,hz,hg⟩:=hI
  subst hc
  have sp:=S.lessOf _ _ ap
  have sq:=S.lessOf _ _ aq
  by_cases hi:i<a.args.length
  ·obtain ⟨u,hu⟩:∃ u,a.args[i]?=some u:=⟨_,List.getElem?_eq_getElem hi⟩
   obtain ⟨w,hw⟩:∃ w,b.args[i]?=some w:=⟨_,List.getElem?_eq_getElem (by omega)⟩
   obtain ⟨r1,hr1⟩:=zB7 a.args i hu
   obtain ⟨r2,hr2⟩:=zB7 b.args i hw
   have hib:i<b.args.length:=by omega
   have d1:a.args.drop i=u::a.args.drop (i+1):=by
    rw [List.drop_eq_getElem_cons hi]
    rw [List.getElem?_eq_getElem hi] at hu;injection hu with hu;rw [hu]
   have d2:b.args.drop i=w::b.args.drop (i+1):=by
    rw [List.drop_eq_getElem_cons hib]
    rw [List.getElem?_eq_getElem hib] at hw;injection hw with hw;rw [hw]
   rw [d1,d2,zGa] at hix
   repeat with_reducible first|((first|apply zS|apply zC);intro _ R_;simp only [go_sem,↓reduceIte,f0,f4,f5,f6,f10,f11,hi];subst R_)|(apply rN;subst hbq)|refine rG2 ?_|(refine rB fun cq hcq=>?_;subst hcq)|apply nS|refine rS fun bq hbq=>?_|apply rK
   repeat with_reducible refine zAb fun bq hbq=>?_
   refine zA9 (.take 0 (.take 1 (.take 2 (.take 3 (.take 4 (.take 5 (.take 6 (.take 7 (.take 8 (.take 9 (.one 10 [6,1] (.done)))))))))))) (by kernel_rfl) (by simp only [zAm,gtOf,zAk];exact rfl) ?_
   repeat ((first|(with_reducible apply iT;refine sT rfl ?_)|(with_reducible apply iO;refine sO rfl ?_));intro _ _ _ C_ R_ U_;simp only [go_sem,↓reduceIte,f0,f4,f5,f6,f10,f11,hi,hib,sp,sq,hr1,hr2];subst C_ R_ U_)
   refine yHk u w _ _ ?_
   try dsimp only
   repeat with_reducible first|((first|apply sA|apply sC);intro _ _ _ C_ R_ U_;simp only [go_sem,↓reduceIte,f0,f4,f5,f6,f10,f11,hi,hib,sp,sq,hr1,hr2];subst C_ R_ U_)|(apply rN;subst hbq)|apply nD
   cases hf:isF u w
   ·rw [hf] at hix
    try dsimp only
    repeat with_reducible first|(apply zS;intro _ R_;simp only [go_sem,↓reduceIte,f0,f4,f5,f6,f10,f11,hf,zA3 ((i:Int)+1) (by omega)];subst R_)|(apply rN;subst hbq)|refine rG2 ?_|apply nS|apply rK|apply rE
    refine zAp (m:=k - 1) (by omega) ⟨i+1,ks,A,z,tk,by omega,hix,by omega,S,hA,ap,aq,?_⟩
    simp only [go_sem,↓reduceIte,f0,f4,f5,f6,f10]
    exact ⟨rfl,hz,hg⟩
   ·rw [hf] at hix
    simp only [if_true] at hix
    try dsimp only
    repeat with_reducible first|(apply zS;intro _ R_;simp only [go_sem,↓reduceIte,f0,f4,f5,f6,f10,f11,hf,zXk];subst R_)|refine rG2 ?_
    refine zAw ?_
    simp only [go_sem,↓reduceIte]
    intro y hy
    obtain ⟨A3,H3,ea,S3,hg3,hA3,hkp⟩:=zE2 S zQu zQu sz_3 by_3 ze_3 ⟨rfl,by decide⟩ hA hy (sz1:=z) (n1:=ks.length) (c1:=zB3 ks) (c2:=[.int .i64 (i:Int)]) (n2:=1) (t2:=.full) hg (by rcases hz with e|e <;> simp [e]) (sz2:=1) rfl (by decide) (by omega)
    simp only [ea,go_sem,↓reduceIte]
    repeat with_reducible first|(apply zS;intro _ R_;simp only [go_sem,↓reduceIte,f0,f4,f5,f6,f10,f11,zA3 ((i:Int)+1) (by omega)];subst R_)|(apply rN;subst hbq)|refine rG2 ?_|apply nS|apply rE
    refine zAp (m:=k - 1) (by omega) ⟨i+1,ks++[i],A3,1,.id y,by omega,by rw [List.append_assoc];exact hix,by simp;omega,S3,hA3,hkp _ _ ap (zAq hg ap),hkp _ _ aq (zAq hg aq),?_⟩
    simp only [go_sem,↓reduceIte,f0,f4,f5,f10]
    refine ⟨?_,rfl,.inr trivial,hg3⟩
    simp
  ·rw [List.drop_eq_nil_of_le (show a.args.length≤i by omega)] at hix
   have hks:ks=zGa a.args b.args 0:=by rw [← hix];unfold zGa;simp
   obtain ⟨g1,g2,g3⟩:=zYp a.args b.args 0
   cases hlt:decide (((zGa a.args b.args 0).length:Int)<a.args.length)
   ·have hr:zGm s a b=.ok s:=by unfold zGm;rw [hlt];rfl
    rw [← hks] at hlt
    have hlt:decide (ks.length<a.args.length)=false:=by simpa using hlt
    repeat with_reducible first|((first|apply zS|apply zC);intro _ R_;simp only [go_sem,↓reduceIte,f0,f4,f5,f6,f10,f11,hi,sp,hlt];subst R_)|(apply rN;subst hbq)|refine rG2 ?_|(apply x1;clear hbq bq)|apply nS|refine rS fun bq hbq=>?_|apply rK|apply rXx|apply x3|apply x4
    exact zJn (by rw [Tryz.results109]) (zAh.refl _) (hq _ _ hr (S.low hA))
   ·have hr:zGm s a b=zFi s a.n (zGa a.args b.args 0):=by unfold zGm;rw [hlt];rfl
    rw [← hks] at hlt hr
    rw [hr] at hq hp
    rw [← hks] at g1 g2 g3
    have hlt:decide (ks.length<a.args.length)=true:=by simpa using hlt
    repeat with_reducible first|((first|apply zS|apply zC);intro _ R_;simp only [go_sem,↓reduceIte,f0,f4,f5,f6,f10,f11,hi,sp,hlt];subst R_)|(apply rN;subst hbq)|refine rG2 ?_|(apply x1;clear hbq bq)|apply nS|refine rS fun bq hbq=>?_|apply rXx|apply x3|apply x4
    refine zAg.args (args':=[.ptr x 0,.int .i64 a.n,.list z (zB3 ks) ks.length .none]) (.cons (LeAV.refl _) (.cons (LeAV.refl _) (.cons (LeAV.list _ _ _ _) .nil))) (zY1 S hbl V.n0 V.n1 ks (fun j hj=>by have:=g1 j hj;omega) (by omega) z hz _ (fun s' h2 hn S2=>?_) (fun v h2 hn hl2=>?_))
    ·try dsimp only
     repeat with_reducible apply nS
     exact zJn (by rw [Tryz.results109]) (zAh.refl _) (hq _ _ hn (S2.low hA))
    ·exact p5 (pL (zAh.refl _) (hp v h2 hn (hl2.trans hA)))
theorem zHn:zCh Tryz.prog 150 []=some (.agg []):=by
 simp only [zCh,yEy,yFc,zEt]
 rfl
theorem zEg {h:zAd} (pl:Plan) (ord:List Nat) {id:Nat} {ops:Array Oper} {K:AK} {τ:Env} {l:List CO} (hp:(zFp (zA2 Tryz.prog ops) pl (Array.replicate ops.size false) []&&decide (pl.len≤ops.size)&&zTw (zA2 Tryz.prog ops) ord (Array.replicate ops.size false))=true)
  (he:zAm (zA2 Tryz.prog ops).toList (zA2 Tryz.prog ops).toList=zAm ops.toList ops.toList) (hl:zAm ops.toList ops.toList=l) (hs:cDr Tryz.prog l K pl [] τ h):zBf Tryz.prog (.region id ops true) K τ h :=
 yB2 pl ord hp (he.trans hl) hs
theorem zGg (l:List Term) (z:Term):encs (l++[z])=encs l++zAj z:=by rw [zB6,zB6];simp
def rawX (n:Nat) (d:Int) (es:List (Nat × Term)):List AV:=es.flatMap fun p=>zIu ((n:Int) - 1 - (p.1:Int)+d)
theorem z8v (n:Nat) (d:Int):∀ es:List (Nat × Term),LeL (rawX n d es) (encs (es.map fun p=>sBnd ((n:Int) - 1 - p.1+d)))
 |[]=>by rw [List.map_nil,zBa];exact .nil
 |p::es=>by
  have e:encs ((p::es).map fun p=>sBnd ((n:Int) - 1 - p.1+d))=zAj (sBnd ((n:Int) - 1 - p.1+d))++encs (es.map fun p=>sBnd ((n:Int) - 1 - p.1+d)):=by
   rw [zB6,zB6];simp
  rw [e]
  exact LeL.append (zWo _) (z8v n d es)
theorem z7c (n:Nat) (d:Int) (es:List (Nat × Term)) (p:Nat × Term):rawX n d (es++[p])=rawX n d es++zIu ((n:Int) - 1 - (p.1:Int)+d):=by unfold rawX;simp
theorem zSy (k n:Int) (sz:Nat) (cs:List AV) (m:Nat) (tok:Tok):zCh Tryz.prog 27 [(0,.int .i64 k),(1,.int .i64 n),(3,.list sz cs m tok)]=some (.agg [.int .i64 k,.int .i64 n,.str zAr,.list sz cs m tok]):=by
 simp only [zCh,zEd,zYx,zEt]
 rfl
theorem zS4 {x:Nat} {s:Sv} {h0 A H:zAd} (S:SObj x s A H) {tS tX E:TypeId} {z b:Nat} {zv:Value} (hS:zB1 Tryz.prog tS=some E) (hX:zB1 Tryz.prog tX=some E) (hz:tsz Tryz.prog E=some z) (hb:zA5 Tryz.prog E=some b) (hv:zBh Tryz.prog E=some zv) (hc:zv.cells.size=z∧0<b)
  {p:Nat} (hA:zAh A h0) (hp:H p=Option.none) {sz1 sz2 n1 n2:Nat} {c1 c2:List AV} {t t2:Tok} (hg:Grow E h0 A t) (h1:n1=0∨sz1=z) (h2:n2=0∨sz2=z) (hn:n2=0→c2=[]) (hm:(n1+n2) * b≤70368744177664) :
  ∃ A' H' sz' t',zB8 Tryz.prog tS tX (.list sz1 c1 n1 t) (.list sz2 c2 n2 t2) H p=some (.list sz' (c1++c2) (n1+n2) t',H')∧SObj x s A' H'∧zAh A' h0∧(n1+n2=0∨sz'=z)∧∀ j o,A j=some o→t≠.id j→A' j=some o:=by
 by_cases h:n2=0
 ·subst h
  rw [hn rfl,List.append_nil,Nat.add_zero]
  refine ⟨A,H,sz1,t,?_,S,hA,h1,fun j o hj _=>hj⟩
  simp only [zB8,hS,hX,hz,hb,hv]
  rw [if_pos ⟨h1,by simp,hc.2,hm,hc.1⟩]
  cases t <;> rfl
 ·obtain ⟨A',H',e,S',_,hA',hk⟩:=zE2 S hS hX hz hb hv hc hA hp (sz1:=sz1) (n1:=n1) (c1:=c1) (c2:=c2) (sz2:=sz2) (n2:=n2) (t2:=t2) hg h1 (h2.resolve_left h) h hm
  exact ⟨A',H',z,_,e,S',hA',.inr rfl,hk⟩
theorem zSh {E:TypeId} {h0 A H:zAd} {t:Tok} (h:Grow E h0 A t) {w:Nat} (hw:H w=Option.none) (hl:zAh H A):t≠.id w:=by
 intro e
 rcases h with h|⟨g,eg,hg,_⟩
 ·rcases h with h|h <;> rw [h] at e <;> cases e
 ·rw [eg] at e;injection e with e;subst e
  have:=hl _ _ hg
  rw [hw] at this;cases this
theorem yGt {x:Nat} {s:Sv} {h0 h:zAd} (S:SObj x s h0 h) (hbl:s.ms.length≤1000000) {v t:Term} {D d:Int} (V:zFn s.ms v D) (T:zFn s.ms t (D+d)) (hd:0≤d∧d≤1000) (hD:0≤D∧D≤1000) (Q:AOut→zAd→Prop)
  (hq:∀ s' out h2,zI6 s v t d=.ok (s',out)→SObj x s' h0 h2→Q (.ret (enc out)) h2) (hp:∀ pv h2,PanV (zI6 s v t d) pv→zAh h2 h0→Q (.panic pv) h2):zAg Tryz.prog 162 [.ptr x 0,enc v,enc t,.int .i64 d] h Q:=by
 have aw8:=zEb (zAi s.ms t.n).type
 have av8:=zEb (zAi s.ms v.n).type
 have aw:=T.ar
 have av:=V.ar
 refine zAg.of_sem (fn:=Tryz.f162) Tryz.func162 rfl (by kernel_rfl) (by rw [Tryz.ntmps162];simp) (enters_of Tryz.func162 (by kernel_rfl) (by kernel_rfl)) ?_
 repeat with_reducible first|(apply zS;intro _ R_;simp only [go_sem,↓reduceIte];subst R_)|refine rG2 ?_|refine rS fun bq hbq=>?_
 intro p5 hp5
 obtain ⟨A,S,a5,hA,_⟩:=S.loc hp5 (.cells (zAj v) 27)
 repeat with_reducible (apply zS;intro _ R_;simp only [go_sem,↓reduceIte];subst R_)
 intro p6 hp6
 have e6:=zAs hp6
 obtain ⟨A2,S,a6,hA2,_⟩:=S.loc (b:=p6) (by rw [zAa _ _ e6.1];exact e6.2) (.cells (zAj t) 27)
 have a5:=hA2 _ _ a5
 have hA:=hA2.trans hA
 clear hA2
 repeat with_reducible (apply zS;intro _ R_;simp only [go_sem,↓reduceIte,e6.1,e6.1.symm];subst R_)
 intro p8 hp8
 have e8:=zAs hp8
 have e8':=zAs e8.2
 obtain ⟨A,S,a8,hA2,hA28⟩:=S.loc (b:=p8) (by rw [zAa _ _ e8.1,zAa _ _ e8'.1];exact e8'.2) (.cells zT 27)
 have a5:=hA2 _ _ a5
 have a6:=hA2 _ _ a6
 have h08:=hA.none hA28
 have hA:=hA2.trans hA
 clear hA2
 generalize upd (upd (upd h p5 (some (.cells (zAj v) 27))) p6 (some (.cells (zAj t) 27))) p8 (some (.cells zT 27))=H at *
 have s5:=S.lessOf _ _ a5
 have s6:=S.lessOf _ _ a6
 cases hne:(t.n==v.n)
 case true =>
  have hr:zI6 s v t d=.clash:=by unfold zI6;rw [hne];rfl
  repeat with_reducible first|((first|apply zS|apply zC);intro _ R_;simp only [go_sem,↓reduceIte,s5,s6,hne,zHn];subst R_)|(apply rN;subst hbq)|refine rG2 ?_|apply nS|refine rS fun bq hbq=>?_
  exact p1 (pL (zAh.refl _) (hp _ _ (by rw [hr];rfl) (S.lessOf.trans hA)))
 repeat with_reducible first|((first|apply zS|apply zC);intro _ R_;simp only [go_sem,↓reduceIte,s5,s6,hne];subst R_)|(apply rN;subst hbq)|refine rG2 ?_|apply nS|refine rS fun bq hbq=>?_|apply rK
 refine zEg (.take 0 (.take 1 (.take 2 (.take 4 (.take 5 (.take 6 (.one 3 [6] (.one 7 [] (.one 8 [] (.one 9 [] (.one 10 [] (.one 11 [] (.done))))))))))))) [0,1,2,4,5,6,3,7,8,9,10,11] (by kernel_rfl) (by kernel_rfl) (by simp only [zAm,gtOf,zAk];exact rfl) ?_
 repeat ((first|(with_reducible apply iT;refine sT rfl ?_)|(with_reducible apply iO;refine sO rfl ?_));intro _ _ _ C_ R_ U_;simp only [go_sem,↓reduceIte,s5,s6];subst C_ R_ U_)
 obtain ⟨ow,how⟩:∃ ow,ow=zAi s.ms v.n:=⟨_,rfl⟩
 obtain ⟨wv,hwv⟩:∃ wv,wv=zAi s.ms t.n:=⟨_,rfl⟩
 refine zR1 S V.n0 V.n1 _ ?_
 try dsimp only
 repeat ((first|with_reducible apply sA|(with_reducible apply i0;refine s0 rfl ?_));intro _ _ _ C_ R_ U_;simp only [go_sem,↓reduceIte,s5,s6];subst C_ R_ U_)
 refine zR1 S T.n0 T.n1 _ ?_
 rw [← how,← hwv]
 rw [← how] at av av8
 rw [← hwv] at aw aw8
 try dsimp only
 repeat ((with_reducible apply i0;refine s0 rfl ?_);intro _ _ _ C_ R_ U_;simp only [go_sem,↓reduceIte,s5,s6];subst C_ R_ U_)
 intro p9 hp9
 have s8:=S.lessOf _ _ a8
 have n95:=zAc hp9 s5
 have n96:=zAc hp9 s6
 repeat ((with_reducible apply i0;refine s0 rfl ?_);intro _ _ _ C_ R_ U_;simp only [go_sem,↓reduceIte,s5,s6,n95,n96];subst C_ R_ U_)
 intro p10 hp10
 have e10:=zAs hp10
 have n105:=zAc e10.2 s5
 have n106:=zAc e10.2 s6
 repeat first|(with_reducible first|(apply rN;subst hbq)|refine rG2 ?_|apply nD|refine rS fun bq hbq=>?_)|((first|with_reducible apply sS|(with_reducible apply i0;refine s0 rfl ?_));intro _ _ _ C_ R_ U_;simp only [go_sem,↓reduceIte,s5,s6,n95,n96,n105,n106,e10.1,e10.1.symm];subst C_ R_ U_)
 refine zLh _ _ _ ?_
 rw [zIr]
 obtain ⟨A1,S,a9,hA1,hA9⟩:=S.loc hp9 (.cells zV 62)
 obtain ⟨A2,S,a10,hA2,hA10⟩:=S.loc (b:=p10) (by rw [zAa _ _ e10.1];exact e10.2) (.cells zV 62)
 obtain ⟨A3,S,a9,hA3,hk3⟩:=S.wr (h0:=A) (hA2.trans hA1) (hA2 _ _ a9) hA9 (.cells (zBc ow) 62)
 obtain ⟨A4,S,a10,hA4,hk4⟩:=S.wr (h0:=A) hA3 (hk3 _ _ e10.1 a10) (hA1.none hA10) (.cells (zBc wv) 62)
 have a9:=hk4 _ _ (fun e=>e10.1 e.symm) a9
 have a5:=hA4 _ _ a5
 have a6:=hA4 _ _ a6
 have a8:=hA4 _ _ a8
 have hA:=hA4.trans hA
 clear hA1 hA2 hA3 hA4 hk3 hk4 hA9 hA10
 generalize upd (upd (upd (upd H p9 (some (.cells zV 62))) p10 (some (.cells zV 62))) p9 (some (.cells (zBc ow) 62))) p10 (some (.cells (zBc wv) 62))=H1 at *
 have s5:=S.lessOf _ _ a5
 have s6:=S.lessOf _ _ a6
 have s8:=S.lessOf _ _ a8
 have s9:=S.lessOf _ _ a9
 have s10:=S.lessOf _ _ a10
 try dsimp only
 repeat with_reducible first|(apply zS;intro _ R_;simp only [go_sem,↓reduceIte,s5,s6,s9,s10];subst R_)|(apply rN;subst hbq)|refine rG2 ?_|apply nS|refine rS fun bq hbq=>?_
 refine zLh _ _ _ ?_
 rw [zIr]
 rw [show (zD2 wv.type).getD []=nmsF wv from rfl,show (zD2 ow.type).getD []=nmsF ow from rfl]
 have nw:=zKw wv
 have nv:=zKw ow
 have hT0:=T.n0
 have hskT:∀ y ∈ t.args,y.kind=2∨y.kind=3:=fun y hy=>(zBi (T.args y hy).1).1
 try dsimp only
 repeat with_reducible first|(apply zS;intro _ R_;simp only [go_sem,↓reduceIte,s5,s6,s9,s10];subst R_)|(apply rN;subst hbq)|refine rG2 ?_|(refine rB fun cq hcq=>?_;subst hcq)|apply nS|refine rS fun bq hbq=>?_
 refine zAz (fun k τ H=>∃ (i:Nat) (ks:List Nat) (zs:List Term) (A:zAd) (zk zz:Nat) (tk tz:Tok),k+i=t.args.length∧ks++(zGe ow.level v.args d (t.args.drop i) i).1=(zGe ow.level v.args d t.args 0).1∧zs++(zGe ow.level v.args d (t.args.drop i) i).2=(zGe ow.level v.args d t.args 0).2∧ks.length≤i∧zs.length=ks.length ∧
   SObj x s A H∧zAh A h0∧A p5=some (.cells (zAj v) 27)∧A p6=some (.cells (zAj t) 27)∧A p8=some (.cells zT 27)∧A p9=some (.cells (zBc ow) 62)∧A p10=some (.cells (zBc wv) 62) ∧
   τ 0=.ptr x 0∧τ 3=.int .i64 d∧τ 5=.ptr p5 0∧τ 6=.ptr p6 0∧τ 8=.ptr p8 0∧τ 9=.ptr p9 0∧τ 10=.ptr p10 0∧τ 11=.list 1 (encS (nmsF wv)) (nmsF wv).length .none∧τ 13=.list 1 (encS (nmsF ow)) (nmsF ow).length .none ∧
   τ 15=.list zk (zB3 ks) ks.length tk∧τ 16=.list zz (encs zs) zs.length tz∧τ 57=.list 4 (encs t.args) t.args.length .none∧τ 58=.int .i64 t.args.length∧τ 59=.int .i64 i∧(ks=[]∨zk=1)∧(zs=[]∨zz=4)∧Grow 3 h0 A tk∧Grow 27 h0 A tz) t.args.length ?_ ?_
 ·exact ⟨0,[],[],A4,0,0,.nil,.nil,rfl,rfl,rfl,Nat.le_refl _,rfl,S,hA,a5,a6,a8,a9,a10,rfl,rfl,rfl,rfl,rfl,rfl,rfl,rfl,rfl,rfl,by rw [zBa];rfl,rfl,rfl,rfl,.inl rfl,.inl rfl,.inl (.inr rfl),.inl (.inr rfl)⟩
 ·intro cc hcc k τ H hI
  clear S a5 a6 a8 a9 a10 hA s5 s6 s8 s9 s10
  obtain ⟨i,ks,zs,A,zk,zz,tk,tz,hki,hixK,hixZ,hkl,hzl,S,hA,a5,a6,a8,a9,a10,f0,f3,f5,f6,f8,f9,f10,f11,f13,f15,f16,f57,f58,f59,hzk,hzz,hgk,hgz⟩:=hI
  subst hcc
  have s5:=S.lessOf _ _ a5
  have s6:=S.lessOf _ _ a6
  have s8:=S.lessOf _ _ a8
  have s9:=S.lessOf _ _ a9
  have s10:=S.lessOf _ _ a10
  by_cases hi:i<t.args.length
  ·obtain ⟨y,hy⟩:∃ y,t.args[i]?=some y:=⟨_,List.getElem?_eq_getElem hi⟩
   obtain ⟨r1,hr1⟩:=zB7 t.args i hy
   have d1:t.args.drop i=y::t.args.drop (i+1):=by
    rw [List.drop_eq_getElem_cons hi]
    rw [List.getElem?_eq_getElem hi] at hy;injection hy with hy;rw [hy]
   rw [d1,zGe] at hixK hixZ
   have hyA:=T.args y (List.mem_of_getElem? hy)
   have hyk:=hskT y (List.mem_of_getElem? hy)
   have hyn:-1000000≤y.n∧y.n≤1000000:=by
    rcases hyk with e|e
    ·have:=hyA.2.2.1 e;omega
    ·have:=hyA.2.2.2 e;omega
   repeat with_reducible first|((first|apply zS|apply zC);intro _ R_;simp only [go_sem,↓reduceIte,f0,f3,f5,f6,f57,f58,f59,hi,hr1,s5];subst R_)|(apply rN;subst hbq)|refine rG2 ?_|(refine rB fun cq hcq=>?_;subst hcq)|apply nS|refine rS fun bq hbq=>?_|apply rK
   intro q hq1
   have q5:=zAc hq1 s5
   repeat with_reducible first|(apply zS;intro _ R_;simp only [go_sem,↓reduceIte,f0,f3,f5,f6,f57,f58,f59,hi,hr1,s5,q5];subst R_)|(apply rN;subst hbq)|refine rG2 ?_|apply nS|refine rS fun bq hbq=>?_
   obtain ⟨A1,S,aq,hA1,_⟩:=S.loc hq1 (.cells (zAj y) 27)
   have a5:=hA1 _ _ a5
   have a6:=hA1 _ _ a6
   have a8:=hA1 _ _ a8
   have a9:=hA1 _ _ a9
   have a10:=hA1 _ _ a10
   have hgk:=hgk.stay (t:=.none) (fun _ _ e=>by cases e) (fun j o hj _=>hA1 j o hj)
   have hgz:=hgz.stay (t:=.none) (fun _ _ e=>by cases e) (fun j o hj _=>hA1 j o hj)
   have hA:=hA1.trans hA
   clear hA1
   generalize upd H q (some (.cells (zAj y) 27))=H2 at *
   have sq:=S.lessOf _ _ aq
   refine yB9 S v y d V.n0 V.n1 (by omega) hyn (by omega) _ ?_
   rw [← how]
   cases hpl:(zDe ow.level v.args y d).2
   ·rw [hpl] at hixK hixZ
    simp only [Bool.false_eq_true,if_false] at hixK hixZ
    try dsimp only
    repeat with_reducible (apply zS;intro _ R_;simp only [go_sem,↓reduceIte,f0,f3,f5,f6,f57,f58,f59,hi,hpl];subst R_)
    intro q2 hq2
    repeat with_reducible first|((first|apply zS|apply zC);intro _ R_;simp only [go_sem,↓reduceIte,f0,f3,f5,f6,f57,f58,f59,hi,hpl,zA3 ((i:Int)+1) (by omega)];subst R_)|(apply rN;subst hbq)|refine rG2 ?_|apply nS|refine rS fun bq hbq=>?_|apply rK|apply rE
    obtain ⟨A2,S,aq2,hA2,_⟩:=S.loc hq2 (.cells (zAj (zDe ow.level v.args y d).1) 27)
    have hgk:=hgk.stay (t:=.none) (fun _ _ e=>by cases e) (fun j o hj _=>hA2 j o hj)
    have hgz:=hgz.stay (t:=.none) (fun _ _ e=>by cases e) (fun j o hj _=>hA2 j o hj)
    refine zAp (m:=k - 1) (by omega) ⟨i+1,ks,zs,A2,zk,zz,tk,tz,by omega,hixK,hixZ,by omega,hzl,S,hA2.trans hA,hA2 _ _ a5,hA2 _ _ a6,hA2 _ _ a8,hA2 _ _ a9,hA2 _ _ a10,?_⟩
    simp only [go_sem,↓reduceIte,f0,f3,f5,f6,f8,f9,f10,f11,f13,f15,f16,f57,f58]
    exact ⟨rfl,hzk,hzz,hgk,hgz⟩
   ·rw [hpl] at hixK hixZ
    simp only [if_true] at hixK hixZ
    try dsimp only
    repeat with_reducible (apply zS;intro _ R_;simp only [go_sem,↓reduceIte,f0,f3,f5,f6,f57,f58,f59,hi,hpl];subst R_)
    intro q2 hq2
    repeat with_reducible first|((first|apply zS|apply zC);intro _ R_;simp only [go_sem,↓reduceIte,f0,f3,f5,f6,f57,f58,f59,hi,hpl];subst R_)|(apply rN;subst hbq)|refine rG2 ?_|apply nS|refine rS fun bq hbq=>?_
    obtain ⟨A2,S,aq2,hA2,_⟩:=S.loc hq2 (.cells (zAj (zDe ow.level v.args y d).1) 27)
    have hgk:=hgk.stay (t:=.none) (fun _ _ e=>by cases e) (fun j o hj _=>hA2 j o hj)
    have hgz:=hgz.stay (t:=.none) (fun _ _ e=>by cases e) (fun j o hj _=>hA2 j o hj)
    have a5:=hA2 _ _ a5
    have a6:=hA2 _ _ a6
    have a8:=hA2 _ _ a8
    have a9:=hA2 _ _ a9
    have a10:=hA2 _ _ a10
    have hA:=hA2.trans hA
    clear hA2
    generalize upd H2 q2 (some (.cells (zAj (zDe ow.level v.args y d).1) 27))=H3 at *
    have sq2:=S.lessOf _ _ aq2
    generalize (zDe ow.level v.args y d).1=z at *
    repeat with_reducible refine zAb fun bq hbq=>?_
    refine zA9 (.take 0 (.take 1 (.take 2 (.take 4 (.take 5 (.take 6 (.one 3 [5] (.one 7 [5] (.take 8 (.take 9 (.done))))))))))) (by kernel_rfl) (by simp only [zAm,gtOf,zAk];exact rfl) ?_
    repeat ((first|(with_reducible apply iT;refine sT rfl ?_)|(with_reducible apply iO;refine sO rfl ?_));intro _ _ _ C_ R_ U_;simp only [go_sem,↓reduceIte,f0,f3,f5,f6,f15,f16,f57,f58,f59,sq2,zXk,zD4];subst C_ R_ U_)
    refine zAw ?_
    simp only [go_sem,↓reduceIte]
    intro w hw
    obtain ⟨A3,H4,ea,S,hgk3,hA3,hkp⟩:=zE2 S zQu zQu sz_3 by_3 ze_3 ⟨rfl,by decide⟩ hA hw (sz1:=zk) (n1:=ks.length) (c1:=zB3 ks) (c2:=[.int .i64 (i:Int)]) (n2:=1) (t2:=.full) hgk (by rcases hzk with e|e <;> simp [e]) (sz2:=1) rfl (by decide) (by omega)
    have hgz3:=hgz.stay (zG3 (by decide) hgk hgz) hkp
    have a5:=hkp _ _ a5 (zAq hgk a5)
    have a6:=hkp _ _ a6 (zAq hgk a6)
    have a8:=hkp _ _ a8 (zAq hgk a8)
    have a9:=hkp _ _ a9 (zAq hgk a9)
    have a10:=hkp _ _ a10 (zAq hgk a10)
    have aq2:=hkp _ _ aq2 (zAq hgk aq2)
    have sq3:=S.lessOf _ _ aq2
    simp only [ea,go_sem,↓reduceIte,sq3]
    skip
    refine zAw ?_
    simp only [go_sem,↓reduceIte]
    intro w4 hw4
    obtain ⟨A4,H5,ea4,S,hgz4,hA4,hkp4⟩:=zE2 S zCo zCo zEz zGn zEd ⟨rfl,by decide⟩ hA3 hw4 (sz1:=zz) (n1:=zs.length) (c1:=encs zs) (c2:=zAj z) (n2:=1) (t2:=.full) hgz3 (by rcases hzz with e|e <;> simp [e]) (sz2:=4) rfl (by decide) (by omega)
    have hgk4:=hgk3.stay (zG3 (by decide) hgz3 hgk3) hkp4
    have a5:=hkp4 _ _ a5 (zAq hgz3 a5)
    have a6:=hkp4 _ _ a6 (zAq hgz3 a6)
    have a8:=hkp4 _ _ a8 (zAq hgz3 a8)
    have a9:=hkp4 _ _ a9 (zAq hgz3 a9)
    have a10:=hkp4 _ _ a10 (zAq hgz3 a10)
    have sq5:=S.lessOf _ _ (hkp4 _ _ aq2 (zAq hgz3 aq2))
    simp only [ea4,go_sem,↓reduceIte,sq5]
    repeat with_reducible first|(apply zS;intro _ R_;simp only [go_sem,↓reduceIte,f0,f3,f5,f6,f15,f16,f57,f58,f59,sq5,zA3 ((i:Int)+1) (by omega)];subst R_)|(apply rN;subst hbq)|refine rG2 ?_|apply nS|apply rE
    refine zAp (m:=k - 1) (by omega) ⟨i+1,ks++[i],zs++[z],A4,1,4,.id w,.id w4,by omega,by rw [List.append_assoc];exact hixK,by rw [List.append_assoc];exact hixZ,by simp;omega,by simp [hzl],S,hA4,a5,a6,a8,a9,a10,?_⟩
    simp only [go_sem,↓reduceIte,f0,f3,f5,f6,f8,f9,f10,f11,f13,f57,f58]
    exact ⟨by simp,by rw [zGg];simp,rfl,.inr trivial,.inr trivial,hgk4,hgz4⟩
  ·rw [List.drop_eq_nil_of_le (show t.args.length≤i by omega)] at hixK hixZ
   rw [zGe,List.append_nil] at hixK hixZ
   have hksT:ks.length≤t.args.length:=by omega
   repeat with_reducible first|((first|apply zS|apply zC);intro _ R_;simp only [go_sem,↓reduceIte,f0,f3,f5,f6,f8,f9,f10,f11,f13,f15,f16,f57,f58,f59,hi,s5];subst R_)|(apply rN;subst hbq)|refine rG2 ?_|(apply x1;clear hbq bq)|apply nS|refine rS fun bq hbq=>?_|apply rXx|apply x3|apply x4
   refine zCc (fun τ H=>∃ (es:List (Nat × Term)) (A:zAd) (zE zM zz:Nat) (tE tM tz:Tok),es=zEm ow.level wv.level v.args 0∧es.length≤v.args.length∧SObj x s A H∧zAh A h0∧A p5=some (.cells (zAj v) 27)∧A p6=some (.cells (zAj t) 27)∧A p8=some (.cells zT 27)∧A p9=some (.cells (zBc ow) 62)∧A p10=some (.cells (zBc wv) 62)∧τ 0=.ptr x 0∧τ 3=.int .i64 d∧τ 5=.ptr p5 0∧τ 6=.ptr p6 0∧τ 8=.ptr p8 0∧τ 9=.ptr p9 0∧τ 10=.ptr p10 0∧τ 11=.list 1 (encS (nmsF wv)) (nmsF wv).length .none∧τ 15=.list zk (zB3 ks) ks.length tk∧τ 16=.list zz (encs zs++rawX v.args.length d es) (zs.length+es.length) tz∧τ 21=.list zE (encs (es.map (·.2))) es.length tE∧τ 22=.list zM (encS (zA7 (nmsF ow) (es.map (·.1)))) es.length tM∧(es=[]∨zE=4)∧(es=[]∨zM=1)∧(zs.length+es.length=0∨zz=4)) ?_ fun τ h' hI=>?_
   ·repeat with_reducible (refine rB fun cq hcq=>?_;subst hcq)
    refine zAz (fun k τ H=>∃ (i:Nat) (es:List (Nat × Term)) (A:zAd) (zE zM zz:Nat) (tE tM tz:Tok),k+i=v.args.length∧es++zEm ow.level wv.level (v.args.drop i) i=zEm ow.level wv.level v.args 0∧es.length≤i ∧
     SObj x s A H∧zAh A h0∧A p5=some (.cells (zAj v) 27)∧A p6=some (.cells (zAj t) 27)∧A p8=some (.cells zT 27)∧A p9=some (.cells (zBc ow) 62)∧A p10=some (.cells (zBc wv) 62) ∧
     τ 0=.ptr x 0∧τ 3=.int .i64 d∧τ 5=.ptr p5 0∧τ 6=.ptr p6 0∧τ 8=.ptr p8 0∧τ 9=.ptr p9 0∧τ 10=.ptr p10 0∧τ 11=.list 1 (encS (nmsF wv)) (nmsF wv).length .none∧τ 13=.list 1 (encS (nmsF ow)) (nmsF ow).length .none ∧
     τ 15=.list zk (zB3 ks) ks.length tk∧τ 16=.list zz (encs zs++rawX v.args.length d es) (zs.length+es.length) tz∧τ 21=.list zE (encs (es.map (·.2))) es.length tE∧τ 22=.list zM (encS (zA7 (nmsF ow) (es.map (·.1)))) es.length tM ∧
     τ 83=.list 4 (encs v.args) v.args.length .none∧τ 84=.int .i64 v.args.length∧τ 85=.int .i64 i∧(es=[]∨zE=4)∧(es=[]∨zM=1)∧(zs.length+es.length=0∨zz=4)∧Grow 27 h0 A tE∧Grow 9 h0 A tM∧Grow 27 h0 A tz∧∀ f,tE=.id f→tz≠.id f) v.args.length ?_ ?_
    ·refine ⟨0,[],A,0,0,zz,.nil,.nil,tz,rfl,rfl,Nat.le_refl _,S,hA,a5,a6,a8,a9,a10,?_⟩
     simp only [go_sem,↓reduceIte,f0,f3,f5,f6,f8,f9,f10,f11,f13,f15,f16]
     refine ⟨by rw [show rawX v.args.length d []=[] from rfl,List.append_nil],by rw [zBa],rfl,rfl,.inl trivial,.inl trivial,?_,.inl (.inr rfl),.inl (.inr rfl),hgz⟩
     rcases hzz with e|e
     ·left;rw [e];rfl
     ·exact .inr e
    ·intro cc hcc k2 τ H hI
     clear S a5 a6 a8 a9 a10 hA s5 s6 s8 s9 s10 f0 f3 f5 f6 f8 f9 f10 f11 f13 f15 f16 f57 f58 f59
     obtain ⟨i2,es,A,zE,zM,zz,tE,tM,tz,hki2,hixE,hel,S,hA,a5,a6,a8,a9,a10,f0,f3,f5,f6,f8,f9,f10,f11,f13,f15,f16,f21,f22,f83,f84,f85,hzE,hzM,hzz2,hgE,hgM,hgz,hEz⟩:=hI
     subst hcc
     have s5:=S.lessOf _ _ a5
     have s6:=S.lessOf _ _ a6
     have s8:=S.lessOf _ _ a8
     have s9:=S.lessOf _ _ a9
     have s10:=S.lessOf _ _ a10
     by_cases hi2:i2<v.args.length
     ·obtain ⟨y,hy⟩:∃ y,v.args[i2]?=some y:=⟨_,List.getElem?_eq_getElem hi2⟩
      obtain ⟨r1,hr1⟩:=zB7 v.args i2 hy
      have d1:v.args.drop i2=y::v.args.drop (i2+1):=by
       rw [List.drop_eq_getElem_cons hi2]
       rw [List.getElem?_eq_getElem hi2] at hy;injection hy with hy;rw [hy]
      rw [d1,zEm] at hixE
      repeat with_reducible first|((first|apply zS|apply zC);intro _ R_;simp only [go_sem,↓reduceIte,f0,f3,f5,f6,f83,f84,f85,hi2,hr1];subst R_)|(apply rN;subst hbq)|refine rG2 ?_|(refine rB fun cq hcq=>?_;subst hcq)|apply nS|refine rS fun bq hbq=>?_|apply rK
      intro q hq1
      have q9:=zAc hq1 s9
      have q10:=zAc hq1 s10
      have q5:=zAc hq1 s5
      cases hx:zQa ow.level wv.level y
      ·rw [hx] at hixE
       simp only [Bool.false_eq_true,if_false] at hixE
       have hx':(y.kind==3)=true→decide (y.n<wv.level)=true→decide (y.n≥ow.level)=false:=fun h1 h2=>by unfold zQa at hx;rw [h1,h2] at hx;simpa using hx
       obtain ⟨A1,S,aq,hA1,_⟩:=S.loc hq1 (.cells (zAj y) 27)
       have hgE:=hgE.stay (t:=.none) (fun _ _ e=>by cases e) (fun j o hj _=>hA1 j o hj)
       have hgM:=hgM.stay (t:=.none) (fun _ _ e=>by cases e) (fun j o hj _=>hA1 j o hj)
       have hgz:=hgz.stay (t:=.none) (fun _ _ e=>by cases e) (fun j o hj _=>hA1 j o hj)
       cases k3:(y.kind==3)
       ·repeat with_reducible first|((first|apply zS|apply zC);intro _ R_;simp only [go_sem,↓reduceIte,f0,f3,f5,f6,f9,f10,f83,f84,f85,s9,s10,q9,q10,k3,zA3 ((i2:Int)+1) (by omega)];subst R_)|(apply rN;subst hbq)|refine rG2 ?_|apply nS|refine rS fun bq hbq=>?_|apply rK|apply rE
        refine zAp (m:=k2 - 1) (by omega) ⟨i2+1,es,A1,zE,zM,zz,tE,tM,tz,by omega,hixE,by omega,S,hA1.trans hA,hA1 _ _ a5,hA1 _ _ a6,hA1 _ _ a8,hA1 _ _ a9,hA1 _ _ a10,?_⟩
        simp only [go_sem,↓reduceIte,f0,f3,f5,f6,f8,f9,f10,f11,f13,f15,f16,f21,f22,f83,f84]
        exact ⟨rfl,hzE,hzM,hzz2,hgE,hgM,hgz,hEz⟩
       cases kn:decide (y.n<wv.level)
       ·repeat with_reducible first|((first|apply zS|apply zC);intro _ R_;simp only [go_sem,↓reduceIte,f0,f3,f5,f6,f9,f10,f83,f84,f85,s9,s10,q9,q10,k3,kn,zA3 ((i2:Int)+1) (by omega)];subst R_)|(apply rN;subst hbq)|refine rG2 ?_|apply nS|refine rS fun bq hbq=>?_|apply rK|apply rE
        refine zAp (m:=k2 - 1) (by omega) ⟨i2+1,es,A1,zE,zM,zz,tE,tM,tz,by omega,hixE,by omega,S,hA1.trans hA,hA1 _ _ a5,hA1 _ _ a6,hA1 _ _ a8,hA1 _ _ a9,hA1 _ _ a10,?_⟩
        simp only [go_sem,↓reduceIte,f0,f3,f5,f6,f8,f9,f10,f11,f13,f15,f16,f21,f22,f83,f84]
        exact ⟨rfl,hzE,hzM,hzz2,hgE,hgM,hgz,hEz⟩
       have ko:=hx' k3 kn
       repeat with_reducible first|((first|apply zS|apply zC);intro _ R_;simp only [go_sem,↓reduceIte,f0,f3,f5,f6,f9,f10,f83,f84,f85,s9,s10,q9,q10,k3,kn,ko,zA3 ((i2:Int)+1) (by omega)];subst R_)|(apply rN;subst hbq)|refine rG2 ?_|apply nS|refine rS fun bq hbq=>?_|apply rK|apply rE
       refine zAp (m:=k2 - 1) (by omega) ⟨i2+1,es,A1,zE,zM,zz,tE,tM,tz,by omega,hixE,by omega,S,hA1.trans hA,hA1 _ _ a5,hA1 _ _ a6,hA1 _ _ a8,hA1 _ _ a9,hA1 _ _ a10,?_⟩
       simp only [go_sem,↓reduceIte,f0,f3,f5,f6,f8,f9,f10,f11,f13,f15,f16,f21,f22,f83,f84]
       exact ⟨rfl,hzE,hzM,hzz2,hgE,hgM,hgz,hEz⟩
      ·rw [hx] at hixE
       simp only [if_true] at hixE
       unfold zQa at hx
       simp only [Bool.and_eq_true] at hx
       obtain ⟨k3,kn,ko⟩:=hx
       repeat with_reducible first|((first|apply zS|apply zC);intro _ R_;simp only [go_sem,↓reduceIte,f0,f3,f5,f6,f9,f10,f83,f84,f85,s9,s10,q9,q10,k3,kn,ko,f21,zD4];subst R_)|(apply rN;subst hbq)|refine rG2 ?_|apply nS|refine rS fun bq hbq=>?_
       obtain ⟨A1,S,aq,hA1,_⟩:=S.loc hq1 (.cells (zAj y) 27)
       have hgE:=hgE.stay (t:=.none) (fun _ _ e=>by cases e) (fun j o hj _=>hA1 j o hj)
       have hgM:=hgM.stay (t:=.none) (fun _ _ e=>by cases e) (fun j o hj _=>hA1 j o hj)
       have hgz:=hgz.stay (t:=.none) (fun _ _ e=>by cases e) (fun j o hj _=>hA1 j o hj)
       have a5:=hA1 _ _ a5
       have a6:=hA1 _ _ a6
       have a8:=hA1 _ _ a8
       have a9:=hA1 _ _ a9
       have a10:=hA1 _ _ a10
       have hA:=hA1.trans hA
       clear hA1
       generalize upd H q (some (.cells (zAj y) 27))=H2 at *
       have hel8:es.length≤8:=by omega
       refine zAw ?_
       simp only [go_sem,↓reduceIte]
       intro w hw
       obtain ⟨A3,H3,ea,S3,hgE3,hA3,hkp⟩:=zE2 S zCo zCo zEz zGn zEd ⟨rfl,by decide⟩ hA hw (sz1:=zE) (n1:=es.length) (c1:=encs (es.map (·.2))) (c2:=zAj y) (n2:=1) (t2:=.full) hgE (by rcases hzE with e|e <;> simp [e]) (sz2:=4) rfl (by decide) (by omega)
       have hgz3:=hgz.stay (fun f hf hf2=>hEz f hf2 hf) hkp
       have hgM3:=hgM.stay (zG3 (by decide) hgE hgM) hkp
       have hwz:=zSh hgz hw S.lessOf
       have a5:=hkp _ _ a5 (zAq hgE a5)
       have a6:=hkp _ _ a6 (zAq hgE a6)
       have a8:=hkp _ _ a8 (zAq hgE a8)
       have a9:=hkp _ _ a9 (zAq hgE a9)
       have a10:=hkp _ _ a10 (zAq hgE a10)
       have t5:=S3.lessOf _ _ a5
       have hin:i2<(nmsF ow).length:=by omega
       have dn:(List.drop i2 (encS (nmsF ow))).head?=some (.str ((nmsF ow).getD i2 zAr)):=by
        rw [List.head?_drop,List.getElem?_map,List.getD_eq_getElem?_getD,List.getElem?_eq_getElem hin];rfl
       simp only [ea,go_sem,↓reduceIte]
       repeat with_reducible first|(apply zS;intro _ R_;simp only [go_sem,↓reduceIte,f0,f3,f5,f6,f9,f10,f13,f22,f83,f84,f85,hin,dn,zHb];subst R_)|(apply rN;subst hbq)|refine rG2 ?_|refine rS fun bq hbq=>?_
       refine zAw ?_
       simp only [go_sem,↓reduceIte]
       intro w4 hw4
       obtain ⟨A4,H4,ea4,S4,hgM4,hA4,hkp4⟩:=zE2 S3 zKe zKe sz_9 by_9 ze_9 ⟨rfl,by decide⟩ hA3 hw4 (sz1:=zM) (n1:=es.length) (c1:=encS (zA7 (nmsF ow) (es.map (·.1)))) (c2:=[.str ((nmsF ow).getD i2 zAr)]) (n2:=1) (t2:=.full) hgM3 (by rcases hzM with e|e <;> simp [e]) (sz2:=1) rfl (by decide) (by omega)
       have hgz4:=hgz3.stay (zG3 (by decide) hgM3 hgz3) hkp4
       have hgE4:=hgE3.stay (zG3 (by decide) hgM3 hgE3) hkp4
       have a5:=hkp4 _ _ a5 (zAq hgM3 a5)
       have a6:=hkp4 _ _ a6 (zAq hgM3 a6)
       have a8:=hkp4 _ _ a8 (zAq hgM3 a8)
       have a9:=hkp4 _ _ a9 (zAq hgM3 a9)
       have a10:=hkp4 _ _ a10 (zAq hgM3 a10)
       have t5:=S4.lessOf _ _ a5
       simp only [ea4,go_sem,↓reduceIte]
       repeat with_reducible first|(apply zS;intro _ R_;simp only [go_sem,↓reduceIte,f0,f3,f5,f6,f9,f10,f16,f83,f84,f85,t5,zFb,zH6,zA3 ((v.args.length:Int) - 1) (by omega),zA3 ((v.args.length:Int) - 1 - i2) (by omega),zA3 ((v.args.length:Int) - 1 - i2+d) (by omega)];subst R_)|(apply rN;subst hbq)|refine rG2 ?_
       refine zAw ?_
       simp only [go_sem,↓reduceIte]
       intro w6 hw6
       obtain ⟨A5,H5,ea5,S5,hgz5,hA5,hkp5⟩:=zE2 S4 zCo zCo zEz zGn zEd ⟨rfl,by decide⟩ hA4 hw6 (sz1:=zz) (n1:=zs.length+es.length) (c1:=encs zs++rawX v.args.length d es) (c2:=zIu ((v.args.length:Int) - 1 - i2+d)) (n2:=1) (t2:=.full) hgz4 hzz2 (sz2:=4) rfl (by decide) (by omega)
       have hgE5:=hgE4.stay (fun f hf hf2=>hwz (by rw [hf2,hf])) hkp5
       have hgM5:=hgM4.stay (zG3 (by decide) hgz4 hgM4) hkp5
       have hw6E:=zSh hgE4 hw6 S4.lessOf
       simp only [ea5,go_sem,↓reduceIte]
       repeat with_reducible first|(apply zS;intro _ R_;simp only [go_sem,↓reduceIte,f0,f3,f5,f6,f9,f10,f83,f84,f85,zA3 ((i2:Int)+1) (by omega)];subst R_)|(apply rN;subst hbq)|refine rG2 ?_|apply nS|apply rE
       refine zAp (m:=k2 - 1) (by omega) ⟨i2+1,es++[(i2,y)],A5,4,1,4,.id w,.id w4,.id w6,by omega,by rw [List.append_assoc];exact hixE,by simp;omega,S5,hA5,hkp5 _ _ a5 (zAq hgz4 a5),hkp5 _ _ a6 (zAq hgz4 a6),hkp5 _ _ a8 (zAq hgz4 a8),hkp5 _ _ a9 (zAq hgz4 a9),hkp5 _ _ a10 (zAq hgz4 a10),?_⟩
       simp only [go_sem,↓reduceIte,f0,f3,f5,f6,f8,f9,f10,f11,f13,f15,f83,f84]
       refine ⟨by rw [z7c,List.length_append,List.append_assoc];rfl,by rw [List.map_append,List.map_cons,List.map_nil,zGg];simp,by simp [zA7],rfl,.inr trivial,.inr trivial,.inr trivial,hgE5,hgM5,hgz5,fun f hf hf2=>hw6E (by rw [hf,hf2])⟩
     ·rw [List.drop_eq_nil_of_le (show v.args.length≤i2 by omega)] at hixE
      rw [zEm,List.append_nil] at hixE
      repeat with_reducible first|((first|apply zS|apply zC);intro _ R_;simp only [go_sem,↓reduceIte,f0,f3,f5,f6,f8,f9,f10,f83,f84,f85,hi2];subst R_)|(apply rN;subst hbq)|refine rG2 ?_|(apply x1;clear hbq bq)|apply nS|refine rS fun bq hbq=>?_|apply rXx|apply x3|apply x4
      refine zAl ⟨es,A,zE,zM,zz,tE,tM,tz,hixE,by omega,S,hA,a5,a6,a8,a9,a10,?_⟩
      simp only [go_sem,↓reduceIte,f0,f3,f5,f6,f8,f9,f10,f11,f13,f15,f16,f21,f22]
      exact ⟨hzE,hzM,hzz2⟩
   clear S a5 a6 a8 a9 a10 hA s5 s6 s8 s9 s10 f0 f3 f5 f6 f8 f9 f10 f11 f13 f15 f16 f57 f58 f59
   obtain ⟨es,A,zE,zM,zz,tE,tM,tz,hixE,hel,S,hA,a5,a6,a8,a9,a10,f0,f3,f5,f6,f8,f9,f10,f11,f15,f16,f21,f22,hzE,hzM,hzz2⟩:=hI
   have s5:=S.lessOf _ _ a5
   have s6:=S.lessOf _ _ a6
   have s8:=S.lessOf _ _ a8
   have s9:=S.lessOf _ _ a9
   have s10:=S.lessOf _ _ a10
   have hel8:es.length≤8:=by omega
   have hseen:zI6 s v t d=(if (ks.length:Int)==(nmsF wv).length&&decide (wv.level≤ow.level) then .ok (s,sVar t.n (zs++es.map fun p=>sBnd ((v.args.length:Int) - 1 - p.1+d))) else if decide ((ks.length:Int)+es.length>8) then .large 2
    else (zE0 s (min wv.level ow.level) (zBp (zA7 (nmsF wv) ks++zA7 (nmsF ow) (es.map (·.1))) (zCe wv.type))).bind fun r=>.ok (zH8 r.1 t.n (sVar r.2 (zCm (nmsF wv).length ks++es.map (·.2))),sVar r.2 (zs++es.map fun p=>sBnd ((v.args.length:Int) - 1 - p.1+d)))):=by
    unfold zI6
    rw [hne]
    dsimp only
    rw [← how,← hwv,← hixK,← hixZ,← hixE]
    rfl
   have hout:∀ n:Int,LeAV (.agg [.int .i64 4,.int .i64 n,.str zAr,.list zz (encs zs++rawX v.args.length d es) (zs.length+es.length) tz]) (enc (sVar n (zs++es.map fun p=>sBnd ((v.args.length:Int) - 1 - p.1+d)))):=fun n=>by
    refine LeAV.agg (.cons (LeAV.refl _) (.cons (LeAV.refl _) (.cons (LeAV.refl _) (.cons ?_ .nil))))
    have e1:encs (zs++es.map fun p=>sBnd ((v.args.length:Int) - 1 - p.1+d))=encs zs++encs (es.map fun p=>sBnd ((v.args.length:Int) - 1 - p.1+d)):=by rw [zB6,zB6,zB6,List.flatMap_append]
    have e2:(zs++es.map fun p=>sBnd ((v.args.length:Int) - 1 - p.1+d)).length=zs.length+es.length:=by simp
    show LeAV _ (.list 4 (encs (zs++es.map fun p=>sBnd ((v.args.length:Int) - 1 - p.1+d))) (zs++es.map fun p=>sBnd ((v.args.length:Int) - 1 - p.1+d)).length .none)
    rw [e1,e2]
    rcases hzz2 with e|e
    ·have z1:zs=[]:=List.eq_nil_of_length_eq_zero (by omega)
     have z2:es=[]:=List.eq_nil_of_length_eq_zero (by omega)
     subst z1;subst z2
     rw [List.map_nil,zBa]
     show LeAV (.list zz [] 0 tz) (.list 4 [] 0 .none)
     exact LeAV.nil _ _ _
    ·subst e
     exact fun G W u hr=>LeAV.listL (LeL.app (z8v _ _ _) (encs zs)) G W u (LeAV.list _ _ _ _ G W u hr)
   subst hbq
   repeat with_reducible refine zAb fun bq hbq=>?_
   refine zCc (fun τ H'=>H'=h'∧τ 0=.ptr x 0∧τ 3=.int .i64 d∧τ 5=.ptr p5 0∧τ 6=.ptr p6 0∧τ 8=.ptr p8 0∧τ 9=.ptr p9 0∧τ 10=.ptr p10 0∧τ 11=.list 1 (encS (nmsF wv)) (nmsF wv).length .none∧τ 15=.list zk (zB3 ks) ks.length tk∧τ 16=.list zz (encs zs++rawX v.args.length d es) (zs.length+es.length) tz∧τ 21=.list zE (encs (es.map (·.2))) es.length tE∧τ 22=.list zM (encS (zA7 (nmsF ow) (es.map (·.1)))) es.length tM∧τ 142=.bool ((ks.length:Int)==(nmsF wv).length&&decide (wv.level≤ow.level))) ?_ fun τ h' hI=>?_
   ·cases c1:((ks.length:Int)==(nmsF wv).length)
    ·repeat with_reducible first|(apply zS;intro _ R_;simp only [go_sem,↓reduceIte,f0,f3,f5,f6,f8,f9,f10,f11,f15,f16,f21,f22,c1,s9,s10];subst R_)|refine rG2 ?_|apply nS
     refine zAl ?_
     simp only [go_sem,↓reduceIte,f0,f3,f5,f6,f8,f9,f10,f11,f15,f16,f21,f22]
    ·cases c2:decide (wv.level≤ow.level)
     all_goals
      repeat with_reducible first|(apply zS;intro _ R_;simp only [go_sem,↓reduceIte,f0,f3,f5,f6,f8,f9,f10,f11,f15,f16,f21,f22,c1,c2,s9,s10];subst R_)|refine rG2 ?_|apply nS
      refine zAl ?_
      simp only [go_sem,↓reduceIte,f0,f3,f5,f6,f8,f9,f10,f11,f15,f16,f21,f22]
   clear f0 f3 f5 f6 f8 f9 f10 f11 f15 f16 f21 f22
   obtain ⟨rfl,f0,f3,f5,f6,f8,f9,f10,f11,f15,f16,f21,f22,f142⟩:=hI
   subst hbq
   cases hcc:((ks.length:Int)==(nmsF wv).length&&decide (wv.level≤ow.level))
   case true =>
    rw [hcc] at hseen f142
    repeat with_reducible first|((first|apply zS|apply zC);intro _ R_;simp only [go_sem,↓reduceIte,f0,f3,f5,f6,f8,f9,f10,f11,f16,f142,s6,s8,zSy];subst R_)|(apply rN;subst hbq)|refine rG2 ?_|(apply r1;clear hbq bq)|apply nS|refine rS fun bq hbq=>?_|apply rR
    obtain ⟨A1,S1,_,hA1,_⟩:=S.wr hA a8 h08 (.cells [.int .i64 4,.int .i64 t.n,.str zAr,.list zz (encs zs++rawX v.args.length d es) (zs.length+es.length) tz] 27)
    refine zBx (v:=enc (sVar t.n (zs++es.map fun p=>sBnd ((v.args.length:Int) - 1 - p.1+d)))) (by rw [Tryz.results162]) (zAh.refl _) ?_ (hq s _ _ hseen (S1.low hA1))
    simp only [go_sem,↓reduceIte,f8,zAo,Option.some.injEq,exists_eq_left']
    exact hout t.n
   rw [hcc] at hseen f142
   simp only [Bool.false_eq_true,if_false] at hseen
   cases c8:decide ((ks.length:Int)+es.length>8)
   case true =>
    rw [c8] at hseen
    repeat with_reducible first|((first|apply zS|apply zC);intro _ R_;simp only [go_sem,↓reduceIte,f0,f3,f5,f6,f8,f9,f10,f11,f15,f16,f21,f142,s6,s8,c8,zJ9,zA3 ((ks.length:Int)+es.length) (by omega)];subst R_)|(apply rN;subst hbq)|refine rG2 ?_|apply nS|refine rS fun bq hbq=>?_|apply rK
    exact p1 (pL (zAh.refl _) (hp _ _ (by rw [hseen];rfl) (S.lessOf.trans hA)))
   rw [c8] at hseen
   simp only [Bool.false_eq_true,if_false] at hseen
   have hk8:ks.length+es.length≤8:=by simp at c8;omega
   repeat with_reducible first|((first|apply zS|apply zC);intro _ R_;simp only [go_sem,↓reduceIte,f0,f3,f5,f6,f8,f9,f10,f11,f15,f16,f21,f142,s6,s8,c8,zXl,zA3 ((ks.length:Int)+es.length) (by omega)];subst R_)|(apply rN;subst hbq)|refine rG2 ?_|apply nS|refine rS fun bq hbq=>?_|apply rK
   intro p26 hp26
   have n265:=zAc hp26 s5
   have n266:=zAc hp26 s6
   have n268:=zAc hp26 s8
   have n269:=zAc hp26 s9
   have n2610:=zAc hp26 s10
   repeat with_reducible first|(apply zS;intro _ R_;simp only [go_sem,↓reduceIte,f0,f3,f5,f6,f8,f9,f10,f11,f15];subst R_)|(apply rN;subst hbq)|refine rG2 ?_|apply nS|refine rS fun bq hbq=>?_
   obtain ⟨A1,S1,a26,hA1,hA26⟩:=S.loc hp26 (.cells [.int .i64 4,.int .i64 0,.str zAr,.list 0 [] 0 .nil] 27)
   have h026:=hA.none hA26
   have a5:=hA1 _ _ a5
   have a6:=hA1 _ _ a6
   have a8:=hA1 _ _ a8
   have a9:=hA1 _ _ a9
   have a10:=hA1 _ _ a10
   have hA:=hA1.trans hA
   have hkix:∀ k ∈ ks,k<(nmsF wv).length:=fun k hk=>by
    have K:=(zUa (lv:=ow.level) (us:=v.args) (d:=d) t.args 0 hskT).ix
    rw [← hixK] at K
    have:=K k hk
    omega
   refine zCc (fun τ H=>∃ (A:zAd) (zN zA:Nat) (tN tA:Tok),SObj x s A H∧zAh A h0∧A p5=some (.cells (zAj v) 27)∧A p6=some (.cells (zAj t) 27)∧A p8=some (.cells zT 27)∧A p9=some (.cells (zBc ow) 62)∧A p10=some (.cells (zBc wv) 62)∧A p26=some (.cells [.int .i64 4,.int .i64 0,.str zAr,.list zA (rawB (nmsF wv).length ks) ks.length tA] 27)∧τ 0=.ptr x 0∧τ 5=.ptr p5 0∧τ 6=.ptr p6 0∧τ 8=.ptr p8 0∧τ 9=.ptr p9 0∧τ 10=.ptr p10 0∧τ 16=.list zz (encs zs++rawX v.args.length d es) (zs.length+es.length) tz∧τ 21=.list zE (encs (es.map (·.2))) es.length tE∧τ 22=.list zM (encS (zA7 (nmsF ow) (es.map (·.1)))) es.length tM∧τ 25=.list zN (encS (zA7 (nmsF wv) ks)) ks.length tN∧τ 26=.ptr p26 0∧(ks.length=0∨zN=1)∧(ks.length=0∨zA=4)∧Grow 9 h0 A tN∧Grow 27 h0 A tA) ?_ fun τ h' hI=>?_
   ·repeat with_reducible (refine rB fun cq hcq=>?_;subst hcq)
    refine zAz (fun k τ H=>∃ (i:Nat) (A:zAd) (zN zA:Nat) (tN tA:Tok),k+i=ks.length∧SObj x s A H∧zAh A h0∧A p5=some (.cells (zAj v) 27)∧A p6=some (.cells (zAj t) 27)∧A p8=some (.cells zT 27)∧A p9=some (.cells (zBc ow) 62)∧A p10=some (.cells (zBc wv) 62)∧A p26=some (.cells [.int .i64 4,.int .i64 0,.str zAr,.list zA (rawB (nmsF wv).length (ks.take i)) i tA] 27)∧τ 0=.ptr x 0∧τ 5=.ptr p5 0∧τ 6=.ptr p6 0∧τ 8=.ptr p8 0∧τ 9=.ptr p9 0∧τ 10=.ptr p10 0∧τ 11=.list 1 (encS (nmsF wv)) (nmsF wv).length .none∧τ 16=.list zz (encs zs++rawX v.args.length d es) (zs.length+es.length) tz∧τ 21=.list zE (encs (es.map (·.2))) es.length tE∧τ 22=.list zM (encS (zA7 (nmsF ow) (es.map (·.1)))) es.length tM∧τ 25=.list zN (encS (zA7 (nmsF wv) (ks.take i))) i tN∧τ 26=.ptr p26 0∧τ 156=.list zk (zB3 ks) ks.length tk∧τ 157=.int .i64 ks.length∧τ 158=.int .i64 i∧(i=0∨zN=1)∧(i=0∨zA=4)∧Grow 9 h0 A tN∧Grow 27 h0 A tA) ks.length ?_ ?_
    ·refine ⟨0,A1,0,0,.nil,.nil,rfl,S1,hA,a5,a6,a8,a9,a10,a26,?_⟩
     simp only [go_sem,↓reduceIte,f0,f5,f6,f8,f9,f10,f11,f16,f21,f22]
     exact ⟨rfl,rfl,.inl trivial,.inl trivial,.inl (.inr rfl),.inl (.inr rfl)⟩
    ·intro c3 hc3 k3 τ H hI
     clear S S1 a5 a6 a8 a9 a10 a26 hA s5 s6 s8 s9 s10 f0 f3 f5 f6 f8 f9 f10 f11 f15 f16 f21 f22 f142 hA1
     obtain ⟨i3,A,zN,zA,tN,tA,hki3,S,hA,a5,a6,a8,a9,a10,a26,f0,f5,f6,f8,f9,f10,f11,f16,f21,f22,f25,f26,f156,f157,f158,hzN,hzA,hgN,hgA⟩:=hI
     subst hc3
     have s26:=S.lessOf _ _ a26
     by_cases hi3:i3<ks.length
     ·obtain ⟨kk,hkk⟩:∃ kk,ks[i3]?=some kk:=⟨_,List.getElem?_eq_getElem hi3⟩
      have hkn:=hkix kk (List.mem_of_getElem? hkk)
      have hne:ks≠[]:=fun e=>by subst e;simp at hi3
      obtain rfl:zk=1:=hzk.resolve_left hne
      have d1:(List.drop i3 (zB3 ks)).head?=some (.int .i64 (kk:Int)):=by rw [List.head?_drop,List.getElem?_map,hkk];rfl
      have d2:(List.drop kk (encS (nmsF wv))).head?=some (.str ((nmsF wv).getD kk zAr)):=by
       rw [List.head?_drop,List.getElem?_map,List.getD_eq_getElem?_getD,List.getElem?_eq_getElem hkn];rfl
      repeat with_reducible first|((first|apply zS|apply zC);intro _ R_;simp only [go_sem,↓reduceIte,f0,f11,f25,f26,f156,f157,f158,hi3,d1,d2,hkn,zHb];subst R_)|(apply rN;subst hbq)|refine rG2 ?_|(refine rB fun cq hcq=>?_;subst hcq)|apply nS|refine rS fun bq hbq=>?_|apply rK
      refine zAw ?_
      simp only [go_sem,↓reduceIte]
      intro w hw
      obtain ⟨A3,H3,ea,S3,hgN3,hA3,hkp⟩:=zE2 S zKe zKe sz_9 by_9 ze_9 ⟨rfl,by decide⟩ hA hw (sz1:=zN) (n1:=i3) (c1:=encS (zA7 (nmsF wv) (ks.take i3))) (c2:=[.str ((nmsF wv).getD kk zAr)]) (n2:=1) (t2:=.full) hgN hzN (sz2:=1) rfl (by decide) (by omega)
      have a5:=hkp _ _ a5 (zAq hgN a5)
      have a6:=hkp _ _ a6 (zAq hgN a6)
      have a8:=hkp _ _ a8 (zAq hgN a8)
      have a9:=hkp _ _ a9 (zAq hgN a9)
      have a10:=hkp _ _ a10 (zAq hgN a10)
      have a26:=hkp _ _ a26 (zAq hgN a26)
      have hgA3:=hgA.stay (zG3 (by decide) hgN hgA) hkp
      have sb3:=S3.lessOf _ _ a26
      simp only [ea,go_sem,↓reduceIte]
      repeat with_reducible first|(apply zS;intro _ R_;simp only [go_sem,↓reduceIte,f0,f11,f26,f156,f157,f158,sb3,zFb,zH6,zA3 (((nmsF wv).length:Int) - 1) (by omega),zA3 (((nmsF wv).length:Int) - 1 - kk) (by omega)];subst R_)|(apply rN;subst hbq)|refine rG2 ?_
      refine zAw ?_
      simp only [go_sem,↓reduceIte]
      intro w4 hw4
      obtain ⟨A4,H4,ea4,S4,hgA4,hA4,hkp4⟩:=zE2 S3 zCo zCo zEz zGn zEd ⟨rfl,by decide⟩ hA3 hw4 (sz1:=zA) (n1:=i3) (c1:=rawB (nmsF wv).length (ks.take i3)) (c2:=zIu (((nmsF wv).length:Int) - 1 - kk)) (n2:=1) (t2:=.full) hgA3 hzA (sz2:=4) rfl (by decide) (by omega)
      have b5:=hkp4 _ _ a5 (zAq hgA3 a5)
      have b6:=hkp4 _ _ a6 (zAq hgA3 a6)
      have b8:=hkp4 _ _ a8 (zAq hgA3 a8)
      have b9:=hkp4 _ _ a9 (zAq hgA3 a9)
      have b10:=hkp4 _ _ a10 (zAq hgA3 a10)
      have b26:=hkp4 _ _ a26 (zAq hgA3 a26)
      have hgN4:=hgN3.stay (zG3 (by decide) hgA3 hgN3) hkp4
      have sb4:=S4.lessOf _ _ b26
      simp only [ea4,go_sem,↓reduceIte,f26,sb4]
      repeat with_reducible first|(apply zS;intro _ R_;simp only [go_sem,↓reduceIte,f0,f26,f156,f157,f158,sb4,zA3 ((i3:Int)+1) (by omega)];subst R_)|(apply rN;subst hbq)|refine rG2 ?_|apply nS|apply rE
      obtain ⟨A5,S5,b26',hA5,hkp5⟩:=S4.wr hA4 b26 h026 (.cells [.int .i64 4,.int .i64 0,.str zAr,.list 4 (rawB (nmsF wv).length (ks.take i3)++zIu (((nmsF wv).length:Int) - 1 - kk)) (i3+1) (.id w4)] 27)
      refine zAp (m:=k3 - 1) (by omega) ⟨i3+1,A5,1,4,.id w,.id w4,by omega,S5,hA5,hkp5 _ _ n265 b5,hkp5 _ _ n266 b6,hkp5 _ _ n268 b8,hkp5 _ _ n269 b9,hkp5 _ _ n2610 b10,?_,?_⟩
      ·rw [zV0 hkk];exact b26'
      ·rw [zSb hkk]
       simp only [go_sem,↓reduceIte,f0,f5,f6,f8,f9,f10,f11,f16,f21,f22,f26,f156,f157]
       refine ⟨?_,rfl,.inr trivial,.inr trivial,hgN4.putA b26 hkp5,hgA4.putA b26 hkp5⟩
       simp
     ·have hie:i3=ks.length:=by omega
      have htk:ks.take i3=ks:=by rw [hie];exact List.take_length
      rw [htk] at a26 f25
      rw [hie] at a26 f25 hzN hzA
      repeat with_reducible first|((first|apply zS|apply zC);intro _ R_;simp only [go_sem,↓reduceIte,f157,f158,hi3];subst R_)|(apply rN;subst hbq)|refine rG2 ?_|(apply x1;clear hbq bq)|apply nS|refine rS fun bq hbq=>?_|apply rXx|apply x3|apply x4
      refine zAl ⟨A,zN,zA,tN,tA,S,hA,a5,a6,a8,a9,a10,a26,?_⟩
      simp only [go_sem,↓reduceIte,f0,f5,f6,f8,f9,f10,f16,f21,f22,f25,f26]
      exact ⟨hzN,hzA,hgN,hgA⟩
   clear S S1 a5 a6 a8 a9 a10 a26 hA s5 s6 s8 s9 s10 f0 f3 f5 f6 f8 f9 f10 f11 f15 f16 f21 f22 f142 hA1
   obtain ⟨A,zN,zA,tN,tA,S,hA,a5,a6,a8,a9,a10,a26,f0,f5,f6,f8,f9,f10,f16,f21,f22,f25,f26,hzN,hzA,hgN,hgA⟩:=hI
   subst hbq
   have s26:=S.lessOf _ _ a26
   repeat with_reducible first|(apply zS;intro _ R_;simp only [go_sem,↓reduceIte,f21,f26,s26];subst R_)|refine rG2 ?_|refine rS fun bq hbq=>?_
   refine zAw ?_
   simp only [go_sem,↓reduceIte]
   intro w hw
   have hes0:es.length=0→encs (es.map (·.2))=[]:=fun e=>by
    have:es=[]:=List.eq_nil_of_length_eq_zero e
    subst this;exact zBa
   obtain ⟨A3,H3,zB,tB,ea,S3,hA3,hzB,hkp⟩:=zS4 S zCo zCo zEz zGn zEd ⟨rfl,by decide⟩ hA hw (sz1:=zA) (n1:=ks.length) (c1:=rawB (nmsF wv).length ks) (c2:=encs (es.map (·.2))) (sz2:=zE) (n2:=es.length) (t2:=tE) hgA hzA (by rcases hzE with e|e <;> simp [e]) hes0 (by omega)
   have hgN3:Grow 9 h0 A3 tN:=hgN.stay (zG3 (by decide) hgA hgN) hkp
   have a5:=hkp _ _ a5 (zAq hgA a5)
   have a6:=hkp _ _ a6 (zAq hgA a6)
   have a8:=hkp _ _ a8 (zAq hgA a8)
   have a9:=hkp _ _ a9 (zAq hgA a9)
   have a10:=hkp _ _ a10 (zAq hgA a10)
   have a26:=hkp _ _ a26 (zAq hgA a26)
   have t26:=S3.lessOf _ _ a26
   simp only [ea,go_sem,↓reduceIte,f26,t26]
   obtain ⟨A4,S4,b26,hA4,hkp4⟩:=S3.wr hA3 a26 h026 (.cells [.int .i64 4,.int .i64 0,.str zAr,.list zB (rawB (nmsF wv).length ks++encs (es.map (·.2))) (ks.length+es.length) tB] 27)
   have hgN4:Grow 9 h0 A4 tN:=hgN3.putA a26 hkp4
   have b6:=hkp4 _ _ n266 a6
   have b8:=hkp4 _ _ n268 a8
   have b9:=hkp4 _ _ n269 a9
   have b10:=hkp4 _ _ n2610 a10
   generalize upd H3 p26 (some (.cells [.int .i64 4,.int .i64 0,.str zAr,.list zB (rawB (nmsF wv).length ks++encs (es.map (·.2))) (ks.length+es.length) tB] 27))=H4 at *
   have t9:=S4.lessOf _ _ b9
   have t10:=S4.lessOf _ _ b10
   refine zAe ?_;subst hbq
   repeat with_reducible refine zAb fun bq hbq=>?_
   refine zA9 (.take 0 (.take 1 (.take 2 (.take 3 (.take 4 (.take 5 (.take 6 (.take 7 (.take 9 (.take 10 (.one 8 [10,4,2] (.one 11 [4,2] (.one 12 [4,2] (.one 13 [4,2] (.take 14 (.one 15 [] (.done))))))))))))))))) (by kernel_rfl) (by simp only [zAm,gtOf,zAk];exact rfl) ?_
   repeat ((first|(with_reducible apply iT;refine sT rfl ?_)|(with_reducible apply iO;refine sO rfl ?_));intro _ _ _ C_ R_ U_;simp only [go_sem,↓reduceIte,f0,f9,f10,f22,f25,f26,t9,t10];subst C_ R_ U_)
   refine zAw ?_
   simp only [go_sem,↓reduceIte]
   intro w5 hw5
   have hnm0:es.length=0→encS (zA7 (nmsF ow) (es.map (·.1)))=[]:=fun e=>by
    have:es=[]:=List.eq_nil_of_length_eq_zero e
    subst this;rfl
   obtain ⟨A5,H5,zM2,tM2,ea5,S5,hA5,hzM2,hkp5⟩:=zS4 S4 zKe zKe sz_9 by_9 ze_9 ⟨rfl,by decide⟩ hA4 hw5 (sz1:=zN) (n1:=ks.length) (c1:=encS (zA7 (nmsF wv) ks)) (c2:=encS (zA7 (nmsF ow) (es.map (·.1)))) (sz2:=zM) (n2:=es.length) (t2:=tM) hgN4 hzN (by rcases hzM with e|e <;> simp [e]) hnm0 (by omega)
   have b6:=hkp5 _ _ b6 (zAq hgN4 b6)
   have b8:=hkp5 _ _ b8 (zAq hgN4 b8)
   have b9:=hkp5 _ _ b9 (zAq hgN4 b9)
   have b10:=hkp5 _ _ b10 (zAq hgN4 b10)
   have b26:=hkp5 _ _ b26 (zAq hgN4 b26)
   have t9:=S5.lessOf _ _ b9
   have t10:=S5.lessOf _ _ b10
   simp only [ea5,go_sem,↓reduceIte,t9,t10]
   skip
   refine zLq _ _ _ ?_
   have hnl:(zA7 (nmsF wv) ks++zA7 (nmsF ow) (es.map (·.1))).length=ks.length+es.length:=by simp [zA7]
   have hNE:encS (zA7 (nmsF wv) ks)++encS (zA7 (nmsF ow) (es.map (·.1)))=encS (zA7 (nmsF wv) ks++zA7 (nmsF ow) (es.map (·.1))):=by simp
   have hLe:LeAV (.list zM2 (encS (zA7 (nmsF wv) ks)++encS (zA7 (nmsF ow) (es.map (·.1)))) (ks.length+es.length) tM2) (.list zM2 (encS (zA7 (nmsF wv) ks++zA7 (nmsF ow) (es.map (·.1)))) (zA7 (nmsF wv) ks++zA7 (nmsF ow) (es.map (·.1))).length .none):=by
    rw [hnl,← hNE];exact LeAV.list _ _ _ _
   have hA0:zA7 (nmsF wv) ks++zA7 (nmsF ow) (es.map (·.1))=[]∨zM2=1:=by
    rcases hzM2 with e|e
    ·left;exact List.eq_nil_of_length_eq_zero (by omega)
    ·exact .inr e
   simp only [go_sem,↓reduceIte,t9,t10]
   refine zAg.args (args':=[.list zM2 (encS (zA7 (nmsF wv) ks++zA7 (nmsF ow) (es.map (·.1)))) (zA7 (nmsF wv) ks++zA7 (nmsF ow) (es.map (·.1))).length .none,zKd (zCe wv.type)]) (.cons hLe (.cons (LeAV.refl _) .nil)) (zO5 (zA7 (nmsF wv) ks++zA7 (nmsF ow) (es.map (·.1))) zM2 hA0 (by omega) _ _ _ ?_)
   simp only [go_sem,↓reduceIte,t9,t10]
   have hmin:(if ow.level<wv.level then ow.level else wv.level)=min wv.level ow.level:=by split <;> omega
   rw [hmin]
   refine zQe S5 (min wv.level ow.level) (zBp (zA7 (nmsF wv) ks++zA7 (nmsF ow) (es.map (·.1))) (zCe wv.type)) hbl _ (fun s' m H6 hfr S6=>?_) (fun pv H6 hpv hl6=>?_)
   ·have t9:=S6.lessOf _ _ b9
    have t10:=S6.lessOf _ _ b10
    have t26:=S6.lessOf _ _ b26
    have t6:=S6.lessOf _ _ b6
    have t8:=S6.lessOf _ _ b8
    simp only [go_sem,↓reduceIte,t9,t10,f26,t26]
    repeat with_reducible first|(apply zS;intro _ R_;simp only [go_sem,↓reduceIte,f0,f6,f8,f9,f10,f26,t6,n266,n266.symm];subst R_)|(apply rN;subst hbq)|refine rG2 ?_|refine rS fun bq hbq=>?_
    obtain ⟨A7,S7,b26,hA7,hkp7⟩:=S6.wr hA5 b26 h026 (.cells [.int .i64 4,.int .i64 m,.str zAr,.list zB (rawB (nmsF wv).length ks++encs (es.map (·.2))) (ks.length+es.length) tB] 27)
    have hIn:LeAV (.list zB (rawB (nmsF wv).length ks++encs (es.map (·.2))) (ks.length+es.length) tB) (.list 4 (encs (zCm (nmsF wv).length ks++es.map (·.2))) (zCm (nmsF wv).length ks++es.map (·.2)).length .none):=by
     have e1:encs (zCm (nmsF wv).length ks++es.map (·.2))=encs (zCm (nmsF wv).length ks)++encs (es.map (·.2)):=by rw [zB6,zB6,zB6,List.flatMap_append]
     have e2:(zCm (nmsF wv).length ks++es.map (·.2)).length=ks.length+es.length:=by simp [zCm]
     rw [e1,e2]
     rcases hzB with e|e
     ·have z1:ks=[]:=List.eq_nil_of_length_eq_zero (by omega)
      have z2:es=[]:=List.eq_nil_of_length_eq_zero (by omega)
      rw [z1,z2,List.map_nil,zBa,show zCm (nmsF wv).length []=[] from rfl,zBa]
      show LeAV (.list zB [] 0 tB) (.list 4 [] 0 .none)
      exact LeAV.nil _ _ _
     ·rw [e]
      exact fun G W u hr=>LeAV.listL (LeL.append (zZa _ _) (LeL.refl _)) G W u (LeAV.list _ _ _ _ G W u hr)
    obtain ⟨hlt,e1,e2⟩:=zJ1 hfr
    have hT0:=T.n0
    have hT1:=T.n1
    have hlen5:t.n<(s'.ms.length:Int):=by rw [e1];simp;omega
    have c6:=hkp7 _ _ n266 b6
    have c8:=hkp7 _ _ n268 b8
    refine zAg.args (args':=[.ptr x 0,.int .i64 t.n,enc (sVar m (zCm (nmsF wv).length ks++es.map (·.2)))]) (.cons (LeAV.refl _) (.cons (LeAV.refl _) (.cons (LeAV.agg (.cons (LeAV.refl _) (.cons (LeAV.refl _) (.cons (LeAV.refl _) (.cons hIn .nil))))) .nil))) (zZ0 S7 hT0 hlen5 (sVar m (zCm (nmsF wv).length ks++es.map (·.2))) _ (fun h9 S9=>?_))
    have u26:=S9.lessOf _ _ b26
    have u8:=S9.lessOf _ _ c8
    try dsimp only
    repeat with_reducible first|(apply zS;intro _ R_;simp only [go_sem,↓reduceIte,f0,f6,f8,f16,f26,u26,u8,zSy];subst R_)|(apply rN;subst hbq)|refine rG2 ?_|apply nS|refine rS fun bq hbq=>?_|apply rR
    obtain ⟨A10,S10,_,hA10,_⟩:=S9.wr hA7 c8 h08 (.cells [.int .i64 4,.int .i64 m,.str zAr,.list zz (encs zs++rawX v.args.length d es) (zs.length+es.length) tz] 27)
    have hres:zI6 s v t d=.ok (zH8 s' t.n (sVar m (zCm (nmsF wv).length ks++es.map (·.2))),sVar m (zs++es.map fun p=>sBnd ((v.args.length:Int) - 1 - p.1+d))):=by rw [hseen,hfr];rfl
    refine zBx (v:=enc (sVar m (zs++es.map fun p=>sBnd ((v.args.length:Int) - 1 - p.1+d)))) (by rw [Tryz.results162]) (zAh.refl _) ?_ (hq _ _ _ hres (S10.low hA10))
    simp only [go_sem,↓reduceIte,f8,zAo,Option.some.injEq,exists_eq_left']
    exact hout m
   ·refine _root_.Go.Proofs.YthkjmiejaoomcaaGreat.Am.p5 (p1 (pL (zAh.refl _) (hp pv H6 ?_ (hl6.trans hA5))))
    rw [hseen]
    cases hc:zE0 s (min wv.level ow.level) (zBp (zA7 (nmsF wv) ks++zA7 (nmsF ow) (es.map (·.1))) (zCe wv.type)) with
    |ok a=>rw [hc] at hpv;exact hpv.elim
    |clash=>rw [hc] at hpv;exact hpv
    |large e=>rw [hc] at hpv;exact hpv
theorem zIh {α β:Type} {r:Rz α} {f:α→Rz β} {v:AV} (h:PanV r v):PanV (r.bind f) v:=by
 cases r with
 |ok a=>exact h.elim
 |clash=>exact h
 |large e=>exact h
theorem yCs {g:Sv→Term→Rz (Sv × Term)} {s s':Sv} {a out:Term} {l outs:List Term} (h:g s a=.ok (s',out)):((mapS g s (a::l)).bind fun q=>.ok (q.1,outs++q.2))=(mapS g s' l).bind fun q=>.ok (q.1,(outs++[out])++q.2):=by
 rw [mapS,h]
 dsimp only [Rz.bind]
 cases mapS g s' l with
 |ok q=>simp
 |clash=>rfl
 |large e=>rfl
theorem yCt {g:Sv→Term→Rz (Sv × Term)} {s:Sv} {a:Term} {l:List Term} {pv:AV} (h:PanV (g s a) pv):PanV (mapS g s (a::l)) pv:=by
 rw [mapS];exact zIh h
theorem z5x {x:Nat} {v:Term} {D:Int} (hD:0≤D∧D≤500):∀ (f:Nat) (s:Sv) (t:Term) (d deep:Int) (h0 h:zAd) (Q:AOut→zAd→Prop),SObj x s h0 h→Inv s.ms→0≤s.wk→s.wk≤40000→zFn s.ms v D→(zAi s.ms v.n).is=false→zAv s.ms t (D+d)=true→0≤d→d≤deep→deep≤401→(f:Int)+deep=402 →
  (∀ s' out h2,zIz f s v t d deep=.ok (s',out)→SObj x s' h0 h2→Q (.ret (enc out)) h2)→(∀ pv h2,PanV (zIz f s v t d deep) pv→zAh h2 h0→Q (.panic pv) h2)→zAg Tryz.prog 145 [.ptr x 0,enc v,enc t,.int .i64 d,.int .i64 deep] h Q:=by
 intro f
 induction f with
 |zero=>intro s t d deep h0 h Q S I hw0 hw V vu hf hd hdd hdp hfd;omega
 |succ f ih =>
  intro s t d deep h0 h Q S I hw0 hw V vu hf hd hdd hdp hfd hq hp
  refine zAg.of_sem (fn:=Tryz.f145) Tryz.func145 rfl (by kernel_rfl) (by rw [Tryz.ntmps145];simp) (enters_of Tryz.func145 (by kernel_rfl) (by kernel_rfl)) ?_
  repeat with_reducible first|(apply zS;intro _ R_;simp only [go_sem,↓reduceIte];subst R_)|refine rG2 ?_|refine rS fun bq hbq=>?_
  intro p6 hp6
  obtain ⟨A,S,a6,hA,_⟩:=S.loc hp6 (.cells (zAj v) 27)
  repeat with_reducible (apply zS;intro _ R_;simp only [go_sem,↓reduceIte];subst R_)
  intro p7 hp7
  have e7:=zAs hp7
  obtain ⟨A2,S,a7,hA2,hA7⟩:=S.loc (b:=p7) (by rw [zAa _ _ e7.1];exact e7.2) (.cells (zAj t) 27)
  have h07:=hA.none hA7
  have a6:=hA2 _ _ a6
  have hA:=hA2.trans hA
  clear hA2
  repeat with_reducible (apply zS;intro _ R_;simp only [go_sem,↓reduceIte,e7.1,e7.1.symm];subst R_)
  intro p10 hp10
  have e8:=zAs hp10
  have e8':=zAs e8.2
  obtain ⟨A,S,a10,hA2,hA10⟩:=S.loc (b:=p10) (by rw [zAa _ _ e8.1,zAa _ _ e8'.1];exact e8'.2) (.cells zT 27)
  have h010:=hA.none hA10
  have a6:=hA2 _ _ a6
  have a7:=hA2 _ _ a7
  have hA:=hA2.trans hA
  clear hA2
  have n67:p6≠p7:=fun e=>e7.1 e.symm
  have n610:p6≠p10:=fun e=>e8'.1 e.symm
  have n710:p7≠p10:=fun e=>e8.1 e.symm
  generalize upd (upd (upd h p6 (some (.cells (zAj v) 27))) p7 (some (.cells (zAj t) 27))) p10 (some (.cells zT 27))=H at *
  rw [zIz] at hq hp
  repeat with_reducible first|(apply zS;intro _ R_;simp only [go_sem,↓reduceIte];subst R_)|(apply rN;subst hbq)|refine rG2 ?_|apply nS|refine rS fun bq hbq=>?_
  refine z13 S deep (by omega) _ (fun s1 H1 hc S1=>?_) (fun pv H1 hc hl1=>?_)
  ·obtain ⟨e1,hw1,hd4⟩:=zJ6 hc
   rw [hc] at hq hp
   dsimp only [Rz.bind] at hq hp
   have I1:Inv s1.ms:=by rw [e1];exact I
   have V1:zFn s1.ms v D:=by rw [e1];exact V
   have vu1:(zAi s1.ms v.n).is=false:=by rw [e1];exact vu
   have hf1:zAv s1.ms t (D+d)=true:=by rw [e1];exact hf
   have hw01:0≤s1.wk:=by rw [e1];show 0≤s.wk+1;omega
   have hw1:s1.wk≤40000:=by rw [e1];show s.wk+1≤40000;omega
   clear e1 hc S I V vu hf hw0 hw
   have s7:=S1.lessOf _ _ a7
   try dsimp only
   repeat with_reducible first|(apply zS;intro _ R_;simp only [go_sem,↓reduceIte,s7];subst R_)|(apply rN;subst hbq)|refine rG2 ?_|apply nS|refine rS fun bq hbq=>?_
   refine zUh S1 I1 (d:=D+d) (by omega) (by omega) t hf1 _ ?_
   obtain ⟨hfu,hflex,_,_⟩:=zD3 I1 (by omega:0≤D+d) hf1
   generalize zEx s1.ms t=u at *
   obtain ⟨A2,S2,b7,hA2,hk2⟩:=S1.wr hA a7 h07 (.cells (zAj u) 27)
   have b6:=hk2 _ _ n67 a6
   have b10:=hk2 _ _ (fun e=>n710 e.symm) a10
   have hu8:=zHk hfu
   simp only [go_sem,↓reduceIte,s7]
   generalize upd H1 p7 (some (.cells (zAj u) 27))=H2 at *
   have s6:=S2.lessOf _ _ b6
   have s7:=S2.lessOf _ _ b7
   cases k4:(u.kind==4)
   case true =>
    rw [k4] at hq hp
    simp only [if_true] at hq hp
    repeat with_reducible first|((first|apply zS|apply zC);intro _ R_;simp only [go_sem,↓reduceIte,s6,s7,k4];subst R_)|(apply rN;subst hbq)|refine rG2 ?_|apply nS|refine rS fun bq hbq=>?_
    refine yGt S2 (by have:=I1.len;omega) V1 (zDn hfu k4) (by omega) (by omega) _ (fun s' out h3 hr S3=>?_) (fun pv h3 hr hl3=>?_)
    ·have s10:=S3.lessOf _ _ b10
     try dsimp only
     repeat first|(with_reducible first|(apply zS;intro _ R_;simp only [go_sem,↓reduceIte,s10];subst R_)|(apply rN;subst hbq)|(apply r1;clear hbq bq)|apply nS|apply rR)|(with_reducible apply iL;refine rL (by rw [Tryz.results145]) (zAh.refl _) ?_;simp only [go_sem,↓reduceIte,zAo,Option.some.injEq,exists_eq_left',s10])
     obtain ⟨A3,S4,_,hA3,_⟩:=S3.wr hA2 b10 h010 (.cells (zAj out) 27)
     exact hq _ _ _ hr (S4.low hA3)
    ·dsimp only
     repeat with_reducible first|refine p5 ?_|refine p1 ?_|refine p2 ?_|refine p3 ?_|refine p4 ?_
     exact pL (zAh.refl _) (hp pv h3 hr (hl3.trans hA2))
   case false =>
    rw [k4] at hq hp
    simp only [Bool.false_eq_true,if_false] at hq hp
    repeat with_reducible first|((first|apply zS|apply zC);intro _ R_;simp only [go_sem,↓reduceIte,s6,s7,k4];subst R_)|(apply rN;subst hbq)|refine rG2 ?_|apply nS|refine rS fun bq hbq=>?_|apply rK
    intro p11 hp11
    have n6:=zAc hp11 s6
    have n7:=zAc hp11 s7
    have n10:=zAc hp11 (S2.lessOf _ _ b10)
    simp only [go_sem,↓reduceIte]
    obtain ⟨A3,S3,b11,hA3,hA11⟩:=S2.loc hp11 (.cells (zAj u) 27)
    have h011:=hA2.none hA11
    have b6:=hA3 _ _ b6
    have b7:=hA3 _ _ b7
    have b10:=hA3 _ _ b10
    have hA:=hA3.trans hA2
    clear hA3 hA2 S2 s6 s7
    generalize upd H2 p11 (some (.cells (zAj u) 27))=H3 at *
    have s11:=S3.lessOf _ _ b11
    refine zAe ?_;subst hbq
    repeat with_reducible refine zAb fun bq hbq=>?_
    repeat with_reducible refine zAb fun bq hbq=>?_
    refine rG2 ?_
    simp only [go_sem,↓reduceIte,s11]
    obtain ⟨A4,S4,b11,hA4,hk4⟩:=S3.wr hA b11 h011 (.cells (agT u (.list 0 [] 0 .nil)) 27)
    have b6:=hk4 _ _ n6 b6
    have b7:=hk4 _ _ n7 b7
    have b10:=hk4 _ _ n10 b10
    clear hA hk4 S3 s11
    generalize upd H3 p11 (some (.cells (agT u (.list 0 [] 0 .nil)) 27))=H4 at *
    have s6:=S4.lessOf _ _ b6
    have s7:=S4.lessOf _ _ b7
    have s11:=S4.lessOf _ _ b11
    refine zAe ?_;subst hbq
    repeat with_reducible refine zAb fun bq hbq=>?_
    refine zCc (fun τ H'=>H'=H4∧τ 0=.ptr x 0∧τ 3=.int .i64 d∧τ 4=.int .i64 deep∧τ 6=.ptr p6 0∧τ 7=.ptr p7 0∧τ 10=.ptr p10 0∧τ 11=.ptr p11 0∧τ 40=.bool (zDy u.kind)) ?_ fun τ h' hI=>?_
    ·cases k2:(u.kind==2)
     ·cases k3:(u.kind==3)
      all_goals
       repeat with_reducible first|(apply zS;intro _ R_;simp only [go_sem,↓reduceIte,s7,k2,k3];subst R_)|refine rG2 ?_|apply nS
       refine zAl ?_
       have hv:zDy u.kind=(u.kind==2||u.kind==3):=rfl
       rw [k2,k3] at hv
       simp only [go_sem,↓reduceIte,hv]
     ·repeat with_reducible first|(apply zS;intro _ R_;simp only [go_sem,↓reduceIte,s7,k2];subst R_)|refine rG2 ?_|apply nS
      refine zAl ?_
      have hv:zDy u.kind=(u.kind==2||u.kind==3):=rfl
      rw [k2] at hv
      simp only [go_sem,↓reduceIte,hv,Bool.true_or]
    obtain ⟨rfl,f0,f3,f4,f6,f7,f10,f11,f40⟩:=hI
    subst hbq
    generalize hoe:(if zDy u.kind=true then zDe (zAi s1.ms v.n).level v.args ⟨u.kind,u.n,zAr,[]⟩ d else (⟨u.kind,u.n,u.name,[]⟩,true))=o at *
    repeat with_reducible refine zAb fun bq hbq=>?_
    refine zCc (fun τ H'=>∃ A,SObj x s1 A H'∧zAh A h0∧A p6=some (.cells (zAj v) 27)∧A p7=some (.cells (zAj u) 27)∧A p10=some (.cells zT 27)∧A p11=some (.cells (agT o.1 (.list 0 [] 0 .nil)) 27)∧o.2=true∧τ 0=.ptr x 0∧τ 3=.int .i64 d∧τ 4=.int .i64 deep∧τ 6=.ptr p6 0∧τ 7=.ptr p7 0∧τ 10=.ptr p10 0∧τ 11=.ptr p11 0) ?_ fun τ h' hI=>?_
    ·cases hvp:zDy u.kind
     ·rw [hvp] at hoe f40
      simp only [Bool.false_eq_true,if_false] at hoe
      subst hoe
      try dsimp only
      repeat with_reducible first|(apply zC;intro _ R_;simp only [go_sem,↓reduceIte,f40];subst R_)|apply rK
      refine zAl ⟨A4,S4,hA4,b6,b7,b10,b11,?_⟩
      simp only [go_sem,↓reduceIte,f0,f3,f4,f6,f7,f10,f11]
     ·rw [hvp] at hoe f40
      simp only [if_true] at hoe
      have hV0:=V1.n0
      have hV1:=V1.n1
      have hav:=V1.ar
      have hav8:=zEb (zAi s1.ms v.n).type
      have hun:-1000000≤u.n∧u.n≤1000000:=by
       have h1:=hfu
       rw [zCu,Bool.and_eq_true] at h1
       have h2:=h1.1
       unfold zBb zA4 at h2
       have hk:u.kind=2∨u.kind=3:=by unfold zDy at hvp;simpa using hvp
       rcases hk with e|e
       ·have:=zFv hfu e;omega
       ·rw [e] at h2;simp at h2;omega
      repeat with_reducible first|((first|apply zS|apply zC);intro _ R_;simp only [go_sem,↓reduceIte,f0,f3,f6,f7,f40,s6,s7,zFb];subst R_)|refine rG2 ?_|refine rS fun bq hbq=>?_
      refine zV2 S4 v ⟨u.kind,u.n,zAr,[]⟩ d hV0 hV1 (by omega) hun (by omega) 0 0 [] .nil (by
       show LeAV _ (.list 4 (encs []) 0 .none)
       rw [zBa];exact LeAV.nil _ _ _) _ (fun z ok hz hz2=>?_) (fun z hz hz2=>?_)
      ·rw [hz] at hoe
       subst hoe
       cases ok
       case true =>
        try dsimp only
        repeat with_reducible (apply zS;intro _ R_;simp only [go_sem,↓reduceIte,f0,f3,f6,f7,f11,s6,s7,s11];subst R_)
        intro p12 hp12
        have n12:=zAc hp12 s11
        repeat with_reducible first|((first|apply zS|apply zC);intro _ R_;simp only [go_sem,↓reduceIte,f0,f3,f6,f7,f11,s6,s7,s11,n12];subst R_)|(apply rN;subst hbq)|refine rG2 ?_|apply nS|refine rS fun bq hbq=>?_|apply rK
        obtain ⟨A5,S5,_,hA5,_⟩:=S4.loc hp12 (.cells (agT z (.list 0 [] 0 .nil)) 27)
        obtain ⟨A6,S6,c11,hA6,hk6⟩:=S5.wr (hA5.trans hA4) (hA5 _ _ b11) h011 (.cells (agT z (.list 0 [] 0 .nil)) 27)
        refine zAl ⟨A6,S6,hA6,hk6 _ _ n6 (hA5 _ _ b6),hk6 _ _ n7 (hA5 _ _ b7),hk6 _ _ n10 (hA5 _ _ b10),c11,?_⟩
        simp only [go_sem,↓reduceIte,f0,f3,f4,f6,f7,f10,f11]
       case false =>
        try dsimp only
        repeat with_reducible (apply zS;intro _ R_;simp only [go_sem,↓reduceIte,f0,f3,f6,f7,f11,s6,s7,s11,zHn];subst R_)
        intro p12 hp12
        repeat with_reducible first|((first|apply zS|apply zC);intro _ R_;simp only [go_sem,↓reduceIte,f0,f3,f6,f7,f11,s6,s7,s11,zHn];subst R_)|(apply rN;subst hbq)|refine rG2 ?_|apply nS|refine rS fun bq hbq=>?_
        obtain ⟨A5,S5,_,hA5,_⟩:=S4.loc hp12 (.cells (agT z (.list 0 [] 0 .nil)) 27)
        exact p1 (p2 (pL (zAh.refl _) (hp _ _ rfl (S5.lessOf.trans (hA5.trans hA4)))))
      ·rw [hz] at hoe
       subst hoe
       try dsimp only
       repeat with_reducible (apply zS;intro _ R_;simp only [go_sem,↓reduceIte,f0,f3,f6,f7,f11,s6,s7,s11];subst R_)
       intro p12 hp12
       have n12:=zAc hp12 s11
       repeat with_reducible first|((first|apply zS|apply zC);intro _ R_;simp only [go_sem,↓reduceIte,f0,f3,f6,f7,f11,s6,s7,s11,n12];subst R_)|(apply rN;subst hbq)|refine rG2 ?_|apply nS|refine rS fun bq hbq=>?_|apply rK
       obtain ⟨A5,S5,_,hA5,_⟩:=S4.loc hp12 (.cells (agT z (.list 0 [] 0 .nil)) 27)
       obtain ⟨A6,S6,c11,hA6,hk6⟩:=S5.wr (hA5.trans hA4) (hA5 _ _ b11) h011 (.cells (agT z (.list 0 [] 0 .nil)) 27)
       refine zAl ⟨A6,S6,hA6,hk6 _ _ n6 (hA5 _ _ b6),hk6 _ _ n7 (hA5 _ _ b7),hk6 _ _ n10 (hA5 _ _ b10),c11,?_⟩
       simp only [go_sem,↓reduceIte,f0,f3,f4,f6,f7,f10,f11]
    clear S4 b6 b7 b10 b11 hA4 s6 s7 s11 f0 f3 f4 f6 f7 f10 f11 f40
    obtain ⟨A,S,hA,b6,b7,b10,b11,ho2,f0,f3,f4,f6,f7,f10,f11⟩:=hI
    rw [if_pos ho2] at hq hp
    subst hbq
    have s6:=S.lessOf _ _ b6
    have s7:=S.lessOf _ _ b7
    have s11:=S.lessOf _ _ b11
    repeat with_reducible refine zAb fun bq hbq=>?_
    refine zCc (fun τ H'=>H'=h'∧τ 0=.ptr x 0∧τ 3=.int .i64 d∧τ 4=.int .i64 deep∧τ 6=.ptr p6 0∧τ 7=.ptr p7 0∧τ 10=.ptr p10 0∧τ 11=.ptr p11 0∧τ 14=.int .i64 d) ?_ fun τ h' hI=>?_
    ·repeat with_reducible first|(apply zS;intro _ R_;simp only [go_sem,↓reduceIte,f3];subst R_)|refine rG2 ?_|apply nS
     refine zAl ?_
     simp only [go_sem,↓reduceIte,f0,f3,f4,f6,f7,f10,f11]
    clear f0 f3 f4 f6 f7 f10 f11
    obtain ⟨rfl,f0,f3,f4,f6,f7,f10,f11,f14⟩:=hI
    subst hbq
    cases k5:(u.kind==5)
    all_goals
     repeat with_reducible first|((first|apply zS|apply zC);intro _ R_;simp only [go_sem,↓reduceIte,f0,f3,f4,f6,f7,f10,f11,f14,s7,k5,zA3 (d+1) (by omega)];subst R_)|(apply rN;subst hbq)|refine rG2 ?_|(refine rB fun cq hcq=>?_;subst hcq)|apply nS|refine rS fun bq hbq=>?_|apply rK
     have hin0:0≤inner u.kind d:=zEi hd
     have hind:inner u.kind d≤d+1:=by unfold inner;split <;> omega
     refine zAz (fun k τ H=>∃ (i:Nat) (s2:Sv) (outs:List Term) (A:zAd) (z:Nat) (tk:Tok),k+i=u.args.length∧mapS (fun s a=>zIz f s v a (inner u.kind d) (deep+1)) s1 u.args=(mapS (fun s a=>zIz f s v a (inner u.kind d) (deep+1)) s2 (u.args.drop i)).bind (fun q=>.ok (q.1,outs++q.2))∧outs.length=i∧Inv s2.ms∧0≤s2.wk∧s2.wk≤40000∧zFn s2.ms v D∧(zAi s2.ms v.n).is=false∧(∀ a ∈ u.args,zAv s2.ms a (D+inner u.kind d)=true)∧SObj x s2 A H∧zAh A h0∧A p6=some (.cells (zAj v) 27)∧A p10=some (.cells zT 27)∧A p11=some (.cells (agT o.1 (.list z (encs outs) i tk)) 27)∧τ 0=.ptr x 0∧τ 4=.int .i64 deep∧τ 6=.ptr p6 0∧τ 10=.ptr p10 0∧τ 11=.ptr p11 0∧τ 14=.int .i64 (inner u.kind d)∧τ 65=.list 4 (encs u.args) u.args.length .none∧τ 66=.int .i64 u.args.length∧τ 67=.int .i64 i∧(i=0∨z=4)∧Grow 27 h0 A tk) u.args.length ?_ ?_
     ·refine ⟨0,s1,[],A,0,.nil,rfl,?_,rfl,I1,hw01,hw1,V1,vu1,?_,S,hA,b6,b10,?_,?_⟩
      ·rw [List.drop_zero]
       cases mapS (fun s a=>zIz f s v a (inner u.kind d) (deep+1)) s1 u.args <;> rfl
      ·have h1:=hfu
       rw [zCu,Bool.and_eq_true] at h1
       have h2:=(zCj _ _ _).1 h1.2
       have e:inner u.kind (D+d)=D+inner u.kind d:=by unfold inner;split <;> omega
       rw [e] at h2;exact h2
      ·rw [zBa];exact b11
      ·have hi5:inner u.kind d=if u.kind==5 then d+1 else d:=rfl
       rw [k5] at hi5
       simp only [go_sem,↓reduceIte,f0,f4,f6,f10,f11,f14,hi5]
       exact ⟨rfl,.inl trivial,.inl (.inr rfl)⟩
     ·intro cc hcc k τ H hI
      clear S hA b6 b7 b10 b11 s6 s7 s11 f0 f3 f4 f6 f7 f10 f11 f14
      obtain ⟨i,s2,outs,A,z,tk,hki,hmap,hol,I2,hw02,hw2,V2,vu2,hfa,S,hA,b6,b10,b11,f0,f4,f6,f10,f11,f14,f65,f66,f67,hz,hg⟩:=hI
      subst hcc
      have s6:=S.lessOf _ _ b6
      have s10:=S.lessOf _ _ b10
      have s11:=S.lessOf _ _ b11
      by_cases hi:i<u.args.length
      ·obtain ⟨y,hy⟩:∃ y,u.args[i]?=some y:=⟨_,List.getElem?_eq_getElem hi⟩
       obtain ⟨r1,hr1⟩:=zB7 u.args i hy
       have d1:u.args.drop i=y::u.args.drop (i+1):=by
        rw [List.drop_eq_getElem_cons hi]
        rw [List.getElem?_eq_getElem hi] at hy;injection hy with hy;rw [hy]
       rw [d1] at hmap
       have hfy:=hfa y (List.mem_of_getElem? hy)
       repeat with_reducible first|((first|apply zS|apply zC);intro _ R_;simp only [go_sem,↓reduceIte,f0,f4,f6,f10,f11,f14,f65,f66,f67,hi,hr1];subst R_)|(apply rN;subst hbq)|refine rG2 ?_|(refine rB fun cq hcq=>?_;subst hcq)|apply nS|refine rS fun bq hbq=>?_|apply rK
       intro q hq1
       have q6:=zAc hq1 s6
       have q11:=zAc hq1 s11
       simp only [go_sem,↓reduceIte]
       obtain ⟨A1,S1',bq,hA1,_⟩:=S.loc hq1 (.cells (zAj y) 27)
       have b6:=hA1 _ _ b6
       have b10:=hA1 _ _ b10
       have b11:=hA1 _ _ b11
       have hg:=hg.stay (t:=.none) (fun _ _ e=>by cases e) (fun j o hj _=>hA1 j o hj)
       have hA:=hA1.trans hA
       clear hA1
       generalize upd H q (some (.cells (zAj y) 27))=H2 at *
       have s6:=S1'.lessOf _ _ b6
       have s11:=S1'.lessOf _ _ b11
       have sq:=S1'.lessOf _ _ bq
       refine zAe ?_;subst hbq
       repeat with_reducible refine zAb fun bq hbq=>?_
       refine zA9 (.take 0 (.take 1 (.take 2 (.take 3 (.take 4 (.take 5 (.take 6 (.take 7 (.one 8 [1] (.take 9 (.one 10 [] (.take 11 (.one 12 [] (.done)))))))))))))) (by kernel_rfl) (by simp only [zAm,gtOf,zAk];exact rfl) ?_
       repeat ((first|(with_reducible apply iT;refine sT rfl ?_)|(with_reducible apply iO;refine sO rfl ?_));intro _ _ _ C_ R_ U_;simp only [go_sem,↓reduceIte,f0,f4,f6,f11,f14,s6,s11,sq,zA3 (deep+1) (by omega)];subst C_ R_ U_)
       refine ih s2 y (inner u.kind d) (deep+1) _ _ _ S1' I2 hw02 hw2 V2 vu2 hfy hin0 (by omega) (by omega) (by omega) (fun s3 out H3 hr S3=>?_) (fun pv H3 hr hl3=>?_)
       ·obtain ⟨T,hw3,_⟩:=zI3 hD.1 f s2 y (inner u.kind d) (deep+1) s3 out I2 hin0 V2 vu2 hfy hr
        have hT:=T.wk
        have s6:=S3.lessOf _ _ b6
        have s11:=S3.lessOf _ _ b11
        have sq:=S3.lessOf _ _ bq
        try dsimp only
        repeat ((first|with_reducible apply sA|(with_reducible apply iT;refine sT rfl ?_)|(with_reducible apply i0;refine s0 rfl ?_));intro _ _ _ C_ R_ U_;simp only [go_sem,↓reduceIte,f0,f4,f6,f11,f14,s6,s11,sq,zD4];subst C_ R_ U_)
        refine zAw ?_
        simp only [go_sem,↓reduceIte]
        intro w hw
        obtain ⟨A4,H4,ea,S4,hg4,hA4,hkp⟩:=zE2 S3 zCo zCo zEz zGn zEd ⟨rfl,by decide⟩ hA hw (sz1:=z) (n1:=i) (c1:=encs outs) (c2:=zAj out) (n2:=1) (t2:=.full) hg hz (sz2:=4) rfl (by decide) (by omega)
        have c6:=hkp _ _ b6 (zAq hg b6)
        have c10:=hkp _ _ b10 (zAq hg b10)
        have c11:=hkp _ _ b11 (zAq hg b11)
        have s11:=S4.lessOf _ _ c11
        have sq4:=S4.lessOf _ _ (hkp _ _ bq (zAq hg bq))
        have s64:=S4.lessOf _ _ c6
        simp only [ea,go_sem,↓reduceIte,f11,s11,sq4,s64]
        repeat with_reducible first|(apply zS;intro _ R_;simp only [go_sem,↓reduceIte,f0,f4,f6,f11,f14,f65,f66,f67,zA3 ((i:Int)+1) (by omega)];subst R_)|(apply rN;subst hbq)|refine rG2 ?_|apply nS|apply rE
        obtain ⟨A5,S5,e11,hA5,hk5⟩:=S4.wr hA4 c11 h011 (.cells (agT o.1 (.list 4 (encs outs++zAj out) (i+1) (.id w))) 27)
        refine zAp (m:=k - 1) (by omega) ⟨i+1,s3,outs++[out],A5,4,.id w,by omega,by rw [hmap];exact yCs hr,by simp [hol],T.inv,by omega,hw3,V2.ext T.ext,T.free,fun a ha=>zEa T.ext _ _ (hfa a ha),S5,hA5,hk5 _ _ n6 c6,hk5 _ _ n10 c10,by rw [zGg];exact e11,?_⟩
        simp only [go_sem,↓reduceIte,f0,f4,f6,f10,f11,f14,f65,f66]
        exact ⟨rfl,.inr trivial,hg4.putA c11 hk5⟩
       ·dsimp only
        repeat with_reducible first|refine p5 ?_|refine p1 ?_|refine p2 ?_|refine p3 ?_|refine p4 ?_
        refine pL (zAh.refl _) (hp pv H3 (zIh ?_) (hl3.trans hA))
        rw [hmap]
        exact zIh (yCt hr)
      ·rw [List.drop_eq_nil_of_le (show u.args.length≤i by omega)] at hmap
       have hmr:mapS (fun s a=>zIz f s v a (inner u.kind d) (deep+1)) s1 u.args=.ok (s2,outs):=by
        rw [hmap,mapS]
        dsimp only [Rz.bind]
        rw [List.append_nil]
       repeat with_reducible first|((first|apply zS|apply zC);intro _ R_;simp only [go_sem,↓reduceIte,f0,f4,f6,f10,f11,f14,f65,f66,f67,hi,s10,s11];subst R_)|(apply rN;subst hbq)|refine rG2 ?_|(apply x1;clear hbq bq)|apply nS|refine rS fun bq hbq=>?_|apply rXx|apply rR|apply x3|apply x4
       obtain ⟨A5,S5,_,hA5,_⟩:=S.wr hA b10 h010 (.cells (agT o.1 (.list z (encs outs) i tk)) 27)
       refine zBx (v:=enc ⟨o.1.kind,o.1.n,o.1.name,outs⟩) (by rw [Tryz.results145]) (zAh.refl _) ?_ (hq s2 _ _ (by rw [hmr]) (S5.low hA5))
       simp only [go_sem,↓reduceIte,f10,zAo,Option.some.injEq,exists_eq_left']
       refine LeAV.agg (.cons (LeAV.refl _) (.cons (LeAV.refl _) (.cons (LeAV.refl _) (.cons ?_ .nil))))
       show LeAV _ (.list 4 (encs outs) outs.length .none)
       rw [hol]
       rcases hz with e|e
       ·subst e
        have:outs=[]:=List.eq_nil_of_length_eq_zero hol
        subst this
        rw [zBa];exact LeAV.nil _ _ _
       ·rw [e];exact LeAV.list _ _ _ _
  ·refine p5 (p1 (pL (zAh.refl _) (hp pv H1 (zIh hc) (hl1.trans hA))))
theorem zQ8 {x:Nat} {s:Sv} {h0 h:zAd} (S:SObj x s h0 h) (I:Inv s.ms) (hw0:0≤s.wk) (hw:s.wk≤40000) {v t:Term} {D:Int} (hD:0≤D∧D≤500) (V:zFn s.ms v D) (vu:(zAi s.ms v.n).is=false) (hf:zAv s.ms t D=true) (Q:AOut→zAd→Prop)
  (hq:∀ s' h2,zEy s v t=.ok s'→SObj x s' h0 h2→Q (.ret (.tuple [])) h2) (hp:∀ pv h2,PanV (zEy s v t) pv→zAh h2 h0→Q (.panic pv) h2):zAg Tryz.prog 110 [.ptr x 0,enc v,enc t] h Q:=by
 refine zAg.of_sem (fn:=Tryz.f110) Tryz.func110 rfl (by kernel_rfl) (by rw [Tryz.ntmps110];simp) (enters_of Tryz.func110 (by kernel_rfl) (by kernel_rfl)) ?_
 repeat with_reducible first|(apply zS;intro _ R_;simp only [go_sem,↓reduceIte];subst R_)|refine rG2 ?_|refine rS fun bq hbq=>?_
 intro p hp1
 obtain ⟨A1,S,ap,hA1,_⟩:=S.loc hp1 (.cells (zAj v) 27)
 repeat with_reducible (apply zS;intro _ R_;simp only [go_sem,↓reduceIte];subst R_)
 intro q hq1
 have e1:=zAs hq1
 obtain ⟨A,S,aq,hA2,_⟩:=S.loc (by rw [zAa _ _ e1.1];exact e1.2) (.cells (zAj t) 27) (b:=q)
 have ap:=hA2 _ _ ap
 have hA:=hA2.trans hA1
 clear hA1 hA2
 have qp:=e1.1
 generalize upd (upd h p (some (.cells (zAj v) 27))) q (some (.cells (zAj t) 27))=H at *
 have sp:=S.lessOf _ _ ap
 have sq:=S.lessOf _ _ aq
 unfold zEy at hq hp
 cases k5:(t.kind==5)
 case true =>
  rw [k5] at hp
  repeat with_reducible first|((first|apply zS|apply zC);intro _ R_;simp only [go_sem,↓reduceIte,sp,sq,k5,zHn];subst R_)|(apply rN;subst hbq)|refine rG2 ?_|apply nS|refine rS fun bq hbq=>?_
  exact p1 (pL (zAh.refl _) (hp _ _ rfl (S.lessOf.trans hA)))
 case false =>
  rw [k5] at hq hp
  simp only [Bool.false_eq_true,if_false] at hq hp
  repeat with_reducible first|((first|apply zS|apply zC);intro _ R_;simp only [go_sem,↓reduceIte,sp,sq,k5];subst R_)|(apply rN;subst hbq)|refine rG2 ?_|apply nS|refine rS fun bq hbq=>?_|apply rK
  refine z5x hD 402 s t 0 0 _ _ _ S I hw0 hw V vu (by rw [Int.add_zero];exact hf) (by decide) (by decide) (by decide) (by decide) (fun s1 b H2 hr S2=>?_) (fun pv H2 hr hl2=>?_)
  ·obtain ⟨T,_,_⟩:=zI3 hD.1 402 s t 0 0 s1 b I (by decide) V vu (by rw [Int.add_zero];exact hf) hr
   have hl:=T.ext.len
   have h0':=V.n0
   have h1':=V.n1
   have sp:=S2.lessOf _ _ ap
   try dsimp only
   repeat with_reducible (apply zS;intro _ R_;simp only [go_sem,↓reduceIte,sp,sq,k5];subst R_)
   intro w hw1
   have wp:=zAc hw1 sp
   obtain ⟨A3,S3,_,hA3,_⟩:=S2.loc hw1 (.cells (zAj b) 27)
   repeat with_reducible first|(apply zS;intro _ R_;simp only [go_sem,↓reduceIte,sp,wp];subst R_)|(apply rN;subst hbq)|refine rG2 ?_|apply nS
   refine zZ0 S3 h0' (by omega) b _ (fun H3 S4=>?_)
   try dsimp only
   repeat with_reducible apply nS
   exact zJn (by rw [Tryz.results110]) (zAh.refl _) (hq _ _ (by rw [hr];rfl) (S4.low (hA3.trans hA)))
  ·dsimp only
   repeat with_reducible first|refine p5 ?_|refine p1 ?_|refine p2 ?_|refine p3 ?_|refine p4 ?_
   exact pL (zAh.refl _) (hp pv H2 (zIh hr) (hl2.trans hA))
theorem zQ7 {s s':Sv} {v t:Term} {D:Int} (hD:0≤D) (I:Inv s.ms) (V:zFn s.ms v D) (vu:(zAi s.ms v.n).is=false) (hf:zAv s.ms t D=true) (h:zEy s v t=.ok s'):s.wk≤s'.wk∧s'.wk≤40000:=by
 unfold zEy at h
 split at h
 ·cases h
 obtain ⟨⟨s1,b⟩,ht,h⟩:=bind_ok h
 injection h with h
 subst h
 obtain ⟨T,hw,_⟩:=zI3 hD 402 s t 0 0 s1 b I (Int.le_refl _) V vu (by rw [Int.add_zero];exact hf) ht
 exact ⟨T.wk,hw⟩
theorem z9y {g:Sv→Term→Term→Rz Sv} {s s':Sv} {a b:Term} {l m:List Term} (h:g s a b=.ok s'):zH4 g s (a::l) (b::m)=zH4 g s' l m:=by
 rw [zH4,h];rfl
theorem yBt {x:Nat}:∀ (f:Nat) (s:Sv) (a b:Term) (d deep:Int) (h0 h:zAd) (Q:AOut→zAd→Prop),SObj x s h0 h→Inv s.ms→0≤s.wk→s.wk≤40000→zAv s.ms a d=true→zAv s.ms b d=true→0≤d→d≤deep→deep≤401→(f:Int)+deep=402 →
  (∀ s' h2,zDo f s a b deep=.ok s'→s'.wk≤40000→SObj x s' h0 h2→Q (.ret (.tuple [])) h2)→(∀ pv h2,PanV (zDo f s a b deep) pv→zAh h2 h0→Q (.panic pv) h2)→zAg Tryz.prog 61 [.ptr x 0,enc a,enc b,.int .i64 deep] h Q:=by
 intro f
 induction f with
 |zero=>intro s a b d deep h0 h Q S I hw0 hw ha hb hd hdd hdp hfd;omega
 |succ f ih =>
  intro s a b d deep h0 h Q S I hw0 hw ha hb hd hdd hdp hfd hq hp
  refine zAg.of_sem (fn:=Tryz.f61) Tryz.func61 rfl (by kernel_rfl) (by rw [Tryz.ntmps61];simp) (enters_of Tryz.func61 (by kernel_rfl) (by kernel_rfl)) ?_
  repeat with_reducible first|(apply zS;intro _ R_;simp only [go_sem,↓reduceIte];subst R_)|refine rG2 ?_|refine rS fun bq hbq=>?_
  intro p hp1
  obtain ⟨A1,S,ap,hA1,hAp⟩:=S.loc hp1 (.cells (zAj a) 27)
  repeat with_reducible (apply zS;intro _ R_;simp only [go_sem,↓reduceIte];subst R_)
  intro q hq1
  have e1:=zAs hq1
  obtain ⟨A,S,aq,hA2,hAq⟩:=S.loc (by rw [zAa _ _ e1.1];exact e1.2) (.cells (zAj b) 27) (b:=q)
  have h0q:=hA1.none hAq
  have hless_p:=hAp
  have ap:=hA2 _ _ ap
  have hA:=hA2.trans hA1
  clear hA1 hA2
  have qp:=e1.1
  generalize upd (upd h p (some (.cells (zAj a) 27))) q (some (.cells (zAj b) 27))=H at *
  rw [zDo] at hq hp
  repeat with_reducible first|(apply zS;intro _ R_;simp only [go_sem,↓reduceIte];subst R_)|(apply rN;subst hbq)|refine rG2 ?_|apply nS|refine rS fun bq hbq=>?_
  refine z13 S deep (by omega) _ (fun s1 H1 hc S1=>?_) (fun pv H1 hc hl1=>?_)
  ·obtain ⟨e1,hw1,hd4⟩:=zJ6 hc
   rw [hc] at hq hp
   dsimp only [Rz.bind] at hq hp
   have I1:Inv s1.ms:=by rw [e1];exact I
   have ha1:zAv s1.ms a d=true:=by rw [e1];exact ha
   have hb1:zAv s1.ms b d=true:=by rw [e1];exact hb
   have hw01:0≤s1.wk:=by rw [e1];show 0≤s.wk+1;omega
   have hw1:s1.wk≤40000:=by rw [e1];show s.wk+1≤40000;omega
   clear e1 hc S I ha hb hw0 hw
   have sp:=S1.lessOf _ _ ap
   have sq:=S1.lessOf _ _ aq
   try dsimp only
   repeat with_reducible first|(apply rN;subst hbq)|apply nS|refine rS fun bq hbq=>?_
   repeat with_reducible refine zAb fun bq hbq=>?_
   refine zA9 (.take 0 (.take 1 (.take 3 (.take 4 (.one 2 [4] (.one 5 [] (.one 6 [] (.one 7 [] (.done))))))))) (by kernel_rfl) (by simp only [zAm,gtOf,zAk];exact rfl) ?_
   repeat ((first|(with_reducible apply iT;refine sT rfl ?_)|(with_reducible apply iO;refine sO rfl ?_));intro _ _ _ C_ R_ U_;simp only [go_sem,↓reduceIte,sp,sq];subst C_ R_ U_)
   refine zUh S1 I1 (d:=d) hd (by omega) a ha1 _ ?_
   try dsimp only
   repeat ((first|with_reducible apply sA|(with_reducible apply i0;refine s0 rfl ?_));intro _ _ _ C_ R_ U_;simp only [go_sem,↓reduceIte,sp,sq];subst C_ R_ U_)
   refine zUh S1 I1 (d:=d) hd (by omega) b hb1 _ ?_
   obtain ⟨hfa,hxa,_,_⟩:=zD3 I1 hd ha1
   obtain ⟨hfb,hxb,_,_⟩:=zD3 I1 hd hb1
   generalize zEx s1.ms a=a at *
   generalize zEx s1.ms b=b at *
   simp only [go_sem,↓reduceIte,sp,sq,qp]
   obtain ⟨A2,S2,ap,hA2,hk2⟩:=S1.wr hA ap (hless_p) (.cells (zAj a) 27)
   obtain ⟨A3,S3,aq,hA3,hk3⟩:=S2.wr hA2 (hk2 _ _ qp aq) h0q (.cells (zAj b) 27)
   have ap:=hk3 _ _ (fun e=>qp e.symm) ap
   clear hA2 hk2 hk3 S2
   generalize upd (upd H1 p (some (.cells (zAj a) 27))) q (some (.cells (zAj b) 27))=H2 at *
   have sp:=S3.lessOf _ _ ap
   have sq:=S3.lessOf _ _ aq
   have panE:∀ {r:Rz Sv} (pv:AV) (h2:zAd),PanV r pv→zAh h2 A3→(∀ pv h2,PanV r pv→zAh h2 h0→Q (.panic pv) h2)→zLg Tryz.prog Tryz.f61 Q (.panic pv) (fun _=>.any) h2:=fun pv h2 hr hl hp=>pL (zAh.refl _) (hp pv h2 hr (hl.trans hA3))
   cases ka:(a.kind==4)
   ·cases kb:(b.kind==4)
    ·rw [ka,kb] at hq hp
     simp only [Bool.false_eq_true,if_false,Bool.false_and,Bool.and_false] at hq hp
     cases c1:(a.kind==b.kind)
     ·have hu:zF9 a b=true:=by unfold zF9;rw [c1];rfl
      rw [hu] at hp
      repeat with_reducible first|((first|apply zS|apply zC);intro _ R_;simp only [go_sem,↓reduceIte,sp,sq,ka,kb,c1,zHn];subst R_)|(apply rN;subst hbq)|refine rG2 ?_|(refine rB fun cq hcq=>?_;subst hcq)|apply nS|refine rS fun bq hbq=>?_
      repeat with_reducible first|refine p5 ?_|refine p1 ?_|refine p2 ?_|refine p3 ?_|refine p4 ?_
      exact pL (zAh.refl _) (hp _ _ rfl (S3.lessOf.trans hA3))
     cases c2:(a.n==b.n)
     ·have hu:zF9 a b=true:=by unfold zF9;rw [c1,c2];rfl
      rw [hu] at hp
      repeat with_reducible first|((first|apply zS|apply zC);intro _ R_;simp only [go_sem,↓reduceIte,sp,sq,ka,kb,c1,c2,zHn];subst R_)|(apply rN;subst hbq)|refine rG2 ?_|(refine rB fun cq hcq=>?_;subst hcq)|apply nS|refine rS fun bq hbq=>?_
      repeat with_reducible first|refine p5 ?_|refine p1 ?_|refine p2 ?_|refine p3 ?_|refine p4 ?_
      exact pL (zAh.refl _) (hp _ _ rfl (S3.lessOf.trans hA3))
     cases c3:(a.name.toList==b.name.toList)
     ·have hu:zF9 a b=true:=by unfold zF9;rw [c1,c2,c3];rfl
      rw [hu] at hp
      repeat with_reducible first|((first|apply zS|apply zC);intro _ R_;simp only [go_sem,↓reduceIte,sp,sq,ka,kb,c1,c2,c3,zHn];subst R_)|(apply rN;subst hbq)|refine rG2 ?_|(refine rB fun cq hcq=>?_;subst hcq)|apply nS|refine rS fun bq hbq=>?_
      repeat with_reducible first|refine p5 ?_|refine p1 ?_|refine p2 ?_|refine p3 ?_|refine p4 ?_
      exact pL (zAh.refl _) (hp _ _ rfl (S3.lessOf.trans hA3))
     cases c4:((a.args.length:Int)==b.args.length)
     ·have hu:zF9 a b=true:=by unfold zF9;rw [c1,c2,c3,c4];rfl
      rw [hu] at hp
      repeat with_reducible first|((first|apply zS|apply zC);intro _ R_;simp only [go_sem,↓reduceIte,sp,sq,ka,kb,c1,c2,c3,c4,zHn];subst R_)|(apply rN;subst hbq)|refine rG2 ?_|(refine rB fun cq hcq=>?_;subst hcq)|apply nS|refine rS fun bq hbq=>?_
      repeat with_reducible first|refine p5 ?_|refine p1 ?_|refine p2 ?_|refine p3 ?_|refine p4 ?_
      exact pL (zAh.refl _) (hp _ _ rfl (S3.lessOf.trans hA3))
     have hu:zF9 a b=false:=by unfold zF9;rw [c1,c2,c3,c4];rfl
     rw [hu] at hq hp
     simp only [Bool.false_eq_true,if_false] at hq hp
     have hkk:a.kind=b.kind:=by simpa using c1
     have hll:a.args.length=b.args.length:=by have:=eq_of_beq c4;omega
     have ha8:=zHk hfa
     have ga:=hfa
     have gb:=hfb
     rw [zCu,Bool.and_eq_true] at ga gb
     rw [← hkk] at gb
     have hga:=(zCj _ _ _).1 ga.2
     have hgb:=(zCj _ _ _).1 gb.2
     have hin0:0≤inner a.kind d:=zEi hd
     have hind:inner a.kind d≤d+1:=by unfold inner;split <;> omega
     generalize inner a.kind d=d' at *
     repeat with_reducible first|((first|apply zS|apply zC);intro _ R_;simp only [go_sem,↓reduceIte,sp,sq,ka,kb,c1,c2,c3,c4];subst R_)|(apply rN;subst hbq)|refine rG2 ?_|(refine rB fun cq hcq=>?_;subst hcq)|apply nS|refine rS fun bq hbq=>?_
     refine zAz (fun k τ H=>∃ (i:Nat) (s2:Sv) (A:zAd),k+i=a.args.length∧zH4 (fun s a b=>zDo f s a b (deep+1)) s1 a.args b.args=zH4 (fun s a b=>zDo f s a b (deep+1)) s2 (a.args.drop i) (b.args.drop i)∧Inv s2.ms∧0≤s2.wk∧s2.wk≤40000∧(∀ t ∈ a.args,zAv s2.ms t d'=true)∧(∀ t ∈ b.args,zAv s2.ms t d'=true)∧SObj x s2 A H∧zAh A h0∧A p=some (.cells (zAj a) 27)∧A q=some (.cells (zAj b) 27)∧τ 0=.ptr x 0∧τ 3=.int .i64 deep∧τ 5=.ptr p 0∧τ 6=.ptr q 0∧τ 20=.int .i64 a.args.length∧τ 21=.int .i64 i) a.args.length ?_ ?_
     ·exact ⟨0,s1,A3,rfl,rfl,I1,hw01,hw1,hga,hgb,S3,hA3,ap,aq,rfl,rfl,rfl,rfl,rfl,rfl⟩
     ·intro cc hcc k τ H hI
      clear S3 hA3 ap aq sp sq
      obtain ⟨i,s2,A,hki,hE,I2,hw02,hw2,hfa2,hfb2,S3,hA3,ap,aq,f0,f3,f5,f6,f20,f21⟩:=hI
      subst hcc
      have sp:=S3.lessOf _ _ ap
      have sq:=S3.lessOf _ _ aq
      by_cases hi:i<a.args.length
      ·obtain ⟨u,hu⟩:∃ u,a.args[i]?=some u:=⟨_,List.getElem?_eq_getElem hi⟩
       obtain ⟨w,hw⟩:∃ w,b.args[i]?=some w:=⟨_,List.getElem?_eq_getElem (by omega)⟩
       obtain ⟨r1,hr1⟩:=zB7 a.args i hu
       obtain ⟨r2,hr2⟩:=zB7 b.args i hw
       have hib:i<b.args.length:=by omega
       have d1:a.args.drop i=u::a.args.drop (i+1):=by
        rw [List.drop_eq_getElem_cons hi]
        rw [List.getElem?_eq_getElem hi] at hu;injection hu with hu;rw [hu]
       have d2:b.args.drop i=w::b.args.drop (i+1):=by
        rw [List.drop_eq_getElem_cons hib]
        rw [List.getElem?_eq_getElem hib] at hw;injection hw with hw;rw [hw]
       rw [d1,d2] at hE
       have hfu:=hfa2 u (List.mem_of_getElem? hu)
       have hfw:=hfb2 w (List.mem_of_getElem? hw)
       repeat with_reducible first|((first|apply zS|apply zC);intro _ R_;simp only [go_sem,↓reduceIte,f0,f3,f5,f6,f20,f21,hi];subst R_)|(apply rN;subst hbq)|refine rG2 ?_|(refine rB fun cq hcq=>?_;subst hcq)|apply nS|refine rS fun bq hbq=>?_|apply rK
       repeat with_reducible refine zAb fun bq hbq=>?_
       refine zA9 (.take 0 (.take 1 (.take 2 (.take 3 (.take 4 (.take 5 (.take 6 (.take 7 (.take 8 (.take 9 (.take 10 (.take 11 (.take 12 (.one 13 [7,2] (.done))))))))))))))) (by kernel_rfl) (by simp only [zAm,gtOf,zAk];exact rfl) ?_
       repeat ((first|(with_reducible apply iT;refine sT rfl ?_)|(with_reducible apply iO;refine sO rfl ?_));intro _ _ _ C_ R_ U_;simp only [go_sem,↓reduceIte,f0,f3,f5,f6,f20,f21,hi,hib,sp,sq,hr1,hr2,zA3 (deep+1) (by omega)];subst C_ R_ U_)
       refine ih s2 u w d' (deep+1) _ _ _ S3 I2 hw02 hw2 hfu hfw hin0 (by omega) (by omega) (by omega) (fun s3 H3 hr hw3 S4=>?_) (fun pv H3 hr hl3=>?_)
       ·obtain ⟨T,hw03⟩:=zOn f s2 u w d' (deep+1) s3 I2 hw02 hin0 hfu hfw hr
        have sp:=S4.lessOf _ _ ap
        have sq:=S4.lessOf _ _ aq
        try dsimp only
        repeat with_reducible first|((first|apply sS|apply sA);intro _ _ _ C_ R_ U_;simp only [go_sem,↓reduceIte,f0,f3,f5,f6,f20,f21,hi,hib,sp,sq,hr1,hr2,zA3 ((i:Int)+1) (by omega)];subst C_ R_ U_)|(apply rN;subst hbq)|refine rG2 ?_|apply nS|apply nD|apply rE
        refine zAp (m:=k - 1) (by omega) ⟨i+1,s3,A,by omega,by rw [hE];exact z9y hr,T.inv,hw03,hw3,fun t ht=>zEa T.ext _ _ (hfa2 t ht),fun t ht=>zEa T.ext _ _ (hfb2 t ht),S4,hA3,ap,aq,?_⟩
        simp only [go_sem,↓reduceIte,f0,f3,f5,f6,f20]
        rfl
       ·dsimp only
        repeat with_reducible first|refine p5 ?_|refine p1 ?_|refine p2 ?_|refine p3 ?_|refine p4 ?_
        refine pL (zAh.refl _) (hp pv H3 ?_ (hl3.trans hA3))
        rw [hE,zH4]
        exact zIh hr
      ·rw [List.drop_eq_nil_of_le (show a.args.length≤i by omega)] at hE
       have hEr:zH4 (fun s a b=>zDo f s a b (deep+1)) s1 a.args b.args=.ok s2:=by rw [hE];unfold zH4;rfl
       repeat with_reducible first|((first|apply zS|apply zC);intro _ R_;simp only [go_sem,↓reduceIte,f0,f3,f5,f6,f20,f21,hi];subst R_)|(apply rN;subst hbq)|refine rG2 ?_|(apply x1;clear hbq bq)|apply nS|refine rS fun bq hbq=>?_|apply rE|apply rXx|apply x3|apply x4
       exact zJn (by rw [Tryz.results61]) (zAh.refl _) (hq s2 _ hEr hw2 (S3.low hA3))
    ·rw [ka,kb] at hq hp
     simp only [Bool.false_eq_true,if_false,if_true,Bool.false_and,Bool.and_false] at hq hp
     repeat with_reducible first|((first|apply zS|apply zC);intro _ R_;simp only [go_sem,↓reduceIte,sp,sq,ka,kb];subst R_)|(apply rN;subst hbq)|refine rG2 ?_|(refine rB fun cq hcq=>?_;subst hcq)|apply nS|refine rS fun bq hbq=>?_
     refine zQ8 S3 I1 hw01 hw1 (D:=d) (by omega) (zDn hfb kb) (hxb kb) hfa _ (fun s' h2 hr S4=>?_) (fun pv h2 hr hl2=>?_)
     ·try dsimp only
      repeat with_reducible first|apply nS|apply rE
      exact zJn (by rw [Tryz.results61]) (zAh.refl _) (hq _ _ hr (zQ7 hd I1 (zDn hfb kb) (hxb kb) hfa hr).2 (S4.low hA3))
     ·dsimp only
      repeat with_reducible first|refine p5 ?_|refine p1 ?_|refine p2 ?_|refine p3 ?_|refine p4 ?_
      exact panE pv h2 hr hl2 hp
   ·have hX:∀ (c:Bool),(b.kind==4&&a.n==b.n)=c→True:=fun _ _=>trivial
    cases hc2:(b.kind==4&&a.n==b.n)
    ·rw [ka,hc2] at hq hp
     simp only [Bool.false_eq_true,if_false,if_true,Bool.and_false,Bool.true_and] at hq hp
     cases kb:(b.kind==4)
     ·repeat with_reducible first|((first|apply zS|apply zC);intro _ R_;simp only [go_sem,↓reduceIte,sp,sq,ka,kb];subst R_)|(apply rN;subst hbq)|refine rG2 ?_|(refine rB fun cq hcq=>?_;subst hcq)|apply nS|refine rS fun bq hbq=>?_
      refine zQ8 S3 I1 hw01 hw1 (D:=d) (by omega) (zDn hfa ka) (hxa ka) hfb _ (fun s' h2 hr S4=>?_) (fun pv h2 hr hl2=>?_)
      ·try dsimp only
       repeat with_reducible first|apply nS|apply rE
       exact zJn (by rw [Tryz.results61]) (zAh.refl _) (hq _ _ hr (zQ7 hd I1 (zDn hfa ka) (hxa ka) hfb hr).2 (S4.low hA3))
      ·dsimp only
       repeat with_reducible first|refine p5 ?_|refine p1 ?_|refine p2 ?_|refine p3 ?_|refine p4 ?_
       exact panE pv h2 hr hl2 hp
     ·have kn:(a.n==b.n)=false:=by rw [kb,Bool.true_and] at hc2;exact hc2
      repeat with_reducible first|((first|apply zS|apply zC);intro _ R_;simp only [go_sem,↓reduceIte,sp,sq,ka,kb,kn];subst R_)|(apply rN;subst hbq)|refine rG2 ?_|(refine rB fun cq hcq=>?_;subst hcq)|apply nS|refine rS fun bq hbq=>?_
      refine zQ8 S3 I1 hw01 hw1 (D:=d) (by omega) (zDn hfa ka) (hxa ka) hfb _ (fun s' h2 hr S4=>?_) (fun pv h2 hr hl2=>?_)
      ·try dsimp only
       repeat with_reducible first|apply nS|apply rE
       exact zJn (by rw [Tryz.results61]) (zAh.refl _) (hq _ _ hr (zQ7 hd I1 (zDn hfa ka) (hxa ka) hfb hr).2 (S4.low hA3))
      ·dsimp only
       repeat with_reducible first|refine p5 ?_|refine p1 ?_|refine p2 ?_|refine p3 ?_|refine p4 ?_
       exact panE pv h2 hr hl2 hp
    ·rw [ka,hc2] at hq hp
     simp only [if_true,Bool.and_true,Bool.true_and] at hq hp
     rw [Bool.and_eq_true] at hc2
     obtain ⟨kb,kn⟩:=hc2
     have hab:a.args.length=b.args.length:=by
      have v1:=(zDn hfa ka).ar
      have v2:=(zDn hfb kb).ar
      have:a.n=b.n:=by simpa using kn
      rw [← v1,← v2,this]
     repeat with_reducible first|((first|apply zS|apply zC);intro _ R_;simp only [go_sem,↓reduceIte,sp,sq,ka,kb,kn];subst R_)|(apply rN;subst hbq)|refine rG2 ?_|(refine rB fun cq hcq=>?_;subst hcq)|apply nS|refine rS fun bq hbq=>?_
     refine yEs S3 (by have:=I1.len;omega) (zDn hfa ka) hab _ (fun s' h2 hr S4=>?_) (fun pv h2 hr hl2=>?_)
     ·try dsimp only
      repeat with_reducible first|apply nS|apply rE
      refine zJn (by rw [Tryz.results61]) (zAh.refl _) (hq _ _ hr ?_ (S4.low hA3))
      unfold zGm at hr
      split at hr
      ·have:=zWd hr;omega
      ·injection hr with hr;subst hr;exact hw1
     ·dsimp only
      repeat with_reducible first|refine p5 ?_|refine p1 ?_|refine p2 ?_|refine p3 ?_|refine p4 ?_
      exact panE pv h2 hr hl2 hp
  ·dsimp only
   repeat with_reducible first|refine p5 ?_|refine p1 ?_|refine p2 ?_|refine p3 ?_|refine p4 ?_
   exact pL (zAh.refl _) (hp pv H1 (zIh hc) (hl1.trans hA))
theorem yBz (h:zAd) (Q:AOut→zAd→Prop) (hq:Q (.ret (.bool true)) h):zAg Tryz.prog 13 [] h Q :=
 fun n=>(z2x h n).mono fun o h' n' ⟨ho,hh,_⟩=>by subst ho;subst hh;exact hq
end Go.Proofs.YthkjmiejaoomcaaGreat.Am
