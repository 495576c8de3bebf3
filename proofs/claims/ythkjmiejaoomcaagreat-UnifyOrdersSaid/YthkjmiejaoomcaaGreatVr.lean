/- Part of the proof of a law of layer 5: own texts, joined. -/
import Derived.Test.YthkjmiejaoomcaaGreatVq
import Derived.Test.YthkjmiejaoomcaaGreatVi
import Derived.Test.YthkjmiejaoomcaaGreatVb
import Derived.Test.YthkjmiejaoomcaaGreatVk
import Derived.Test.YthkjmiejaoomcaaGreatVp
import Derived.Test.YthkjmiejaoomcaaGreatVf
set_option linter.unusedVariables false
set_option linter.unusedSimpArgs false
set_option linter.unnecessarySimpa false
namespace Go.Proofs.YthkjmiejaoomcaaGreat.Am
open Go Go.RowKit Go.Proofs
set_option linter.unusedVariables false
set_option linter.unusedSimpArgs false
set_option maxRecDepth 100000
set_option maxHeartbeats 1000000
theorem az.weakV {f:FuncId} {args:List AV} {h:ai} {Q:AOut→ai→Prop} (k:az Tryz.prog f args h fun o h'=>∃ v v' h2,o=.ret v∧gF v h' v' h2∧Q (.ret v') h2):az Tryz.prog f args h Q:=fun n =>
 ⟨(k n).1,fun F m G W vargs hF hr s hn r=>((k n).2 F m G W vargs hF hr s hn r).mono fun e W' ⟨o,h',G',⟨v,v',h2,ho,hw,q⟩,s',ev,ro⟩=>by
  subst ho
  cases e with
  |returned x =>
   obtain ⟨G2,e2,s2,r2⟩:=hw _ G' W' x s' ro
   exact ⟨.ret v',h2,G2,q,s2,ev.trans e2,r2⟩
  |_=>exact ro.elim⟩
abbrev vAV (v:Va):AV:=.agg (bO v)
def kV (base:List Va) (es:List (Int × Va)):List Va:=base.mapIdx fun i v=>(mget (i:Int) es).getD v
def RS (base:List Va) (h0 h:ai) (vv:AV):Prop:=(base=[]∧∃ sz tok,vv=.list sz [] 0 tok∧(tok=.full∨tok=.nil))∨∃ p,vv=.sl p 0 base.length∧h p=some (.cells (aM base) 62)∧h0 p=Option.none
structure MapB (es:List (Int × Va)) (raw:List (AV × AV × Nat)) (c:Nat):Prop where
 rel:fJ vAV es raw
 lt:∀ e ∈ raw,e.2.2<c
 nod:(raw.map fun e=>e.2.2).Nodup
 keys:(es.map fun e=>e.1).Nodup
theorem za (f:AV × AV × Nat→AV × AV × Nat) (hf:∀ e,(f e).2.2=e.2.2):∀ (raw:List (AV × AV × Nat)) (j:Nat),((raw.modify j f).map fun e=>e.2.2)=raw.map fun e=>e.2.2
 |[],j=>by cases j <;> rfl
 |a::l,0=>by simp [hf]
 |a::l,j+1=>by simp [za f hf l j]
theorem yj {k:Int}:∀ es:List (Int × Va),mget k es=none→k ∉ es.map fun e=>e.1
 |[],_=>by simp
 |(k',v')::es,h=>by
  rw [mget] at h
  cases hk:(k==k')
  ·rw [hk] at h
   have:=yj es (by simpa using h)
   have hne:k≠k':=by simpa using hk
   simp only [List.map_cons,List.mem_cons,not_or]
   exact ⟨hne,this⟩
  ·rw [hk] at h;cases h
theorem Ef {k:Int} {v w:Va}:∀ es:List (Int × Va),mget k es=some w→((mset k v es).map fun e=>e.1)=es.map fun e=>e.1
 |[],h=>by cases h
 |(k',v')::es,h=>by
  rw [mget] at h
  rw [mset]
  cases hk:(k==k')
  ·rw [hk] at h
   simp only [Bool.false_eq_true,if_false,List.map_cons]
   rw [Ef es (by simpa using h)]
  ·have:k=k':=by simpa using hk
   subst this
   simp
structure SB (x m:Nat) (vv:AV) (raw:List (AV × AV × Nat)) (c:Nat) (base:List Va) (es:List (Int × Va)) (s:Sv) (h0 h:ai):Prop where
 hx:h x=some (.cells [vv,.map m,.int .i64 s.wk] 101)
 hm:h m=some (.map raw c)
 rel:MapB es raw c
 vals:RS base h0 h vv
 ms:s.ms=kV base es
 low:∀ k v,mget k es=some v→0≤k∧k<(base.length:Int)
 x0:h0 x=Option.none
 m0:h0 m=Option.none
 less:ax h h0
def SObj (x:Nat) (s:Sv) (h0 h:ai):Prop:=∃ m vv raw c base es,SB x m vv raw c base es s h0 h
theorem MR (base:List Va) (es:List (Int × Va)):(kV base es).length=base.length:=by unfold kV;rw [List.length_mapIdx]
theorem PT {base:List Va} {es:List (Int × Va)} {n:Int} (h0:0≤n) (h1:n<(base.length:Int)):ak (kV base es) n=(mget n es).getD (ak base n):=by
 unfold ak kV
 rw [List.getD_eq_getElem?_getD,List.getElem?_mapIdx,List.getElem?_eq_getElem (by omega),List.getD_eq_getElem?_getD,List.getElem?_eq_getElem (by omega),Int.toNat_of_nonneg h0]
 rfl
theorem SObj.lessOf {x:Nat} {s:Sv} {h0 h:ai} (S:SObj x s h0 h):ax h h0:=by
 obtain ⟨m,vv,raw,c,base,es,B⟩:=S
 exact B.less
theorem rY {x m:Nat} {vv:AV} {raw:List (AV × AV × Nat)} {c:Nat} {base:List Va} {es:List (Int × Va)} {s:Sv} {h0 h:ai} (B:SB x m vv raw c base es s h0 h):s.ms.length=base.length:=by rw [B.ms,MR]
abbrev zV:List AV:=[.int .i64 0,.str ⟨#[]⟩,.list 0 [] 0 .nil,.bool false,.int .i64 0,.int .i64 0,.str ⟨#[]⟩,.list 0 [] 0 .nil]
theorem Kq {H:ai} {m:Nat} {es:List (Int × Va)} {raw:List (AV × AV × Nat)} {c:Nat} (hm:H m=some (.map raw c)) (hr:fJ vAV es raw) {k:Int} {w:Va} (hg:mget k es=some w):iM Tryz.prog 99 (.map m) (.int .i64 k) true H=some (.tuple [vAV w,.bool true]):=by
 obtain ⟨j,hj,_⟩:=tC (f:=vAV) es raw 0 hr hg
 simp only [iM,J6,hm,zH,plainKey,tk_3,if_true,hj]
theorem Kr {H:ai} {m:Nat} {es:List (Int × Va)} {raw:List (AV × AV × Nat)} {c:Nat} (hm:H m=some (.map raw c)) (hr:fJ vAV es raw) {k:Int} (hg:mget k es=none):iM Tryz.prog 99 (.map m) (.int .i64 k) true H=some (.tuple [.agg zV,.bool false]):=by
 have hj:=lg (f:=vAV) es raw 0 hr hg
 simp only [iM,J6,hm,zH,plainKey,tk_3,if_true,hj]
 rfl
theorem MV {h:ai} {m:Nat} {es:List (Int × Va)} {raw:List (AV × AV × Nat)} {c:Nat} (hm:h m=some (.map raw c)) (hr:MapB es raw c) (k:Int) (v:Va) :
  ∃ raw' c',eY Tryz.prog 99 (.map m) (.int .i64 k) (vAV v) h=some (upd h m (some (.map raw' c')))∧MapB (mset k v es) raw' c':=by
 cases hg:mget k es with
 |none =>
  have hj:=lg (f:=vAV) es raw 0 hr.rel hg
  refine ⟨raw++[(.int .i64 k,vAV v,c)],c+1,?_,?_⟩
  ·simp only [eY,J6,hm,plainKey,tk_3,if_true,hj]
  ·rw [sP es hg]
   refine ⟨map_append (f:=vAV) es raw hr.rel,fun e he=>?_,?_,?_⟩
   ·rcases List.mem_append.1 he with he|he
    ·have:=hr.lt e he;omega
    ·rw [List.mem_singleton] at he;subst he;exact Nat.lt_succ_self _
   ·rw [List.map_append,List.nodup_append]
    refine ⟨hr.nod,by simp,fun a ha b hb=>?_⟩
    obtain ⟨e,he,rfl⟩:=List.mem_map.1 ha
    have:=hr.lt e he
    simp only [List.map_cons,List.map_nil,List.mem_singleton] at hb
    omega
   ·rw [List.map_append,List.nodup_append]
    refine ⟨hr.keys,by simp,fun a ha b hb=>?_⟩
    simp only [List.map_cons,List.map_nil,List.mem_singleton] at hb
    subst hb
    intro e;subst e
    exact yj es hg ha
 |some w =>
  obtain ⟨j,hj,h2⟩:=Cz (f:=vAV) v es raw 0 hr.rel hg
  rw [Nat.zero_add] at hj
  have hb:=za (fun e=>(.int .i64 k,vAV v,e.2.2)) (fun _=>rfl) raw j
  refine ⟨_,c,?_,⟨h2,fun e he=>?_,?_,?_⟩⟩
  ·simp only [eY,J6,hm,plainKey,tk_3,if_true,hj]
  ·have h3:e.2.2 ∈ (raw.modify j fun e=>(.int .i64 k,vAV v,e.2.2)).map fun e=>e.2.2:=List.mem_map_of_mem he
   rw [hb] at h3
   obtain ⟨e',he',e2⟩:=List.mem_map.1 h3
   have:=hr.lt e' he'
   omega
  ·rw [hb];exact hr.nod
  ·rw [Ef es hg];exact hr.keys
theorem Ad {x:Nat} {s:Sv} {h0 h:ai} (S:SObj x s h0 h) {n:Int} (n0:0≤n) (n1:n<(s.ms.length:Int)) (Q:AOut→ai→Prop) (hq:Q (.ret (vAV (ak s.ms n))) h):az Tryz.prog 142 [.ptr x 0,.int .i64 n] h Q:=by
 obtain ⟨m,vv,raw,c,base,es,B⟩:=S
 have hlen:=rY B
 rw [hlen] at n1
 rw [B.ms,PT n0 n1] at hq
 have hx:=B.hx
 have hm:=B.hm
 obtain ⟨v,hv⟩:∃ v,base[n.toNat]?=some v:=⟨_,List.getElem?_eq_getElem (by omega)⟩
 have hva:ak base n=v:=by unfold ak;rw [List.getD_eq_getElem?_getD,hv];rfl
 rcases B.vals with ⟨rfl,_⟩|⟨p,rfl,hp,hp0⟩
 ·simp at n1;omega
 refine eN Tryz.func142 ?_
 repeat with_reducible first|(apply zS;intro _ R_;simp only [go_sem,↓reduceIte];subst R_)|refine rG2 ?_|refine rS fun bq hbq=>?_
 intro q hq0
 have qx:=aj hq0 hx
 have qm:=aj hq0 hm
 have qp:=aj hq0 hp
 have hx2:upd h q (some (.cells zV 62)) x=some (.cells [.sl p 0 base.length,.map m,.int .i64 s.wk] 101):=by rw [ae _ _ qx];exact hx
 have hm2:upd h q (some (.cells zV 62)) m=some (.map raw c):=by rw [ae _ _ qm];exact hm
 have hp2:upd h q (some (.cells zV 62)) p=some (.cells (aM base) 62):=by rw [ae _ _ qp];exact hp
 have hq2:upd h q (some (.cells zV 62)) q=some (.cells zV 62):=upd_same _ _ _
 have hl2:ax (upd h q (some (.cells zV 62))) h:=ax.one hq0
 generalize upd h q (some (.cells zV 62))=H at *
 cases hg:mget n es with
 |some w =>
  have hlk:=Kq hm2 B.rel.rel hg
  rw [hg] at hq
  repeat with_reducible first|(apply zS;intro _ R_;simp only [go_sem,↓reduceIte,hx2,hlk];subst R_)|(apply rN;subst hbq)|refine rG2 ?_|apply nS|refine rS fun bq hbq=>?_
  intro r hr
  have rx:=aj hr hx2
  have rq:=aj hr hq2
  repeat first|(with_reducible first|((first|apply zS|apply zC);intro _ R_;simp only [go_sem,↓reduceIte,hx2,hlk,rx,rq,hq2];subst R_)|(apply rN;subst hbq)|refine rG2 ?_|(apply r1;clear hbq bq)|apply nS|refine rS fun bq hbq=>?_|apply rR)|(with_reducible apply iL;refine rL (by rw [Tryz.results142]) ((hl2.new (hl2.none hr)).new hq0) ?_;simp only [go_sem,↓reduceIte,aJ,Option.some.injEq,exists_eq_left',hx2,hlk,rx,rq,hq2])
  exact hq
 |none =>
  have hlk:=Kr hm2 B.rel.rel hg
  rw [hg] at hq
  repeat with_reducible first|(apply zS;intro _ R_;simp only [go_sem,↓reduceIte,hx2,hlk];subst R_)|(apply rN;subst hbq)|refine rG2 ?_|apply nS|refine rS fun bq hbq=>?_
  intro r hr
  have rx:=aj hr hx2
  have rq:=aj hr hq2
  have rp:=aj hr hp2
  obtain ⟨rr,hrr⟩:=iD base n.toNat hv
  rw [hva] at hq
  repeat first|(with_reducible first|((first|apply zS|apply zC);intro _ R_;simp only [go_sem,↓reduceIte,hx2,hlk,rx,rq,rp,hq2,hp2,n0,n1,hrr];subst R_)|(apply rN;subst hbq)|refine rG2 ?_|apply nS|refine rS fun bq hbq=>?_|apply rK|apply rR)|(with_reducible apply iL;refine rL (by rw [Tryz.results142]) ((hl2.new (hl2.none hr)).new hq0) ?_;simp only [go_sem,↓reduceIte,aJ,Option.some.injEq,exists_eq_left',hx2,hlk,rx,rq,rp,hq2,hp2,n0,n1,hrr])
  exact hq
def PanV {α:Type}:Rz α→AV→Prop
 |.ok _,_=>False
 |.clash,v=>v=.iface 150 (.agg [])
 |.large e,v=>v=.iface 152 (.agg [.int .i64 e])
theorem SB.setWk {x m:Nat} {vv:AV} {raw:List (AV × AV × Nat)} {c:Nat} {base:List Va} {es:List (Int × Va)} {s:Sv} {h0 h:ai} (B:SB x m vv raw c base es s h0 h) (w:Int) :
  SB x m vv raw c base es ⟨s.ms,w⟩ h0 (upd h x (some (.cells [vv,.map m,.int .i64 w] 101))):=by
 have hmx:m≠x:=fun e=>by have:=B.hm;rw [e,B.hx] at this;cases this
 refine ⟨upd_same _ _ _,(ae _ _ hmx).trans B.hm,B.rel,?_,B.ms,B.low,B.x0,B.m0,B.less.new B.x0⟩
 rcases B.vals with h|⟨p,e,hp,hp0⟩
 ·exact .inl h
 ·refine .inr ⟨p,e,?_,hp0⟩
  have hpx:p≠x:=fun e=>by rw [e,B.hx] at hp;injection hp with hp;injection hp with _ hp;cases hp
  exact (ae _ _ hpx).trans hp
theorem o7 {P:Program} {h:ai} {fn:Func} {Q:AOut→ai→Prop} {τ:Env} {h':ai} (hr:fn.results.toList=[]) (hl:ax h h') (hq:Q (.ret (.tuple [])) h'):qC P fn Q .normal τ h :=
 oH hr hl ⟨[],rfl,hq⟩
theorem Jc {x:Nat} {s:Sv} {h0 h:ai} (S:SObj x s h0 h) (deep:Int) (hw:-1000000≤s.wk∧s.wk≤1000000) (Q:AOut→ai→Prop) (hq:∀ s' h2,kG s deep=.ok s'→SObj x s' h0 h2→Q (.ret (.tuple [])) h2) (hp:∀ v h2,PanV (kG s deep) v→ax h2 h0→Q (.panic v) h2) :
  az Tryz.prog 107 [.ptr x 0,.int .i64 deep] h Q:=by
 obtain ⟨m,vv,raw,c,base,es,B⟩:=S
 have hx:=B.hx
 have B2:=B.setWk (s.wk+1)
 have hx2:=B2.hx
 have hl2:=B2.less
 refine eN Tryz.func107 ?_
 cases c1:decide (s.wk+1>40000)
 ·cases c2:decide (deep>400)
  ·have hc:kG s deep=.ok ⟨s.ms,s.wk+1⟩:=by unfold kG;rw [c1,c2];rfl
   repeat with_reducible first|((first|apply zS|apply zC);intro _ R_;simp only [go_sem,↓reduceIte,hx,c1,c2,bz (s.wk+1) (by omega)];subst R_)|(apply rN;subst hbq)|refine rG2 ?_|apply nS|refine rS fun bq hbq=>?_|apply rK
   exact o7 (by rw [Tryz.results107]) (ax.refl _) (hq _ _ hc ⟨m,vv,raw,c,base,es,B2⟩)
  ·have hc:kG s deep=.large 5:=by unfold kG;rw [c1,c2];rfl
   repeat with_reducible first|((first|apply zS|apply zC);intro _ R_;simp only [go_sem,↓reduceIte,hx,c1,c2,ql,bz (s.wk+1) (by omega)];subst R_)|(apply rN;subst hbq)|refine rG2 ?_|apply nS|refine rS fun bq hbq=>?_|apply rK
   exact pL (ax.refl _) (hp _ _ (by rw [hc];rfl) hl2)
 ·have hc:kG s deep=.large 2:=by unfold kG;rw [c1];rfl
  repeat with_reducible first|((first|apply zS|apply zC);intro _ R_;simp only [go_sem,↓reduceIte,hx,c1,ql,bz (s.wk+1) (by omega)];subst R_)|(apply rN;subst hbq)|refine rG2 ?_|apply nS|refine rS fun bq hbq=>?_
  exact p1 (pL (ax.refl _) (hp _ _ (by rw [hc];rfl) hl2))
theorem LeL.length {xs ys:List AV} (h:LeL xs ys):xs.length=ys.length:=by
 induction h with
 |nil=>rfl
 |cons _ _ ih=>simp [ih]
theorem Sim.cells {P:Program} {G:Gh} {h:ai} {W:World} {p:Nat} {xs ys:List AV} {T:TypeId} (s:Sim P G h W) (hp:h p=some (.cells xs T)) (hl:LeL xs ys):Sim P G (upd h p (some (.cells ys T))) W:=by
 have old:∀ i o,upd h p (some (.cells ys T)) i=some o→∃ o',h i=some o':=fun i o hi=>by
  by_cases e:i=p
  ·subst e;exact ⟨_,hp⟩
  ·rw [ae _ _ e] at hi;exact ⟨_,hi⟩
 refine ⟨fun i o hi=>?_,fun i o hi=>?_,fun i j a b ha hb hlo=>?_,s.stab,s.prt⟩
 ·obtain ⟨o',ho⟩:=old i o hi;exact s.dom i o' ho
 ·by_cases e:i=p
  ·subst e
   rw [upd_same] at hi
   injection hi with hi
   subst hi
   obtain ⟨h1,h2,h3,c,h4,h5,h6,h7⟩:=s.obj _ _ hp
   exact ⟨h1,h2,h3,c,h4,h5,by rw [← hl.length];exact h6,by rw [← hl.length];exact hl.rel _ _ _ h7⟩
  ·rw [ae _ _ e] at hi;exact s.obj i o hi
 ·obtain ⟨a',ha'⟩:=old i a ha
  obtain ⟨b',hb'⟩:=old j b hb
  exact s.inj i j a' b' ha' hb' hlo
theorem gF.cells {v:AV} {h:ai} {p:Nat} {xs ys:List AV} {T:TypeId} (hp:h p=some (.cells xs T)) (hl:LeL xs ys):gF v h v (upd h p (some (.cells ys T))):=fun P G W u s r=>⟨G,Evo.refl _ _,s.cells hp hl,r⟩
theorem Tu (base:List Va) (lv:Int) (ty:Ty):LeL (aM base++[.int .i64 lv,.str ty.name,.list 2 (dE ty.args) ty.args.length .none,.bool false,.int .i64 0,.int .i64 0,.str aB,.list 0 [] 0 .nil]) (aM (base++[lK lv ty])):=by
 have h1:aM (base++[lK lv ty])=aM base++bO (lK lv ty):=by unfold aM;rw [List.flatMap_append];simp
 rw [h1]
 refine LeL.app ?_ (aM base)
 refine .cons (LeAV.refl _) (.cons (LeAV.refl _) (.cons (LeAV.refl _) (.cons (LeAV.refl _) (.cons (LeAV.refl _) (.cons (LeAV.refl _) (.cons (LeAV.refl _) (.cons ?_ .nil)))))))
 show LeAV _ (.list 4 (encs []) 0 .none)
 rw [bB]
 exact LeAV.nil _ _ _
theorem MS {base:List Va} {es:List (Int × Va)} (hlow:∀ k v,mget k es=some v→0≤k∧k<(base.length:Int)) (w:Va):kV (base++[w]) es=kV base es++[w]:=by
 unfold kV
 rw [List.mapIdx_append]
 congr 1
 simp only [List.mapIdx_cons,List.mapIdx_nil]
 have:mget ((0+base.length:Nat):Int) es=none:=by
  cases h:mget ((0+base.length:Nat):Int) es with
  |none=>rfl
  |some v=>have:=hlow _ _ h;omega
 rw [this];rfl
theorem MJ {τ:Env} {H:ai} {w:Nat} {lv k:Int} {ty:Ty} (base:List Va) {Q:AOut→ai→Prop} {n:Int}
  (hw:H w=some (.cells (aM base++[.int .i64 lv,.str ty.name,.list 2 (dE ty.args) ty.args.length .none,.bool false,.int .i64 0,.int .i64 0,.str aB,.list 0 [] 0 .nil]) 62)) (h6:τ 6=.int .i64 k)
  (hq:Q (.ret (.int .i64 n)) (upd H w (some (.cells (aM (base++[lK lv ty])) 62)))) (hn:k=n):qC Tryz.prog Tryz.f161 Q .ret τ H:=by
 subst hn
 refine ⟨[.int .i64 k],?_,_,_,gF.cells hw (Tu base lv ty),hq⟩
 rw [Tryz.results161]
 simp only [go_sem,↓reduceIte,h6]
theorem SB.grown {x m:Nat} {vv:AV} {raw:List (AV × AV × Nat)} {c:Nat} {base:List Va} {es:List (Int × Va)} {s:Sv} {h0 h:ai} (B:SB x m vv raw c base es s h0 h) {w:Nat} {H:ai} {new:Va}
  (hx:H x=some (.cells [.sl w 0 (base.length+1),.map m,.int .i64 s.wk] 101)) (hm:H m=some (.map raw c)) (hw:H w=some (.cells (aM (base++[new])) 62)) (hw0:h0 w=Option.none) (hl:ax H h0):SObj x ⟨s.ms++[new],s.wk⟩ h0 H :=
 ⟨m,.sl w 0 (base++[new]).length,raw,c,base++[new],es,by rw [List.length_append];exact hx,hm,B.rel,.inr ⟨w,rfl,hw,hw0⟩,by show s.ms++[new]=_;rw [B.ms,MS B.low],fun k v hk=>by have:=B.low k v hk;rw [List.length_append];simp;omega,B.x0,B.m0,hl⟩
theorem yD {x:Nat} {s:Sv} {h0 h:ai} (S:SObj x s h0 h) (lv:Int) (ty:Ty) (hbl:s.ms.length≤1000000) (Q:AOut→ai→Prop) (hq:∀ s' n h2,jq s lv ty=.ok (s',n)→SObj x s' h0 h2→Q (.ret (.int .i64 n)) h2) (hpn:∀ v h2,PanV (jq s lv ty) v→ax h2 h0→Q (.panic v) h2) :
  az Tryz.prog 161 [.ptr x 0,.int .i64 lv,qA ty] h Q:=by
 obtain ⟨m,vv,raw,c,base,es,B⟩:=S
 have hlen:=rY B
 have hx:=B.hx
 have hm:=B.hm
 refine eN Tryz.func161 ?_
 repeat with_reducible first|(apply zS;intro _ R_;simp only [go_sem,↓reduceIte];subst R_)|refine rG2 ?_|refine rS fun bq hbq=>?_
 intro b hb
 have bx:=aj hb hx
 have bm:=aj hb hm
 rcases B.vals with ⟨rfl,sz,tok,rfl,htok⟩|⟨p,rfl,hp,hp0⟩
 ·have hfr:jq s lv ty=.ok (⟨s.ms++[lK lv ty],s.wk⟩,s.ms.length):=by
   unfold jq
   rw [decide_eq_false (by simp at hlen;rw [hlen];simp)];rfl
  have z0:decide (((0:Nat):Int)≥2000)=false:=rfl
  have hx2:upd h b (some (.cells (cB ty) 60)) x=some (.cells [.list sz [] 0 tok,.map m,.int .i64 s.wk] 101):=by rw [ae _ _ bx];exact hx
  have hm2:upd h b (some (.cells (cB ty) 60)) m=some (.map raw c):=by rw [ae _ _ bm];exact hm
  have hb2:upd h b (some (.cells (cB ty) 60)) b=some (.cells (cB ty) 60):=upd_same _ _ _
  have hl2:ax (upd h b (some (.cells (cB ty) 60))) h:=ax.one hb
  generalize upd h b (some (.cells (cB ty) 60))=H at *
  repeat with_reducible first|((first|apply zS|apply zC);intro _ R_;simp only [go_sem,↓reduceIte,hx2,z0];subst R_)|(apply rN;subst hbq)|refine rG2 ?_|apply nS|refine rS fun bq hbq=>?_|apply rK
  repeat with_reducible refine ah fun bq hbq=>?_
  refine bA (.take 0 (.take 1 (.take 2 (.take 3 (.take 4 (.take 5 (.take 6 (.take 7 (.take 8 (.take 9 (.one 10 [7] (.take 11 (.take 12 (.take 13 (.one 14 [] (.done)))))))))))))))) (by kernel_rfl) (by simp only [aF,gtOf,aA];exact rfl) ?_
  repeat ((first|(with_reducible apply iT;refine sT rfl ?_)|(with_reducible apply iO;refine sO rfl ?_));intro _ _ _ C_ R_ U_;simp only [go_sem,↓reduceIte,hx2,hb2,Jk,Jl];subst C_ R_ U_)
  refine dP ?_
  simp only [go_sem,↓reduceIte,fG]
  intro w hw
  have wx:=aj hw hx2
  have wm:=aj hw hm2
  rw [oP yR yR FN Ob zH ⟨rfl,by decide⟩ htok (.inl rfl) rfl (by decide) (by decide)]
  simp only [go_sem,↓reduceIte]
  have wb:=aj hw hb2
  simp only [go_sem,↓reduceIte,hx2,wx,wx.symm,wb,wb.symm,hb2]
  repeat with_reducible first|(apply zS;intro _ R_;simp only [go_sem,↓reduceIte,hx2,wx,wx.symm,wb,wb.symm,hb2,bz (((1:Nat):Int) - 1) (by omega)];subst R_)|(apply rN;subst hbq)|refine rG2 ?_|apply nS|refine rS fun bq hbq=>?_|apply rR
  have hw2:upd (upd H w (some (.cells ([]++[.int .i64 lv,.str ty.name,.list 2 (dE ty.args) ty.args.length .none,.bool false,.int .i64 0,.int .i64 0,.str aB,.list 0 [] 0 .nil]) 62))) x (some (.cells [.sl w 0 (0+1),.map m,.int .i64 s.wk] 101)) w=some (.cells ([]++[.int .i64 lv,.str ty.name,.list 2 (dE ty.args) ty.args.length .none,.bool false,.int .i64 0,.int .i64 0,.str aB,.list 0 [] 0 .nil]) 62):=by rw [ae _ _ wx.symm,upd_same]
  refine MJ [] hw2 rfl (hq _ _ _ hfr ?_) (by rw [hlen];rfl)
  have w0:h0 w=Option.none:=B.less.none (hl2.none hw)
  have mx:m≠x:=fun e=>by rw [e] at hm2;rw [hx2] at hm2;cases hm2
  refine B.grown (w:=w) ?_ ?_ (upd_same _ _ _) w0 ?_
  ·rw [ae _ _ wx,upd_same];rfl
  ·rw [ae _ _ wm,ae _ _ mx,ae _ _ wm];exact hm2
  ·exact (((hl2.trans B.less).new w0).new B.x0).new w0
 ·cases c1:decide ((base.length:Int)≥2000)
  ·have bp:=aj hb hp
   have hx2:upd h b (some (.cells (cB ty) 60)) x=some (.cells [.sl p 0 base.length,.map m,.int .i64 s.wk] 101):=by rw [ae _ _ bx];exact hx
   have hm2:upd h b (some (.cells (cB ty) 60)) m=some (.map raw c):=by rw [ae _ _ bm];exact hm
   have hp2:upd h b (some (.cells (cB ty) 60)) p=some (.cells (aM base) 62):=by rw [ae _ _ bp];exact hp
   have hb2:upd h b (some (.cells (cB ty) 60)) b=some (.cells (cB ty) 60):=upd_same _ _ _
   have hl2:ax (upd h b (some (.cells (cB ty) 60))) h:=ax.one hb
   generalize upd h b (some (.cells (cB ty) 60))=H at *
   repeat with_reducible first|((first|apply zS|apply zC);intro _ R_;simp only [go_sem,↓reduceIte,hx2,c1];subst R_)|(apply rN;subst hbq)|refine rG2 ?_|apply nS|refine rS fun bq hbq=>?_|apply rK
   repeat with_reducible refine ah fun bq hbq=>?_
   refine bA (.take 0 (.take 1 (.take 2 (.take 3 (.take 4 (.take 5 (.take 6 (.take 7 (.take 8 (.take 9 (.one 10 [7] (.take 11 (.take 12 (.take 13 (.one 14 [] (.done)))))))))))))))) (by kernel_rfl) (by simp only [aF,gtOf,aA];exact rfl) ?_
   repeat ((first|(with_reducible apply iT;refine sT rfl ?_)|(with_reducible apply iO;refine sO rfl ?_));intro _ _ _ C_ R_ U_;simp only [go_sem,↓reduceIte,hx2,hb2,Jk,Jl];subst C_ R_ U_)
   refine dP ?_
   simp only [go_sem,↓reduceIte,fG]
   intro w hw
   have wx:=aj hw hx2
   have wm:=aj hw hm2
   have wp:=aj hw hp2
   rw [sN yR yR FN Ob zH ⟨rfl,by decide⟩ (k:=p) (cs:=aM base) (n1:=base.length) hp2 (by rw [gN]) rfl (by decide) (by omega)]
   simp only [go_sem,↓reduceIte]
   have wb:=aj hw hb2
   have pb:b≠p:=fun e=>by rw [e] at hb2;rw [hb2] at hp2;injection hp2 with hp2;injection hp2 with _ hp2;cases hp2
   have px:x≠p:=fun e=>by rw [e] at hx2;rw [hx2] at hp2;injection hp2 with hp2;injection hp2 with _ hp2;cases hp2
   simp only [go_sem,↓reduceIte,hx2,wx,wx.symm,px,px.symm,wb,wb.symm,hb2,pb,pb.symm]
   repeat with_reducible first|(apply zS;intro _ R_;simp only [go_sem,↓reduceIte,hx2,wx,wx.symm,px,px.symm,wb,wb.symm,hb2,pb,pb.symm,bz (((base.length+1:Nat):Int) - 1) (by omega)];subst R_)|(apply rN;subst hbq)|refine rG2 ?_|apply nS|refine rS fun bq hbq=>?_|apply rR
   have hfr:jq s lv ty=.ok (⟨s.ms++[lK lv ty],s.wk⟩,s.ms.length):=by
    unfold jq
    rw [hlen,c1];rfl
   refine MJ base (w:=w) (lv:=lv) (ty:=ty) ?_ rfl (hq _ _ _ hfr ?_) (by omega)
   ·rw [ae _ _ wx.symm,upd_same]
   have w0:h0 w=Option.none:=B.less.none (hl2.none hw)
   have mx:m≠x:=fun e=>by rw [e] at hm2;rw [hx2] at hm2;cases hm2
   have mp:m≠p:=fun e=>by rw [e] at hm2;rw [hp2] at hm2;cases hm2
   refine B.grown (w:=w) ?_ ?_ (upd_same _ _ _) w0 ?_
   ·rw [ae _ _ wx,upd_same]
   ·rw [ae _ _ wm,ae _ _ mx,ae _ _ wm,ae _ _ mp];exact hm2
   ·exact ((eO (hl2.trans B.less) hp0 _ |>.new w0).new B.x0).new w0
  ·have hfr:jq s lv ty=.large 2:=by
    unfold jq
    rw [hlen,c1];rfl
   repeat with_reducible first|((first|apply zS|apply zC);intro _ R_;simp only [go_sem,↓reduceIte,hx,bx,c1,ql];subst R_)|(apply rN;subst hbq)|refine rG2 ?_|apply nS|refine rS fun bq hbq=>?_
   exact p1 (pL (ax.refl _) (hpn _ _ (by rw [hfr];rfl) ((ax.one hb).trans B.less)))
theorem mU (k n:Int) (nm:ByteArray) (sz:Nat) (cs:List AV) (m:Nat) (tok:Tok):bn Tryz.prog 25 1 [(0,.agg [.int .i64 k,.int .i64 n,.str nm,.list sz cs m tok])]=some (.list 4 [.int .i64 k,.int .i64 n,.str nm,.list sz cs m tok] 1 .full):=uj ed je iy rfl rfl rfl (by decide)
theorem Bc (k:Int) (sz:Nat) (cs:List AV) (m:Nat) (tok:Tok):dL Tryz.prog 27 [(0,.int .i64 k),(3,.list sz cs m tok)]=some (.agg [.int .i64 k,.int .i64 0,.str aB,.list sz cs m tok]):=by
 simp only [dL,iy,JQ,ik]
 rfl
theorem Kg (t:Term) (n:Int) (hn0:0≤n) (hn:n≤1000000) (h:ai) (Q:AOut→ai→Prop) (hq:Q (.ret (enc (fE n.toNat t))) h):az Tryz.prog 164 [enc t,.int .i64 n] h Q:=by
 refine eN Tryz.func164 ?_
 repeat with_reducible first|(apply zS;intro _ R_;simp only [go_sem,↓reduceIte];subst R_)|refine rG2 ?_|refine rS fun bq hbq=>?_
 intro b hb
 repeat with_reducible (apply zS;intro _ R_;simp only [go_sem,↓reduceIte];subst R_)
 intro r hr
 have e:=aQ hr
 have e0:=e.1
 repeat with_reducible first|(apply zS;intro _ R_;simp only [go_sem,↓reduceIte,e.1,e.1.symm];subst R_)|(apply rN;subst hbq)|refine rG2 ?_|(refine rB fun cq hcq=>?_;subst hcq)|apply nS|refine rS fun bq hbq=>?_
 refine aT (fun k τ h'=>∃ (i:Nat) (u:Term) (sz:Nat) (cs:List AV) (tok:Tok),k=n.toNat - i∧(i:Int)≤n∧fE (n.toNat - i) u=fE n.toNat t∧τ 2=.ptr b 0∧τ 4=.ptr r 0∧τ 5=.int .i64 n∧τ 6=.int .i64 i∧ax h' h∧h' b=some (.cells [.int .i64 u.kind,.int .i64 u.n,.str u.name,.list sz cs u.args.length tok] 27)∧LeAV (.list sz cs u.args.length tok) (.list 4 (encs u.args) u.args.length .none)∧h' r=some (.cells [.int .i64 0,.int .i64 0,.str ⟨#[]⟩,.list 0 [] 0 .nil] 27)) n.toNat ?_ ?_
 ·refine ⟨0,t,_,_,_,rfl,hn0,rfl,rfl,rfl,rfl,rfl,((ax.refl h).new hb).new e.2,?_,LeAV.refl _,upd_same _ _ _⟩
  rw [ae _ _ e.1.symm,upd_same]
 ·intro c hc k τ h' hI
  obtain ⟨i,u,sz,cs,tok,rfl,hi,hu,f2,f4,f5,f6,hl',mb,hL,mr⟩:=hI
  subst hc
  by_cases hin:(i:Int)<n
  ·have rb:r≠b:=e0
   repeat with_reducible first|((first|apply zS|apply zC);intro _ R_;simp only [go_sem,↓reduceIte,f2,f4,f5,f6,hin,mb,mU,Bc,bz ((i:Int)+1) (by omega)];subst R_)|(apply rN;subst hbq)|refine rG2 ?_|(refine rB fun cq hcq=>?_;subst hcq)|apply nS|refine rS fun bq hbq=>?_|apply rK|apply rE
   refine aL (m:=n.toNat - (i+1)) (by omega) ⟨i+1,⟨5,0,aB,[u]⟩,4,[.int .i64 u.kind,.int .i64 u.n,.str u.name,.list sz cs u.args.length tok],.full,rfl,by omega,?_⟩
   simp only [go_sem,↓reduceIte,f2,f4,f5,rb]
   refine ⟨by rw [← hu,show n.toNat - i=n.toNat - (i+1)+1 by omega,fE],rfl,hl'.new hb,?_,mr⟩
   have e25:encs [u]=ay u:=by rw [dh];simp
   rw [e25]
   exact fun G W v hr=>LeAV.listL (.cons (LeAV.refl _) (.cons (LeAV.refl _) (.cons (LeAV.refl _) (.cons hL .nil)))) G W v (LeAV.list _ _ _ _ G W v hr)
  ·obtain rfl:n=i:=by omega
   rw [show (i:Int).toNat - i=0 by omega,fE] at hu
   repeat with_reducible first|((first|apply zS|apply zC);intro _ R_;simp only [go_sem,↓reduceIte,f2,f4,f5,f6,hin,mb,mr];subst R_)|(apply rN;subst hbq)|refine rG2 ?_|(apply x1;clear hbq bq)|apply nS|refine rS fun bq hbq=>?_|apply rXx|apply rR|apply x3|apply x4
   refine df (v:=enc u) (by rw [Tryz.results164]) (hl'.new e.2) ?_ (by rw [hu];exact hq)
   simp only [go_sem,↓reduceIte,f4,aJ,Option.some.injEq,exists_eq_left']
   exact LeAV.agg (.cons (LeAV.refl _) (.cons (LeAV.refl _) (.cons (LeAV.refl _) (.cons hL .nil))))
theorem SB.add {x m:Nat} {vv:AV} {raw:List (AV × AV × Nat)} {c:Nat} {base:List Va} {es:List (Int × Va)} {s:Sv} {h0 h:ai} (B:SB x m vv raw c base es s h0 h) {b:Nat} (hb:h b=Option.none) (o:AObj):SB x m vv raw c base es s (upd h0 b (some o)) (upd h b (some o)):=by
 have xb:=aj hb B.hx
 have mb:=aj hb B.hm
 refine ⟨(ae _ _ xb).trans B.hx,(ae _ _ mb).trans B.hm,B.rel,?_,B.ms,B.low,(ae _ _ xb).trans B.x0,(ae _ _ mb).trans B.m0,fun j y hj=>?_⟩
 ·rcases B.vals with h|⟨p,e,hp,hp0⟩
  ·exact .inl h
  ·have pb:=aj hb hp
   exact .inr ⟨p,e,(ae _ _ pb).trans hp,(ae _ _ pb).trans hp0⟩
 ·by_cases e:j=b
  ·subst e;rw [upd_same] at hj ⊢;exact hj
  ·rw [ae _ _ e] at hj ⊢;exact B.less _ _ hj
theorem SObj.add {x:Nat} {s:Sv} {h0 h:ai} (S:SObj x s h0 h) {b:Nat} (hb:h b=Option.none) (o:AObj):SObj x s (upd h0 b (some o)) (upd h b (some o)):=by
 obtain ⟨m,vv,raw,c,base,es,B⟩:=S
 exact ⟨m,vv,raw,c,base,es,B.add hb o⟩
theorem SObj.low {x:Nat} {s:Sv} {h1 h0 h:ai} (S:SObj x s h1 h) (hl:ax h1 h0):SObj x s h0 h:=by
 obtain ⟨m,vv,raw,c,base,es,B⟩:=S
 refine ⟨m,vv,raw,c,base,es,B.hx,B.hm,B.rel,?_,B.ms,B.low,hl.none B.x0,hl.none B.m0,B.less.trans hl⟩
 rcases B.vals with h|⟨p,e,hp,hp0⟩
 ·exact .inl h
 ·exact .inr ⟨p,e,hp,hl.none hp0⟩
theorem SObj.put {x:Nat} {s:Sv} {h0 h:ai} (S:SObj x s h0 h) {b:Nat} {o:AObj} (hb:h0 b=some o) (o':AObj):SObj x s (upd h0 b (some o')) (upd h b (some o')):=by
 obtain ⟨m,vv,raw,c,base,es,B⟩:=S
 have xb:x≠b:=fun e=>by have:=B.x0;rw [e,hb] at this;cases this
 have mb:m≠b:=fun e=>by have:=B.m0;rw [e,hb] at this;cases this
 refine ⟨m,vv,raw,c,base,es,(ae _ _ xb).trans B.hx,(ae _ _ mb).trans B.hm,B.rel,?_,B.ms,B.low,(ae _ _ xb).trans B.x0,(ae _ _ mb).trans B.m0,fun j y hj=>?_⟩
 ·rcases B.vals with h|⟨p,e,hp,hp0⟩
  ·exact .inl h
  ·have pb:p≠b:=fun e=>by rw [e,hb] at hp0;cases hp0
   exact .inr ⟨p,e,(ae _ _ pb).trans hp,(ae _ _ pb).trans hp0⟩
 ·by_cases e:j=b
  ·subst e;rw [upd_same] at hj ⊢;exact hj
  ·rw [ae _ _ e] at hj ⊢;exact B.less _ _ hj
theorem MP {base:List Va} {es:List (Int × Va)} {n:Int} (h0:0≤n) (v:Va):kV base (mset n v es)=(kV base es).set n.toNat v:=by
 apply List.ext_getElem?
 intro i
 unfold kV
 rw [List.getElem?_mapIdx,List.getElem?_set,List.getElem?_mapIdx,List.length_mapIdx]
 by_cases e:n.toNat=i
 ·subst e
  by_cases hb:n.toNat<base.length
  ·rw [if_pos rfl,if_pos hb,List.getElem?_eq_getElem hb]
   simp only [Option.map_some]
   rw [ji,Int.toNat_of_nonneg h0]
   simp
  ·rw [if_pos rfl,if_neg hb,List.getElem?_eq_none (by omega)];rfl
 ·rw [if_neg e]
  cases hb:base[i]? with
  |none=>rfl
  |some w =>
   simp only [Option.map_some]
   rw [ji]
   have:((i:Int)==n)=false:=by
    have:(i:Int)≠n:=by omega
    simpa using this
   rw [this];rfl
theorem SObj.loc {x:Nat} {s:Sv} {h0 h:ai} (S:SObj x s h0 h) {b:Nat} (hb:h b=Option.none) (o:AObj):∃ A,SObj x s A (upd h b (some o))∧A b=some o∧ax A h0∧h0 b=Option.none:=by
 have h0b:=S.lessOf.none hb
 exact ⟨upd h0 b (some o),S.add hb o,upd_same _ _ _,ax.one h0b,h0b⟩
theorem SObj.wr {x:Nat} {s:Sv} {h0 A h:ai} (S:SObj x s A h) (hA:ax A h0) {b:Nat} {o:AObj} (hb:A b=some o) (hb0:h0 b=Option.none) (o':AObj):∃ A',SObj x s A' (upd h b (some o'))∧A' b=some o'∧ax A' h0∧∀ j y,j≠b→A j=some y→A' j=some y :=
 ⟨upd A b (some o'),S.put hb o',upd_same _ _ _,hA.new hb0,fun j y hj hy=>(ae _ _ hj).trans hy⟩
theorem G5 {x:Nat} {s:Sv} {h0 h:ai} (S:SObj x s h0 h) {n:Int} (n0:0≤n) (n1:n<(s.ms.length:Int)) (b:Term) (Q:AOut→ai→Prop) (hq:∀ h2,SObj x (kr s n b) h0 h2→Q (.ret (.tuple [])) h2):az Tryz.prog 146 [.ptr x 0,.int .i64 n,enc b] h Q:=by
 refine eN Tryz.func146 ?_
 repeat with_reducible first|(apply zS;intro _ R_;simp only [go_sem,↓reduceIte];subst R_)|refine rG2 ?_|refine rS fun bq hbq=>?_
 intro q hq0
 obtain ⟨A,S,aq,hA,_⟩:=S.loc hq0 (.cells (ay b) 27)
 generalize upd h q (some (.cells (ay b) 27))=H at *
 repeat with_reducible first|(apply zS;intro _ R_;simp only [go_sem,↓reduceIte];subst R_)|(apply rN;subst hbq)|refine rG2 ?_|apply nS|refine rS fun bq hbq=>?_
 refine Ad S n0 n1 _ ?_
 try dsimp only
 repeat with_reducible (apply zS;intro _ R_;simp only [go_sem,↓reduceIte];subst R_)
 intro r hr
 have sq:=S.lessOf _ _ aq
 have rq:=aj hr sq
 repeat with_reducible first|(apply zS;intro _ R_;simp only [go_sem,↓reduceIte,rq,sq];subst R_)|(apply rN;subst hbq)|refine rG2 ?_|apply nS|refine rS fun bq hbq=>?_
 refine rP _ _ _ ?_
 rw [nX]
 obtain ⟨A2,S,ar,hA2,hAr⟩:=S.loc hr (.cells (bO (ak s.ms n)) 62)
 generalize upd H r (some (.cells (bO (ak s.ms n)) 62))=H2 at *
 have sr:=S.lessOf _ _ ar
 have sq:=S.lessOf _ _ (hA2 _ _ aq)
 try dsimp only
 repeat with_reducible first|(apply zS;intro _ R_;simp only [go_sem,↓reduceIte,sr,sq];subst R_)|(apply rN;subst hbq)|refine rG2 ?_|apply nS|refine rS fun bq hbq=>?_
 have h8:=fT (ak s.ms n).type
 refine Kg b ((fU (ak s.ms n).type).getD []).length (by omega) (by unfold aX at h8;omega) _ _ ?_
 try dsimp only
 repeat with_reducible first|(apply zS;intro _ R_;simp only [go_sem,↓reduceIte,sr,sq];subst R_)|(apply rN;subst hbq)|apply nS
 have eh:(AV.int .i64 (ak s.ms n).level::AV.str (ak s.ms n).type.name::AV.list 2 (dE (ak s.ms n).type.args) (ak s.ms n).type.args.length .none::AV.bool true::ay (fE ((fU (ak s.ms n).type).getD []).length b))=bO (l6 (ak s.ms n) b):=rfl
 rw [eh]
 obtain ⟨A3,S,ar3,hA3,_⟩:=S.wr hA2 ar hAr (.cells (bO (l6 (ak s.ms n) b)) 62)
 generalize upd H2 r (some (.cells (bO (l6 (ak s.ms n) b)) 62))=H3 at *
 have sr3:=S.lessOf _ _ ar3
 have S4:=(S.low hA3).low hA
 obtain ⟨m,vv,raw,c,base,es,B⟩:=S4
 obtain ⟨raw2,c2,hup,hrel⟩:=MV B.hm B.rel n (l6 (ak s.ms n) b)
 have hx:=B.hx
 repeat with_reducible refine ah fun bq hbq=>?_
 refine bA (.take 0 (.take 1 (.take 2 (.take 3 (.take 4 (.take 5 (.one 6 [] (.done)))))))) (by kernel_rfl) (by simp only [aF,gtOf,aA];exact rfl) ?_
 repeat first|with_reducible apply nD|((first|(with_reducible apply iT;refine sT rfl ?_)|(with_reducible apply i0;refine s0 rfl ?_));intro _ _ _ C_ R_ U_;simp only [go_sem,↓reduceIte,hx,sr3,hup];subst C_ R_ U_)
 refine o7 (by rw [Tryz.results146]) (ax.refl _) (hq _ ⟨m,vv,raw2,c2,base,mset n (l6 (ak s.ms n) b) es,?_⟩)
 have xm:x≠m:=fun e=>by have:=B.hm;rw [← e,hx] at this;cases this
 have hlen:=rY B
 refine ⟨(ae _ _ xm).trans hx,upd_same _ _ _,hrel,?_,?_,fun k v hk=>?_,B.x0,B.m0,B.less.new B.m0⟩
 ·rcases B.vals with h|⟨p,e,hp,hp0⟩
  ·exact .inl h
  ·have pm:p≠m:=fun e=>by rw [e,B.hm] at hp;cases hp
   exact .inr ⟨p,e,(ae _ _ pm).trans hp,hp0⟩
 ·rw [MP n0,← B.ms];rfl
 ·rw [ji] at hk
  split at hk
  ·rename_i e
   have:k=n:=by simpa using e
   omega
  ·exact B.low k v hk
theorem SObj.more {x:Nat} {s:Sv} {h0 h h':ai} (S:SObj x s h0 h) (hl:ax h' h):SObj x s h0 h':=by
 obtain ⟨m,vv,raw,c,base,es,B⟩:=S
 refine ⟨m,vv,raw,c,base,es,hl _ _ B.hx,hl _ _ B.hm,B.rel,?_,B.ms,B.low,B.x0,B.m0,hl.trans B.less⟩
 rcases B.vals with h|⟨p,e,hp,hp0⟩
 ·exact .inl h
 ·exact .inr ⟨p,e,hl _ _ hp,hp0⟩
theorem Ct {x:Nat} {s:Sv} {h0 h:ai} (S:SObj x s h0 h) (I:Inv s.ms) {d:Int} (hd:0≤d) (hd2:d≤1000000) (t:Term) (hf:aK s.ms t d=true) (Q:AOut→ai→Prop) (hq:Q (.ret (enc (gK s.ms t))) h):az Tryz.prog 108 [.ptr x 0,enc t] h Q:=by
 obtain ⟨_,_,_,k,hs⟩:=dK I hd hf
 generalize gK s.ms t=u at *
 refine eN Tryz.func108 ?_
 repeat with_reducible first|(apply zS;intro _ R_;simp only [go_sem,↓reduceIte];subst R_)|refine rG2 ?_|refine rS fun bq hbq=>?_
 intro b hb
 repeat with_reducible (apply zS;intro _ R_;simp only [go_sem,↓reduceIte];subst R_)
 intro r hr
 have e:=aQ hr
 repeat with_reducible first|(apply rN;subst hbq)|(refine rB fun cq hcq=>?_;subst hcq)|apply nS|refine rS fun bq hbq=>?_
 refine aT (fun k τ h'=>∃ t',rU s.ms k t' u∧aK s.ms t' d=true∧τ 0=.ptr x 0∧τ 3=.ptr b 0∧τ 4=.ptr r 0∧ax h' h∧h' b=some (.cells (ay t') 27)∧h' r=some (.cells [.int .i64 0,.int .i64 0,.str ⟨#[]⟩,.list 0 [] 0 .nil] 27)) k ?_ ?_
 ·refine ⟨t,hs,hf,rfl,rfl,rfl,((ax.refl h).new hb).new e.2,?_,upd_same _ _ _⟩
  rw [ae _ _ e.1.symm,upd_same]
 ·intro c hc k τ h' hI
  obtain ⟨t',hs',hf',f0,f3,f4,hl',mb,mr⟩:=hI
  subst hc
  have rb:r≠b:=e.1
  have S':=S.more hl'
  cases h4:(t'.kind==4)
  ·cases hs' with
   |step h4' _ _=>rw [h4] at h4';cases h4'
   |done _ =>
    repeat first|(with_reducible first|((first|apply zS|apply zC);intro _ R_;simp only [go_sem,↓reduceIte,f0,f3,f4,mb,mr,h4,rb];subst R_)|(apply rN;subst hbq)|refine rG2 ?_|(apply x1;clear hbq bq)|apply nS|refine rS fun bq hbq=>?_|apply rXx|apply rR|apply x3|apply x4)|(with_reducible apply iL;refine rL (by rw [Tryz.results108]) ((hl'.new e.2)) ?_;simp only [go_sem,↓reduceIte,aJ,Option.some.injEq,exists_eq_left',f0,f3,f4,mb,mr,h4,rb])
    exact hq
  ·have hv:=pX hf' h4
   repeat with_reducible first|((first|apply zS|apply zC);intro _ R_;simp only [go_sem,↓reduceIte,f0,f3,f4,mb,mr,h4,rb];subst R_)|(apply rN;subst hbq)|refine rG2 ?_|(refine rB fun cq hcq=>?_;subst hcq)|apply nS|refine rS fun bq hbq=>?_|apply rK
   refine Ad S' hv.1 hv.2.1 _ ?_
   try dsimp only
   repeat with_reducible (apply zS;intro _ R_;simp only [go_sem,↓reduceIte,f0,f3,f4,mb,mr,h4,rb];subst R_)
   intro w hw
   have wb:=aj hw mb
   have wr:=aj hw mr
   cases hs' with
   |done hflex =>
    rw [h4,Bool.true_and] at hflex
    repeat first|(with_reducible first|((first|apply zS|apply zC);intro _ R_;simp only [go_sem,↓reduceIte,f0,f3,f4,mb,mr,h4,rb,wb,wr,hflex];subst R_)|(apply rN;subst hbq)|refine rG2 ?_|(apply r1;clear hbq bq)|apply nS|refine rS fun bq hbq=>?_|apply rR|apply r3|apply r4)|(with_reducible apply iL;refine rL (by rw [Tryz.results108]) ((hl'.new (hl'.none hw)).new e.2) ?_;simp only [go_sem,↓reduceIte,aJ,Option.some.injEq,exists_eq_left',f0,f3,f4,mb,mr,h4,rb,wb,wr,hflex])
    exact hq
   |@step _ _ k _ hi hs2 =>
    obtain ⟨hp,h2,h3,h1,h6,h5,hn0,hn1⟩:=wP I hd hf' h4 hi
    have hlen:=lU hf'
    have hff:=fQ hp (dJ s.ms t') 0 (Int.le_refl _) (by rw [Int.add_zero];exact h2) h3
    rw [Int.add_zero] at hff
    have hbs:(dJ s.ms t').size≤(ak s.ms t'.n).t.size:=CL _ _
    repeat with_reducible first|((first|apply zS|apply zC);intro _ R_;simp only [go_sem,↓reduceIte,f0,f3,f4,mb,mr,h4,rb,wb,wr,hi];subst R_)|(apply rN;subst hbq)|refine rG2 ?_|apply nS|refine rS fun bq hbq=>?_|apply rK
    refine CP (ak s.ms t'.n).t t'.args.length _ _ (by omega) ?_
    rw [Int.toNat_natCast,h1]
    rw [show (eD t'.args.length (ak s.ms t'.n).t).1=dJ s.ms t' from rfl]
    try dsimp only
    repeat with_reducible (apply zS;intro _ R_;simp only [go_sem,↓reduceIte,f0,f3,f4,mb,mr,h4,rb,wb,wr,hi];subst R_)
    intro q hq1
    have q1:=aQ hq1
    have qb:=aj q1.2 mb
    have qr:=aj q1.2 mr
    repeat with_reducible first|(apply zS;intro _ R_;simp only [go_sem,↓reduceIte,f0,f3,f4,mb,mr,h4,rb,wb,wr,hi,q1.1,q1.1.symm,qb,qr];subst R_)|(apply rN;subst hbq)|refine rG2 ?_|apply nS
    refine EK (dJ s.ms t').size (dJ s.ms t') t'.args 0 _ _ (Nat.le_refl _) (by decide) (by omega) (by omega) (fun a ha=>?_) h6 ?_
    ·have hA:=hp.args a ha
     rcases (aS hA.1).1 with e|e
     ·have:=hA.2.2.1 e;omega
     ·have:=hA.2.2.2 e;omega
    ·try dsimp only
     repeat with_reducible first|(apply zS;intro _ R_;simp only [go_sem,↓reduceIte,f0,f3,f4,mb,mr,h4,rb,wb,wr,hi,q1.1,q1.1.symm,qb,qr];subst R_)|apply nS|apply rE
     refine aL (m:=k) (by omega) ⟨_,hs2,hff,?_⟩
     simp only [go_sem,↓reduceIte,f0,f3,f4,qb,qr,wb,wr,rb,mr]
     exact ((hl'.new (hl'.none hw)).new (hl'.none q1.2)).new hb
abbrev zT:List AV:=[.int .i64 0,.int .i64 0,.str ⟨#[]⟩,.list 0 [] 0 .nil]
theorem Mj {lv:Int} {us:List Term} {y:Term} {d:Int} (h2:(y.kind==2)=true) (hl:decide (y.n<d)=true):bX lv us y d=(y,true):=by unfold bX;rw [h2,hl];rfl
theorem Mi {lv:Int} {us:List Term} {y:Term} {d:Int} (h3:(y.kind==3)=true) (hl:decide (y.n<lv)=true):bX lv us y d=(y,true):=by
 have e:y.kind=3:=by simpa using h3
 unfold bX;rw [e,hl];rfl
def gp (y:Term) (d:Int):Term:=if y.kind==2 then ⟨y.kind,y.n - d,y.name,y.args⟩ else y
theorem Pv {lv:Int} {us:List Term} {y:Term} {d:Int} (h2:(y.kind==2)=true→decide (y.n<d)=false) (h3:(y.kind==3)=true→decide (y.n<lv)=false):bX lv us y d=jD us (gp y d) d:=by
 unfold bX gp
 cases k2:(y.kind==2)
 ·simp only [Bool.false_eq_true,if_false]
  cases k3:(y.kind==3)
  ·rfl
  ·rw [h3 k3];rfl
 ·simp only [if_true]
  rw [h2 k2];rfl
theorem TD (v:Va):Fz Tryz.prog 62 (vAV v) 0=some (.int .i64 v.level):=by
 simp only [Fz,Nw,sz_3,ag_3]
 rfl
abbrev agT (y:Term) (L:AV):List AV:=[.int .i64 y.kind,.int .i64 y.n,.str y.name,L]
theorem DV {x:Nat} {s:Sv} {h0 h:ai} (S:SObj x s h0 h) (v y:Term) (d:Int) (n0:0≤v.n) (n1:v.n<(s.ms.length:Int)) (hus:v.args.length≤1000000) (hy:-1000000≤y.n∧y.n≤1000000) (hd:0≤d∧d≤1000000) (zy my:Nat) (cy:List AV) (ty:Tok) (hLy:LeAV (.list zy cy my ty) (.list 4 (encs y.args) y.args.length .none))
  (Q:AOut→ai→Prop) (hq0:∀ z ok,bX (ak s.ms v.n).level v.args y d=(z,ok)→(z=y∨z=⟨y.kind,y.n - d,y.name,y.args⟩)→Q (.ret (.tuple [.agg (agT z (.list zy cy my ty)),.bool ok])) h) (hq1:∀ z,bX (ak s.ms v.n).level v.args y d=(z,true)→z.args=[]→Q (.ret (.tuple [.agg (agT z (.list 0 [] 0 .nil)),.bool true])) h):az Tryz.prog 163 [.ptr x 0,enc v,.agg (agT y (.list zy cy my ty)),.int .i64 d] h Q:=by
 refine eN Tryz.func163 ?_
 repeat with_reducible first|(apply zS;intro _ R_;simp only [go_sem,↓reduceIte];subst R_)|refine rG2 ?_|refine rS fun bq hbq=>?_
 intro b hb
 repeat with_reducible (apply zS;intro _ R_;simp only [go_sem,↓reduceIte];subst R_)
 intro c hc
 have e1:=aQ hc
 repeat with_reducible (apply zS;intro _ R_;simp only [go_sem,↓reduceIte,e1.1,e1.1.symm];subst R_)
 intro r hr
 have e2:=aQ hr
 have e3:=aQ e2.2
 have hl:ax (upd (upd (upd h b (some (.cells (ay v) 27))) c (some (.cells (agT y (.list zy cy my ty)) 27))) r (some (.cells zT 27))) h:=(((ax.refl h).new hb).new e1.2).new e3.2
 have mb:upd (upd (upd h b (some (.cells (ay v) 27))) c (some (.cells (agT y (.list zy cy my ty)) 27))) r (some (.cells zT 27)) b=some (.cells (ay v) 27):=by rw [ae _ _ e3.1.symm,ae _ _ e1.1.symm,upd_same]
 have mc:upd (upd (upd h b (some (.cells (ay v) 27))) c (some (.cells (agT y (.list zy cy my ty)) 27))) r (some (.cells zT 27)) c=some (.cells (agT y (.list zy cy my ty)) 27):=by rw [ae _ _ e2.1.symm,upd_same]
 have mr:upd (upd (upd h b (some (.cells (ay v) 27))) c (some (.cells (agT y (.list zy cy my ty)) 27))) r (some (.cells zT 27)) r=some (.cells zT 27):=upd_same _ _ _
 have rb:=e3.1
 have rc:=e2.1
 have cb:=e1.1
 have rh:=e3.2
 have ch:=e1.2
 generalize upd (upd (upd h b (some (.cells (ay v) 27))) c (some (.cells (agT y (.list zy cy my ty)) 27))) r (some (.cells zT 27))=H at *
 repeat with_reducible first|(apply zS;intro _ R_;simp only [go_sem,↓reduceIte];subst R_)|apply nS
 apply rN;subst hbq
 repeat with_reducible refine ah fun bq hbq=>?_
 repeat with_reducible refine ah fun bq hbq=>?_
 refine rG2 ?_
 simp only [go_sem,↓reduceIte,mc]
 apply rN;subst hbq
 repeat with_reducible refine ah fun bq hbq=>?_
 refine dB (fun τ' h'=>τ' 0=.ptr x 0∧τ' 3=.int .i64 d∧τ' 5=.ptr b 0∧τ' 6=.ptr c 0∧τ' 8=.ptr r 0∧ax h' h∧h' b=some (.cells (ay v) 27)∧h' c=some (.cells (agT (gp y d) (.list zy cy my ty)) 27)∧h' r=some (.cells zT 27)∧((y.kind==2)=true→decide (y.n<d)=false)) ?_ fun τ h' hI=>?_
 ·cases k2:(y.kind==2)
  ·have el:gp y d=y:=by unfold gp;rw [k2];rfl
   repeat with_reducible first|(apply zC;intro _ R_;simp only [go_sem,↓reduceIte,mb,mc,mr,rb,rc,cb,k2];subst R_)|apply rK
   refine aD ?_
   simp only [go_sem,↓reduceIte,el]
   exact ⟨hl,mb,mc,mr⟩
  ·have e2:y.kind=2:=by simpa using k2
   cases kd:decide (y.n<d)
   ·have el:gp y d=⟨y.kind,y.n - d,y.name,y.args⟩:=by unfold gp;rw [k2];rfl
    repeat with_reducible first|((first|apply zS|apply zC);intro _ R_;simp only [go_sem,↓reduceIte,mb,mc,mr,rb,rc,cb,k2,kd,bz (y.n - d) (by omega)];subst R_)|(apply rN;subst hbq)|refine rG2 ?_|apply nS|refine rS fun bq hbq=>?_|apply rK
    refine aD ?_
    simp only [go_sem,↓reduceIte,el,cb.symm,rc,mb,mr]
    exact hl.new ch
   ·have hq:=hq0 _ _ (Mj k2 kd) (.inl rfl)
    repeat first|(with_reducible first|((first|apply zS|apply zC);intro _ R_;simp only [go_sem,↓reduceIte,mb,mc,mr,rb,rc,cb,k2,kd];subst R_)|(apply rN;subst hbq)|refine rG2 ?_|(apply r1;clear hbq bq)|apply nS|refine rS fun bq hbq=>?_|apply rR|apply r2)|(with_reducible apply iL;refine rL (by rw [Tryz.results163]) (hl.new rh) ?_;simp only [go_sem,↓reduceIte,aJ,Option.some.injEq,exists_eq_left',mb,mc,mr,rb,rc,cb,k2,kd])
    exact hq
 clear mb mc mr hl
 obtain ⟨f0,f3,f5,f6,f8,hl,mb,mc,mr,hk2⟩:=hI
 have S':=S.more hl
 have lk:(gp y d).kind=y.kind:=by unfold gp;split <;> rfl
 have ln:(y.kind==3)=true→gp y d=y:=fun e=>by
  unfold gp;have:y.kind=3:=(by simpa using e);rw [this];rfl
 subst hbq
 repeat with_reducible refine ah fun bq hbq=>?_
 refine dB (fun τ' h''=>h''=h'∧τ' 3=.int .i64 d∧τ' 5=.ptr b 0∧τ' 6=.ptr c 0∧τ' 8=.ptr r 0∧τ' 37=.bool (y.kind==3&&decide (y.n<(ak s.ms v.n).level))) ?_ fun τ h' hI=>?_
 ·cases k3:(y.kind==3)
  ·repeat with_reducible refine ah fun bq hbq=>?_
   refine bA (.take 0 (.take 1 (.take 2 (.take 3 (.take 4 (.take 5 (.take 6 (.take 7 (.take 8 (.one 9 [5,1] (.one 10 [5,1] (.take 11 (.take 12 (.done)))))))))))))) (by kernel_rfl) (by simp only [aF,gtOf,aA];exact rfl) ?_
   repeat first|with_reducible apply nD|((first|(with_reducible apply iT;refine sT rfl ?_)|(with_reducible apply iO;refine sO rfl ?_));intro _ _ _ C_ R_ U_;simp only [go_sem,↓reduceIte,f0,f3,f5,f6,f8,mb,mc,mr,lk,k3];subst C_ R_ U_)
   refine aD ?_
   simp only [go_sem,↓reduceIte,f0,f3,f5,f6,f8]
  ·rw [ln k3] at mc
   repeat with_reducible refine ah fun bq hbq=>?_
   refine bA (.take 0 (.take 1 (.take 2 (.take 3 (.take 4 (.take 5 (.take 6 (.take 7 (.take 8 (.one 9 [5,1] (.one 10 [5,1] (.take 11 (.take 12 (.done)))))))))))))) (by kernel_rfl) (by simp only [aF,gtOf,aA];exact rfl) ?_
   repeat ((first|(with_reducible apply iT;refine sT rfl ?_)|(with_reducible apply iO;refine sO rfl ?_));intro _ _ _ C_ R_ U_;simp only [go_sem,↓reduceIte,f0,f3,f5,f6,f8,mb,mc,mr,lk,k3];subst C_ R_ U_)
   refine Ad S' n0 n1 _ ?_
   try dsimp only
   repeat first|with_reducible apply nD|((first|with_reducible apply sA|(with_reducible apply iT;refine sT rfl ?_)|(with_reducible apply iO;refine sO rfl ?_));intro _ _ _ C_ R_ U_;simp only [go_sem,↓reduceIte,f0,f3,f5,f6,f8,mb,mc,mr,lk,k3,TD];subst C_ R_ U_)
   refine aD ?_
   simp only [go_sem,↓reduceIte,f0,f3,f5,f6,f8]
 obtain ⟨rfl,g3,g5,g6,g8,g37⟩:=hI
 subst hbq
 clear f0 f3 f5 f6 f8
 cases hp:(y.kind==3&&decide (y.n<(ak s.ms v.n).level))
 case true =>
  rw [Bool.and_eq_true] at hp
  have hq:=hq0 _ _ (Mi hp.1 hp.2) (.inl rfl)
  rw [ln hp.1] at mc
  rw [hp.1,hp.2] at g37
  repeat first|(with_reducible first|((first|apply zS|apply zC);intro _ R_;simp only [go_sem,↓reduceIte,g3,g5,g6,g8,g37,mb,mc,mr,rc,rb];subst R_)|(apply rN;subst hbq)|refine rG2 ?_|(apply r1;clear hbq bq)|apply nS|refine rS fun bq hbq=>?_|apply rR)|(with_reducible apply iL;refine rL (by rw [Tryz.results163]) (hl.new rh) ?_;simp only [go_sem,↓reduceIte,aJ,Option.some.injEq,exists_eq_left',g3,g5,g6,g8,g37,mb,mc,mr,rc,rb])
  exact hq
 case false =>
  rw [hp] at g37
  have hpg0:=Pv (us:=v.args) hk2 (fun e=>by rw [e,Bool.true_and] at hp;exact hp)
  have hL0:LeAV (.list zy cy my ty) (.list 4 (encs (gp y d).args) (gp y d).args.length .none):=by unfold gp;split <;> exact hLy
  have hy0:gp y d=y∨gp y d=⟨y.kind,y.n - d,y.name,y.args⟩:=by
   unfold gp
   split
   ·exact .inr rfl
   ·exact .inl rfl
  generalize gp y d=y0 at *
  repeat with_reducible first|((first|apply zS|apply zC);intro _ R_;simp only [go_sem,↓reduceIte,g3,g5,g6,g8,g37,mb,mc,mr,rc,rb];subst R_)|(apply rN;subst hbq)|refine rG2 ?_|(refine rB fun cq hcq=>?_;subst hcq)|apply nS|refine rS fun bq hbq=>?_|apply rK
  refine aT (fun k τ h''=>∃ i:Nat,k+i=v.args.length∧kF (v.args.drop i) y0 i=kF v.args y0 0∧τ 3=.int .i64 d∧τ 5=.ptr b 0∧τ 6=.ptr c 0∧τ 8=.ptr r 0∧τ 40=.list 4 (encs v.args) v.args.length .none∧τ 41=.int .i64 v.args.length∧τ 42=.int .i64 i∧ax h'' h' ) v.args.length ?_ ?_
  ·refine ⟨0,rfl,rfl,?_⟩
   simp only [go_sem,↓reduceIte,g3,g5,g6,g8]
   exact ⟨rfl,ax.refl _⟩
  ·intro k0 hk0 k τ2 h2 hI
   obtain ⟨i,hk,hix,e3,e5,e6,e8,e40,e41,e42,hl2⟩:=hI
   subst hk0
   have nb:=hl2 _ _ mb
   have nc:=hl2 _ _ mc
   have nr:=hl2 _ _ mr
   by_cases hi:i<v.args.length
   ·obtain ⟨u,hu⟩:∃ u,v.args[i]?=some u:=⟨_,List.getElem?_eq_getElem hi⟩
    obtain ⟨q,hqd⟩:=dD v.args i hu
    have hdrop:v.args.drop i=u::v.args.drop (i+1):=by
     rw [List.drop_eq_getElem_cons hi]
     rw [List.getElem?_eq_getElem hi] at hu;injection hu with hu;rw [hu]
    rw [hdrop,kF] at hix
    repeat with_reducible first|((first|apply zS|apply zC);intro _ R_;simp only [go_sem,↓reduceIte,e3,e5,e6,e8,e40,e41,e42,hi,hqd];subst R_)|(apply rN;subst hbq)|refine rG2 ?_|(refine rB fun cq hcq=>?_;subst hcq)|apply nS|refine rS fun bq hbq=>?_|apply rK
    intro w hw
    have wb:=aj hw nb
    have wc:=aj hw nc
    have wr:=aj hw nr
    repeat with_reducible first|(apply zS;intro _ R_;simp only [go_sem,↓reduceIte,e3,e5,e6,e8,e40,e41,e42,nc,wc];subst R_)|(apply rN;subst hbq)|refine rG2 ?_|apply nS|refine rS fun bq hbq=>?_
    refine az.args (args':=[enc u,enc y0]) (.cons (LeAV.refl _) (.cons (LeAV.agg (.cons (LeAV.refl _) (.cons (LeAV.refl _) (.cons (LeAV.refl _) (.cons hL0 .nil))))) .nil)) (Tz u y0 _ _ ?_)
    cases hf:isF u y0
    ·rw [hf] at hix
     try dsimp only
     repeat with_reducible first|((first|apply zS|apply zC);intro _ R_;simp only [go_sem,↓reduceIte,e3,e5,e6,e8,e40,e41,e42,hf,bz ((i:Int)+1) (by omega)];subst R_)|(apply rN;subst hbq)|refine rG2 ?_|apply nS|apply rK|apply rE
     refine aL (m:=k - 1) (by omega) ⟨i+1,by omega,hix,?_⟩
     simp only [go_sem,↓reduceIte,e3,e5,e6,e8,e40,e41]
     exact ⟨rfl,(ax.one hw).trans hl2⟩
    ·rw [hf] at hix
     simp only [if_true] at hix
     have hpg:jD v.args y0 d=(sBnd ((v.args.length:Int) - 1 - i+d),true):=by unfold jD;rw [← hix]
     have hq:=hq1 _ (hpg0.trans hpg) rfl
     try dsimp only
     repeat with_reducible first|((first|apply zS|apply zC);intro _ R_;simp only [go_sem,↓reduceIte,e3,e5,e6,e8,e40,e41,e42,hf,nb,nr,wb,wr,iV,bz ((v.args.length:Int) - 1) (by omega),bz ((v.args.length:Int) - 1 - i) (by omega),bz ((v.args.length:Int) - 1 - i+d) (by omega)];subst R_)|(apply rN;subst hbq)|refine rG2 ?_|(apply r1;clear hbq bq)|apply nS|refine rS fun bq hbq=>?_|apply rR|apply r3|apply r4
     refine df (v:=.tuple [.agg (agT (sBnd ((v.args.length:Int) - 1 - i+d)) (.list 0 [] 0 .nil)),.bool true]) (by rw [Tryz.results163]) (((ax.one hw).trans (hl2.trans hl)).new rh) ?_ hq
     simp only [go_sem,↓reduceIte,e8,aJ,Option.some.injEq,exists_eq_left']
     exact LeAV.refl _
   ·rw [List.drop_eq_nil_of_le (by omega),kF] at hix
    have hpg:jD v.args y0 d=(y0,false):=by unfold jD;rw [← hix]
    have hq:=hq0 _ _ (hpg0.trans hpg) hy0
    repeat first|(with_reducible first|((first|apply zS|apply zC);intro _ R_;simp only [go_sem,↓reduceIte,e3,e5,e6,e8,e40,e41,e42,hi,nc,nr];subst R_)|(apply rN;subst hbq)|refine rG2 ?_|(apply x1;clear hbq bq)|apply nS|refine rS fun bq hbq=>?_|apply rXx|apply rR|apply x3|apply x4)|(with_reducible apply iL;refine rL (by rw [Tryz.results163]) ((hl2.trans hl).new rh) ?_;simp only [go_sem,↓reduceIte,aJ,Option.some.injEq,exists_eq_left',e3,e5,e6,e8,e40,e41,e42,hi,nc,nr])
    exact hq
theorem az.weakR {P:Program} {f:FuncId} {args:List AV} {h:ai} {Q:AOut→ai→Prop} (k:az P f args h fun o h'=>∃ v v',o=.ret v∧LeAV v v'∧Q (.ret v') h'):az P f args h Q:=fun n =>
 ⟨(k n).1,fun F m G W vargs hF hr s hn r=>((k n).2 F m G W vargs hF hr s hn r).mono fun e W' ⟨o,h',G',⟨v,v',ho,hle,q⟩,s',ev,ro⟩=>⟨.ret v',h',G',q,s',ev,by
  subst ho
  cases e with
  |returned x=>exact hle G' W' x ro
  |_=>exact ro⟩⟩
theorem Pw {x:Nat} {s:Sv} {h0 h:ai} (S:SObj x s h0 h) (v y:Term) (d:Int) (n0:0≤v.n) (n1:v.n<(s.ms.length:Int)) (hus:v.args.length≤1000000) (hy:-1000000≤y.n∧y.n≤1000000) (hd:0≤d∧d≤1000000)
  (Q:AOut→ai→Prop) (hq:Q (.ret (.tuple [enc (bX (ak s.ms v.n).level v.args y d).1,.bool (bX (ak s.ms v.n).level v.args y d).2])) h):az Tryz.prog 163 [.ptr x 0,enc v,enc y,.int .i64 d] h Q:=by
 refine az.weakR (DV S v y d n0 n1 hus hy hd 4 y.args.length (encs y.args) .none (LeAV.refl _) _ (fun z ok hz hz2=>?_) (fun z hz hz2=>?_))
 ·rw [hz] at hq
  have e:z.args=y.args:=by rcases hz2 with e|e <;> rw [e]
  refine ⟨_,_,rfl,?_,hq⟩
  show LeAV _ (.tuple [.agg (agT z (.list 4 (encs z.args) z.args.length .none)),.bool ok])
  rw [e]
  exact LeAV.refl _
 ·rw [hz] at hq
  refine ⟨_,_,rfl,?_,hq⟩
  show LeAV _ (.tuple [.agg (agT z (.list 4 (encs z.args) z.args.length .none)),.bool true])
  rw [hz2,bB]
  exact LeAV.tuple (.cons (LeAV.agg (.cons (LeAV.refl _) (.cons (LeAV.refl _) (.cons (LeAV.refl _) (.cons (LeAV.nil _ _ _) .nil))))) (.cons (LeAV.refl _) .nil))
theorem Oe (s:ByteArray):dL Tryz.prog 60 [(0,.str s)]=some (.agg [.str s,.list 0 [] 0 .nil]):=by
 simp only [dL,zI,SV,ik]
 rfl
theorem Od (s:ByteArray) (sz:Nat) (cs:List AV) (n:Nat) (tok:Tok):dL Tryz.prog 60 [(0,.str s),(1,.list sz cs n tok)]=some (.agg [.str s,.list sz cs n tok]):=by
 simp only [dL,zI,SV,ik]
 rfl
theorem Og (s s':ByteArray) (sz sz':Nat) (cs cs':List AV) (n n':Nat) (tok tok':Tok):bn Tryz.prog 40 2 [(0,.agg [.str s,.list sz cs n tok]),(1,.agg [.str s',.list sz' cs' n' tok'])]=some (.list 2 [.str s,.list sz cs n tok,.str s',.list sz' cs' n' tok'] 2 .full):=by
 simp only [bn,wE,Du,zI,ik]
 rfl
theorem KH {L p:Nat} {l:List ByteArray} {sz:Nat} {h0:ai} {Own:Nat→ai→Prop} (hp:h0 p=some (.cells [.list sz (encS l) l.length .none] 70)) (hsz:l=[]∨sz=1) (hl1:l.length≤1000000)
  (hR:∀ (i:Nat) (a:ByteArray) (h':ai) (Q:AOut→ai→Prop),l[i]?=some a→Own (i+1) h'→ax h' h0→(∀ h2,Own i h2→ax h2 h0→Q (.ret (.bool true)) h2)→vQ Tryz.prog L [.int .i64 i,.str a] h' Q)
  (h:ai) (Q:AOut→ai→Prop) (hO:Own l.length h) (hl:ax h h0) (hq:∀ h2,Own 0 h2→ax h2 h0→Q (.ret (.tuple [])) h2):az Tryz.prog 180 [.yield L,.ptr p 0] h Q:=by
 have mp:=hl _ _ hp
 refine eN Tryz.func180 ?_
 repeat with_reducible first|(apply zS;intro _ R_;simp only [go_sem,↓reduceIte,mp,bz ((l.length:Int) - 1) (by omega)];subst R_)|(apply rN;subst hbq)|refine rG2 ?_|(refine rB fun cq hcq=>?_;subst hcq)|apply nS|refine rS fun bq hbq=>?_
 refine aT (fun k τ h'=>∃ i:Nat,k=i∧i≤l.length∧τ 0=.yield L∧τ 1=.ptr p 0∧τ 3=.int .i64 ((i:Int) - 1)∧Own i h'∧ax h' h0) l.length ?_ ?_
 ·exact ⟨l.length,rfl,Nat.le_refl _,rfl,rfl,rfl,hO,hl⟩
 ·intro c hc k τ h' hI
  obtain ⟨i,hk,hi,f0,f1,f3,hO',hl'⟩:=hI
  subst hc
  have mp:=hl' _ _ hp
  cases i with
  |zero =>
   have c0:decide ((((0:Nat):Int) - 1)≥0)=false:=by decide
   repeat with_reducible first|((first|apply zS|apply zC);intro _ R_;simp only [go_sem,↓reduceIte,f0,f1,f3,c0];subst R_)|(apply rN;subst hbq)|refine rG2 ?_|(apply x1;clear hbq bq)|apply nS|refine rS fun bq hbq=>?_|apply rXx|apply x3|apply x4
   exact oH (by rw [Tryz.results180]) (ax.refl _) ⟨[],rfl,hq _ hO' hl'⟩
  |succ i =>
   have e1:((i+1:Nat):Int) - 1=(i:Int):=by omega
   rw [e1] at f3
   have c0:decide ((i:Int)≥0)=true:=decide_eq_true (by omega)
   have hi':i<l.length:=by omega
   obtain ⟨a,ha⟩:∃ a,l[i]?=some a:=⟨_,List.getElem?_eq_getElem hi'⟩
   have hne:l≠[]:=fun e=>by subst e;simp at hi'
   obtain rfl:sz=1:=hsz.resolve_left hne
   have d1:(List.drop i (encS l)).head?=some (.str a):=by rw [List.head?_drop,List.getElem?_map,ha];rfl
   repeat with_reducible first|((first|apply zS|apply zC);intro _ R_;simp only [go_sem,↓reduceIte,f0,f1,f3,c0];subst R_)|(apply rN;subst hbq)|refine rG2 ?_|apply nS|refine rS fun bq hbq=>?_|apply rK
   repeat with_reducible refine ah fun bq hbq=>?_
   refine bu fun cq hcq=>?_
   subst hcq
   repeat with_reducible refine ah fun bq hbq=>?_
   refine FZ fun n ds rd0=>?_
   simp only [pE,eQ,amOp,oq,aop,aR,aPut,go_sem,↓reduceIte,f0,f1,f3,mp,hi',d1]
   intro _ _ _ _ _ _
   have hrd:vQ Tryz.prog L [.int .i64 i,.str a] h' fun o h2=>o=.ret (.bool true)∧ax h2 h0∧Own i h2:=hR i a _ _ ha hO' hl' (fun h2 ho hl2=>⟨rfl,hl2,ho⟩)
   refine Hf ((hrd n).mono fun o h2 n' ⟨ho,hl2,hO2⟩=>?_)
   subst ho
   simp only [go_sem,↓reduceIte]
   intro _
   refine ⟨rfl,rfl,?_⟩
   simp only [WN]
   repeat with_reducible first|((first|apply zS|apply zC);intro _ R_;simp only [go_sem,↓reduceIte,f3,bz ((i:Int) - 1) (by omega)];subst R_)|(apply rN;subst hbq)|refine rG2 ?_|apply nS|apply rK|apply rE
   refine aL (m:=i) (by omega) ⟨i,rfl,by omega,?_⟩
   simp only [go_sem,↓reduceIte,f0,f1]
   exact ⟨hO2,hl2⟩
theorem KI (l:List ByteArray) (sz:Nat) (h:ai) (Q:AOut→ai→Prop) (hq:∀ p,h p=Option.none→Q (.ret (.func (.func 180) [] [.ptr p 0])) (upd h p (some (.cells [.list sz (encS l) l.length .none] 70)))):az Tryz.prog 169 [.list sz (encS l) l.length .none] h Q:=by
 refine eN Tryz.func169 ?_
 repeat with_reducible first|(apply zS;intro _ R_;simp only [go_sem,↓reduceIte];subst R_)|refine rG2 ?_|refine rS fun bq hbq=>?_
 intro p hp
 repeat first|(with_reducible first|(apply zS;intro _ R_;simp only [go_sem,↓reduceIte];subst R_)|(apply rN;subst hbq)|refine rG2 ?_|apply nS|refine rS fun bq hbq=>?_|apply rR)|(with_reducible apply iL;refine rL (by rw [Tryz.results169]) (ax.refl _) ?_;simp only [go_sem,↓reduceIte,aJ,Option.some.injEq,exists_eq_left'])
 exact hq p hp
theorem xA (l:List ByteArray) (sz:Nat) (hsz:l=[]∨sz=1) (hl1:l.length≤1000000) (to:Ty) (h:ai) (Q:AOut→ai→Prop) (hq:Q (.ret (qA (bK l to))) h):az Tryz.prog 158 [.list sz (encS l) l.length .none,qA to] h Q:=by
 intro n0
 refine gT.of_semM (fn:=Tryz.f158) Tryz.func158 rfl (by kernel_rfl) (by rw [Tryz.ntmps158];simp) (enters_of Tryz.func158 (by kernel_rfl) (by kernel_rfl)) ?_
 refine NSem.seqN (fun τ h'=>∃ c r,τ 0=.list sz (encS l) l.length .none∧τ 3=.ptr c 0∧τ 4=.ptr r 0∧ax h' h∧h' c=some (.cells (cB to) 60)∧h' r=some (.cells [.str ⟨#[]⟩,.list 0 [] 0 .nil] 60)∧h c=Option.none∧h r=Option.none∧r≠c) ?_ fun τ h1 n1 hI=>?_
 ·try dsimp only
  repeat with_reducible first|(apply zS;intro _ R_;simp only [go_sem,↓reduceIte];subst R_)|refine rG2 ?_
  intro c hc
  repeat with_reducible (apply zS;intro _ R_;simp only [go_sem,↓reduceIte];subst R_)
  intro r hr
  have e:=aQ hr
  repeat with_reducible apply nS
  refine BZ ⟨c,r,?_⟩
  simp only [go_sem,↓reduceIte,e.1,e.1.symm]
  exact ⟨((ax.refl h).new hc).new e.2,hc,e.2,e.1⟩
 obtain ⟨c,r,f0,f3,f4,hl1',mc,mr,nc,nr,rc⟩:=hI
 refine .seq ?_
 refine NSem.seqN (fun τ h'=>∃ p,τ 3=.ptr c 0∧τ 4=.ptr r 0∧τ 8=.func (.func 180) [] [.ptr p 0]∧ax h' h1∧h' p=some (.cells [.list sz (encS l) l.length .none] 70)∧p≠c∧p≠r∧h1 p=Option.none) ?_ fun τ h2 n2 hI=>?_
 ·try dsimp only
  repeat with_reducible first|(apply zS;intro _ R_;simp only [go_sem,↓reduceIte,f0];subst R_)|refine rG2 ?_
  refine KI l sz _ _ fun p hp=>?_
  try dsimp only
  repeat with_reducible apply nS
  refine BZ ⟨p,?_⟩
  simp only [go_sem,↓reduceIte,f3,f4]
  exact ⟨ax.one hp,fun e=>aj hp mc e.symm,fun e=>aj hp mr e.symm,hp⟩
 clear f0 f3 f4
 obtain ⟨p,f3,f4,f8,hl2,mp,pc,pr,np⟩:=hI
 refine .block (.hideRF fun asg bd hasg hbd=>.of_fresh fun hfresh=>?_)
 have fD:h2 n2=Option.none:=hfresh _ (Nat.le_refl _)
 have fL:h2 (n2+1)=Option.none:=hfresh _ (Nat.le_succ _)
 have hDL:n2≠n2+1:=by omega
 refine NSem.rangeFunc rfl (f:=180) (first:=[]) (cap:=[.ptr p 0]) f8 ?_
 show gT Tryz.prog 180 [.yield (n2+1),.ptr p 0] (upd (upd h2 n2 (some .defs)) (n2+1) (some (.loop .ready Option.none Tryz.f158.ntmps τ [9,10] asg bd n2))) (n2+2) _
 obtain ⟨L,hLdef⟩:∃ L,L=n2+1:=⟨_,rfl⟩
 rw [← hLdef] at fL hDL ⊢
 have mc:=hl2 _ _ mc
 have mr:=hl2 _ _ mr
 have cL:c≠L:=fun e=>by rw [e,fL] at mc;cases mc
 have cD:c≠n2:=fun e=>by rw [e,fD] at mc;cases mc
 have rL:r≠L:=fun e=>by rw [e,fL] at mr;cases mr
 have rD:r≠n2:=fun e=>by rw [e,fD] at mr;cases mr
 have pL':p≠L:=fun e=>by rw [e,fL] at mp;cases mp
 have pD:p≠n2:=fun e=>by rw [e,fD] at mp;cases mp
 let Own:Nat→ai→Prop:=fun i H=>H L=some (.loop .ready Option.none Tryz.f158.ntmps τ [9,10] asg bd n2)∧∃ zs cs tok,H c=some (.cells [.str (bK (l.drop i) to).name,.list zs cs (bK (l.drop i) to).args.length tok] 60)∧LeAV (.list zs cs (bK (l.drop i) to).args.length tok) (.list 2 (dE (bK (l.drop i) to).args) (bK (l.drop i) to).args.length .none)
 obtain ⟨H0,hH0⟩:∃ H0,H0=cutH [L,c] (upd (upd h2 n2 (some .defs)) L (some (.loop .ready Option.none Tryz.f158.ntmps τ [9,10] asg bd n2))):=⟨_,rfl⟩
 have zL:H0 L=Option.none:=by rw [hH0];exact NV (by simp)
 have zc:H0 c=Option.none:=by rw [hH0];exact NV (by simp)
 have at0:∀ j o,h2 j=some o→j≠c→H0 j=some o:=fun j o hj hjc=>by
  have e1:j≠L:=by intro e;rw [e,fL] at hj;cases hj
  have e2:j≠n2:=by intro e;rw [e,fD] at hj;cases hj
  rw [hH0,NW (by simp [e1,hjc]),ae _ _ e1,ae _ _ e2];exact hj
 have zD:H0 n2=some .defs:=by rw [hH0,NW (by simp [hDL,cD.symm]),ae _ _ hDL,upd_same]
 have zless:ax (upd (upd h2 n2 (some .defs)) L (some (.loop .ready Option.none Tryz.f158.ntmps τ [9,10] asg bd n2))) H0:=by rw [hH0];exact NU _ _
 have call:=KH (L:=L) (p:=p) (l:=l) (sz:=sz) (h0:=H0) (Own:=Own) (at0 _ _ mp pc) hsz hl1 (by
   intro i a h' Q ha hO hl0 hqT
   obtain ⟨oL,zs,cs,tok,oc,hle⟩:=hO
   have hdrop:l.drop i=a::l.drop (i+1):=by
    obtain ⟨hi,he⟩:=List.getElem?_eq_some_iff.1 ha
    rw [List.drop_eq_getElem_cons hi,he]
   refine vQ.of_sem (args:=[.int .i64 i,.str a]) oL rfl ?_
   show bE _ asg _ (eupd (eupd τ 9 (.int .i64 i)) 10 (.str a)) _
   rw [hasg]
   repeat with_reducible first|(apply zS;intro _ R_;simp only [go_sem,↓reduceIte];subst R_)|refine rG2 ?_|apply nS
   refine ⟨_,_,_,_,_,_,oL,?_⟩
   rw [hbd]
   have oc2:upd h' L (some (.loop .busy Option.none Tryz.f158.ntmps τ [9,10] asg bd n2)) c=some (.cells [.str (bK (l.drop (i+1)) to).name,.list zs cs (bK (l.drop (i+1)) to).args.length tok] 60):=by rw [ae _ _ cL];exact oc
   have oL2:upd h' L (some (.loop .busy Option.none Tryz.f158.ntmps τ [9,10] asg bd n2)) L=some (.loop .busy Option.none Tryz.f158.ntmps τ [9,10] asg bd n2):=upd_same _ _ _
   have hl2':ax (upd h' L (some (.loop .busy Option.none Tryz.f158.ntmps τ [9,10] asg bd n2))) H0:=hl0.new zL
   rw [← hbd]
   generalize upd h' L (some (.loop .busy Option.none Tryz.f158.ntmps τ [9,10] asg bd n2))=H2 at *
   rw [hbd]
   repeat with_reducible first|(apply zS;intro _ R_;simp only [go_sem,↓reduceIte,f3,oc2,Oe,Og,Od];subst R_)|refine rG2 ?_|(refine rB fun cq hcq=>?_;subst hcq)|apply nS|apply rE
   refine ⟨_,_,_,_,_,_,(ae _ _ cL.symm).trans oL2,hqT _ ⟨upd_same _ _ _,?_⟩ ((hl2'.new zc).new zL)⟩
   rw [hdrop,bK]
   refine ⟨2,[.str a,.list 0 [] 0 .nil,.str (bK (l.drop (i+1)) to).name,.list zs cs (bK (l.drop (i+1)) to).args.length tok],.full,?_,?_⟩
   ·rw [ae _ _ cL,upd_same];rfl
   ·have e:dE [⟨a,[]⟩,bK (l.drop (i+1)) to]=[.str a,.list 2 (dE []) 0 .none,.str (bK (l.drop (i+1)) to).name,.list 2 (dE (bK (l.drop (i+1)) to).args) (bK (l.drop (i+1)) to).args.length .none]:=by
     rw [lZ];simp
    rw [e]
    refine fun G W v hr=>LeAV.listL (.cons (LeAV.refl _) (.cons ?_ (.cons (LeAV.refl _) (.cons hle .nil)))) G W v (LeAV.list _ _ _ _ G W v hr)
    rw [dE]
    exact LeAV.nil _ _ _)
  (upd (upd h2 n2 (some .defs)) L (some (.loop .ready Option.none Tryz.f158.ntmps τ [9,10] asg bd n2)))
  (fun out h'=>out=.ret (.tuple [])∧ax h' H0∧Own 0 h')
  ⟨upd_same _ _ _,by
   rw [List.drop_length,bK]
   exact ⟨2,dE to.args,.none,by rw [ae _ _ cL,ae _ _ cD];exact mc,LeAV.refl _⟩⟩ zless (fun h3 hO hl=>⟨rfl,hl,hO⟩)
 refine (call (n2+2)).mono fun out h5 n5 hq5=>?_
 obtain ⟨rfl,hl5,oL,zs,cs,tok,oc,hle⟩:=hq5
 rw [List.drop_zero] at oc hle
 refine ⟨.ready,Option.none,_,_,_,_,_,_,by rw [← hLdef];exact oL,by decide,?_⟩
 show NSem Tryz.prog _ _ _ _
 have mr5:=hl5 _ _ (at0 _ _ mr rc)
 have hD5:=hl5 _ _ zD
 refine NSem.seqN (fun τ' h3=>τ' 4=.ptr r 0∧h3=upd (upd h5 L Option.none) r (some (.cells [.str (bK l to).name,.list zs cs (bK l to).args.length tok] 60))) ?_ fun τ' h3 n3 hI=>.ret ?_
 ·rw [← hLdef]
  have oc':upd h5 L Option.none c=some (.cells [.str (bK l to).name,.list zs cs (bK l to).args.length tok] 60):=by rw [ae _ _ cL];exact oc
  have mr':upd h5 L Option.none r=some (.cells [.str ⟨#[]⟩,.list 0 [] 0 .nil] 60):=by rw [ae _ _ rL];exact mr5
  try dsimp only
  repeat with_reducible first|(apply zS;intro _ R_;simp only [go_sem,↓reduceIte,f3,f4,oc',mr'];subst R_)|refine rG2 ?_|apply nS
  refine BZ ?_
  simp only [go_sem,↓reduceIte,f4]
 ·obtain ⟨g4,rfl⟩:=hI
  have hhL:h L=Option.none:=hl1'.none (hl2.none fL)
  have hhD:h n2=Option.none:=hl1'.none (hl2.none fD)
  have nDr:n2≠r:=rD.symm
  refine ⟨by show upd (upd h5 L Option.none) r _ n2=_;rw [ae _ _ nDr,ae _ _ hDL];exact hD5,[.agg [.str (bK l to).name,.list zs cs (bK l to).args.length tok]],?_,EndV.weak (gF.of (LeAV.agg (.cons (LeAV.refl _) (.cons hle .nil))) (show ax (upd (upd (upd h5 L Option.none) r (some (.cells [.str (bK l to).name,.list zs cs (bK l to).args.length tok] 60))) n2 Option.none) h from fun j y hj=>?_)) fun _=>hq⟩
  ·rw [Tryz.results158]
   have hrn:upd (upd (upd h5 L Option.none) r (some (.cells [.str (bK l to).name,.list zs cs (bK l to).args.length tok] 60))) n2 Option.none r=some (.cells [.str (bK l to).name,.list zs cs (bK l to).args.length tok] 60):=by rw [ae _ _ rD,upd_same]
   simp only [go_sem,↓reduceIte,g4,hrn,rD,rD.symm]
  ·have e1:j≠n2:=fun e=>by subst e;rw [hhD] at hj;cases hj
   have e2:j≠L:=fun e=>by subst e;rw [hhL] at hj;cases hj
   have e3:j≠r:=fun e=>by subst e;rw [nr] at hj;cases hj
   have e4:j≠c:=fun e=>by subst e;rw [nc] at hj;cases hj
   rw [ae _ _ e1,ae _ _ e3,ae _ _ e2]
   exact hl5 _ _ (at0 _ _ (hl2 _ _ (hl1' _ _ hj)) e4)
theorem SObj.drop {x:Nat} {s:Sv} {A H:ai} (S:SObj x s A H) {f:Nat} {o:AObj} (hf:A f=some o):SObj x s (upd A f Option.none) (upd H f Option.none):=by
 obtain ⟨m,vv,raw,c,base,es,B⟩:=S
 have xf:x≠f:=fun e=>by have:=B.x0;rw [e,hf] at this;cases this
 have mf:m≠f:=fun e=>by have:=B.m0;rw [e,hf] at this;cases this
 refine ⟨m,vv,raw,c,base,es,(ae _ _ xf).trans B.hx,(ae _ _ mf).trans B.hm,B.rel,?_,B.ms,B.low,(ae _ _ xf).trans B.x0,(ae _ _ mf).trans B.m0,fun j y hj=>?_⟩
 ·rcases B.vals with h|⟨p,e,hp,hp0⟩
  ·exact .inl h
  ·have pf:p≠f:=fun e=>by rw [e,hf] at hp0;cases hp0
   exact .inr ⟨p,e,(ae _ _ pf).trans hp,(ae _ _ pf).trans hp0⟩
 ·by_cases e:j=f
  ·subst e;rw [upd_same] at hj;cases hj
  ·rw [ae _ _ e] at hj ⊢;exact B.less _ _ hj
theorem iE {x:Nat} {s:Sv} {h0 A H:ai} (S:SObj x s A H) {tS tX E:TypeId} {z b:Nat} {zv:Value} (hS:dm Tryz.prog tS=some E) (hX:dm Tryz.prog tX=some E) (hz:tsz Tryz.prog E=some z) (hb:bv Tryz.prog E=some b) (hv:bI Tryz.prog E=some zv) (hc:zv.cells.size=z∧0<b)
  {p:Nat} (hA:ax A h0) (hp:H p=Option.none) {sz1 sz2 n1 n2:Nat} {c1 c2:List AV} {t t2:Tok} (hg:Grow E h0 A t) (h1:n1=0∨sz1=z) (h2:sz2=z) (hn:n2≠0) (hm:(n1+n2) * b≤70368744177664) :
  ∃ A' H',dX Tryz.prog tS tX (.list sz1 c1 n1 t) (.list sz2 c2 n2 t2) H p=some (.list z (c1++c2) (n1+n2) (.id p),H')∧SObj x s A' H'∧Grow E h0 A' (.id p)∧ax A' h0∧∀ j o,A j=some o→t≠.id j→A' j=some o:=by
 have hpA:=S.lessOf.none hp
 have hp0:=hA.none hpA
 rcases hg with (rfl|rfl)|⟨f,rfl,hf,hf0⟩
 ·refine ⟨upd A p (some (.front E)),upd H p (some (.front E)),?_,S.add hp _,.inr ⟨p,rfl,upd_same _ _ _,hp0⟩,hA.new hp0,fun j o hj _=>?_⟩
  ·simp only [dX,hS,hX,hz,hb,hv]
   rw [if_pos ⟨h1,.inr h2,hc.2,hm,hc.1⟩,if_neg hn]
  ·rw [ae _ _ (aj hpA hj)];exact hj
 ·refine ⟨upd A p (some (.front E)),upd H p (some (.front E)),?_,S.add hp _,.inr ⟨p,rfl,upd_same _ _ _,hp0⟩,hA.new hp0,fun j o hj _=>?_⟩
  ·simp only [dX,hS,hX,hz,hb,hv]
   rw [if_pos ⟨h1,.inr h2,hc.2,hm,hc.1⟩,if_neg hn]
  ·rw [ae _ _ (aj hpA hj)];exact hj
 ·have hfH:=S.lessOf _ _ hf
  have hpf:p≠f:=fun e=>by rw [e,hfH] at hp;cases hp
  have S1:=S.drop hf
  refine ⟨upd (upd A f Option.none) p (some (.front E)),upd (upd H f Option.none) p (some (.front E)),?_,S1.add (by rw [ae _ _ hpf];exact hp) _,.inr ⟨p,rfl,upd_same _ _ _,hp0⟩,(eO hA hf0 _).new hp0,fun j o hj hjf=>?_⟩
  ·simp only [dX,hS,hX,hz,hb,hv]
   rw [if_pos ⟨h1,.inr h2,hc.2,hm,hc.1⟩,if_neg hn]
   simp only [hfH]
   rw [if_pos ⟨trivial,hn⟩]
  ·have e1:j≠f:=fun e=>hjf (by rw [e])
   rw [ae _ _ (aj hpA hj),ae _ _ e1];exact hj
abbrev cZ (l:List Nat):List AV:=l.map fun (k:Nat)=>AV.int .i64 (k:Int)
abbrev og (n:Int):List AV:=[.int .i64 2,.int .i64 n,.str aB,.list 0 [] 0 .nil]
def rawB (n:Nat) (keep:List Nat):List AV:=keep.flatMap fun (k:Nat)=>og ((n:Int) - 1 - (k:Int))
theorem Er (n:Int):LeL (og n) (ay (sBnd n)):=by
 refine .cons (LeAV.refl _) (.cons (LeAV.refl _) (.cons (LeAV.refl _) (.cons ?_ .nil)))
 show LeAV _ (.list 4 (encs []) 0 .none)
 rw [bB]
 exact LeAV.nil _ _ _
theorem LeL.append {a b c d:List AV} (h:LeL a b) (k:LeL c d):LeL (a++c) (b++d):=by
 induction h with
 |nil=>exact k
 |cons h _ ih=>exact .cons h ih
theorem Gq (n:Nat):∀ keep:List Nat,LeL (rawB n keep) (encs (bR n keep))
 |[]=>by rw [show bR n []=[] from rfl,bB];exact .nil
 |k::keep=>by
  have e:encs (bR n (k::keep))=ay (sBnd ((n:Int) - 1 - (k:Int)))++encs (bR n keep):=by
   rw [dh,dh];simp [bR]
  rw [e]
  exact LeL.append (Er _) (Gq n keep)
theorem DN {n:Nat} {keep:List Nat} {i k:Nat} (h:keep[i]?=some k):rawB n (keep.take (i+1))=rawB n (keep.take i)++og ((n:Int) - 1 - k):=by
 unfold rawB
 rw [List.take_add_one,h,List.flatMap_append];simp
theorem Aj {l:List ByteArray} {keep:List Nat} {i k:Nat} (h:keep[i]?=some k):aU l (keep.take (i+1))=aU l (keep.take i)++[l.getD k aB]:=by
 unfold aU
 rw [List.take_add_one,h,List.map_append];rfl
theorem kY {E E':TypeId} {h0 A:ai} {t t':Tok} (hne:E≠E') (h:Grow E h0 A t) (h':Grow E' h0 A t'):∀ f,t'=.id f→t≠.id f:=by
 intro f hf hf2
 rcases h with h|⟨g,eg,hg,_⟩
 ·rcases h with h|h <;> rw [h] at hf2 <;> cases hf2
 ·rcases h' with h'|⟨g',eg',hg',_⟩
  ·rcases h' with h'|h' <;> rw [h'] at hf <;> cases hf
  ·rw [eg] at hf2;rw [eg'] at hf
   injection hf2 with hf2;injection hf with hf
   subst hf2;subst hf
   rw [hg] at hg'
   injection hg' with hg';injection hg' with hg'
   exact hne hg'
theorem Grow.stay {E:TypeId} {h0 A A':ai} {t':Tok} (h':Grow E h0 A t') {t:Tok} (hne:∀ f,t'=.id f→t≠.id f) (hk:∀ j o,A j=some o→t≠.id j→A' j=some o):Grow E h0 A' t':=by
 rcases h' with h'|⟨g,eg,hg,hg0⟩
 ·exact .inl h'
 ·exact .inr ⟨g,eg,hk _ _ hg (hne g eg),hg0⟩
theorem aN {E:TypeId} {h0 A:ai} {t:Tok} (h:Grow E h0 A t) {j:Nat} {cs:List AV} {T:TypeId} (hj:A j=some (.cells cs T)):t≠.id j:=by
 intro e
 rcases h with h|⟨g,eg,hg,_⟩
 ·rcases h with h|h <;> rw [h] at e <;> cases e
 ·rw [eg] at e;injection e with e;subst e;rw [hg] at hj;cases hj
theorem Grow.putA {E:TypeId} {h0 A:ai} {t:Tok} (h:Grow E h0 A t) {j:Nat} {cs:List AV} {T:TypeId} (hj:A j=some (.cells cs T)) {A':ai} (hk:∀ i o,i≠j→A i=some o→A' i=some o):Grow E h0 A' t:=by
 rcases h with h|⟨g,eg,hg,hg0⟩
 ·exact .inl h
 ·exact .inr ⟨g,eg,hk _ _ (fun e=>by subst e;rw [hg] at hj;cases hj) hg,hg0⟩
theorem E8:dL Tryz.prog 27 [(0,.int .i64 4)]=some (.agg [.int .i64 4,.int .i64 0,.str aB,.list 0 [] 0 .nil]):=by
 simp only [dL,iy,JQ,ik]
 rfl
theorem IG (n:Nat) (keep:List Nat) (zA:Nat) (tok:Tok) (h:keep=[]∨zA=4):LeAV (.list zA (rawB n keep) keep.length tok) (.list 4 (encs (bR n keep)) (bR n keep).length .none):=by
 have hl:(bR n keep).length=keep.length:=by simp [bR]
 rw [hl]
 rcases h with rfl|rfl
 ·rw [show bR n []=[] from rfl,bB]
  exact LeAV.nil _ _ _
 ·exact fun G W v hr=>LeAV.listL (Gq n keep) G W v (LeAV.list _ _ _ _ G W v hr)
theorem Gb {x:Nat} {s:Sv} {h0 h:ai} (S:SObj x s h0 h) (hbl:s.ms.length≤1000000) {n:Int} (n0:0≤n) (n1:n<(s.ms.length:Int)) (keep:List Nat) (hk:∀ k ∈ keep,k<aX (ak s.ms n).type) (h8:keep.length≤8) (zk:Nat) (hzk:keep=[]∨zk=1) (Q:AOut→ai→Prop)
  (hq:∀ s' h2,jh s n keep=.ok s'→SObj x s' h0 h2→Q (.ret (.tuple [])) h2) (hp:∀ v h2,PanV (jh s n keep) v→ax h2 h0→Q (.panic v) h2):az Tryz.prog 144 [.ptr x 0,.int .i64 n,.list zk (cZ keep) keep.length .none] h Q:=by
 refine eN Tryz.func144 ?_
 repeat with_reducible first|(apply zS;intro _ R_;simp only [go_sem,↓reduceIte];subst R_)|refine rG2 ?_|refine rS fun bq hbq=>?_
 refine Ad S n0 n1 _ ?_
 try dsimp only
 repeat with_reducible (apply zS;intro _ R_;simp only [go_sem,↓reduceIte];subst R_)
 intro a ha
 repeat with_reducible first|(apply zS;intro _ R_;simp only [go_sem,↓reduceIte];subst R_)|(apply rN;subst hbq)|refine rG2 ?_|apply nS|refine rS fun bq hbq=>?_
 refine rP _ _ _ ?_
 rw [nX]
 obtain ⟨A,S,aa,hA,_⟩:=S.loc ha (.cells (bO (ak s.ms n)) 62)
 generalize upd h a (some (.cells (bO (ak s.ms n)) 62))=H at *
 have sa:=S.lessOf _ _ aa
 try dsimp only
 repeat with_reducible first|(apply zS;intro _ R_;simp only [go_sem,↓reduceIte,E8];subst R_)|(apply rN;subst hbq)|refine rG2 ?_|apply nS|refine rS fun bq hbq=>?_
 intro b hb
 have ba:=aj hb sa
 repeat with_reducible first|(apply zS;intro _ R_;simp only [go_sem,↓reduceIte,ba,sa];subst R_)|(apply rN;subst hbq)|refine rG2 ?_|(refine rB fun cq hcq=>?_;subst hcq)|apply nS|refine rS fun bq hbq=>?_
 obtain ⟨A2,S,ab,hA2,hAb⟩:=S.loc hb (.cells [.int .i64 4,.int .i64 0,.str aB,.list 0 [] 0 .nil] 27)
 have aa:=hA2 _ _ aa
 generalize upd H b (some (.cells [.int .i64 4,.int .i64 0,.str aB,.list 0 [] 0 .nil] 27))=H2 at *
 have hb0:=hA.none hAb
 have hA:=hA2.trans hA
 clear hA2 ba sa
 have har:(nmsF (ak s.ms n)).length=aX (ak s.ms n).type:=rfl
 have ha8:=fT (ak s.ms n).type
 skip
 refine aT (fun k τ H=>∃ (i:Nat) (A:ai) (zN zA:Nat) (tN tA:Tok),k+i=keep.length∧SObj x s A H∧ax A h0∧A a=some (.cells (bO (ak s.ms n)) 62)∧A b=some (.cells [.int .i64 4,.int .i64 0,.str aB,.list zA (rawB (nmsF (ak s.ms n)).length (keep.take i)) i tA] 27) ∧
   τ 0=.ptr x 0∧τ 1=.int .i64 n∧τ 6=.ptr a 0∧τ 7=.list 1 (encS (nmsF (ak s.ms n))) (nmsF (ak s.ms n)).length .none∧τ 9=.list zN (encS (aU (nmsF (ak s.ms n)) (keep.take i))) i tN∧τ 10=.ptr b 0∧τ 23=.list zk (cZ keep) keep.length .none∧τ 24=.int .i64 keep.length∧τ 25=.int .i64 i ∧
   (i=0∨zN=1)∧(i=0∨zA=4)∧Grow 9 h0 A tN∧Grow 27 h0 A tA) keep.length ?_ ?_
 ·exact ⟨0,A2,0,0,.nil,.nil,rfl,S,hA,aa,ab,rfl,rfl,rfl,rfl,rfl,rfl,rfl,rfl,rfl,.inl rfl,.inl rfl,.inl (.inr rfl),.inl (.inr rfl)⟩
 ·intro c hc k τ H hI
  clear S aa ab hA
  obtain ⟨i,A,zN,zA,tN,tA,hki,S,hA,aa,ab,f0,f1,f6,f7,f9,f10,f23,f24,f25,hzN,hzA,hgN,hgA⟩:=hI
  subst hc
  have sa:=S.lessOf _ _ aa
  have sb:=S.lessOf _ _ ab
  by_cases hi:i<keep.length
  ·obtain ⟨kk,hkk⟩:∃ kk,keep[i]?=some kk:=⟨_,List.getElem?_eq_getElem hi⟩
   have hklt:=hk kk (List.mem_of_getElem? hkk)
   have hne:keep≠[]:=fun e=>by subst e;simp at hi
   obtain rfl:zk=1:=hzk.resolve_left hne
   have d1:(List.drop i (cZ keep)).head?=some (.int .i64 (kk:Int)):=by rw [List.head?_drop,List.getElem?_map,hkk];rfl
   have hkn:kk<(nmsF (ak s.ms n)).length:=hklt
   have d2:(List.drop kk (encS (nmsF (ak s.ms n)))).head?=some (.str ((nmsF (ak s.ms n)).getD kk aB)):=by
    rw [List.head?_drop,List.getElem?_map,List.getD_eq_getElem?_getD,List.getElem?_eq_getElem hkn];rfl
   repeat with_reducible first|((first|apply zS|apply zC);intro _ R_;simp only [go_sem,↓reduceIte,f0,f1,f6,f7,f9,f10,f23,f24,f25,hi,d1,d2,hkn,lC];subst R_)|(apply rN;subst hbq)|refine rG2 ?_|(refine rB fun cq hcq=>?_;subst hcq)|apply nS|refine rS fun bq hbq=>?_|apply rK
   refine aZ ?_
   simp only [go_sem,↓reduceIte]
   intro w hw
   obtain ⟨A3,H3,ea,S3,hgN3,hA3,hkp⟩:=iE S qB qB sz_9 by_9 ze_9 ⟨rfl,by decide⟩ hA hw (sz1:=zN) (n1:=i) (c1:=encS (aU (nmsF (ak s.ms n)) (keep.take i))) (c2:=[.str ((nmsF (ak s.ms n)).getD kk aB)]) (n2:=1) (t2:=.full) hgN hzN (sz2:=1) rfl (by decide) (by omega)
   have ab3:=hkp _ _ ab (aN hgN ab)
   have aa3:=hkp _ _ aa (aN hgN aa)
   have hgA3:=hgA.stay (kY (by decide) hgN hgA) hkp
   have sb3:=S3.lessOf _ _ ab3
   simp only [ea,go_sem,↓reduceIte]
   repeat with_reducible first|(apply zS;intro _ R_;simp only [go_sem,↓reduceIte,f0,f1,f6,f7,f9,f10,f23,f24,f25,sb3,iV,mU,bz (((nmsF (ak s.ms n)).length:Int) - 1) (by omega),bz (((nmsF (ak s.ms n)).length:Int) - 1 - kk) (by omega)];subst R_)|(apply rN;subst hbq)|refine rG2 ?_
   refine aZ ?_
   simp only [go_sem,↓reduceIte]
   intro w4 hw4
   obtain ⟨A4,H4,ea4,S4,hgA4,hA4,hkp4⟩:=iE S3 ed ed je mD iy ⟨rfl,by decide⟩ hA3 hw4 (sz1:=zA) (n1:=i) (c1:=rawB (nmsF (ak s.ms n)).length (keep.take i)) (c2:=og (((nmsF (ak s.ms n)).length:Int) - 1 - kk)) (n2:=1) (t2:=.full) hgA3 hzA (sz2:=4) rfl (by decide) (by omega)
   have ab4:=hkp4 _ _ ab3 (aN hgA3 ab3)
   have aa4:=hkp4 _ _ aa3 (aN hgA3 aa3)
   have hgN4:=hgN3.stay (kY (by decide) hgA3 hgN3) hkp4
   have sb4:=S4.lessOf _ _ ab4
   simp only [ea4,go_sem,↓reduceIte,f10,sb4]
   have hba:b≠a:=fun e=>by rw [e,aa] at ab;injection ab with ab;injection ab with _ ab;cases ab
   repeat with_reducible first|(apply zS;intro _ R_;simp only [go_sem,↓reduceIte,f0,f1,f6,f7,f10,f23,f24,f25,sb4,bz ((i:Int)+1) (by omega)];subst R_)|(apply rN;subst hbq)|refine rG2 ?_|apply nS|apply rE
   obtain ⟨A5,S5,ab5,hA5,hkp5⟩:=S4.wr hA4 ab4 hb0 (.cells [.int .i64 4,.int .i64 0,.str aB,.list 4 (rawB (nmsF (ak s.ms n)).length (keep.take i)++og (((nmsF (ak s.ms n)).length:Int) - 1 - kk)) (i+1) (.id w4)] 27)
   refine aL (m:=k - 1) (by omega) ⟨i+1,A5,1,4,.id w,.id w4,by omega,S5,hA5,hkp5 _ _ hba.symm aa4,?_,?_⟩
   ·rw [DN hkk];exact ab5
   ·rw [Aj hkk]
    simp only [go_sem,↓reduceIte,f0,f1,f6,f7,f10,f23,f24,f25]
    refine ⟨?_,rfl,.inr trivial,.inr trivial,hgN4.putA ab4 hkp5,hgA4.putA ab4 hkp5⟩
    simp
  ·have hie:i=keep.length:=by omega
   have htk:keep.take i=keep:=by rw [hie];exact List.take_length
   rw [htk] at ab f9
   have hnl:(aU (nmsF (ak s.ms n)) keep).length=keep.length:=by simp [aU]
   repeat with_reducible first|((first|apply zS|apply zC);intro _ R_;simp only [go_sem,↓reduceIte,f0,f1,f6,f7,f9,f10,f23,f24,f25,hi];subst R_)|(apply rN;subst hbq)|refine rG2 ?_|(apply x1;clear hbq bq)|apply nS|refine rS fun bq hbq=>?_|apply rXx|apply x3|apply x4
   repeat with_reducible refine ah fun bq hbq=>?_
   refine bA (.take 0 (.take 1 (.take 2 (.take 3 (.take 4 (.take 5 (.one 6 [2] (.one 7 [2] (.one 8 [] (.take 9 (.one 10 [] (.done)))))))))))) (by kernel_rfl) (by simp only [aF,gtOf,aA];exact rfl) ?_
   repeat ((first|(with_reducible apply iT;refine sT rfl ?_)|(with_reducible apply iO;refine sO rfl ?_));intro _ _ _ C_ R_ U_;simp only [go_sem,↓reduceIte,f0,f1,f6,f9,f10,sa];subst C_ R_ U_)
   refine si _ _ _ ?_
   try dsimp only
   repeat ((first|with_reducible apply sA|(with_reducible apply iO;refine sO rfl ?_));intro _ _ _ C_ R_ U_;simp only [go_sem,↓reduceIte,f0,f1,f6,f9,f10,sa];subst C_ R_ U_)
   refine az.args (args':=[.list zN (encS (aU (nmsF (ak s.ms n)) keep)) (aU (nmsF (ak s.ms n)) keep).length .none,qA (bU (ak s.ms n).type)]) (.cons (by rw [hnl,← hie];exact LeAV.list _ _ _ _) (.cons (LeAV.refl _) .nil)) (xA (aU (nmsF (ak s.ms n)) keep) zN (by
    rcases hzN with e|e
    ·left;rw [← htk,e];rfl
    ·exact .inr e) (by omega) _ _ _ ?_)
   try dsimp only
   repeat ((first|with_reducible apply sA|(with_reducible apply i0;refine s0 rfl ?_));intro _ _ _ C_ R_ U_;simp only [go_sem,↓reduceIte,f0,f1,f6,f9,f10,sa];subst C_ R_ U_)
   refine yD S (ak s.ms n).level (bK (aU (nmsF (ak s.ms n)) keep) (bU (ak s.ms n).type)) hbl _ (fun s' m H5 hfr S5=>?_) (fun v H5 hpv hl5=>?_)
   ·have ab5:=S5.lessOf _ _ ab
    have aa5:=S5.lessOf _ _ aa
    try dsimp only
    repeat first|(with_reducible first|(apply rN;subst hbq)|refine rG2 ?_|apply nD)|((first|with_reducible apply sS|(with_reducible apply iT;refine sT rfl ?_)|(with_reducible apply i0;refine s0 rfl ?_));intro _ _ _ C_ R_ U_;simp only [go_sem,↓reduceIte,f0,f1,f6,f9,f10,aa5,ab5];subst C_ R_ U_)
    obtain ⟨A6,S6,ab6,hA6,hkp6⟩:=S5.wr hA ab hb0 (.cells [.int .i64 4,.int .i64 m,.str aB,.list zA (rawB (nmsF (ak s.ms n)).length keep) i tA] 27)
    have hkz:keep=[]∨zA=4:=by
     rcases hzA with e|e
     ·left;rw [← htk,e];rfl
     ·exact .inr e
    have hlb:LeAV (.list zA (rawB (nmsF (ak s.ms n)).length keep) i tA) (.list 4 (encs (bR (nmsF (ak s.ms n)).length keep)) (bR (nmsF (ak s.ms n)).length keep).length .none):=by
     rw [hie];exact IG _ _ _ _ hkz
    obtain ⟨hlt,e1,e2⟩:=jS hfr
    have hlen5:n<(s'.ms.length:Int):=by rw [e1];simp;omega
    refine az.args (args':=[.ptr x 0,.int .i64 n,enc (sVar m (bR (nmsF (ak s.ms n)).length keep))]) (.cons (LeAV.refl _) (.cons (LeAV.refl _) (.cons (LeAV.agg (.cons (LeAV.refl _) (.cons (LeAV.refl _) (.cons (LeAV.refl _) (.cons hlb .nil))))) .nil))) (G5 S6 n0 hlen5 (sVar m (bR (nmsF (ak s.ms n)).length keep)) _ (fun h7 S7=>?_))
    try dsimp only
    repeat with_reducible apply nS
    refine o7 (by rw [Tryz.results144]) (ax.refl _) (hq _ _ ?_ (S7.low hA6))
    unfold jh
    dsimp only
    rw [hfr];rfl
   ·refine p5 (p1 (pL (ax.refl _) (hp v H5 ?_ (hl5.trans hA))))
    unfold jh
    dsimp only
    cases hc:jq s (ak s.ms n).level (bK (aU (nmsF (ak s.ms n)) keep) (bU (ak s.ms n).type)) with
    |ok a=>rw [hc] at hpv;exact hpv.elim
    |clash=>rw [hc] at hpv;exact hpv
    |large e=>rw [hc] at hpv;exact hpv
theorem Q8 {x:Nat} {s:Sv} {h0 h:ai} (S:SObj x s h0 h) (hbl:s.ms.length≤1000000) {a b:Term} {D:Int} (V:iZ s.ms a D) (hab:a.args.length=b.args.length) (Q:AOut→ai→Prop)
  (hq:∀ s' h2,jA s a b=.ok s'→SObj x s' h0 h2→Q (.ret (.tuple [])) h2) (hp:∀ v h2,PanV (jA s a b) v→ax h2 h0→Q (.panic v) h2):az Tryz.prog 109 [.ptr x 0,enc a,enc b] h Q:=by
 have h8:=fT (ak s.ms a.n).type
 have har:=V.ar
 refine eN Tryz.func109 ?_
 repeat with_reducible first|(apply zS;intro _ R_;simp only [go_sem,↓reduceIte];subst R_)|refine rG2 ?_|refine rS fun bq hbq=>?_
 intro p hp1
 repeat with_reducible (apply zS;intro _ R_;simp only [go_sem,↓reduceIte];subst R_)
 intro q hq1
 have e1:=aQ hq1
 have qp:=e1.1
 obtain ⟨A1,S,ap,hA1,_⟩:=S.loc hp1 (.cells (ay a) 27)
 obtain ⟨A,S,aq,hA2,_⟩:=S.loc (by rw [ae _ _ e1.1];exact e1.2) (.cells (ay b) 27) (b:=q)
 have ap:=hA2 _ _ ap
 have hA:=hA2.trans hA1
 clear hA1 hA2
 generalize upd (upd h p (some (.cells (ay a) 27))) q (some (.cells (ay b) 27))=H at *
 have sp:=S.lessOf _ _ ap
 repeat with_reducible first|(apply zS;intro _ R_;simp only [go_sem,↓reduceIte,sp];subst R_)|(apply rN;subst hbq)|refine rG2 ?_|(refine rB fun cq hcq=>?_;subst hcq)|apply nS|refine rS fun bq hbq=>?_
 refine aT (fun k τ H=>∃ (i:Nat) (ks:List Nat) (A:ai) (z:Nat) (tk:Tok),k+i=a.args.length∧ks++fe (a.args.drop i) (b.args.drop i) i=fe a.args b.args 0∧ks.length≤i∧SObj x s A H∧ax A h0∧A p=some (.cells (ay a) 27)∧A q=some (.cells (ay b) 27) ∧
   τ 0=.ptr x 0∧τ 4=.ptr p 0∧τ 5=.ptr q 0∧τ 6=.list z (cZ ks) ks.length tk∧τ 10=.int .i64 a.args.length∧τ 11=.int .i64 i∧(ks=[]∨z=1)∧Grow 3 h0 A tk) a.args.length ?_ ?_
 ·exact ⟨0,[],A,0,.nil,rfl,rfl,Nat.le_refl _,S,hA,ap,aq,rfl,rfl,rfl,rfl,rfl,rfl,.inl rfl,.inl (.inr rfl)⟩
 ·intro c hc k τ H hI
  clear S ap aq hA sp
  obtain ⟨i,ks,A,z,tk,hki,hix,hkl,S,hA,ap,aq,f0,f4,f5,f6,f10,f11,hz,hg⟩:=hI
  subst hc
  have sp:=S.lessOf _ _ ap
  have sq:=S.lessOf _ _ aq
  by_cases hi:i<a.args.length
  ·obtain ⟨u,hu⟩:∃ u,a.args[i]?=some u:=⟨_,List.getElem?_eq_getElem hi⟩
   obtain ⟨w,hw⟩:∃ w,b.args[i]?=some w:=⟨_,List.getElem?_eq_getElem (by omega)⟩
   obtain ⟨r1,hr1⟩:=dD a.args i hu
   obtain ⟨r2,hr2⟩:=dD b.args i hw
   have hib:i<b.args.length:=by omega
   have d1:a.args.drop i=u::a.args.drop (i+1):=by
    rw [List.drop_eq_getElem_cons hi]
    rw [List.getElem?_eq_getElem hi] at hu;injection hu with hu;rw [hu]
   have d2:b.args.drop i=w::b.args.drop (i+1):=by
    rw [List.drop_eq_getElem_cons hib]
    rw [List.getElem?_eq_getElem hib] at hw;injection hw with hw;rw [hw]
   rw [d1,d2,fe] at hix
   repeat with_reducible first|((first|apply zS|apply zC);intro _ R_;simp only [go_sem,↓reduceIte,f0,f4,f5,f6,f10,f11,hi];subst R_)|(apply rN;subst hbq)|refine rG2 ?_|(refine rB fun cq hcq=>?_;subst hcq)|apply nS|refine rS fun bq hbq=>?_|apply rK
   repeat with_reducible refine ah fun bq hbq=>?_
   refine bA (.take 0 (.take 1 (.take 2 (.take 3 (.take 4 (.take 5 (.take 6 (.take 7 (.take 8 (.take 9 (.one 10 [6,1] (.done)))))))))))) (by kernel_rfl) (by simp only [aF,gtOf,aA];exact rfl) ?_
   repeat ((first|(with_reducible apply iT;refine sT rfl ?_)|(with_reducible apply iO;refine sO rfl ?_));intro _ _ _ C_ R_ U_;simp only [go_sem,↓reduceIte,f0,f4,f5,f6,f10,f11,hi,hib,sp,sq,hr1,hr2];subst C_ R_ U_)
   refine Tz u w _ _ ?_
   try dsimp only
   repeat with_reducible first|((first|apply sA|apply sC);intro _ _ _ C_ R_ U_;simp only [go_sem,↓reduceIte,f0,f4,f5,f6,f10,f11,hi,hib,sp,sq,hr1,hr2];subst C_ R_ U_)|(apply rN;subst hbq)|apply nD
   cases hf:isF u w
   ·rw [hf] at hix
    try dsimp only
    repeat with_reducible first|(apply zS;intro _ R_;simp only [go_sem,↓reduceIte,f0,f4,f5,f6,f10,f11,hf,bz ((i:Int)+1) (by omega)];subst R_)|(apply rN;subst hbq)|refine rG2 ?_|apply nS|apply rK|apply rE
    refine aL (m:=k - 1) (by omega) ⟨i+1,ks,A,z,tk,by omega,hix,by omega,S,hA,ap,aq,?_⟩
    simp only [go_sem,↓reduceIte,f0,f4,f5,f6,f10]
    exact ⟨rfl,hz,hg⟩
   ·rw [hf] at hix
    simp only [if_true] at hix
    try dsimp only
    repeat with_reducible first|(apply zS;intro _ R_;simp only [go_sem,↓reduceIte,f0,f4,f5,f6,f10,f11,hf,E5];subst R_)|refine rG2 ?_
    refine aZ ?_
    simp only [go_sem,↓reduceIte]
    intro y hy
    obtain ⟨A3,H3,ea,S3,hg3,hA3,hkp⟩:=iE S yQ yQ sz_3 by_3 ze_3 ⟨rfl,by decide⟩ hA hy (sz1:=z) (n1:=ks.length) (c1:=cZ ks) (c2:=[.int .i64 (i:Int)]) (n2:=1) (t2:=.full) hg (by rcases hz with e|e <;> simp [e]) (sz2:=1) rfl (by decide) (by omega)
    simp only [ea,go_sem,↓reduceIte]
    repeat with_reducible first|(apply zS;intro _ R_;simp only [go_sem,↓reduceIte,f0,f4,f5,f6,f10,f11,bz ((i:Int)+1) (by omega)];subst R_)|(apply rN;subst hbq)|refine rG2 ?_|apply nS|apply rE
    refine aL (m:=k - 1) (by omega) ⟨i+1,ks++[i],A3,1,.id y,by omega,by rw [List.append_assoc];exact hix,by simp;omega,S3,hA3,hkp _ _ ap (aN hg ap),hkp _ _ aq (aN hg aq),?_⟩
    simp only [go_sem,↓reduceIte,f0,f4,f5,f10]
    refine ⟨?_,rfl,.inr trivial,hg3⟩
    simp
  ·rw [List.drop_eq_nil_of_le (show a.args.length≤i by omega)] at hix
   have hks:ks=fe a.args b.args 0:=by rw [← hix];unfold fe;simp
   obtain ⟨g1,g2,g3⟩:=qQ a.args b.args 0
   cases hlt:decide (((fe a.args b.args 0).length:Int)<a.args.length)
   ·have hr:jA s a b=.ok s:=by unfold jA;rw [hlt];rfl
    rw [← hks] at hlt
    have hlt:decide (ks.length<a.args.length)=false:=by simpa using hlt
    repeat with_reducible first|((first|apply zS|apply zC);intro _ R_;simp only [go_sem,↓reduceIte,f0,f4,f5,f6,f10,f11,hi,sp,hlt];subst R_)|(apply rN;subst hbq)|refine rG2 ?_|(apply x1;clear hbq bq)|apply nS|refine rS fun bq hbq=>?_|apply rK|apply rXx|apply x3|apply x4
    exact o7 (by rw [Tryz.results109]) (ax.refl _) (hq _ _ hr (S.low hA))
   ·have hr:jA s a b=jh s a.n (fe a.args b.args 0):=by unfold jA;rw [hlt];rfl
    rw [← hks] at hlt hr
    rw [hr] at hq hp
    rw [← hks] at g1 g2 g3
    have hlt:decide (ks.length<a.args.length)=true:=by simpa using hlt
    repeat with_reducible first|((first|apply zS|apply zC);intro _ R_;simp only [go_sem,↓reduceIte,f0,f4,f5,f6,f10,f11,hi,sp,hlt];subst R_)|(apply rN;subst hbq)|refine rG2 ?_|(apply x1;clear hbq bq)|apply nS|refine rS fun bq hbq=>?_|apply rXx|apply x3|apply x4
    refine az.args (args':=[.ptr x 0,.int .i64 a.n,.list z (cZ ks) ks.length .none]) (.cons (LeAV.refl _) (.cons (LeAV.refl _) (.cons (LeAV.list _ _ _ _) .nil))) (Gb S hbl V.n0 V.n1 ks (fun j hj=>by have:=g1 j hj;omega) (by omega) z hz _ (fun s' h2 hn S2=>?_) (fun v h2 hn hl2=>?_))
    ·try dsimp only
     repeat with_reducible apply nS
     exact o7 (by rw [Tryz.results109]) (ax.refl _) (hq _ _ hn (S2.low hA))
    ·exact p5 (pL (ax.refl _) (hp v h2 hn (hl2.trans hA)))
theorem l5:dL Tryz.prog 150 []=some (.agg []):=by
 simp only [dL,Ri,Rv,ik]
 rfl
theorem jf {h:ai} (pl:Plan) (ord:List Nat) {id:Nat} {ops:Array Oper} {K:AK} {τ:Env} {l:List CO} (hp:(jy (bf Tryz.prog ops) pl (Array.replicate ops.size false) []&&decide (pl.len≤ops.size)&&BV (bf Tryz.prog ops) ord (Array.replicate ops.size false))=true)
  (he:aF (bf Tryz.prog ops).toList (bf Tryz.prog ops).toList=aF ops.toList ops.toList) (hl:aF ops.toList ops.toList=l) (hs:cDr Tryz.prog l K pl [] τ h):bE Tryz.prog (.region id ops true) K τ h :=
 Pn pl ord hp (he.trans hl) hs
theorem lh (l:List Term) (z:Term):encs (l++[z])=encs l++ay z:=by rw [dh,dh];simp
def rawX (n:Nat) (d:Int) (es:List (Nat × Term)):List AV:=es.flatMap fun p=>og ((n:Int) - 1 - (p.1:Int)+d)
theorem Na (n:Nat) (d:Int):∀ es:List (Nat × Term),LeL (rawX n d es) (encs (es.map fun p=>sBnd ((n:Int) - 1 - p.1+d)))
 |[]=>by rw [List.map_nil,bB];exact .nil
 |p::es=>by
  have e:encs ((p::es).map fun p=>sBnd ((n:Int) - 1 - p.1+d))=ay (sBnd ((n:Int) - 1 - p.1+d))++encs (es.map fun p=>sBnd ((n:Int) - 1 - p.1+d)):=by
   rw [dh,dh];simp
  rw [e]
  exact LeL.append (Er _) (Na n d es)
theorem Ma (n:Nat) (d:Int) (es:List (Nat × Term)) (p:Nat × Term):rawX n d (es++[p])=rawX n d es++og ((n:Int) - 1 - (p.1:Int)+d):=by unfold rawX;simp
theorem Bb (k n:Int) (sz:Nat) (cs:List AV) (m:Nat) (tok:Tok):dL Tryz.prog 27 [(0,.int .i64 k),(1,.int .i64 n),(3,.list sz cs m tok)]=some (.agg [.int .i64 k,.int .i64 n,.str aB,.list sz cs m tok]):=by
 simp only [dL,iy,JQ,ik]
 rfl
theorem Bj {x:Nat} {s:Sv} {h0 A H:ai} (S:SObj x s A H) {tS tX E:TypeId} {z b:Nat} {zv:Value} (hS:dm Tryz.prog tS=some E) (hX:dm Tryz.prog tX=some E) (hz:tsz Tryz.prog E=some z) (hb:bv Tryz.prog E=some b) (hv:bI Tryz.prog E=some zv) (hc:zv.cells.size=z∧0<b)
  {p:Nat} (hA:ax A h0) (hp:H p=Option.none) {sz1 sz2 n1 n2:Nat} {c1 c2:List AV} {t t2:Tok} (hg:Grow E h0 A t) (h1:n1=0∨sz1=z) (h2:n2=0∨sz2=z) (hn:n2=0→c2=[]) (hm:(n1+n2) * b≤70368744177664) :
  ∃ A' H' sz' t',dX Tryz.prog tS tX (.list sz1 c1 n1 t) (.list sz2 c2 n2 t2) H p=some (.list sz' (c1++c2) (n1+n2) t',H')∧SObj x s A' H'∧ax A' h0∧(n1+n2=0∨sz'=z)∧∀ j o,A j=some o→t≠.id j→A' j=some o:=by
 by_cases h:n2=0
 ·subst h
  rw [hn rfl,List.append_nil,Nat.add_zero]
  refine ⟨A,H,sz1,t,?_,S,hA,h1,fun j o hj _=>hj⟩
  simp only [dX,hS,hX,hz,hb,hv]
  rw [if_pos ⟨h1,by simp,hc.2,hm,hc.1⟩]
  cases t <;> rfl
 ·obtain ⟨A',H',e,S',_,hA',hk⟩:=iE S hS hX hz hb hv hc hA hp (sz1:=sz1) (n1:=n1) (c1:=c1) (c2:=c2) (sz2:=sz2) (n2:=n2) (t2:=t2) hg h1 (h2.resolve_left h) h hm
  exact ⟨A',H',z,_,e,S',hA',.inr rfl,hk⟩
theorem Au {E:TypeId} {h0 A H:ai} {t:Tok} (h:Grow E h0 A t) {w:Nat} (hw:H w=Option.none) (hl:ax H A):t≠.id w:=by
 intro e
 rcases h with h|⟨g,eg,hg,_⟩
 ·rcases h with h|h <;> rw [h] at e <;> cases e
 ·rw [eg] at e;injection e with e;subst e
  have:=hl _ _ hg
  rw [hw] at this;cases this
theorem SG {x:Nat} {s:Sv} {h0 h:ai} (S:SObj x s h0 h) (hbl:s.ms.length≤1000000) {v t:Term} {D d:Int} (V:iZ s.ms v D) (T:iZ s.ms t (D+d)) (hd:0≤d∧d≤1000) (hD:0≤D∧D≤1000) (Q:AOut→ai→Prop)
  (hq:∀ s' out h2,nC s v t d=.ok (s',out)→SObj x s' h0 h2→Q (.ret (enc out)) h2) (hp:∀ pv h2,PanV (nC s v t d) pv→ax h2 h0→Q (.panic pv) h2):az Tryz.prog 162 [.ptr x 0,enc v,enc t,.int .i64 d] h Q:=by
 have aw8:=fT (ak s.ms t.n).type
 have av8:=fT (ak s.ms v.n).type
 have aw:=T.ar
 have av:=V.ar
 refine eN Tryz.func162 ?_
 repeat with_reducible first|(apply zS;intro _ R_;simp only [go_sem,↓reduceIte];subst R_)|refine rG2 ?_|refine rS fun bq hbq=>?_
 intro p5 hp5
 obtain ⟨A,S,a5,hA,_⟩:=S.loc hp5 (.cells (ay v) 27)
 repeat with_reducible (apply zS;intro _ R_;simp only [go_sem,↓reduceIte];subst R_)
 intro p6 hp6
 have e6:=aQ hp6
 obtain ⟨A2,S,a6,hA2,_⟩:=S.loc (b:=p6) (by rw [ae _ _ e6.1];exact e6.2) (.cells (ay t) 27)
 have a5:=hA2 _ _ a5
 have hA:=hA2.trans hA
 clear hA2
 repeat with_reducible (apply zS;intro _ R_;simp only [go_sem,↓reduceIte,e6.1,e6.1.symm];subst R_)
 intro p8 hp8
 have e8:=aQ hp8
 have e8':=aQ e8.2
 obtain ⟨A,S,a8,hA2,hA28⟩:=S.loc (b:=p8) (by rw [ae _ _ e8.1,ae _ _ e8'.1];exact e8'.2) (.cells zT 27)
 have a5:=hA2 _ _ a5
 have a6:=hA2 _ _ a6
 have h08:=hA.none hA28
 have hA:=hA2.trans hA
 clear hA2
 generalize upd (upd (upd h p5 (some (.cells (ay v) 27))) p6 (some (.cells (ay t) 27))) p8 (some (.cells zT 27))=H at *
 have s5:=S.lessOf _ _ a5
 have s6:=S.lessOf _ _ a6
 cases hne:(t.n==v.n)
 case true =>
  have hr:nC s v t d=.clash:=by unfold nC;rw [hne];rfl
  repeat with_reducible first|((first|apply zS|apply zC);intro _ R_;simp only [go_sem,↓reduceIte,s5,s6,hne,l5];subst R_)|(apply rN;subst hbq)|refine rG2 ?_|apply nS|refine rS fun bq hbq=>?_
  exact p1 (pL (ax.refl _) (hp _ _ (by rw [hr];rfl) (S.lessOf.trans hA)))
 repeat with_reducible first|((first|apply zS|apply zC);intro _ R_;simp only [go_sem,↓reduceIte,s5,s6,hne];subst R_)|(apply rN;subst hbq)|refine rG2 ?_|apply nS|refine rS fun bq hbq=>?_|apply rK
 refine jf (.take 0 (.take 1 (.take 2 (.take 4 (.take 5 (.take 6 (.one 3 [6] (.one 7 [] (.one 8 [] (.one 9 [] (.one 10 [] (.one 11 [] (.done))))))))))))) [0,1,2,4,5,6,3,7,8,9,10,11] (by kernel_rfl) (by kernel_rfl) (by simp only [aF,gtOf,aA];exact rfl) ?_
 repeat ((first|(with_reducible apply iT;refine sT rfl ?_)|(with_reducible apply iO;refine sO rfl ?_));intro _ _ _ C_ R_ U_;simp only [go_sem,↓reduceIte,s5,s6];subst C_ R_ U_)
 obtain ⟨ow,how⟩:∃ ow,ow=ak s.ms v.n:=⟨_,rfl⟩
 obtain ⟨wv,hwv⟩:∃ wv,wv=ak s.ms t.n:=⟨_,rfl⟩
 refine Ad S V.n0 V.n1 _ ?_
 try dsimp only
 repeat ((first|with_reducible apply sA|(with_reducible apply i0;refine s0 rfl ?_));intro _ _ _ C_ R_ U_;simp only [go_sem,↓reduceIte,s5,s6];subst C_ R_ U_)
 refine Ad S T.n0 T.n1 _ ?_
 rw [← how,← hwv]
 rw [← how] at av av8
 rw [← hwv] at aw aw8
 try dsimp only
 repeat ((with_reducible apply i0;refine s0 rfl ?_);intro _ _ _ C_ R_ U_;simp only [go_sem,↓reduceIte,s5,s6];subst C_ R_ U_)
 intro p9 hp9
 have s8:=S.lessOf _ _ a8
 have n95:=aj hp9 s5
 have n96:=aj hp9 s6
 repeat ((with_reducible apply i0;refine s0 rfl ?_);intro _ _ _ C_ R_ U_;simp only [go_sem,↓reduceIte,s5,s6,n95,n96];subst C_ R_ U_)
 intro p10 hp10
 have e10:=aQ hp10
 have n105:=aj e10.2 s5
 have n106:=aj e10.2 s6
 repeat first|(with_reducible first|(apply rN;subst hbq)|refine rG2 ?_|apply nD|refine rS fun bq hbq=>?_)|((first|with_reducible apply sS|(with_reducible apply i0;refine s0 rfl ?_));intro _ _ _ C_ R_ U_;simp only [go_sem,↓reduceIte,s5,s6,n95,n96,n105,n106,e10.1,e10.1.symm];subst C_ R_ U_)
 refine rP _ _ _ ?_
 rw [nX]
 obtain ⟨A1,S,a9,hA1,hA9⟩:=S.loc hp9 (.cells zV 62)
 obtain ⟨A2,S,a10,hA2,hA10⟩:=S.loc (b:=p10) (by rw [ae _ _ e10.1];exact e10.2) (.cells zV 62)
 obtain ⟨A3,S,a9,hA3,hk3⟩:=S.wr (h0:=A) (hA2.trans hA1) (hA2 _ _ a9) hA9 (.cells (bO ow) 62)
 obtain ⟨A4,S,a10,hA4,hk4⟩:=S.wr (h0:=A) hA3 (hk3 _ _ e10.1 a10) (hA1.none hA10) (.cells (bO wv) 62)
 have a9:=hk4 _ _ (fun e=>e10.1 e.symm) a9
 have a5:=hA4 _ _ a5
 have a6:=hA4 _ _ a6
 have a8:=hA4 _ _ a8
 have hA:=hA4.trans hA
 clear hA1 hA2 hA3 hA4 hk3 hk4 hA9 hA10
 generalize upd (upd (upd (upd H p9 (some (.cells zV 62))) p10 (some (.cells zV 62))) p9 (some (.cells (bO ow) 62))) p10 (some (.cells (bO wv) 62))=H1 at *
 have s5:=S.lessOf _ _ a5
 have s6:=S.lessOf _ _ a6
 have s8:=S.lessOf _ _ a8
 have s9:=S.lessOf _ _ a9
 have s10:=S.lessOf _ _ a10
 try dsimp only
 repeat with_reducible first|(apply zS;intro _ R_;simp only [go_sem,↓reduceIte,s5,s6,s9,s10];subst R_)|(apply rN;subst hbq)|refine rG2 ?_|apply nS|refine rS fun bq hbq=>?_
 refine rP _ _ _ ?_
 rw [nX]
 rw [show (fU wv.type).getD []=nmsF wv from rfl,show (fU ow.type).getD []=nmsF ow from rfl]
 have nw:=kU wv
 have nv:=kU ow
 have hT0:=T.n0
 have hskT:∀ y ∈ t.args,y.kind=2∨y.kind=3:=fun y hy=>(aS (T.args y hy).1).1
 try dsimp only
 repeat with_reducible first|(apply zS;intro _ R_;simp only [go_sem,↓reduceIte,s5,s6,s9,s10];subst R_)|(apply rN;subst hbq)|refine rG2 ?_|(refine rB fun cq hcq=>?_;subst hcq)|apply nS|refine rS fun bq hbq=>?_
 refine aT (fun k τ H=>∃ (i:Nat) (ks:List Nat) (zs:List Term) (A:ai) (zk zz:Nat) (tk tz:Tok),k+i=t.args.length∧ks++(iX ow.level v.args d (t.args.drop i) i).1=(iX ow.level v.args d t.args 0).1∧zs++(iX ow.level v.args d (t.args.drop i) i).2=(iX ow.level v.args d t.args 0).2∧ks.length≤i∧zs.length=ks.length ∧
   SObj x s A H∧ax A h0∧A p5=some (.cells (ay v) 27)∧A p6=some (.cells (ay t) 27)∧A p8=some (.cells zT 27)∧A p9=some (.cells (bO ow) 62)∧A p10=some (.cells (bO wv) 62) ∧
   τ 0=.ptr x 0∧τ 3=.int .i64 d∧τ 5=.ptr p5 0∧τ 6=.ptr p6 0∧τ 8=.ptr p8 0∧τ 9=.ptr p9 0∧τ 10=.ptr p10 0∧τ 11=.list 1 (encS (nmsF wv)) (nmsF wv).length .none∧τ 13=.list 1 (encS (nmsF ow)) (nmsF ow).length .none ∧
   τ 15=.list zk (cZ ks) ks.length tk∧τ 16=.list zz (encs zs) zs.length tz∧τ 57=.list 4 (encs t.args) t.args.length .none∧τ 58=.int .i64 t.args.length∧τ 59=.int .i64 i∧(ks=[]∨zk=1)∧(zs=[]∨zz=4)∧Grow 3 h0 A tk∧Grow 27 h0 A tz) t.args.length ?_ ?_
 ·exact ⟨0,[],[],A4,0,0,.nil,.nil,rfl,rfl,rfl,Nat.le_refl _,rfl,S,hA,a5,a6,a8,a9,a10,rfl,rfl,rfl,rfl,rfl,rfl,rfl,rfl,rfl,rfl,by rw [bB];rfl,rfl,rfl,rfl,.inl rfl,.inl rfl,.inl (.inr rfl),.inl (.inr rfl)⟩
 ·intro cc hcc k τ H hI
  clear S a5 a6 a8 a9 a10 hA s5 s6 s8 s9 s10
  obtain ⟨i,ks,zs,A,zk,zz,tk,tz,hki,hixK,hixZ,hkl,hzl,S,hA,a5,a6,a8,a9,a10,f0,f3,f5,f6,f8,f9,f10,f11,f13,f15,f16,f57,f58,f59,hzk,hzz,hgk,hgz⟩:=hI
  subst hcc
  have s5:=S.lessOf _ _ a5
  have s6:=S.lessOf _ _ a6
  have s8:=S.lessOf _ _ a8
  have s9:=S.lessOf _ _ a9
  have s10:=S.lessOf _ _ a10
  by_cases hi:i<t.args.length
  ·obtain ⟨y,hy⟩:∃ y,t.args[i]?=some y:=⟨_,List.getElem?_eq_getElem hi⟩
   obtain ⟨r1,hr1⟩:=dD t.args i hy
   have d1:t.args.drop i=y::t.args.drop (i+1):=by
    rw [List.drop_eq_getElem_cons hi]
    rw [List.getElem?_eq_getElem hi] at hy;injection hy with hy;rw [hy]
   rw [d1,iX] at hixK hixZ
   have hyA:=T.args y (List.mem_of_getElem? hy)
   have hyk:=hskT y (List.mem_of_getElem? hy)
   have hyn:-1000000≤y.n∧y.n≤1000000:=by
    rcases hyk with e|e
    ·have:=hyA.2.2.1 e;omega
    ·have:=hyA.2.2.2 e;omega
   repeat with_reducible first|((first|apply zS|apply zC);intro _ R_;simp only [go_sem,↓reduceIte,f0,f3,f5,f6,f57,f58,f59,hi,hr1,s5];subst R_)|(apply rN;subst hbq)|refine rG2 ?_|(refine rB fun cq hcq=>?_;subst hcq)|apply nS|refine rS fun bq hbq=>?_|apply rK
   intro q hq1
   have q5:=aj hq1 s5
   repeat with_reducible first|(apply zS;intro _ R_;simp only [go_sem,↓reduceIte,f0,f3,f5,f6,f57,f58,f59,hi,hr1,s5,q5];subst R_)|(apply rN;subst hbq)|refine rG2 ?_|apply nS|refine rS fun bq hbq=>?_
   obtain ⟨A1,S,aq,hA1,_⟩:=S.loc hq1 (.cells (ay y) 27)
   have a5:=hA1 _ _ a5
   have a6:=hA1 _ _ a6
   have a8:=hA1 _ _ a8
   have a9:=hA1 _ _ a9
   have a10:=hA1 _ _ a10
   have hgk:=hgk.stay (t:=.none) (fun _ _ e=>by cases e) (fun j o hj _=>hA1 j o hj)
   have hgz:=hgz.stay (t:=.none) (fun _ _ e=>by cases e) (fun j o hj _=>hA1 j o hj)
   have hA:=hA1.trans hA
   clear hA1
   generalize upd H q (some (.cells (ay y) 27))=H2 at *
   have sq:=S.lessOf _ _ aq
   refine Pw S v y d V.n0 V.n1 (by omega) hyn (by omega) _ ?_
   rw [← how]
   cases hpl:(bX ow.level v.args y d).2
   ·rw [hpl] at hixK hixZ
    simp only [Bool.false_eq_true,if_false] at hixK hixZ
    try dsimp only
    repeat with_reducible (apply zS;intro _ R_;simp only [go_sem,↓reduceIte,f0,f3,f5,f6,f57,f58,f59,hi,hpl];subst R_)
    intro q2 hq2
    repeat with_reducible first|((first|apply zS|apply zC);intro _ R_;simp only [go_sem,↓reduceIte,f0,f3,f5,f6,f57,f58,f59,hi,hpl,bz ((i:Int)+1) (by omega)];subst R_)|(apply rN;subst hbq)|refine rG2 ?_|apply nS|refine rS fun bq hbq=>?_|apply rK|apply rE
    obtain ⟨A2,S,aq2,hA2,_⟩:=S.loc hq2 (.cells (ay (bX ow.level v.args y d).1) 27)
    have hgk:=hgk.stay (t:=.none) (fun _ _ e=>by cases e) (fun j o hj _=>hA2 j o hj)
    have hgz:=hgz.stay (t:=.none) (fun _ _ e=>by cases e) (fun j o hj _=>hA2 j o hj)
    refine aL (m:=k - 1) (by omega) ⟨i+1,ks,zs,A2,zk,zz,tk,tz,by omega,hixK,hixZ,by omega,hzl,S,hA2.trans hA,hA2 _ _ a5,hA2 _ _ a6,hA2 _ _ a8,hA2 _ _ a9,hA2 _ _ a10,?_⟩
    simp only [go_sem,↓reduceIte,f0,f3,f5,f6,f8,f9,f10,f11,f13,f15,f16,f57,f58]
    exact ⟨rfl,hzk,hzz,hgk,hgz⟩
   ·rw [hpl] at hixK hixZ
    simp only [if_true] at hixK hixZ
    try dsimp only
    repeat with_reducible (apply zS;intro _ R_;simp only [go_sem,↓reduceIte,f0,f3,f5,f6,f57,f58,f59,hi,hpl];subst R_)
    intro q2 hq2
    repeat with_reducible first|((first|apply zS|apply zC);intro _ R_;simp only [go_sem,↓reduceIte,f0,f3,f5,f6,f57,f58,f59,hi,hpl];subst R_)|(apply rN;subst hbq)|refine rG2 ?_|apply nS|refine rS fun bq hbq=>?_
    obtain ⟨A2,S,aq2,hA2,_⟩:=S.loc hq2 (.cells (ay (bX ow.level v.args y d).1) 27)
    have hgk:=hgk.stay (t:=.none) (fun _ _ e=>by cases e) (fun j o hj _=>hA2 j o hj)
    have hgz:=hgz.stay (t:=.none) (fun _ _ e=>by cases e) (fun j o hj _=>hA2 j o hj)
    have a5:=hA2 _ _ a5
    have a6:=hA2 _ _ a6
    have a8:=hA2 _ _ a8
    have a9:=hA2 _ _ a9
    have a10:=hA2 _ _ a10
    have hA:=hA2.trans hA
    clear hA2
    generalize upd H2 q2 (some (.cells (ay (bX ow.level v.args y d).1) 27))=H3 at *
    have sq2:=S.lessOf _ _ aq2
    generalize (bX ow.level v.args y d).1=z at *
    repeat with_reducible refine ah fun bq hbq=>?_
    refine bA (.take 0 (.take 1 (.take 2 (.take 4 (.take 5 (.take 6 (.one 3 [5] (.one 7 [5] (.take 8 (.take 9 (.done))))))))))) (by kernel_rfl) (by simp only [aF,gtOf,aA];exact rfl) ?_
    repeat ((first|(with_reducible apply iT;refine sT rfl ?_)|(with_reducible apply iO;refine sO rfl ?_));intro _ _ _ C_ R_ U_;simp only [go_sem,↓reduceIte,f0,f3,f5,f6,f15,f16,f57,f58,f59,sq2,E5,ic];subst C_ R_ U_)
    refine aZ ?_
    simp only [go_sem,↓reduceIte]
    intro w hw
    obtain ⟨A3,H4,ea,S,hgk3,hA3,hkp⟩:=iE S yQ yQ sz_3 by_3 ze_3 ⟨rfl,by decide⟩ hA hw (sz1:=zk) (n1:=ks.length) (c1:=cZ ks) (c2:=[.int .i64 (i:Int)]) (n2:=1) (t2:=.full) hgk (by rcases hzk with e|e <;> simp [e]) (sz2:=1) rfl (by decide) (by omega)
    have hgz3:=hgz.stay (kY (by decide) hgk hgz) hkp
    have a5:=hkp _ _ a5 (aN hgk a5)
    have a6:=hkp _ _ a6 (aN hgk a6)
    have a8:=hkp _ _ a8 (aN hgk a8)
    have a9:=hkp _ _ a9 (aN hgk a9)
    have a10:=hkp _ _ a10 (aN hgk a10)
    have aq2:=hkp _ _ aq2 (aN hgk aq2)
    have sq3:=S.lessOf _ _ aq2
    simp only [ea,go_sem,↓reduceIte,sq3]
    skip
    refine aZ ?_
    simp only [go_sem,↓reduceIte]
    intro w4 hw4
    obtain ⟨A4,H5,ea4,S,hgz4,hA4,hkp4⟩:=iE S ed ed je mD iy ⟨rfl,by decide⟩ hA3 hw4 (sz1:=zz) (n1:=zs.length) (c1:=encs zs) (c2:=ay z) (n2:=1) (t2:=.full) hgz3 (by rcases hzz with e|e <;> simp [e]) (sz2:=4) rfl (by decide) (by omega)
    have hgk4:=hgk3.stay (kY (by decide) hgz3 hgk3) hkp4
    have a5:=hkp4 _ _ a5 (aN hgz3 a5)
    have a6:=hkp4 _ _ a6 (aN hgz3 a6)
    have a8:=hkp4 _ _ a8 (aN hgz3 a8)
    have a9:=hkp4 _ _ a9 (aN hgz3 a9)
    have a10:=hkp4 _ _ a10 (aN hgz3 a10)
    have sq5:=S.lessOf _ _ (hkp4 _ _ aq2 (aN hgz3 aq2))
    simp only [ea4,go_sem,↓reduceIte,sq5]
    repeat with_reducible first|(apply zS;intro _ R_;simp only [go_sem,↓reduceIte,f0,f3,f5,f6,f15,f16,f57,f58,f59,sq5,bz ((i:Int)+1) (by omega)];subst R_)|(apply rN;subst hbq)|refine rG2 ?_|apply nS|apply rE
    refine aL (m:=k - 1) (by omega) ⟨i+1,ks++[i],zs++[z],A4,1,4,.id w,.id w4,by omega,by rw [List.append_assoc];exact hixK,by rw [List.append_assoc];exact hixZ,by simp;omega,by simp [hzl],S,hA4,a5,a6,a8,a9,a10,?_⟩
    simp only [go_sem,↓reduceIte,f0,f3,f5,f6,f8,f9,f10,f11,f13,f57,f58]
    exact ⟨by simp,by rw [lh];simp,rfl,.inr trivial,.inr trivial,hgk4,hgz4⟩
  ·rw [List.drop_eq_nil_of_le (show t.args.length≤i by omega)] at hixK hixZ
   rw [iX,List.append_nil] at hixK hixZ
   have hksT:ks.length≤t.args.length:=by omega
   repeat with_reducible first|((first|apply zS|apply zC);intro _ R_;simp only [go_sem,↓reduceIte,f0,f3,f5,f6,f8,f9,f10,f11,f13,f15,f16,f57,f58,f59,hi,s5];subst R_)|(apply rN;subst hbq)|refine rG2 ?_|(apply x1;clear hbq bq)|apply nS|refine rS fun bq hbq=>?_|apply rXx|apply x3|apply x4
   refine dB (fun τ H=>∃ (es:List (Nat × Term)) (A:ai) (zE zM zz:Nat) (tE tM tz:Tok),es=j6 ow.level wv.level v.args 0∧es.length≤v.args.length∧SObj x s A H∧ax A h0∧A p5=some (.cells (ay v) 27)∧A p6=some (.cells (ay t) 27)∧A p8=some (.cells zT 27)∧A p9=some (.cells (bO ow) 62)∧A p10=some (.cells (bO wv) 62)∧τ 0=.ptr x 0∧τ 3=.int .i64 d∧τ 5=.ptr p5 0∧τ 6=.ptr p6 0∧τ 8=.ptr p8 0∧τ 9=.ptr p9 0∧τ 10=.ptr p10 0∧τ 11=.list 1 (encS (nmsF wv)) (nmsF wv).length .none∧τ 15=.list zk (cZ ks) ks.length tk∧τ 16=.list zz (encs zs++rawX v.args.length d es) (zs.length+es.length) tz∧τ 21=.list zE (encs (es.map (·.2))) es.length tE∧τ 22=.list zM (encS (aU (nmsF ow) (es.map (·.1)))) es.length tM∧(es=[]∨zE=4)∧(es=[]∨zM=1)∧(zs.length+es.length=0∨zz=4)) ?_ fun τ h' hI=>?_
   ·repeat with_reducible (refine rB fun cq hcq=>?_;subst hcq)
    refine aT (fun k τ H=>∃ (i:Nat) (es:List (Nat × Term)) (A:ai) (zE zM zz:Nat) (tE tM tz:Tok),k+i=v.args.length∧es++j6 ow.level wv.level (v.args.drop i) i=j6 ow.level wv.level v.args 0∧es.length≤i ∧
     SObj x s A H∧ax A h0∧A p5=some (.cells (ay v) 27)∧A p6=some (.cells (ay t) 27)∧A p8=some (.cells zT 27)∧A p9=some (.cells (bO ow) 62)∧A p10=some (.cells (bO wv) 62) ∧
     τ 0=.ptr x 0∧τ 3=.int .i64 d∧τ 5=.ptr p5 0∧τ 6=.ptr p6 0∧τ 8=.ptr p8 0∧τ 9=.ptr p9 0∧τ 10=.ptr p10 0∧τ 11=.list 1 (encS (nmsF wv)) (nmsF wv).length .none∧τ 13=.list 1 (encS (nmsF ow)) (nmsF ow).length .none ∧
     τ 15=.list zk (cZ ks) ks.length tk∧τ 16=.list zz (encs zs++rawX v.args.length d es) (zs.length+es.length) tz∧τ 21=.list zE (encs (es.map (·.2))) es.length tE∧τ 22=.list zM (encS (aU (nmsF ow) (es.map (·.1)))) es.length tM ∧
     τ 83=.list 4 (encs v.args) v.args.length .none∧τ 84=.int .i64 v.args.length∧τ 85=.int .i64 i∧(es=[]∨zE=4)∧(es=[]∨zM=1)∧(zs.length+es.length=0∨zz=4)∧Grow 27 h0 A tE∧Grow 9 h0 A tM∧Grow 27 h0 A tz∧∀ f,tE=.id f→tz≠.id f) v.args.length ?_ ?_
    ·refine ⟨0,[],A,0,0,zz,.nil,.nil,tz,rfl,rfl,Nat.le_refl _,S,hA,a5,a6,a8,a9,a10,?_⟩
     simp only [go_sem,↓reduceIte,f0,f3,f5,f6,f8,f9,f10,f11,f13,f15,f16]
     refine ⟨by rw [show rawX v.args.length d []=[] from rfl,List.append_nil],by rw [bB],rfl,rfl,.inl trivial,.inl trivial,?_,.inl (.inr rfl),.inl (.inr rfl),hgz⟩
     rcases hzz with e|e
     ·left;rw [e];rfl
     ·exact .inr e
    ·intro cc hcc k2 τ H hI
     clear S a5 a6 a8 a9 a10 hA s5 s6 s8 s9 s10 f0 f3 f5 f6 f8 f9 f10 f11 f13 f15 f16 f57 f58 f59
     obtain ⟨i2,es,A,zE,zM,zz,tE,tM,tz,hki2,hixE,hel,S,hA,a5,a6,a8,a9,a10,f0,f3,f5,f6,f8,f9,f10,f11,f13,f15,f16,f21,f22,f83,f84,f85,hzE,hzM,hzz2,hgE,hgM,hgz,hEz⟩:=hI
     subst hcc
     have s5:=S.lessOf _ _ a5
     have s6:=S.lessOf _ _ a6
     have s8:=S.lessOf _ _ a8
     have s9:=S.lessOf _ _ a9
     have s10:=S.lessOf _ _ a10
     by_cases hi2:i2<v.args.length
     ·obtain ⟨y,hy⟩:∃ y,v.args[i2]?=some y:=⟨_,List.getElem?_eq_getElem hi2⟩
      obtain ⟨r1,hr1⟩:=dD v.args i2 hy
      have d1:v.args.drop i2=y::v.args.drop (i2+1):=by
       rw [List.drop_eq_getElem_cons hi2]
       rw [List.getElem?_eq_getElem hi2] at hy;injection hy with hy;rw [hy]
      rw [d1,j6] at hixE
      repeat with_reducible first|((first|apply zS|apply zC);intro _ R_;simp only [go_sem,↓reduceIte,f0,f3,f5,f6,f83,f84,f85,hi2,hr1];subst R_)|(apply rN;subst hbq)|refine rG2 ?_|(refine rB fun cq hcq=>?_;subst hcq)|apply nS|refine rS fun bq hbq=>?_|apply rK
      intro q hq1
      have q9:=aj hq1 s9
      have q10:=aj hq1 s10
      have q5:=aj hq1 s5
      cases hx:ru ow.level wv.level y
      ·rw [hx] at hixE
       simp only [Bool.false_eq_true,if_false] at hixE
       have hx':(y.kind==3)=true→decide (y.n<wv.level)=true→decide (y.n≥ow.level)=false:=fun h1 h2=>by unfold ru at hx;rw [h1,h2] at hx;simpa using hx
       obtain ⟨A1,S,aq,hA1,_⟩:=S.loc hq1 (.cells (ay y) 27)
       have hgE:=hgE.stay (t:=.none) (fun _ _ e=>by cases e) (fun j o hj _=>hA1 j o hj)
       have hgM:=hgM.stay (t:=.none) (fun _ _ e=>by cases e) (fun j o hj _=>hA1 j o hj)
       have hgz:=hgz.stay (t:=.none) (fun _ _ e=>by cases e) (fun j o hj _=>hA1 j o hj)
       cases k3:(y.kind==3)
       ·repeat with_reducible first|((first|apply zS|apply zC);intro _ R_;simp only [go_sem,↓reduceIte,f0,f3,f5,f6,f9,f10,f83,f84,f85,s9,s10,q9,q10,k3,bz ((i2:Int)+1) (by omega)];subst R_)|(apply rN;subst hbq)|refine rG2 ?_|apply nS|refine rS fun bq hbq=>?_|apply rK|apply rE
        refine aL (m:=k2 - 1) (by omega) ⟨i2+1,es,A1,zE,zM,zz,tE,tM,tz,by omega,hixE,by omega,S,hA1.trans hA,hA1 _ _ a5,hA1 _ _ a6,hA1 _ _ a8,hA1 _ _ a9,hA1 _ _ a10,?_⟩
        simp only [go_sem,↓reduceIte,f0,f3,f5,f6,f8,f9,f10,f11,f13,f15,f16,f21,f22,f83,f84]
        exact ⟨rfl,hzE,hzM,hzz2,hgE,hgM,hgz,hEz⟩
       cases kn:decide (y.n<wv.level)
       ·repeat with_reducible first|((first|apply zS|apply zC);intro _ R_;simp only [go_sem,↓reduceIte,f0,f3,f5,f6,f9,f10,f83,f84,f85,s9,s10,q9,q10,k3,kn,bz ((i2:Int)+1) (by omega)];subst R_)|(apply rN;subst hbq)|refine rG2 ?_|apply nS|refine rS fun bq hbq=>?_|apply rK|apply rE
        refine aL (m:=k2 - 1) (by omega) ⟨i2+1,es,A1,zE,zM,zz,tE,tM,tz,by omega,hixE,by omega,S,hA1.trans hA,hA1 _ _ a5,hA1 _ _ a6,hA1 _ _ a8,hA1 _ _ a9,hA1 _ _ a10,?_⟩
        simp only [go_sem,↓reduceIte,f0,f3,f5,f6,f8,f9,f10,f11,f13,f15,f16,f21,f22,f83,f84]
        exact ⟨rfl,hzE,hzM,hzz2,hgE,hgM,hgz,hEz⟩
       have ko:=hx' k3 kn
       repeat with_reducible first|((first|apply zS|apply zC);intro _ R_;simp only [go_sem,↓reduceIte,f0,f3,f5,f6,f9,f10,f83,f84,f85,s9,s10,q9,q10,k3,kn,ko,bz ((i2:Int)+1) (by omega)];subst R_)|(apply rN;subst hbq)|refine rG2 ?_|apply nS|refine rS fun bq hbq=>?_|apply rK|apply rE
       refine aL (m:=k2 - 1) (by omega) ⟨i2+1,es,A1,zE,zM,zz,tE,tM,tz,by omega,hixE,by omega,S,hA1.trans hA,hA1 _ _ a5,hA1 _ _ a6,hA1 _ _ a8,hA1 _ _ a9,hA1 _ _ a10,?_⟩
       simp only [go_sem,↓reduceIte,f0,f3,f5,f6,f8,f9,f10,f11,f13,f15,f16,f21,f22,f83,f84]
       exact ⟨rfl,hzE,hzM,hzz2,hgE,hgM,hgz,hEz⟩
      ·rw [hx] at hixE
       simp only [if_true] at hixE
       unfold ru at hx
       simp only [Bool.and_eq_true] at hx
       obtain ⟨k3,kn,ko⟩:=hx
       repeat with_reducible first|((first|apply zS|apply zC);intro _ R_;simp only [go_sem,↓reduceIte,f0,f3,f5,f6,f9,f10,f83,f84,f85,s9,s10,q9,q10,k3,kn,ko,f21,ic];subst R_)|(apply rN;subst hbq)|refine rG2 ?_|apply nS|refine rS fun bq hbq=>?_
       obtain ⟨A1,S,aq,hA1,_⟩:=S.loc hq1 (.cells (ay y) 27)
       have hgE:=hgE.stay (t:=.none) (fun _ _ e=>by cases e) (fun j o hj _=>hA1 j o hj)
       have hgM:=hgM.stay (t:=.none) (fun _ _ e=>by cases e) (fun j o hj _=>hA1 j o hj)
       have hgz:=hgz.stay (t:=.none) (fun _ _ e=>by cases e) (fun j o hj _=>hA1 j o hj)
       have a5:=hA1 _ _ a5
       have a6:=hA1 _ _ a6
       have a8:=hA1 _ _ a8
       have a9:=hA1 _ _ a9
       have a10:=hA1 _ _ a10
       have hA:=hA1.trans hA
       clear hA1
       generalize upd H q (some (.cells (ay y) 27))=H2 at *
       have hel8:es.length≤8:=by omega
       refine aZ ?_
       simp only [go_sem,↓reduceIte]
       intro w hw
       obtain ⟨A3,H3,ea,S3,hgE3,hA3,hkp⟩:=iE S ed ed je mD iy ⟨rfl,by decide⟩ hA hw (sz1:=zE) (n1:=es.length) (c1:=encs (es.map (·.2))) (c2:=ay y) (n2:=1) (t2:=.full) hgE (by rcases hzE with e|e <;> simp [e]) (sz2:=4) rfl (by decide) (by omega)
       have hgz3:=hgz.stay (fun f hf hf2=>hEz f hf2 hf) hkp
       have hgM3:=hgM.stay (kY (by decide) hgE hgM) hkp
       have hwz:=Au hgz hw S.lessOf
       have a5:=hkp _ _ a5 (aN hgE a5)
       have a6:=hkp _ _ a6 (aN hgE a6)
       have a8:=hkp _ _ a8 (aN hgE a8)
       have a9:=hkp _ _ a9 (aN hgE a9)
       have a10:=hkp _ _ a10 (aN hgE a10)
       have t5:=S3.lessOf _ _ a5
       have hin:i2<(nmsF ow).length:=by omega
       have dn:(List.drop i2 (encS (nmsF ow))).head?=some (.str ((nmsF ow).getD i2 aB)):=by
        rw [List.head?_drop,List.getElem?_map,List.getD_eq_getElem?_getD,List.getElem?_eq_getElem hin];rfl
       simp only [ea,go_sem,↓reduceIte]
       repeat with_reducible first|(apply zS;intro _ R_;simp only [go_sem,↓reduceIte,f0,f3,f5,f6,f9,f10,f13,f22,f83,f84,f85,hin,dn,lC];subst R_)|(apply rN;subst hbq)|refine rG2 ?_|refine rS fun bq hbq=>?_
       refine aZ ?_
       simp only [go_sem,↓reduceIte]
       intro w4 hw4
       obtain ⟨A4,H4,ea4,S4,hgM4,hA4,hkp4⟩:=iE S3 qB qB sz_9 by_9 ze_9 ⟨rfl,by decide⟩ hA3 hw4 (sz1:=zM) (n1:=es.length) (c1:=encS (aU (nmsF ow) (es.map (·.1)))) (c2:=[.str ((nmsF ow).getD i2 aB)]) (n2:=1) (t2:=.full) hgM3 (by rcases hzM with e|e <;> simp [e]) (sz2:=1) rfl (by decide) (by omega)
       have hgz4:=hgz3.stay (kY (by decide) hgM3 hgz3) hkp4
       have hgE4:=hgE3.stay (kY (by decide) hgM3 hgE3) hkp4
       have a5:=hkp4 _ _ a5 (aN hgM3 a5)
       have a6:=hkp4 _ _ a6 (aN hgM3 a6)
       have a8:=hkp4 _ _ a8 (aN hgM3 a8)
       have a9:=hkp4 _ _ a9 (aN hgM3 a9)
       have a10:=hkp4 _ _ a10 (aN hgM3 a10)
       have t5:=S4.lessOf _ _ a5
       simp only [ea4,go_sem,↓reduceIte]
       repeat with_reducible first|(apply zS;intro _ R_;simp only [go_sem,↓reduceIte,f0,f3,f5,f6,f9,f10,f16,f83,f84,f85,t5,iV,mU,bz ((v.args.length:Int) - 1) (by omega),bz ((v.args.length:Int) - 1 - i2) (by omega),bz ((v.args.length:Int) - 1 - i2+d) (by omega)];subst R_)|(apply rN;subst hbq)|refine rG2 ?_
       refine aZ ?_
       simp only [go_sem,↓reduceIte]
       intro w6 hw6
       obtain ⟨A5,H5,ea5,S5,hgz5,hA5,hkp5⟩:=iE S4 ed ed je mD iy ⟨rfl,by decide⟩ hA4 hw6 (sz1:=zz) (n1:=zs.length+es.length) (c1:=encs zs++rawX v.args.length d es) (c2:=og ((v.args.length:Int) - 1 - i2+d)) (n2:=1) (t2:=.full) hgz4 hzz2 (sz2:=4) rfl (by decide) (by omega)
       have hgE5:=hgE4.stay (fun f hf hf2=>hwz (by rw [hf2,hf])) hkp5
       have hgM5:=hgM4.stay (kY (by decide) hgz4 hgM4) hkp5
       have hw6E:=Au hgE4 hw6 S4.lessOf
       simp only [ea5,go_sem,↓reduceIte]
       repeat with_reducible first|(apply zS;intro _ R_;simp only [go_sem,↓reduceIte,f0,f3,f5,f6,f9,f10,f83,f84,f85,bz ((i2:Int)+1) (by omega)];subst R_)|(apply rN;subst hbq)|refine rG2 ?_|apply nS|apply rE
       refine aL (m:=k2 - 1) (by omega) ⟨i2+1,es++[(i2,y)],A5,4,1,4,.id w,.id w4,.id w6,by omega,by rw [List.append_assoc];exact hixE,by simp;omega,S5,hA5,hkp5 _ _ a5 (aN hgz4 a5),hkp5 _ _ a6 (aN hgz4 a6),hkp5 _ _ a8 (aN hgz4 a8),hkp5 _ _ a9 (aN hgz4 a9),hkp5 _ _ a10 (aN hgz4 a10),?_⟩
       simp only [go_sem,↓reduceIte,f0,f3,f5,f6,f8,f9,f10,f11,f13,f15,f83,f84]
       refine ⟨by rw [Ma,List.length_append,List.append_assoc];rfl,by rw [List.map_append,List.map_cons,List.map_nil,lh];simp,by simp [aU],rfl,.inr trivial,.inr trivial,.inr trivial,hgE5,hgM5,hgz5,fun f hf hf2=>hw6E (by rw [hf,hf2])⟩
     ·rw [List.drop_eq_nil_of_le (show v.args.length≤i2 by omega)] at hixE
      rw [j6,List.append_nil] at hixE
      repeat with_reducible first|((first|apply zS|apply zC);intro _ R_;simp only [go_sem,↓reduceIte,f0,f3,f5,f6,f8,f9,f10,f83,f84,f85,hi2];subst R_)|(apply rN;subst hbq)|refine rG2 ?_|(apply x1;clear hbq bq)|apply nS|refine rS fun bq hbq=>?_|apply rXx|apply x3|apply x4
      refine aD ⟨es,A,zE,zM,zz,tE,tM,tz,hixE,by omega,S,hA,a5,a6,a8,a9,a10,?_⟩
      simp only [go_sem,↓reduceIte,f0,f3,f5,f6,f8,f9,f10,f11,f13,f15,f16,f21,f22]
      exact ⟨hzE,hzM,hzz2⟩
   clear S a5 a6 a8 a9 a10 hA s5 s6 s8 s9 s10 f0 f3 f5 f6 f8 f9 f10 f11 f13 f15 f16 f57 f58 f59
   obtain ⟨es,A,zE,zM,zz,tE,tM,tz,hixE,hel,S,hA,a5,a6,a8,a9,a10,f0,f3,f5,f6,f8,f9,f10,f11,f15,f16,f21,f22,hzE,hzM,hzz2⟩:=hI
   have s5:=S.lessOf _ _ a5
   have s6:=S.lessOf _ _ a6
   have s8:=S.lessOf _ _ a8
   have s9:=S.lessOf _ _ a9
   have s10:=S.lessOf _ _ a10
   have hel8:es.length≤8:=by omega
   have hseen:nC s v t d=(if (ks.length:Int)==(nmsF wv).length&&decide (wv.level≤ow.level) then .ok (s,sVar t.n (zs++es.map fun p=>sBnd ((v.args.length:Int) - 1 - p.1+d))) else if decide ((ks.length:Int)+es.length>8) then .large 2
    else (jq s (min wv.level ow.level) (bK (aU (nmsF wv) ks++aU (nmsF ow) (es.map (·.1))) (bU wv.type))).bind fun r=>.ok (kr r.1 t.n (sVar r.2 (bR (nmsF wv).length ks++es.map (·.2))),sVar r.2 (zs++es.map fun p=>sBnd ((v.args.length:Int) - 1 - p.1+d)))):=by
    unfold nC
    rw [hne]
    dsimp only
    rw [← how,← hwv,← hixK,← hixZ,← hixE]
    rfl
   have hout:∀ n:Int,LeAV (.agg [.int .i64 4,.int .i64 n,.str aB,.list zz (encs zs++rawX v.args.length d es) (zs.length+es.length) tz]) (enc (sVar n (zs++es.map fun p=>sBnd ((v.args.length:Int) - 1 - p.1+d)))):=fun n=>by
    refine LeAV.agg (.cons (LeAV.refl _) (.cons (LeAV.refl _) (.cons (LeAV.refl _) (.cons ?_ .nil))))
    have e1:encs (zs++es.map fun p=>sBnd ((v.args.length:Int) - 1 - p.1+d))=encs zs++encs (es.map fun p=>sBnd ((v.args.length:Int) - 1 - p.1+d)):=by rw [dh,dh,dh,List.flatMap_append]
    have e2:(zs++es.map fun p=>sBnd ((v.args.length:Int) - 1 - p.1+d)).length=zs.length+es.length:=by simp
    show LeAV _ (.list 4 (encs (zs++es.map fun p=>sBnd ((v.args.length:Int) - 1 - p.1+d))) (zs++es.map fun p=>sBnd ((v.args.length:Int) - 1 - p.1+d)).length .none)
    rw [e1,e2]
    rcases hzz2 with e|e
    ·have z1:zs=[]:=List.eq_nil_of_length_eq_zero (by omega)
     have z2:es=[]:=List.eq_nil_of_length_eq_zero (by omega)
     subst z1;subst z2
     rw [List.map_nil,bB]
     show LeAV (.list zz [] 0 tz) (.list 4 [] 0 .none)
     exact LeAV.nil _ _ _
    ·subst e
     exact fun G W u hr=>LeAV.listL (LeL.app (Na _ _ _) (encs zs)) G W u (LeAV.list _ _ _ _ G W u hr)
   subst hbq
   repeat with_reducible refine ah fun bq hbq=>?_
   refine dB (fun τ H'=>H'=h'∧τ 0=.ptr x 0∧τ 3=.int .i64 d∧τ 5=.ptr p5 0∧τ 6=.ptr p6 0∧τ 8=.ptr p8 0∧τ 9=.ptr p9 0∧τ 10=.ptr p10 0∧τ 11=.list 1 (encS (nmsF wv)) (nmsF wv).length .none∧τ 15=.list zk (cZ ks) ks.length tk∧τ 16=.list zz (encs zs++rawX v.args.length d es) (zs.length+es.length) tz∧τ 21=.list zE (encs (es.map (·.2))) es.length tE∧τ 22=.list zM (encS (aU (nmsF ow) (es.map (·.1)))) es.length tM∧τ 142=.bool ((ks.length:Int)==(nmsF wv).length&&decide (wv.level≤ow.level))) ?_ fun τ h' hI=>?_
   ·cases c1:((ks.length:Int)==(nmsF wv).length)
    ·repeat with_reducible first|(apply zS;intro _ R_;simp only [go_sem,↓reduceIte,f0,f3,f5,f6,f8,f9,f10,f11,f15,f16,f21,f22,c1,s9,s10];subst R_)|refine rG2 ?_|apply nS
     refine aD ?_
     simp only [go_sem,↓reduceIte,f0,f3,f5,f6,f8,f9,f10,f11,f15,f16,f21,f22]
    ·cases c2:decide (wv.level≤ow.level)
     all_goals
      repeat with_reducible first|(apply zS;intro _ R_;simp only [go_sem,↓reduceIte,f0,f3,f5,f6,f8,f9,f10,f11,f15,f16,f21,f22,c1,c2,s9,s10];subst R_)|refine rG2 ?_|apply nS
      refine aD ?_
      simp only [go_sem,↓reduceIte,f0,f3,f5,f6,f8,f9,f10,f11,f15,f16,f21,f22]
   clear f0 f3 f5 f6 f8 f9 f10 f11 f15 f16 f21 f22
   obtain ⟨rfl,f0,f3,f5,f6,f8,f9,f10,f11,f15,f16,f21,f22,f142⟩:=hI
   subst hbq
   cases hcc:((ks.length:Int)==(nmsF wv).length&&decide (wv.level≤ow.level))
   case true =>
    rw [hcc] at hseen f142
    repeat with_reducible first|((first|apply zS|apply zC);intro _ R_;simp only [go_sem,↓reduceIte,f0,f3,f5,f6,f8,f9,f10,f11,f16,f142,s6,s8,Bb];subst R_)|(apply rN;subst hbq)|refine rG2 ?_|(apply r1;clear hbq bq)|apply nS|refine rS fun bq hbq=>?_|apply rR
    obtain ⟨A1,S1,_,hA1,_⟩:=S.wr hA a8 h08 (.cells [.int .i64 4,.int .i64 t.n,.str aB,.list zz (encs zs++rawX v.args.length d es) (zs.length+es.length) tz] 27)
    refine df (v:=enc (sVar t.n (zs++es.map fun p=>sBnd ((v.args.length:Int) - 1 - p.1+d)))) (by rw [Tryz.results162]) (ax.refl _) ?_ (hq s _ _ hseen (S1.low hA1))
    simp only [go_sem,↓reduceIte,f8,aJ,Option.some.injEq,exists_eq_left']
    exact hout t.n
   rw [hcc] at hseen f142
   simp only [Bool.false_eq_true,if_false] at hseen
   cases c8:decide ((ks.length:Int)+es.length>8)
   case true =>
    rw [c8] at hseen
    repeat with_reducible first|((first|apply zS|apply zC);intro _ R_;simp only [go_sem,↓reduceIte,f0,f3,f5,f6,f8,f9,f10,f11,f15,f16,f21,f142,s6,s8,c8,ql,bz ((ks.length:Int)+es.length) (by omega)];subst R_)|(apply rN;subst hbq)|refine rG2 ?_|apply nS|refine rS fun bq hbq=>?_|apply rK
    exact p1 (pL (ax.refl _) (hp _ _ (by rw [hseen];rfl) (S.lessOf.trans hA)))
   rw [c8] at hseen
   simp only [Bool.false_eq_true,if_false] at hseen
   have hk8:ks.length+es.length≤8:=by simp at c8;omega
   repeat with_reducible first|((first|apply zS|apply zC);intro _ R_;simp only [go_sem,↓reduceIte,f0,f3,f5,f6,f8,f9,f10,f11,f15,f16,f21,f142,s6,s8,c8,E8,bz ((ks.length:Int)+es.length) (by omega)];subst R_)|(apply rN;subst hbq)|refine rG2 ?_|apply nS|refine rS fun bq hbq=>?_|apply rK
   intro p26 hp26
   have n265:=aj hp26 s5
   have n266:=aj hp26 s6
   have n268:=aj hp26 s8
   have n269:=aj hp26 s9
   have n2610:=aj hp26 s10
   repeat with_reducible first|(apply zS;intro _ R_;simp only [go_sem,↓reduceIte,f0,f3,f5,f6,f8,f9,f10,f11,f15];subst R_)|(apply rN;subst hbq)|refine rG2 ?_|apply nS|refine rS fun bq hbq=>?_
   obtain ⟨A1,S1,a26,hA1,hA26⟩:=S.loc hp26 (.cells [.int .i64 4,.int .i64 0,.str aB,.list 0 [] 0 .nil] 27)
   have h026:=hA.none hA26
   have a5:=hA1 _ _ a5
   have a6:=hA1 _ _ a6
   have a8:=hA1 _ _ a8
   have a9:=hA1 _ _ a9
   have a10:=hA1 _ _ a10
   have hA:=hA1.trans hA
   have hkix:∀ k ∈ ks,k<(nmsF wv).length:=fun k hk=>by
    have K:=(q8 (lv:=ow.level) (us:=v.args) (d:=d) t.args 0 hskT).ix
    rw [← hixK] at K
    have:=K k hk
    omega
   refine dB (fun τ H=>∃ (A:ai) (zN zA:Nat) (tN tA:Tok),SObj x s A H∧ax A h0∧A p5=some (.cells (ay v) 27)∧A p6=some (.cells (ay t) 27)∧A p8=some (.cells zT 27)∧A p9=some (.cells (bO ow) 62)∧A p10=some (.cells (bO wv) 62)∧A p26=some (.cells [.int .i64 4,.int .i64 0,.str aB,.list zA (rawB (nmsF wv).length ks) ks.length tA] 27)∧τ 0=.ptr x 0∧τ 5=.ptr p5 0∧τ 6=.ptr p6 0∧τ 8=.ptr p8 0∧τ 9=.ptr p9 0∧τ 10=.ptr p10 0∧τ 16=.list zz (encs zs++rawX v.args.length d es) (zs.length+es.length) tz∧τ 21=.list zE (encs (es.map (·.2))) es.length tE∧τ 22=.list zM (encS (aU (nmsF ow) (es.map (·.1)))) es.length tM∧τ 25=.list zN (encS (aU (nmsF wv) ks)) ks.length tN∧τ 26=.ptr p26 0∧(ks.length=0∨zN=1)∧(ks.length=0∨zA=4)∧Grow 9 h0 A tN∧Grow 27 h0 A tA) ?_ fun τ h' hI=>?_
   ·repeat with_reducible (refine rB fun cq hcq=>?_;subst hcq)
    refine aT (fun k τ H=>∃ (i:Nat) (A:ai) (zN zA:Nat) (tN tA:Tok),k+i=ks.length∧SObj x s A H∧ax A h0∧A p5=some (.cells (ay v) 27)∧A p6=some (.cells (ay t) 27)∧A p8=some (.cells zT 27)∧A p9=some (.cells (bO ow) 62)∧A p10=some (.cells (bO wv) 62)∧A p26=some (.cells [.int .i64 4,.int .i64 0,.str aB,.list zA (rawB (nmsF wv).length (ks.take i)) i tA] 27)∧τ 0=.ptr x 0∧τ 5=.ptr p5 0∧τ 6=.ptr p6 0∧τ 8=.ptr p8 0∧τ 9=.ptr p9 0∧τ 10=.ptr p10 0∧τ 11=.list 1 (encS (nmsF wv)) (nmsF wv).length .none∧τ 16=.list zz (encs zs++rawX v.args.length d es) (zs.length+es.length) tz∧τ 21=.list zE (encs (es.map (·.2))) es.length tE∧τ 22=.list zM (encS (aU (nmsF ow) (es.map (·.1)))) es.length tM∧τ 25=.list zN (encS (aU (nmsF wv) (ks.take i))) i tN∧τ 26=.ptr p26 0∧τ 156=.list zk (cZ ks) ks.length tk∧τ 157=.int .i64 ks.length∧τ 158=.int .i64 i∧(i=0∨zN=1)∧(i=0∨zA=4)∧Grow 9 h0 A tN∧Grow 27 h0 A tA) ks.length ?_ ?_
    ·refine ⟨0,A1,0,0,.nil,.nil,rfl,S1,hA,a5,a6,a8,a9,a10,a26,?_⟩
     simp only [go_sem,↓reduceIte,f0,f5,f6,f8,f9,f10,f11,f16,f21,f22]
     exact ⟨rfl,rfl,.inl trivial,.inl trivial,.inl (.inr rfl),.inl (.inr rfl)⟩
    ·intro c3 hc3 k3 τ H hI
     clear S S1 a5 a6 a8 a9 a10 a26 hA s5 s6 s8 s9 s10 f0 f3 f5 f6 f8 f9 f10 f11 f15 f16 f21 f22 f142 hA1
     obtain ⟨i3,A,zN,zA,tN,tA,hki3,S,hA,a5,a6,a8,a9,a10,a26,f0,f5,f6,f8,f9,f10,f11,f16,f21,f22,f25,f26,f156,f157,f158,hzN,hzA,hgN,hgA⟩:=hI
     subst hc3
     have s26:=S.lessOf _ _ a26
     by_cases hi3:i3<ks.length
     ·obtain ⟨kk,hkk⟩:∃ kk,ks[i3]?=some kk:=⟨_,List.getElem?_eq_getElem hi3⟩
      have hkn:=hkix kk (List.mem_of_getElem? hkk)
      have hne:ks≠[]:=fun e=>by subst e;simp at hi3
      obtain rfl:zk=1:=hzk.resolve_left hne
      have d1:(List.drop i3 (cZ ks)).head?=some (.int .i64 (kk:Int)):=by rw [List.head?_drop,List.getElem?_map,hkk];rfl
      have d2:(List.drop kk (encS (nmsF wv))).head?=some (.str ((nmsF wv).getD kk aB)):=by
       rw [List.head?_drop,List.getElem?_map,List.getD_eq_getElem?_getD,List.getElem?_eq_getElem hkn];rfl
      repeat with_reducible first|((first|apply zS|apply zC);intro _ R_;simp only [go_sem,↓reduceIte,f0,f11,f25,f26,f156,f157,f158,hi3,d1,d2,hkn,lC];subst R_)|(apply rN;subst hbq)|refine rG2 ?_|(refine rB fun cq hcq=>?_;subst hcq)|apply nS|refine rS fun bq hbq=>?_|apply rK
      refine aZ ?_
      simp only [go_sem,↓reduceIte]
      intro w hw
      obtain ⟨A3,H3,ea,S3,hgN3,hA3,hkp⟩:=iE S qB qB sz_9 by_9 ze_9 ⟨rfl,by decide⟩ hA hw (sz1:=zN) (n1:=i3) (c1:=encS (aU (nmsF wv) (ks.take i3))) (c2:=[.str ((nmsF wv).getD kk aB)]) (n2:=1) (t2:=.full) hgN hzN (sz2:=1) rfl (by decide) (by omega)
      have a5:=hkp _ _ a5 (aN hgN a5)
      have a6:=hkp _ _ a6 (aN hgN a6)
      have a8:=hkp _ _ a8 (aN hgN a8)
      have a9:=hkp _ _ a9 (aN hgN a9)
      have a10:=hkp _ _ a10 (aN hgN a10)
      have a26:=hkp _ _ a26 (aN hgN a26)
      have hgA3:=hgA.stay (kY (by decide) hgN hgA) hkp
      have sb3:=S3.lessOf _ _ a26
      simp only [ea,go_sem,↓reduceIte]
      repeat with_reducible first|(apply zS;intro _ R_;simp only [go_sem,↓reduceIte,f0,f11,f26,f156,f157,f158,sb3,iV,mU,bz (((nmsF wv).length:Int) - 1) (by omega),bz (((nmsF wv).length:Int) - 1 - kk) (by omega)];subst R_)|(apply rN;subst hbq)|refine rG2 ?_
      refine aZ ?_
      simp only [go_sem,↓reduceIte]
      intro w4 hw4
      obtain ⟨A4,H4,ea4,S4,hgA4,hA4,hkp4⟩:=iE S3 ed ed je mD iy ⟨rfl,by decide⟩ hA3 hw4 (sz1:=zA) (n1:=i3) (c1:=rawB (nmsF wv).length (ks.take i3)) (c2:=og (((nmsF wv).length:Int) - 1 - kk)) (n2:=1) (t2:=.full) hgA3 hzA (sz2:=4) rfl (by decide) (by omega)
      have b5:=hkp4 _ _ a5 (aN hgA3 a5)
      have b6:=hkp4 _ _ a6 (aN hgA3 a6)
      have b8:=hkp4 _ _ a8 (aN hgA3 a8)
      have b9:=hkp4 _ _ a9 (aN hgA3 a9)
      have b10:=hkp4 _ _ a10 (aN hgA3 a10)
      have b26:=hkp4 _ _ a26 (aN hgA3 a26)
      have hgN4:=hgN3.stay (kY (by decide) hgA3 hgN3) hkp4
      have sb4:=S4.lessOf _ _ b26
      simp only [ea4,go_sem,↓reduceIte,f26,sb4]
      repeat with_reducible first|(apply zS;intro _ R_;simp only [go_sem,↓reduceIte,f0,f26,f156,f157,f158,sb4,bz ((i3:Int)+1) (by omega)];subst R_)|(apply rN;subst hbq)|refine rG2 ?_|apply nS|apply rE
      obtain ⟨A5,S5,b26',hA5,hkp5⟩:=S4.wr hA4 b26 h026 (.cells [.int .i64 4,.int .i64 0,.str aB,.list 4 (rawB (nmsF wv).length (ks.take i3)++og (((nmsF wv).length:Int) - 1 - kk)) (i3+1) (.id w4)] 27)
      refine aL (m:=k3 - 1) (by omega) ⟨i3+1,A5,1,4,.id w,.id w4,by omega,S5,hA5,hkp5 _ _ n265 b5,hkp5 _ _ n266 b6,hkp5 _ _ n268 b8,hkp5 _ _ n269 b9,hkp5 _ _ n2610 b10,?_,?_⟩
      ·rw [DN hkk];exact b26'
      ·rw [Aj hkk]
       simp only [go_sem,↓reduceIte,f0,f5,f6,f8,f9,f10,f11,f16,f21,f22,f26,f156,f157]
       refine ⟨?_,rfl,.inr trivial,.inr trivial,hgN4.putA b26 hkp5,hgA4.putA b26 hkp5⟩
       simp
     ·have hie:i3=ks.length:=by omega
      have htk:ks.take i3=ks:=by rw [hie];exact List.take_length
      rw [htk] at a26 f25
      rw [hie] at a26 f25 hzN hzA
      repeat with_reducible first|((first|apply zS|apply zC);intro _ R_;simp only [go_sem,↓reduceIte,f157,f158,hi3];subst R_)|(apply rN;subst hbq)|refine rG2 ?_|(apply x1;clear hbq bq)|apply nS|refine rS fun bq hbq=>?_|apply rXx|apply x3|apply x4
      refine aD ⟨A,zN,zA,tN,tA,S,hA,a5,a6,a8,a9,a10,a26,?_⟩
      simp only [go_sem,↓reduceIte,f0,f5,f6,f8,f9,f10,f16,f21,f22,f25,f26]
      exact ⟨hzN,hzA,hgN,hgA⟩
   clear S S1 a5 a6 a8 a9 a10 a26 hA s5 s6 s8 s9 s10 f0 f3 f5 f6 f8 f9 f10 f11 f15 f16 f21 f22 f142 hA1
   obtain ⟨A,zN,zA,tN,tA,S,hA,a5,a6,a8,a9,a10,a26,f0,f5,f6,f8,f9,f10,f16,f21,f22,f25,f26,hzN,hzA,hgN,hgA⟩:=hI
   subst hbq
   have s26:=S.lessOf _ _ a26
   repeat with_reducible first|(apply zS;intro _ R_;simp only [go_sem,↓reduceIte,f21,f26,s26];subst R_)|refine rG2 ?_|refine rS fun bq hbq=>?_
   refine aZ ?_
   simp only [go_sem,↓reduceIte]
   intro w hw
   have hes0:es.length=0→encs (es.map (·.2))=[]:=fun e=>by
    have:es=[]:=List.eq_nil_of_length_eq_zero e
    subst this;exact bB
   obtain ⟨A3,H3,zB,tB,ea,S3,hA3,hzB,hkp⟩:=Bj S ed ed je mD iy ⟨rfl,by decide⟩ hA hw (sz1:=zA) (n1:=ks.length) (c1:=rawB (nmsF wv).length ks) (c2:=encs (es.map (·.2))) (sz2:=zE) (n2:=es.length) (t2:=tE) hgA hzA (by rcases hzE with e|e <;> simp [e]) hes0 (by omega)
   have hgN3:Grow 9 h0 A3 tN:=hgN.stay (kY (by decide) hgA hgN) hkp
   have a5:=hkp _ _ a5 (aN hgA a5)
   have a6:=hkp _ _ a6 (aN hgA a6)
   have a8:=hkp _ _ a8 (aN hgA a8)
   have a9:=hkp _ _ a9 (aN hgA a9)
   have a10:=hkp _ _ a10 (aN hgA a10)
   have a26:=hkp _ _ a26 (aN hgA a26)
   have t26:=S3.lessOf _ _ a26
   simp only [ea,go_sem,↓reduceIte,f26,t26]
   obtain ⟨A4,S4,b26,hA4,hkp4⟩:=S3.wr hA3 a26 h026 (.cells [.int .i64 4,.int .i64 0,.str aB,.list zB (rawB (nmsF wv).length ks++encs (es.map (·.2))) (ks.length+es.length) tB] 27)
   have hgN4:Grow 9 h0 A4 tN:=hgN3.putA a26 hkp4
   have b6:=hkp4 _ _ n266 a6
   have b8:=hkp4 _ _ n268 a8
   have b9:=hkp4 _ _ n269 a9
   have b10:=hkp4 _ _ n2610 a10
   generalize upd H3 p26 (some (.cells [.int .i64 4,.int .i64 0,.str aB,.list zB (rawB (nmsF wv).length ks++encs (es.map (·.2))) (ks.length+es.length) tB] 27))=H4 at *
   have t9:=S4.lessOf _ _ b9
   have t10:=S4.lessOf _ _ b10
   apply rN;subst hbq
   repeat with_reducible refine ah fun bq hbq=>?_
   refine bA (.take 0 (.take 1 (.take 2 (.take 3 (.take 4 (.take 5 (.take 6 (.take 7 (.take 9 (.take 10 (.one 8 [10,4,2] (.one 11 [4,2] (.one 12 [4,2] (.one 13 [4,2] (.take 14 (.one 15 [] (.done))))))))))))))))) (by kernel_rfl) (by simp only [aF,gtOf,aA];exact rfl) ?_
   repeat ((first|(with_reducible apply iT;refine sT rfl ?_)|(with_reducible apply iO;refine sO rfl ?_));intro _ _ _ C_ R_ U_;simp only [go_sem,↓reduceIte,f0,f9,f10,f22,f25,f26,t9,t10];subst C_ R_ U_)
   refine aZ ?_
   simp only [go_sem,↓reduceIte]
   intro w5 hw5
   have hnm0:es.length=0→encS (aU (nmsF ow) (es.map (·.1)))=[]:=fun e=>by
    have:es=[]:=List.eq_nil_of_length_eq_zero e
    subst this;rfl
   obtain ⟨A5,H5,zM2,tM2,ea5,S5,hA5,hzM2,hkp5⟩:=Bj S4 qB qB sz_9 by_9 ze_9 ⟨rfl,by decide⟩ hA4 hw5 (sz1:=zN) (n1:=ks.length) (c1:=encS (aU (nmsF wv) ks)) (c2:=encS (aU (nmsF ow) (es.map (·.1)))) (sz2:=zM) (n2:=es.length) (t2:=tM) hgN4 hzN (by rcases hzM with e|e <;> simp [e]) hnm0 (by omega)
   have b6:=hkp5 _ _ b6 (aN hgN4 b6)
   have b8:=hkp5 _ _ b8 (aN hgN4 b8)
   have b9:=hkp5 _ _ b9 (aN hgN4 b9)
   have b10:=hkp5 _ _ b10 (aN hgN4 b10)
   have b26:=hkp5 _ _ b26 (aN hgN4 b26)
   have t9:=S5.lessOf _ _ b9
   have t10:=S5.lessOf _ _ b10
   simp only [ea5,go_sem,↓reduceIte,t9,t10]
   skip
   refine si _ _ _ ?_
   have hnl:(aU (nmsF wv) ks++aU (nmsF ow) (es.map (·.1))).length=ks.length+es.length:=by simp [aU]
   have hNE:encS (aU (nmsF wv) ks)++encS (aU (nmsF ow) (es.map (·.1)))=encS (aU (nmsF wv) ks++aU (nmsF ow) (es.map (·.1))):=by simp
   have hLe:LeAV (.list zM2 (encS (aU (nmsF wv) ks)++encS (aU (nmsF ow) (es.map (·.1)))) (ks.length+es.length) tM2) (.list zM2 (encS (aU (nmsF wv) ks++aU (nmsF ow) (es.map (·.1)))) (aU (nmsF wv) ks++aU (nmsF ow) (es.map (·.1))).length .none):=by
    rw [hnl,← hNE];exact LeAV.list _ _ _ _
   have hA0:aU (nmsF wv) ks++aU (nmsF ow) (es.map (·.1))=[]∨zM2=1:=by
    rcases hzM2 with e|e
    ·left;exact List.eq_nil_of_length_eq_zero (by omega)
    ·exact .inr e
   simp only [go_sem,↓reduceIte,t9,t10]
   refine az.args (args':=[.list zM2 (encS (aU (nmsF wv) ks++aU (nmsF ow) (es.map (·.1)))) (aU (nmsF wv) ks++aU (nmsF ow) (es.map (·.1))).length .none,qA (bU wv.type)]) (.cons hLe (.cons (LeAV.refl _) .nil)) (xA (aU (nmsF wv) ks++aU (nmsF ow) (es.map (·.1))) zM2 hA0 (by omega) _ _ _ ?_)
   simp only [go_sem,↓reduceIte,t9,t10]
   have hmin:(if ow.level<wv.level then ow.level else wv.level)=min wv.level ow.level:=by split <;> omega
   rw [hmin]
   refine yD S5 (min wv.level ow.level) (bK (aU (nmsF wv) ks++aU (nmsF ow) (es.map (·.1))) (bU wv.type)) hbl _ (fun s' m H6 hfr S6=>?_) (fun pv H6 hpv hl6=>?_)
   ·have t9:=S6.lessOf _ _ b9
    have t10:=S6.lessOf _ _ b10
    have t26:=S6.lessOf _ _ b26
    have t6:=S6.lessOf _ _ b6
    have t8:=S6.lessOf _ _ b8
    simp only [go_sem,↓reduceIte,t9,t10,f26,t26]
    repeat with_reducible first|(apply zS;intro _ R_;simp only [go_sem,↓reduceIte,f0,f6,f8,f9,f10,f26,t6,n266,n266.symm];subst R_)|(apply rN;subst hbq)|refine rG2 ?_|refine rS fun bq hbq=>?_
    obtain ⟨A7,S7,b26,hA7,hkp7⟩:=S6.wr hA5 b26 h026 (.cells [.int .i64 4,.int .i64 m,.str aB,.list zB (rawB (nmsF wv).length ks++encs (es.map (·.2))) (ks.length+es.length) tB] 27)
    have hIn:LeAV (.list zB (rawB (nmsF wv).length ks++encs (es.map (·.2))) (ks.length+es.length) tB) (.list 4 (encs (bR (nmsF wv).length ks++es.map (·.2))) (bR (nmsF wv).length ks++es.map (·.2)).length .none):=by
     have e1:encs (bR (nmsF wv).length ks++es.map (·.2))=encs (bR (nmsF wv).length ks)++encs (es.map (·.2)):=by rw [dh,dh,dh,List.flatMap_append]
     have e2:(bR (nmsF wv).length ks++es.map (·.2)).length=ks.length+es.length:=by simp [bR]
     rw [e1,e2]
     rcases hzB with e|e
     ·have z1:ks=[]:=List.eq_nil_of_length_eq_zero (by omega)
      have z2:es=[]:=List.eq_nil_of_length_eq_zero (by omega)
      rw [z1,z2,List.map_nil,bB,show bR (nmsF wv).length []=[] from rfl,bB]
      show LeAV (.list zB [] 0 tB) (.list 4 [] 0 .none)
      exact LeAV.nil _ _ _
     ·rw [e]
      exact fun G W u hr=>LeAV.listL (LeL.append (Gq _ _) (LeL.refl _)) G W u (LeAV.list _ _ _ _ G W u hr)
    obtain ⟨hlt,e1,e2⟩:=jS hfr
    have hT0:=T.n0
    have hT1:=T.n1
    have hlen5:t.n<(s'.ms.length:Int):=by rw [e1];simp;omega
    have c6:=hkp7 _ _ n266 b6
    have c8:=hkp7 _ _ n268 b8
    refine az.args (args':=[.ptr x 0,.int .i64 t.n,enc (sVar m (bR (nmsF wv).length ks++es.map (·.2)))]) (.cons (LeAV.refl _) (.cons (LeAV.refl _) (.cons (LeAV.agg (.cons (LeAV.refl _) (.cons (LeAV.refl _) (.cons (LeAV.refl _) (.cons hIn .nil))))) .nil))) (G5 S7 hT0 hlen5 (sVar m (bR (nmsF wv).length ks++es.map (·.2))) _ (fun h9 S9=>?_))
    have u26:=S9.lessOf _ _ b26
    have u8:=S9.lessOf _ _ c8
    try dsimp only
    repeat with_reducible first|(apply zS;intro _ R_;simp only [go_sem,↓reduceIte,f0,f6,f8,f16,f26,u26,u8,Bb];subst R_)|(apply rN;subst hbq)|refine rG2 ?_|apply nS|refine rS fun bq hbq=>?_|apply rR
    obtain ⟨A10,S10,_,hA10,_⟩:=S9.wr hA7 c8 h08 (.cells [.int .i64 4,.int .i64 m,.str aB,.list zz (encs zs++rawX v.args.length d es) (zs.length+es.length) tz] 27)
    have hres:nC s v t d=.ok (kr s' t.n (sVar m (bR (nmsF wv).length ks++es.map (·.2))),sVar m (zs++es.map fun p=>sBnd ((v.args.length:Int) - 1 - p.1+d))):=by rw [hseen,hfr];rfl
    refine df (v:=enc (sVar m (zs++es.map fun p=>sBnd ((v.args.length:Int) - 1 - p.1+d)))) (by rw [Tryz.results162]) (ax.refl _) ?_ (hq _ _ _ hres (S10.low hA10))
    simp only [go_sem,↓reduceIte,f8,aJ,Option.some.injEq,exists_eq_left']
    exact hout m
   ·refine _root_.Go.Proofs.YthkjmiejaoomcaaGreat.Am.p5 (p1 (pL (ax.refl _) (hp pv H6 ?_ (hl6.trans hA5))))
    rw [hseen]
    cases hc:jq s (min wv.level ow.level) (bK (aU (nmsF wv) ks++aU (nmsF ow) (es.map (·.1))) (bU wv.type)) with
    |ok a=>rw [hc] at hpv;exact hpv.elim
    |clash=>rw [hc] at hpv;exact hpv
    |large e=>rw [hc] at hpv;exact hpv
theorem nG {α β:Type} {r:Rz α} {f:α→Rz β} {v:AV} (h:PanV r v):PanV (r.bind f) v:=by
 cases r with
 |ok a=>exact h.elim
 |clash=>exact h
 |large e=>exact h
theorem PV {g:Sv→Term→Rz (Sv × Term)} {s s':Sv} {a out:Term} {l outs:List Term} (h:g s a=.ok (s',out)):((mapS g s (a::l)).bind fun q=>.ok (q.1,outs++q.2))=(mapS g s' l).bind fun q=>.ok (q.1,(outs++[out])++q.2):=by
 rw [mapS,h]
 dsimp only [Rz.bind]
 cases mapS g s' l with
 |ok q=>simp
 |clash=>rfl
 |large e=>rfl
theorem PW {g:Sv→Term→Rz (Sv × Term)} {s:Sv} {a:Term} {l:List Term} {pv:AV} (h:PanV (g s a) pv):PanV (mapS g s (a::l)) pv:=by
 rw [mapS];exact nG h
theorem Ll {x:Nat} {v:Term} {D:Int} (hD:0≤D∧D≤500):∀ (f:Nat) (s:Sv) (t:Term) (d deep:Int) (h0 h:ai) (Q:AOut→ai→Prop),SObj x s h0 h→Inv s.ms→0≤s.wk→s.wk≤40000→iZ s.ms v D→(ak s.ms v.n).is=false→aK s.ms t (D+d)=true→0≤d→d≤deep→deep≤401→(f:Int)+deep=402 →
  (∀ s' out h2,lJ f s v t d deep=.ok (s',out)→SObj x s' h0 h2→Q (.ret (enc out)) h2)→(∀ pv h2,PanV (lJ f s v t d deep) pv→ax h2 h0→Q (.panic pv) h2)→az Tryz.prog 145 [.ptr x 0,enc v,enc t,.int .i64 d,.int .i64 deep] h Q:=by
 intro f
 induction f with
 |zero=>intro s t d deep h0 h Q S I hw0 hw V vu hf hd hdd hdp hfd;omega
 |succ f ih =>
  intro s t d deep h0 h Q S I hw0 hw V vu hf hd hdd hdp hfd hq hp
  refine eN Tryz.func145 ?_
  repeat with_reducible first|(apply zS;intro _ R_;simp only [go_sem,↓reduceIte];subst R_)|refine rG2 ?_|refine rS fun bq hbq=>?_
  intro p6 hp6
  obtain ⟨A,S,a6,hA,_⟩:=S.loc hp6 (.cells (ay v) 27)
  repeat with_reducible (apply zS;intro _ R_;simp only [go_sem,↓reduceIte];subst R_)
  intro p7 hp7
  have e7:=aQ hp7
  obtain ⟨A2,S,a7,hA2,hA7⟩:=S.loc (b:=p7) (by rw [ae _ _ e7.1];exact e7.2) (.cells (ay t) 27)
  have h07:=hA.none hA7
  have a6:=hA2 _ _ a6
  have hA:=hA2.trans hA
  clear hA2
  repeat with_reducible (apply zS;intro _ R_;simp only [go_sem,↓reduceIte,e7.1,e7.1.symm];subst R_)
  intro p10 hp10
  have e8:=aQ hp10
  have e8':=aQ e8.2
  obtain ⟨A,S,a10,hA2,hA10⟩:=S.loc (b:=p10) (by rw [ae _ _ e8.1,ae _ _ e8'.1];exact e8'.2) (.cells zT 27)
  have h010:=hA.none hA10
  have a6:=hA2 _ _ a6
  have a7:=hA2 _ _ a7
  have hA:=hA2.trans hA
  clear hA2
  have n67:p6≠p7:=fun e=>e7.1 e.symm
  have n610:p6≠p10:=fun e=>e8'.1 e.symm
  have n710:p7≠p10:=fun e=>e8.1 e.symm
  generalize upd (upd (upd h p6 (some (.cells (ay v) 27))) p7 (some (.cells (ay t) 27))) p10 (some (.cells zT 27))=H at *
  rw [lJ] at hq hp
  repeat with_reducible first|(apply zS;intro _ R_;simp only [go_sem,↓reduceIte];subst R_)|(apply rN;subst hbq)|refine rG2 ?_|apply nS|refine rS fun bq hbq=>?_
  refine Jc S deep (by omega) _ (fun s1 H1 hc S1=>?_) (fun pv H1 hc hl1=>?_)
  ·obtain ⟨e1,hw1,hd4⟩:=nW hc
   rw [hc] at hq hp
   dsimp only [Rz.bind] at hq hp
   have I1:Inv s1.ms:=by rw [e1];exact I
   have V1:iZ s1.ms v D:=by rw [e1];exact V
   have vu1:(ak s1.ms v.n).is=false:=by rw [e1];exact vu
   have hf1:aK s1.ms t (D+d)=true:=by rw [e1];exact hf
   have hw01:0≤s1.wk:=by rw [e1];show 0≤s.wk+1;omega
   have hw1:s1.wk≤40000:=by rw [e1];show s.wk+1≤40000;omega
   clear e1 hc S I V vu hf hw0 hw
   have s7:=S1.lessOf _ _ a7
   try dsimp only
   repeat with_reducible first|(apply zS;intro _ R_;simp only [go_sem,↓reduceIte,s7];subst R_)|(apply rN;subst hbq)|refine rG2 ?_|apply nS|refine rS fun bq hbq=>?_
   refine Ct S1 I1 (d:=D+d) (by omega) (by omega) t hf1 _ ?_
   obtain ⟨hfu,hflex,_,_⟩:=dK I1 (by omega:0≤D+d) hf1
   generalize gK s1.ms t=u at *
   obtain ⟨A2,S2,b7,hA2,hk2⟩:=S1.wr hA a7 h07 (.cells (ay u) 27)
   have b6:=hk2 _ _ n67 a6
   have b10:=hk2 _ _ (fun e=>n710 e.symm) a10
   have hu8:=lU hfu
   simp only [go_sem,↓reduceIte,s7]
   generalize upd H1 p7 (some (.cells (ay u) 27))=H2 at *
   have s6:=S2.lessOf _ _ b6
   have s7:=S2.lessOf _ _ b7
   cases k4:(u.kind==4)
   case true =>
    rw [k4] at hq hp
    simp only [if_true] at hq hp
    repeat with_reducible first|((first|apply zS|apply zC);intro _ R_;simp only [go_sem,↓reduceIte,s6,s7,k4];subst R_)|(apply rN;subst hbq)|refine rG2 ?_|apply nS|refine rS fun bq hbq=>?_
    refine SG S2 (by have:=I1.len;omega) V1 (dG hfu k4) (by omega) (by omega) _ (fun s' out h3 hr S3=>?_) (fun pv h3 hr hl3=>?_)
    ·have s10:=S3.lessOf _ _ b10
     try dsimp only
     repeat first|(with_reducible first|(apply zS;intro _ R_;simp only [go_sem,↓reduceIte,s10];subst R_)|(apply rN;subst hbq)|(apply r1;clear hbq bq)|apply nS|apply rR)|(with_reducible apply iL;refine rL (by rw [Tryz.results145]) (ax.refl _) ?_;simp only [go_sem,↓reduceIte,aJ,Option.some.injEq,exists_eq_left',s10])
     obtain ⟨A3,S4,_,hA3,_⟩:=S3.wr hA2 b10 h010 (.cells (ay out) 27)
     exact hq _ _ _ hr (S4.low hA3)
    ·dsimp only
     repeat with_reducible first|refine p5 ?_|refine p1 ?_|refine p2 ?_|refine p3 ?_|refine p4 ?_
     exact pL (ax.refl _) (hp pv h3 hr (hl3.trans hA2))
   case false =>
    rw [k4] at hq hp
    simp only [Bool.false_eq_true,if_false] at hq hp
    repeat with_reducible first|((first|apply zS|apply zC);intro _ R_;simp only [go_sem,↓reduceIte,s6,s7,k4];subst R_)|(apply rN;subst hbq)|refine rG2 ?_|apply nS|refine rS fun bq hbq=>?_|apply rK
    intro p11 hp11
    have n6:=aj hp11 s6
    have n7:=aj hp11 s7
    have n10:=aj hp11 (S2.lessOf _ _ b10)
    simp only [go_sem,↓reduceIte]
    obtain ⟨A3,S3,b11,hA3,hA11⟩:=S2.loc hp11 (.cells (ay u) 27)
    have h011:=hA2.none hA11
    have b6:=hA3 _ _ b6
    have b7:=hA3 _ _ b7
    have b10:=hA3 _ _ b10
    have hA:=hA3.trans hA2
    clear hA3 hA2 S2 s6 s7
    generalize upd H2 p11 (some (.cells (ay u) 27))=H3 at *
    have s11:=S3.lessOf _ _ b11
    apply rN;subst hbq
    repeat with_reducible refine ah fun bq hbq=>?_
    repeat with_reducible refine ah fun bq hbq=>?_
    refine rG2 ?_
    simp only [go_sem,↓reduceIte,s11]
    obtain ⟨A4,S4,b11,hA4,hk4⟩:=S3.wr hA b11 h011 (.cells (agT u (.list 0 [] 0 .nil)) 27)
    have b6:=hk4 _ _ n6 b6
    have b7:=hk4 _ _ n7 b7
    have b10:=hk4 _ _ n10 b10
    clear hA hk4 S3 s11
    generalize upd H3 p11 (some (.cells (agT u (.list 0 [] 0 .nil)) 27))=H4 at *
    have s6:=S4.lessOf _ _ b6
    have s7:=S4.lessOf _ _ b7
    have s11:=S4.lessOf _ _ b11
    apply rN;subst hbq
    repeat with_reducible refine ah fun bq hbq=>?_
    refine dB (fun τ H'=>H'=H4∧τ 0=.ptr x 0∧τ 3=.int .i64 d∧τ 4=.int .i64 deep∧τ 6=.ptr p6 0∧τ 7=.ptr p7 0∧τ 10=.ptr p10 0∧τ 11=.ptr p11 0∧τ 40=.bool (bY u.kind)) ?_ fun τ h' hI=>?_
    ·cases k2:(u.kind==2)
     ·cases k3:(u.kind==3)
      all_goals
       repeat with_reducible first|(apply zS;intro _ R_;simp only [go_sem,↓reduceIte,s7,k2,k3];subst R_)|refine rG2 ?_|apply nS
       refine aD ?_
       have hv:bY u.kind=(u.kind==2||u.kind==3):=rfl
       rw [k2,k3] at hv
       simp only [go_sem,↓reduceIte,hv]
     ·repeat with_reducible first|(apply zS;intro _ R_;simp only [go_sem,↓reduceIte,s7,k2];subst R_)|refine rG2 ?_|apply nS
      refine aD ?_
      have hv:bY u.kind=(u.kind==2||u.kind==3):=rfl
      rw [k2] at hv
      simp only [go_sem,↓reduceIte,hv,Bool.true_or]
    obtain ⟨rfl,f0,f3,f4,f6,f7,f10,f11,f40⟩:=hI
    subst hbq
    generalize hoe:(if bY u.kind=true then bX (ak s1.ms v.n).level v.args ⟨u.kind,u.n,aB,[]⟩ d else (⟨u.kind,u.n,u.name,[]⟩,true))=o at *
    repeat with_reducible refine ah fun bq hbq=>?_
    refine dB (fun τ H'=>∃ A,SObj x s1 A H'∧ax A h0∧A p6=some (.cells (ay v) 27)∧A p7=some (.cells (ay u) 27)∧A p10=some (.cells zT 27)∧A p11=some (.cells (agT o.1 (.list 0 [] 0 .nil)) 27)∧o.2=true∧τ 0=.ptr x 0∧τ 3=.int .i64 d∧τ 4=.int .i64 deep∧τ 6=.ptr p6 0∧τ 7=.ptr p7 0∧τ 10=.ptr p10 0∧τ 11=.ptr p11 0) ?_ fun τ h' hI=>?_
    ·cases hvp:bY u.kind
     ·rw [hvp] at hoe f40
      simp only [Bool.false_eq_true,if_false] at hoe
      subst hoe
      try dsimp only
      repeat with_reducible first|(apply zC;intro _ R_;simp only [go_sem,↓reduceIte,f40];subst R_)|apply rK
      refine aD ⟨A4,S4,hA4,b6,b7,b10,b11,?_⟩
      simp only [go_sem,↓reduceIte,f0,f3,f4,f6,f7,f10,f11]
     ·rw [hvp] at hoe f40
      simp only [if_true] at hoe
      have hV0:=V1.n0
      have hV1:=V1.n1
      have hav:=V1.ar
      have hav8:=fT (ak s1.ms v.n).type
      have hun:-1000000≤u.n∧u.n≤1000000:=by
       have h1:=hfu
       rw [cO,Bool.and_eq_true] at h1
       have h2:=h1.1
       unfold bg aY at h2
       have hk:u.kind=2∨u.kind=3:=by unfold bY at hvp;simpa using hvp
       rcases hk with e|e
       ·have:=gV hfu e;omega
       ·rw [e] at h2;simp at h2;omega
      repeat with_reducible first|((first|apply zS|apply zC);intro _ R_;simp only [go_sem,↓reduceIte,f0,f3,f6,f7,f40,s6,s7,iV];subst R_)|refine rG2 ?_|refine rS fun bq hbq=>?_
      refine DV S4 v ⟨u.kind,u.n,aB,[]⟩ d hV0 hV1 (by omega) hun (by omega) 0 0 [] .nil (by
       show LeAV _ (.list 4 (encs []) 0 .none)
       rw [bB];exact LeAV.nil _ _ _) _ (fun z ok hz hz2=>?_) (fun z hz hz2=>?_)
      ·rw [hz] at hoe
       subst hoe
       cases ok
       case true =>
        try dsimp only
        repeat with_reducible (apply zS;intro _ R_;simp only [go_sem,↓reduceIte,f0,f3,f6,f7,f11,s6,s7,s11];subst R_)
        intro p12 hp12
        have n12:=aj hp12 s11
        repeat with_reducible first|((first|apply zS|apply zC);intro _ R_;simp only [go_sem,↓reduceIte,f0,f3,f6,f7,f11,s6,s7,s11,n12];subst R_)|(apply rN;subst hbq)|refine rG2 ?_|apply nS|refine rS fun bq hbq=>?_|apply rK
        obtain ⟨A5,S5,_,hA5,_⟩:=S4.loc hp12 (.cells (agT z (.list 0 [] 0 .nil)) 27)
        obtain ⟨A6,S6,c11,hA6,hk6⟩:=S5.wr (hA5.trans hA4) (hA5 _ _ b11) h011 (.cells (agT z (.list 0 [] 0 .nil)) 27)
        refine aD ⟨A6,S6,hA6,hk6 _ _ n6 (hA5 _ _ b6),hk6 _ _ n7 (hA5 _ _ b7),hk6 _ _ n10 (hA5 _ _ b10),c11,?_⟩
        simp only [go_sem,↓reduceIte,f0,f3,f4,f6,f7,f10,f11]
       case false =>
        try dsimp only
        repeat with_reducible (apply zS;intro _ R_;simp only [go_sem,↓reduceIte,f0,f3,f6,f7,f11,s6,s7,s11,l5];subst R_)
        intro p12 hp12
        repeat with_reducible first|((first|apply zS|apply zC);intro _ R_;simp only [go_sem,↓reduceIte,f0,f3,f6,f7,f11,s6,s7,s11,l5];subst R_)|(apply rN;subst hbq)|refine rG2 ?_|apply nS|refine rS fun bq hbq=>?_
        obtain ⟨A5,S5,_,hA5,_⟩:=S4.loc hp12 (.cells (agT z (.list 0 [] 0 .nil)) 27)
        exact p1 (p2 (pL (ax.refl _) (hp _ _ rfl (S5.lessOf.trans (hA5.trans hA4)))))
      ·rw [hz] at hoe
       subst hoe
       try dsimp only
       repeat with_reducible (apply zS;intro _ R_;simp only [go_sem,↓reduceIte,f0,f3,f6,f7,f11,s6,s7,s11];subst R_)
       intro p12 hp12
       have n12:=aj hp12 s11
       repeat with_reducible first|((first|apply zS|apply zC);intro _ R_;simp only [go_sem,↓reduceIte,f0,f3,f6,f7,f11,s6,s7,s11,n12];subst R_)|(apply rN;subst hbq)|refine rG2 ?_|apply nS|refine rS fun bq hbq=>?_|apply rK
       obtain ⟨A5,S5,_,hA5,_⟩:=S4.loc hp12 (.cells (agT z (.list 0 [] 0 .nil)) 27)
       obtain ⟨A6,S6,c11,hA6,hk6⟩:=S5.wr (hA5.trans hA4) (hA5 _ _ b11) h011 (.cells (agT z (.list 0 [] 0 .nil)) 27)
       refine aD ⟨A6,S6,hA6,hk6 _ _ n6 (hA5 _ _ b6),hk6 _ _ n7 (hA5 _ _ b7),hk6 _ _ n10 (hA5 _ _ b10),c11,?_⟩
       simp only [go_sem,↓reduceIte,f0,f3,f4,f6,f7,f10,f11]
    clear S4 b6 b7 b10 b11 hA4 s6 s7 s11 f0 f3 f4 f6 f7 f10 f11 f40
    obtain ⟨A,S,hA,b6,b7,b10,b11,ho2,f0,f3,f4,f6,f7,f10,f11⟩:=hI
    rw [if_pos ho2] at hq hp
    subst hbq
    have s6:=S.lessOf _ _ b6
    have s7:=S.lessOf _ _ b7
    have s11:=S.lessOf _ _ b11
    repeat with_reducible refine ah fun bq hbq=>?_
    refine dB (fun τ H'=>H'=h'∧τ 0=.ptr x 0∧τ 3=.int .i64 d∧τ 4=.int .i64 deep∧τ 6=.ptr p6 0∧τ 7=.ptr p7 0∧τ 10=.ptr p10 0∧τ 11=.ptr p11 0∧τ 14=.int .i64 d) ?_ fun τ h' hI=>?_
    ·repeat with_reducible first|(apply zS;intro _ R_;simp only [go_sem,↓reduceIte,f3];subst R_)|refine rG2 ?_|apply nS
     refine aD ?_
     simp only [go_sem,↓reduceIte,f0,f3,f4,f6,f7,f10,f11]
    clear f0 f3 f4 f6 f7 f10 f11
    obtain ⟨rfl,f0,f3,f4,f6,f7,f10,f11,f14⟩:=hI
    subst hbq
    cases k5:(u.kind==5)
    all_goals
     repeat with_reducible first|((first|apply zS|apply zC);intro _ R_;simp only [go_sem,↓reduceIte,f0,f3,f4,f6,f7,f10,f11,f14,s7,k5,bz (d+1) (by omega)];subst R_)|(apply rN;subst hbq)|refine rG2 ?_|(refine rB fun cq hcq=>?_;subst hcq)|apply nS|refine rS fun bq hbq=>?_|apply rK
     have hin0:0≤inner u.kind d:=cz hd
     have hind:inner u.kind d≤d+1:=by unfold inner;split <;> omega
     refine aT (fun k τ H=>∃ (i:Nat) (s2:Sv) (outs:List Term) (A:ai) (z:Nat) (tk:Tok),k+i=u.args.length∧mapS (fun s a=>lJ f s v a (inner u.kind d) (deep+1)) s1 u.args=(mapS (fun s a=>lJ f s v a (inner u.kind d) (deep+1)) s2 (u.args.drop i)).bind (fun q=>.ok (q.1,outs++q.2))∧outs.length=i∧Inv s2.ms∧0≤s2.wk∧s2.wk≤40000∧iZ s2.ms v D∧(ak s2.ms v.n).is=false∧(∀ a ∈ u.args,aK s2.ms a (D+inner u.kind d)=true)∧SObj x s2 A H∧ax A h0∧A p6=some (.cells (ay v) 27)∧A p10=some (.cells zT 27)∧A p11=some (.cells (agT o.1 (.list z (encs outs) i tk)) 27)∧τ 0=.ptr x 0∧τ 4=.int .i64 deep∧τ 6=.ptr p6 0∧τ 10=.ptr p10 0∧τ 11=.ptr p11 0∧τ 14=.int .i64 (inner u.kind d)∧τ 65=.list 4 (encs u.args) u.args.length .none∧τ 66=.int .i64 u.args.length∧τ 67=.int .i64 i∧(i=0∨z=4)∧Grow 27 h0 A tk) u.args.length ?_ ?_
     ·refine ⟨0,s1,[],A,0,.nil,rfl,?_,rfl,I1,hw01,hw1,V1,vu1,?_,S,hA,b6,b10,?_,?_⟩
      ·rw [List.drop_zero]
       cases mapS (fun s a=>lJ f s v a (inner u.kind d) (deep+1)) s1 u.args <;> rfl
      ·have h1:=hfu
       rw [cO,Bool.and_eq_true] at h1
       have h2:=(bT _ _ _).1 h1.2
       have e:inner u.kind (D+d)=D+inner u.kind d:=by unfold inner;split <;> omega
       rw [e] at h2;exact h2
      ·rw [bB];exact b11
      ·have hi5:inner u.kind d=if u.kind==5 then d+1 else d:=rfl
       rw [k5] at hi5
       simp only [go_sem,↓reduceIte,f0,f4,f6,f10,f11,f14,hi5]
       exact ⟨rfl,.inl trivial,.inl (.inr rfl)⟩
     ·intro cc hcc k τ H hI
      clear S hA b6 b7 b10 b11 s6 s7 s11 f0 f3 f4 f6 f7 f10 f11 f14
      obtain ⟨i,s2,outs,A,z,tk,hki,hmap,hol,I2,hw02,hw2,V2,vu2,hfa,S,hA,b6,b10,b11,f0,f4,f6,f10,f11,f14,f65,f66,f67,hz,hg⟩:=hI
      subst hcc
      have s6:=S.lessOf _ _ b6
      have s10:=S.lessOf _ _ b10
      have s11:=S.lessOf _ _ b11
      by_cases hi:i<u.args.length
      ·obtain ⟨y,hy⟩:∃ y,u.args[i]?=some y:=⟨_,List.getElem?_eq_getElem hi⟩
       obtain ⟨r1,hr1⟩:=dD u.args i hy
       have d1:u.args.drop i=y::u.args.drop (i+1):=by
        rw [List.drop_eq_getElem_cons hi]
        rw [List.getElem?_eq_getElem hi] at hy;injection hy with hy;rw [hy]
       rw [d1] at hmap
       have hfy:=hfa y (List.mem_of_getElem? hy)
       repeat with_reducible first|((first|apply zS|apply zC);intro _ R_;simp only [go_sem,↓reduceIte,f0,f4,f6,f10,f11,f14,f65,f66,f67,hi,hr1];subst R_)|(apply rN;subst hbq)|refine rG2 ?_|(refine rB fun cq hcq=>?_;subst hcq)|apply nS|refine rS fun bq hbq=>?_|apply rK
       intro q hq1
       have q6:=aj hq1 s6
       have q11:=aj hq1 s11
       simp only [go_sem,↓reduceIte]
       obtain ⟨A1,S1',bq,hA1,_⟩:=S.loc hq1 (.cells (ay y) 27)
       have b6:=hA1 _ _ b6
       have b10:=hA1 _ _ b10
       have b11:=hA1 _ _ b11
       have hg:=hg.stay (t:=.none) (fun _ _ e=>by cases e) (fun j o hj _=>hA1 j o hj)
       have hA:=hA1.trans hA
       clear hA1
       generalize upd H q (some (.cells (ay y) 27))=H2 at *
       have s6:=S1'.lessOf _ _ b6
       have s11:=S1'.lessOf _ _ b11
       have sq:=S1'.lessOf _ _ bq
       apply rN;subst hbq
       repeat with_reducible refine ah fun bq hbq=>?_
       refine bA (.take 0 (.take 1 (.take 2 (.take 3 (.take 4 (.take 5 (.take 6 (.take 7 (.one 8 [1] (.take 9 (.one 10 [] (.take 11 (.one 12 [] (.done)))))))))))))) (by kernel_rfl) (by simp only [aF,gtOf,aA];exact rfl) ?_
       repeat ((first|(with_reducible apply iT;refine sT rfl ?_)|(with_reducible apply iO;refine sO rfl ?_));intro _ _ _ C_ R_ U_;simp only [go_sem,↓reduceIte,f0,f4,f6,f11,f14,s6,s11,sq,bz (deep+1) (by omega)];subst C_ R_ U_)
       refine ih s2 y (inner u.kind d) (deep+1) _ _ _ S1' I2 hw02 hw2 V2 vu2 hfy hin0 (by omega) (by omega) (by omega) (fun s3 out H3 hr S3=>?_) (fun pv H3 hr hl3=>?_)
       ·obtain ⟨T,hw3,_⟩:=jC hD.1 f s2 y (inner u.kind d) (deep+1) s3 out I2 hin0 V2 vu2 hfy hr
        have hT:=T.wk
        have s6:=S3.lessOf _ _ b6
        have s11:=S3.lessOf _ _ b11
        have sq:=S3.lessOf _ _ bq
        try dsimp only
        repeat ((first|with_reducible apply sA|(with_reducible apply iT;refine sT rfl ?_)|(with_reducible apply i0;refine s0 rfl ?_));intro _ _ _ C_ R_ U_;simp only [go_sem,↓reduceIte,f0,f4,f6,f11,f14,s6,s11,sq,ic];subst C_ R_ U_)
        refine aZ ?_
        simp only [go_sem,↓reduceIte]
        intro w hw
        obtain ⟨A4,H4,ea,S4,hg4,hA4,hkp⟩:=iE S3 ed ed je mD iy ⟨rfl,by decide⟩ hA hw (sz1:=z) (n1:=i) (c1:=encs outs) (c2:=ay out) (n2:=1) (t2:=.full) hg hz (sz2:=4) rfl (by decide) (by omega)
        have c6:=hkp _ _ b6 (aN hg b6)
        have c10:=hkp _ _ b10 (aN hg b10)
        have c11:=hkp _ _ b11 (aN hg b11)
        have s11:=S4.lessOf _ _ c11
        have sq4:=S4.lessOf _ _ (hkp _ _ bq (aN hg bq))
        have s64:=S4.lessOf _ _ c6
        simp only [ea,go_sem,↓reduceIte,f11,s11,sq4,s64]
        repeat with_reducible first|(apply zS;intro _ R_;simp only [go_sem,↓reduceIte,f0,f4,f6,f11,f14,f65,f66,f67,bz ((i:Int)+1) (by omega)];subst R_)|(apply rN;subst hbq)|refine rG2 ?_|apply nS|apply rE
        obtain ⟨A5,S5,e11,hA5,hk5⟩:=S4.wr hA4 c11 h011 (.cells (agT o.1 (.list 4 (encs outs++ay out) (i+1) (.id w))) 27)
        refine aL (m:=k - 1) (by omega) ⟨i+1,s3,outs++[out],A5,4,.id w,by omega,by rw [hmap];exact PV hr,by simp [hol],T.inv,by omega,hw3,V2.ext T.ext,T.free,fun a ha=>bH T.ext _ _ (hfa a ha),S5,hA5,hk5 _ _ n6 c6,hk5 _ _ n10 c10,by rw [lh];exact e11,?_⟩
        simp only [go_sem,↓reduceIte,f0,f4,f6,f10,f11,f14,f65,f66]
        exact ⟨rfl,.inr trivial,hg4.putA c11 hk5⟩
       ·dsimp only
        repeat with_reducible first|refine p5 ?_|refine p1 ?_|refine p2 ?_|refine p3 ?_|refine p4 ?_
        refine pL (ax.refl _) (hp pv H3 (nG ?_) (hl3.trans hA))
        rw [hmap]
        exact nG (PW hr)
      ·rw [List.drop_eq_nil_of_le (show u.args.length≤i by omega)] at hmap
       have hmr:mapS (fun s a=>lJ f s v a (inner u.kind d) (deep+1)) s1 u.args=.ok (s2,outs):=by
        rw [hmap,mapS]
        dsimp only [Rz.bind]
        rw [List.append_nil]
       repeat with_reducible first|((first|apply zS|apply zC);intro _ R_;simp only [go_sem,↓reduceIte,f0,f4,f6,f10,f11,f14,f65,f66,f67,hi,s10,s11];subst R_)|(apply rN;subst hbq)|refine rG2 ?_|(apply x1;clear hbq bq)|apply nS|refine rS fun bq hbq=>?_|apply rXx|apply rR|apply x3|apply x4
       obtain ⟨A5,S5,_,hA5,_⟩:=S.wr hA b10 h010 (.cells (agT o.1 (.list z (encs outs) i tk)) 27)
       refine df (v:=enc ⟨o.1.kind,o.1.n,o.1.name,outs⟩) (by rw [Tryz.results145]) (ax.refl _) ?_ (hq s2 _ _ (by rw [hmr]) (S5.low hA5))
       simp only [go_sem,↓reduceIte,f10,aJ,Option.some.injEq,exists_eq_left']
       refine LeAV.agg (.cons (LeAV.refl _) (.cons (LeAV.refl _) (.cons (LeAV.refl _) (.cons ?_ .nil))))
       show LeAV _ (.list 4 (encs outs) outs.length .none)
       rw [hol]
       rcases hz with e|e
       ·subst e
        have:outs=[]:=List.eq_nil_of_length_eq_zero hol
        subst this
        rw [bB];exact LeAV.nil _ _ _
       ·rw [e];exact LeAV.list _ _ _ _
  ·refine p5 (p1 (pL (ax.refl _) (hp pv H1 (nG hc) (hl1.trans hA))))
theorem zh {x:Nat} {s:Sv} {h0 h:ai} (S:SObj x s h0 h) (I:Inv s.ms) (hw0:0≤s.wk) (hw:s.wk≤40000) {v t:Term} {D:Int} (hD:0≤D∧D≤500) (V:iZ s.ms v D) (vu:(ak s.ms v.n).is=false) (hf:aK s.ms t D=true) (Q:AOut→ai→Prop)
  (hq:∀ s' h2,gQ s v t=.ok s'→SObj x s' h0 h2→Q (.ret (.tuple [])) h2) (hp:∀ pv h2,PanV (gQ s v t) pv→ax h2 h0→Q (.panic pv) h2):az Tryz.prog 110 [.ptr x 0,enc v,enc t] h Q:=by
 refine eN Tryz.func110 ?_
 repeat with_reducible first|(apply zS;intro _ R_;simp only [go_sem,↓reduceIte];subst R_)|refine rG2 ?_|refine rS fun bq hbq=>?_
 intro p hp1
 obtain ⟨A1,S,ap,hA1,_⟩:=S.loc hp1 (.cells (ay v) 27)
 repeat with_reducible (apply zS;intro _ R_;simp only [go_sem,↓reduceIte];subst R_)
 intro q hq1
 have e1:=aQ hq1
 obtain ⟨A,S,aq,hA2,_⟩:=S.loc (by rw [ae _ _ e1.1];exact e1.2) (.cells (ay t) 27) (b:=q)
 have ap:=hA2 _ _ ap
 have hA:=hA2.trans hA1
 clear hA1 hA2
 have qp:=e1.1
 generalize upd (upd h p (some (.cells (ay v) 27))) q (some (.cells (ay t) 27))=H at *
 have sp:=S.lessOf _ _ ap
 have sq:=S.lessOf _ _ aq
 unfold gQ at hq hp
 cases k5:(t.kind==5)
 case true =>
  rw [k5] at hp
  repeat with_reducible first|((first|apply zS|apply zC);intro _ R_;simp only [go_sem,↓reduceIte,sp,sq,k5,l5];subst R_)|(apply rN;subst hbq)|refine rG2 ?_|apply nS|refine rS fun bq hbq=>?_
  exact p1 (pL (ax.refl _) (hp _ _ rfl (S.lessOf.trans hA)))
 case false =>
  rw [k5] at hq hp
  simp only [Bool.false_eq_true,if_false] at hq hp
  repeat with_reducible first|((first|apply zS|apply zC);intro _ R_;simp only [go_sem,↓reduceIte,sp,sq,k5];subst R_)|(apply rN;subst hbq)|refine rG2 ?_|apply nS|refine rS fun bq hbq=>?_|apply rK
  refine Ll hD 402 s t 0 0 _ _ _ S I hw0 hw V vu (by rw [Int.add_zero];exact hf) (by decide) (by decide) (by decide) (by decide) (fun s1 b H2 hr S2=>?_) (fun pv H2 hr hl2=>?_)
  ·obtain ⟨T,_,_⟩:=jC hD.1 402 s t 0 0 s1 b I (by decide) V vu (by rw [Int.add_zero];exact hf) hr
   have hl:=T.ext.len
   have h0':=V.n0
   have h1':=V.n1
   have sp:=S2.lessOf _ _ ap
   try dsimp only
   repeat with_reducible (apply zS;intro _ R_;simp only [go_sem,↓reduceIte,sp,sq,k5];subst R_)
   intro w hw1
   have wp:=aj hw1 sp
   obtain ⟨A3,S3,_,hA3,_⟩:=S2.loc hw1 (.cells (ay b) 27)
   repeat with_reducible first|(apply zS;intro _ R_;simp only [go_sem,↓reduceIte,sp,wp];subst R_)|(apply rN;subst hbq)|refine rG2 ?_|apply nS
   refine G5 S3 h0' (by omega) b _ (fun H3 S4=>?_)
   try dsimp only
   repeat with_reducible apply nS
   exact o7 (by rw [Tryz.results110]) (ax.refl _) (hq _ _ (by rw [hr];rfl) (S4.low (hA3.trans hA)))
  ·dsimp only
   repeat with_reducible first|refine p5 ?_|refine p1 ?_|refine p2 ?_|refine p3 ?_|refine p4 ?_
   exact pL (ax.refl _) (hp pv H2 (nG hr) (hl2.trans hA))
theorem ze {s s':Sv} {v t:Term} {D:Int} (hD:0≤D) (I:Inv s.ms) (V:iZ s.ms v D) (vu:(ak s.ms v.n).is=false) (hf:aK s.ms t D=true) (h:gQ s v t=.ok s'):s.wk≤s'.wk∧s'.wk≤40000:=by
 unfold gQ at h
 split at h
 ·cases h
 obtain ⟨⟨s1,b⟩,ht,h⟩:=bind_ok h
 injection h with h
 subst h
 obtain ⟨T,hw,_⟩:=jC hD 402 s t 0 0 s1 b I (Int.le_refl _) V vu (by rw [Int.add_zero];exact hf) ht
 exact ⟨T.wk,hw⟩
theorem NQ {g:Sv→Term→Term→Rz Sv} {s s':Sv} {a b:Term} {l m:List Term} (h:g s a b=.ok s'):lL g s (a::l) (b::m)=lL g s' l m:=by
 rw [lL,h];rfl
theorem Pe {x:Nat}:∀ (f:Nat) (s:Sv) (a b:Term) (d deep:Int) (h0 h:ai) (Q:AOut→ai→Prop),SObj x s h0 h→Inv s.ms→0≤s.wk→s.wk≤40000→aK s.ms a d=true→aK s.ms b d=true→0≤d→d≤deep→deep≤401→(f:Int)+deep=402 →
  (∀ s' h2,eG f s a b deep=.ok s'→s'.wk≤40000→SObj x s' h0 h2→Q (.ret (.tuple [])) h2)→(∀ pv h2,PanV (eG f s a b deep) pv→ax h2 h0→Q (.panic pv) h2)→az Tryz.prog 61 [.ptr x 0,enc a,enc b,.int .i64 deep] h Q:=by
 intro f
 induction f with
 |zero=>intro s a b d deep h0 h Q S I hw0 hw ha hb hd hdd hdp hfd;omega
 |succ f ih =>
  intro s a b d deep h0 h Q S I hw0 hw ha hb hd hdd hdp hfd hq hp
  refine eN Tryz.func61 ?_
  repeat with_reducible first|(apply zS;intro _ R_;simp only [go_sem,↓reduceIte];subst R_)|refine rG2 ?_|refine rS fun bq hbq=>?_
  intro p hp1
  obtain ⟨A1,S,ap,hA1,hAp⟩:=S.loc hp1 (.cells (ay a) 27)
  repeat with_reducible (apply zS;intro _ R_;simp only [go_sem,↓reduceIte];subst R_)
  intro q hq1
  have e1:=aQ hq1
  obtain ⟨A,S,aq,hA2,hAq⟩:=S.loc (by rw [ae _ _ e1.1];exact e1.2) (.cells (ay b) 27) (b:=q)
  have h0q:=hA1.none hAq
  have hless_p:=hAp
  have ap:=hA2 _ _ ap
  have hA:=hA2.trans hA1
  clear hA1 hA2
  have qp:=e1.1
  generalize upd (upd h p (some (.cells (ay a) 27))) q (some (.cells (ay b) 27))=H at *
  rw [eG] at hq hp
  repeat with_reducible first|(apply zS;intro _ R_;simp only [go_sem,↓reduceIte];subst R_)|(apply rN;subst hbq)|refine rG2 ?_|apply nS|refine rS fun bq hbq=>?_
  refine Jc S deep (by omega) _ (fun s1 H1 hc S1=>?_) (fun pv H1 hc hl1=>?_)
  ·obtain ⟨e1,hw1,hd4⟩:=nW hc
   rw [hc] at hq hp
   dsimp only [Rz.bind] at hq hp
   have I1:Inv s1.ms:=by rw [e1];exact I
   have ha1:aK s1.ms a d=true:=by rw [e1];exact ha
   have hb1:aK s1.ms b d=true:=by rw [e1];exact hb
   have hw01:0≤s1.wk:=by rw [e1];show 0≤s.wk+1;omega
   have hw1:s1.wk≤40000:=by rw [e1];show s.wk+1≤40000;omega
   clear e1 hc S I ha hb hw0 hw
   have sp:=S1.lessOf _ _ ap
   have sq:=S1.lessOf _ _ aq
   try dsimp only
   repeat with_reducible first|(apply rN;subst hbq)|apply nS|refine rS fun bq hbq=>?_
   repeat with_reducible refine ah fun bq hbq=>?_
   refine bA (.take 0 (.take 1 (.take 3 (.take 4 (.one 2 [4] (.one 5 [] (.one 6 [] (.one 7 [] (.done))))))))) (by kernel_rfl) (by simp only [aF,gtOf,aA];exact rfl) ?_
   repeat ((first|(with_reducible apply iT;refine sT rfl ?_)|(with_reducible apply iO;refine sO rfl ?_));intro _ _ _ C_ R_ U_;simp only [go_sem,↓reduceIte,sp,sq];subst C_ R_ U_)
   refine Ct S1 I1 (d:=d) hd (by omega) a ha1 _ ?_
   try dsimp only
   repeat ((first|with_reducible apply sA|(with_reducible apply i0;refine s0 rfl ?_));intro _ _ _ C_ R_ U_;simp only [go_sem,↓reduceIte,sp,sq];subst C_ R_ U_)
   refine Ct S1 I1 (d:=d) hd (by omega) b hb1 _ ?_
   obtain ⟨hfa,hxa,_,_⟩:=dK I1 hd ha1
   obtain ⟨hfb,hxb,_,_⟩:=dK I1 hd hb1
   generalize gK s1.ms a=a at *
   generalize gK s1.ms b=b at *
   simp only [go_sem,↓reduceIte,sp,sq,qp]
   obtain ⟨A2,S2,ap,hA2,hk2⟩:=S1.wr hA ap (hless_p) (.cells (ay a) 27)
   obtain ⟨A3,S3,aq,hA3,hk3⟩:=S2.wr hA2 (hk2 _ _ qp aq) h0q (.cells (ay b) 27)
   have ap:=hk3 _ _ (fun e=>qp e.symm) ap
   clear hA2 hk2 hk3 S2
   generalize upd (upd H1 p (some (.cells (ay a) 27))) q (some (.cells (ay b) 27))=H2 at *
   have sp:=S3.lessOf _ _ ap
   have sq:=S3.lessOf _ _ aq
   have panE:∀ {r:Rz Sv} (pv:AV) (h2:ai),PanV r pv→ax h2 A3→(∀ pv h2,PanV r pv→ax h2 h0→Q (.panic pv) h2)→qC Tryz.prog Tryz.f61 Q (.panic pv) (fun _=>.any) h2:=fun pv h2 hr hl hp=>pL (ax.refl _) (hp pv h2 hr (hl.trans hA3))
   cases ka:(a.kind==4)
   ·cases kb:(b.kind==4)
    ·rw [ka,kb] at hq hp
     simp only [Bool.false_eq_true,if_false,Bool.false_and,Bool.and_false] at hq hp
     cases c1:(a.kind==b.kind)
     ·have hu:kD a b=true:=by unfold kD;rw [c1];rfl
      rw [hu] at hp
      repeat with_reducible first|((first|apply zS|apply zC);intro _ R_;simp only [go_sem,↓reduceIte,sp,sq,ka,kb,c1,l5];subst R_)|(apply rN;subst hbq)|refine rG2 ?_|(refine rB fun cq hcq=>?_;subst hcq)|apply nS|refine rS fun bq hbq=>?_
      repeat with_reducible first|refine p5 ?_|refine p1 ?_|refine p2 ?_|refine p3 ?_|refine p4 ?_
      exact pL (ax.refl _) (hp _ _ rfl (S3.lessOf.trans hA3))
     cases c2:(a.n==b.n)
     ·have hu:kD a b=true:=by unfold kD;rw [c1,c2];rfl
      rw [hu] at hp
      repeat with_reducible first|((first|apply zS|apply zC);intro _ R_;simp only [go_sem,↓reduceIte,sp,sq,ka,kb,c1,c2,l5];subst R_)|(apply rN;subst hbq)|refine rG2 ?_|(refine rB fun cq hcq=>?_;subst hcq)|apply nS|refine rS fun bq hbq=>?_
      repeat with_reducible first|refine p5 ?_|refine p1 ?_|refine p2 ?_|refine p3 ?_|refine p4 ?_
      exact pL (ax.refl _) (hp _ _ rfl (S3.lessOf.trans hA3))
     cases c3:(a.name.toList==b.name.toList)
     ·have hu:kD a b=true:=by unfold kD;rw [c1,c2,c3];rfl
      rw [hu] at hp
      repeat with_reducible first|((first|apply zS|apply zC);intro _ R_;simp only [go_sem,↓reduceIte,sp,sq,ka,kb,c1,c2,c3,l5];subst R_)|(apply rN;subst hbq)|refine rG2 ?_|(refine rB fun cq hcq=>?_;subst hcq)|apply nS|refine rS fun bq hbq=>?_
      repeat with_reducible first|refine p5 ?_|refine p1 ?_|refine p2 ?_|refine p3 ?_|refine p4 ?_
      exact pL (ax.refl _) (hp _ _ rfl (S3.lessOf.trans hA3))
     cases c4:((a.args.length:Int)==b.args.length)
     ·have hu:kD a b=true:=by unfold kD;rw [c1,c2,c3,c4];rfl
      rw [hu] at hp
      repeat with_reducible first|((first|apply zS|apply zC);intro _ R_;simp only [go_sem,↓reduceIte,sp,sq,ka,kb,c1,c2,c3,c4,l5];subst R_)|(apply rN;subst hbq)|refine rG2 ?_|(refine rB fun cq hcq=>?_;subst hcq)|apply nS|refine rS fun bq hbq=>?_
      repeat with_reducible first|refine p5 ?_|refine p1 ?_|refine p2 ?_|refine p3 ?_|refine p4 ?_
      exact pL (ax.refl _) (hp _ _ rfl (S3.lessOf.trans hA3))
     have hu:kD a b=false:=by unfold kD;rw [c1,c2,c3,c4];rfl
     rw [hu] at hq hp
     simp only [Bool.false_eq_true,if_false] at hq hp
     have hkk:a.kind=b.kind:=by simpa using c1
     have hll:a.args.length=b.args.length:=by have:=eq_of_beq c4;omega
     have ha8:=lU hfa
     have ga:=hfa
     have gb:=hfb
     rw [cO,Bool.and_eq_true] at ga gb
     rw [← hkk] at gb
     have hga:=(bT _ _ _).1 ga.2
     have hgb:=(bT _ _ _).1 gb.2
     have hin0:0≤inner a.kind d:=cz hd
     have hind:inner a.kind d≤d+1:=by unfold inner;split <;> omega
     generalize inner a.kind d=d' at *
     repeat with_reducible first|((first|apply zS|apply zC);intro _ R_;simp only [go_sem,↓reduceIte,sp,sq,ka,kb,c1,c2,c3,c4];subst R_)|(apply rN;subst hbq)|refine rG2 ?_|(refine rB fun cq hcq=>?_;subst hcq)|apply nS|refine rS fun bq hbq=>?_
     refine aT (fun k τ H=>∃ (i:Nat) (s2:Sv) (A:ai),k+i=a.args.length∧lL (fun s a b=>eG f s a b (deep+1)) s1 a.args b.args=lL (fun s a b=>eG f s a b (deep+1)) s2 (a.args.drop i) (b.args.drop i)∧Inv s2.ms∧0≤s2.wk∧s2.wk≤40000∧(∀ t ∈ a.args,aK s2.ms t d'=true)∧(∀ t ∈ b.args,aK s2.ms t d'=true)∧SObj x s2 A H∧ax A h0∧A p=some (.cells (ay a) 27)∧A q=some (.cells (ay b) 27)∧τ 0=.ptr x 0∧τ 3=.int .i64 deep∧τ 5=.ptr p 0∧τ 6=.ptr q 0∧τ 20=.int .i64 a.args.length∧τ 21=.int .i64 i) a.args.length ?_ ?_
     ·exact ⟨0,s1,A3,rfl,rfl,I1,hw01,hw1,hga,hgb,S3,hA3,ap,aq,rfl,rfl,rfl,rfl,rfl,rfl⟩
     ·intro cc hcc k τ H hI
      clear S3 hA3 ap aq sp sq
      obtain ⟨i,s2,A,hki,hE,I2,hw02,hw2,hfa2,hfb2,S3,hA3,ap,aq,f0,f3,f5,f6,f20,f21⟩:=hI
      subst hcc
      have sp:=S3.lessOf _ _ ap
      have sq:=S3.lessOf _ _ aq
      by_cases hi:i<a.args.length
      ·obtain ⟨u,hu⟩:∃ u,a.args[i]?=some u:=⟨_,List.getElem?_eq_getElem hi⟩
       obtain ⟨w,hw⟩:∃ w,b.args[i]?=some w:=⟨_,List.getElem?_eq_getElem (by omega)⟩
       obtain ⟨r1,hr1⟩:=dD a.args i hu
       obtain ⟨r2,hr2⟩:=dD b.args i hw
       have hib:i<b.args.length:=by omega
       have d1:a.args.drop i=u::a.args.drop (i+1):=by
        rw [List.drop_eq_getElem_cons hi]
        rw [List.getElem?_eq_getElem hi] at hu;injection hu with hu;rw [hu]
       have d2:b.args.drop i=w::b.args.drop (i+1):=by
        rw [List.drop_eq_getElem_cons hib]
        rw [List.getElem?_eq_getElem hib] at hw;injection hw with hw;rw [hw]
       rw [d1,d2] at hE
       have hfu:=hfa2 u (List.mem_of_getElem? hu)
       have hfw:=hfb2 w (List.mem_of_getElem? hw)
       repeat with_reducible first|((first|apply zS|apply zC);intro _ R_;simp only [go_sem,↓reduceIte,f0,f3,f5,f6,f20,f21,hi];subst R_)|(apply rN;subst hbq)|refine rG2 ?_|(refine rB fun cq hcq=>?_;subst hcq)|apply nS|refine rS fun bq hbq=>?_|apply rK
       repeat with_reducible refine ah fun bq hbq=>?_
       refine bA (.take 0 (.take 1 (.take 2 (.take 3 (.take 4 (.take 5 (.take 6 (.take 7 (.take 8 (.take 9 (.take 10 (.take 11 (.take 12 (.one 13 [7,2] (.done))))))))))))))) (by kernel_rfl) (by simp only [aF,gtOf,aA];exact rfl) ?_
       repeat ((first|(with_reducible apply iT;refine sT rfl ?_)|(with_reducible apply iO;refine sO rfl ?_));intro _ _ _ C_ R_ U_;simp only [go_sem,↓reduceIte,f0,f3,f5,f6,f20,f21,hi,hib,sp,sq,hr1,hr2,bz (deep+1) (by omega)];subst C_ R_ U_)
       refine ih s2 u w d' (deep+1) _ _ _ S3 I2 hw02 hw2 hfu hfw hin0 (by omega) (by omega) (by omega) (fun s3 H3 hr hw3 S4=>?_) (fun pv H3 hr hl3=>?_)
       ·obtain ⟨T,hw03⟩:=nk f s2 u w d' (deep+1) s3 I2 hw02 hin0 hfu hfw hr
        have sp:=S4.lessOf _ _ ap
        have sq:=S4.lessOf _ _ aq
        try dsimp only
        repeat with_reducible first|((first|apply sS|apply sA);intro _ _ _ C_ R_ U_;simp only [go_sem,↓reduceIte,f0,f3,f5,f6,f20,f21,hi,hib,sp,sq,hr1,hr2,bz ((i:Int)+1) (by omega)];subst C_ R_ U_)|(apply rN;subst hbq)|refine rG2 ?_|apply nS|apply nD|apply rE
        refine aL (m:=k - 1) (by omega) ⟨i+1,s3,A,by omega,by rw [hE];exact NQ hr,T.inv,hw03,hw3,fun t ht=>bH T.ext _ _ (hfa2 t ht),fun t ht=>bH T.ext _ _ (hfb2 t ht),S4,hA3,ap,aq,?_⟩
        simp only [go_sem,↓reduceIte,f0,f3,f5,f6,f20]
        rfl
       ·dsimp only
        repeat with_reducible first|refine p5 ?_|refine p1 ?_|refine p2 ?_|refine p3 ?_|refine p4 ?_
        refine pL (ax.refl _) (hp pv H3 ?_ (hl3.trans hA3))
        rw [hE,lL]
        exact nG hr
      ·rw [List.drop_eq_nil_of_le (show a.args.length≤i by omega)] at hE
       have hEr:lL (fun s a b=>eG f s a b (deep+1)) s1 a.args b.args=.ok s2:=by rw [hE];unfold lL;rfl
       repeat with_reducible first|((first|apply zS|apply zC);intro _ R_;simp only [go_sem,↓reduceIte,f0,f3,f5,f6,f20,f21,hi];subst R_)|(apply rN;subst hbq)|refine rG2 ?_|(apply x1;clear hbq bq)|apply nS|refine rS fun bq hbq=>?_|apply rE|apply rXx|apply x3|apply x4
       exact o7 (by rw [Tryz.results61]) (ax.refl _) (hq s2 _ hEr hw2 (S3.low hA3))
    ·rw [ka,kb] at hq hp
     simp only [Bool.false_eq_true,if_false,if_true,Bool.false_and,Bool.and_false] at hq hp
     repeat with_reducible first|((first|apply zS|apply zC);intro _ R_;simp only [go_sem,↓reduceIte,sp,sq,ka,kb];subst R_)|(apply rN;subst hbq)|refine rG2 ?_|(refine rB fun cq hcq=>?_;subst hcq)|apply nS|refine rS fun bq hbq=>?_
     refine zh S3 I1 hw01 hw1 (D:=d) (by omega) (dG hfb kb) (hxb kb) hfa _ (fun s' h2 hr S4=>?_) (fun pv h2 hr hl2=>?_)
     ·try dsimp only
      repeat with_reducible first|apply nS|apply rE
      exact o7 (by rw [Tryz.results61]) (ax.refl _) (hq _ _ hr (ze hd I1 (dG hfb kb) (hxb kb) hfa hr).2 (S4.low hA3))
     ·dsimp only
      repeat with_reducible first|refine p5 ?_|refine p1 ?_|refine p2 ?_|refine p3 ?_|refine p4 ?_
      exact panE pv h2 hr hl2 hp
   ·have hX:∀ (c:Bool),(b.kind==4&&a.n==b.n)=c→True:=fun _ _=>trivial
    cases hc2:(b.kind==4&&a.n==b.n)
    ·rw [ka,hc2] at hq hp
     simp only [Bool.false_eq_true,if_false,if_true,Bool.and_false,Bool.true_and] at hq hp
     cases kb:(b.kind==4)
     ·repeat with_reducible first|((first|apply zS|apply zC);intro _ R_;simp only [go_sem,↓reduceIte,sp,sq,ka,kb];subst R_)|(apply rN;subst hbq)|refine rG2 ?_|(refine rB fun cq hcq=>?_;subst hcq)|apply nS|refine rS fun bq hbq=>?_
      refine zh S3 I1 hw01 hw1 (D:=d) (by omega) (dG hfa ka) (hxa ka) hfb _ (fun s' h2 hr S4=>?_) (fun pv h2 hr hl2=>?_)
      ·try dsimp only
       repeat with_reducible first|apply nS|apply rE
       exact o7 (by rw [Tryz.results61]) (ax.refl _) (hq _ _ hr (ze hd I1 (dG hfa ka) (hxa ka) hfb hr).2 (S4.low hA3))
      ·dsimp only
       repeat with_reducible first|refine p5 ?_|refine p1 ?_|refine p2 ?_|refine p3 ?_|refine p4 ?_
       exact panE pv h2 hr hl2 hp
     ·have kn:(a.n==b.n)=false:=by rw [kb,Bool.true_and] at hc2;exact hc2
      repeat with_reducible first|((first|apply zS|apply zC);intro _ R_;simp only [go_sem,↓reduceIte,sp,sq,ka,kb,kn];subst R_)|(apply rN;subst hbq)|refine rG2 ?_|(refine rB fun cq hcq=>?_;subst hcq)|apply nS|refine rS fun bq hbq=>?_
      refine zh S3 I1 hw01 hw1 (D:=d) (by omega) (dG hfa ka) (hxa ka) hfb _ (fun s' h2 hr S4=>?_) (fun pv h2 hr hl2=>?_)
      ·try dsimp only
       repeat with_reducible first|apply nS|apply rE
       exact o7 (by rw [Tryz.results61]) (ax.refl _) (hq _ _ hr (ze hd I1 (dG hfa ka) (hxa ka) hfb hr).2 (S4.low hA3))
      ·dsimp only
       repeat with_reducible first|refine p5 ?_|refine p1 ?_|refine p2 ?_|refine p3 ?_|refine p4 ?_
       exact panE pv h2 hr hl2 hp
    ·rw [ka,hc2] at hq hp
     simp only [if_true,Bool.and_true,Bool.true_and] at hq hp
     rw [Bool.and_eq_true] at hc2
     obtain ⟨kb,kn⟩:=hc2
     have hab:a.args.length=b.args.length:=by
      have v1:=(dG hfa ka).ar
      have v2:=(dG hfb kb).ar
      have:a.n=b.n:=by simpa using kn
      rw [← v1,← v2,this]
     repeat with_reducible first|((first|apply zS|apply zC);intro _ R_;simp only [go_sem,↓reduceIte,sp,sq,ka,kb,kn];subst R_)|(apply rN;subst hbq)|refine rG2 ?_|(refine rB fun cq hcq=>?_;subst hcq)|apply nS|refine rS fun bq hbq=>?_
     refine Q8 S3 (by have:=I1.len;omega) (dG hfa ka) hab _ (fun s' h2 hr S4=>?_) (fun pv h2 hr hl2=>?_)
     ·try dsimp only
      repeat with_reducible first|apply nS|apply rE
      refine o7 (by rw [Tryz.results61]) (ax.refl _) (hq _ _ hr ?_ (S4.low hA3))
      unfold jA at hr
      split at hr
      ·have:=Ed hr;omega
      ·injection hr with hr;subst hr;exact hw1
     ·dsimp only
      repeat with_reducible first|refine p5 ?_|refine p1 ?_|refine p2 ?_|refine p3 ?_|refine p4 ?_
      exact panE pv h2 hr hl2 hp
  ·dsimp only
   repeat with_reducible first|refine p5 ?_|refine p1 ?_|refine p2 ?_|refine p3 ?_|refine p4 ?_
   exact pL (ax.refl _) (hp pv H1 (nG hc) (hl1.trans hA))
theorem Pj (h:ai) (Q:AOut→ai→Prop) (hq:Q (.ret (.bool true)) h):az Tryz.prog 13 [] h Q :=
 fun n=>(JI h n).mono fun o h' n' ⟨ho,hh,_⟩=>by subst ho;subst hh;exact hq
end Go.Proofs.YthkjmiejaoomcaaGreat.Am
