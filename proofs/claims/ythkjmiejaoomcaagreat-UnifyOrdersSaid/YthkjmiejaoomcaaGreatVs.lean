/- Part of the proof of a law of layer 5: own texts, joined. -/
import Derived.Test.YthkjmiejaoomcaaGreatVr
set_option linter.unusedVariables false
set_option linter.unusedSimpArgs false
set_option linter.unnecessarySimpa false
namespace Go.Proofs.YthkjmiejaoomcaaGreat.Am
open Go Go.RowKit Go.Proofs
set_option maxRecDepth 100000
set_option maxHeartbeats 1000000
theorem F5:∀ (es:List (Int × Va)) (raw:List (AV × AV × Nat)),fJ vAV es raw→∀ (j:Nat) (e:AV × AV × Nat),raw[j]?=some e→∃ k v,es[j]?=some (k,v)∧e=(.int .i64 k,vAV v,e.2.2)
 |[],raw,h,j,e,he=>by simp only [fJ] at h;subst h;simp at he
 |(k,v)::es,raw,h,j,e,he=>by
  obtain ⟨b,r,rfl,hr⟩:=h
  cases j with
  |zero =>
   simp only [List.getElem?_cons_zero,Option.some.injEq] at he
   subst he
   exact ⟨k,v,rfl,rfl⟩
  |succ j =>
   simp only [List.getElem?_cons_succ] at he ⊢
   exact F5 es r hr j e he
theorem L8:∀ (es:List (Int × Va)) (raw:List (AV × AV × Nat)),fJ vAV es raw→raw.length=es.length
 |[],raw,h=>by simp only [fJ] at h;subst h;rfl
 |(k,v)::es,raw,h=>by
  obtain ⟨b,r,rfl,hr⟩:=h
  simp [L8 es r hr]
theorem MO {k:Int} {w:Va}:∀ es:List (Int × Va),mget k es=some w→∃ j:Nat,es[j]?=some (k,w)
 |[],h=>by cases h
 |(k',v')::es,h=>by
  rw [mget] at h
  cases hk:(k==k')
  ·rw [hk] at h
   obtain ⟨j,hj⟩:=MO es (by simpa using h)
   exact ⟨j+1,by simpa using hj⟩
  ·rw [hk] at h
   have e:k=k':=by simpa using hk
   simp only [if_true,Option.some.injEq] at h
   subst h;subst e
   exact ⟨0,rfl⟩
theorem Eh {k:Int} (es:List (Int × Va)) (h:mget k es=none) (j:Nat) (w:Va):es[j]?≠some (k,w):=by
 intro hj
 exact yj es h (List.mem_map.2 ⟨(k,w),List.mem_of_getElem? hj,rfl⟩)
theorem Ng {k:Int} {v:Va}:∀ (es:List (Int × Va)) (j:Nat),(es.map fun e=>e.1).Nodup→es[j]?=some (k,v)→mget k es=some v
 |[],j,_,h=>by simp at h
 |(k',v')::es,j,hn,h=>by
  rw [List.map_cons,List.nodup_cons] at hn
  rw [mget]
  cases j with
  |zero =>
   simp only [List.getElem?_cons_zero,Option.some.injEq,Prod.mk.injEq] at h
   rw [h.1,h.2];simp
  |succ j =>
   simp only [List.getElem?_cons_succ] at h
   have hm:k ∈ es.map fun e=>e.1:=List.mem_map.2 ⟨(k,v),List.mem_of_getElem? h,rfl⟩
   have hne:(k==k')=false:=by
    have:k≠k':=fun e=>hn.1 (e ▸ hm)
    simpa using this
   rw [hne]
   exact Ng es j hn.2 h
structure Written (base:List Va) (es:List (Int × Va)) (raw:List (AV × AV × Nat)) (sn:List Nat) (arr:List Va):Prop where
 len:arr.length=base.length
 done:∀ (j:Nat) (k:Int) (v:Va) (b:Nat),es[j]?=some (k,v)→raw[j]?=some (.int .i64 k,vAV v,b)→b ∈ sn→arr[k.toNat]?=some v
 rest:∀ i:Nat,(∀ (j:Nat) (k:Int) (v:Va) (b:Nat),es[j]?=some (k,v)→raw[j]?=some (.int .i64 k,vAV v,b)→b ∈ sn→k.toNat≠i)→arr[i]?=base[i]?
theorem FD (base:List Va) (es:List (Int × Va)) (raw:List (AV × AV × Nat)):Written base es raw [] base :=
 ⟨rfl,fun j k v b _ _ h=>absurd h List.not_mem_nil,fun i _=>rfl⟩
theorem PP {l:List Nat} (h:l.Nodup) {i j:Nat} {a:Nat} (hi:l[i]?=some a) (hj:l[j]?=some a):i=j:=by
 have h1:=(List.getElem?_eq_some_iff.1 hi).1
 exact (List.getElem?_inj h1 h).1 (hi.trans hj.symm)
theorem MI {l:List Int} (h:l.Nodup) {i j:Nat} {a:Int} (hi:l[i]?=some a) (hj:l[j]?=some a):i=j:=by
 have h1:=(List.getElem?_eq_some_iff.1 hi).1
 exact (List.getElem?_inj h1 h).1 (hi.trans hj.symm)
theorem Dn {base:List Va} {es:List (Int × Va)} {raw:List (AV × AV × Nat)} {c:Nat} (M:MapB es raw c) (hlow:∀ k v,mget k es=some v→0≤k∧k<(base.length:Int)) (hlow2:∀ (j:Nat) (k:Int) (v:Va),es[j]?=some (k,v)→0≤k∧k<(base.length:Int)) {sn:List Nat} {arr:List Va} (w:Written base es raw sn arr) {j:Nat} {k:Int} {v:Va} {b:Nat} (he:es[j]?=some (k,v)) (hr:raw[j]?=some (.int .i64 k,vAV v,b)) :
  Written base es raw (sn++[b]) (arr.set k.toNat v):=by
 have hk:=hlow2 j k v he
 have birth:∀ j' k' v' b',raw[j']?=some (.int .i64 k',vAV v',b')→b'=b→j'=j:=fun j' k' v' b' h1 h2=>by
  subst h2
  exact PP M.nod (i:=j') (j:=j) (by rw [List.getElem?_map,h1];rfl) (by rw [List.getElem?_map,hr];rfl)
 refine ⟨by rw [List.length_set];exact w.len,fun j' k' v' b' h1 h2 h3=>?_,fun i hi=>?_⟩
 ·have hk':=hlow2 j' k' v' h1
  by_cases e:j'=j
  ·subst e
   rw [he] at h1
   injection h1 with h1
   injection h1 with h4 h5
   subst h4;subst h5
   rw [List.getElem?_set]
   rw [if_pos rfl,if_pos (by rw [w.len];omega)]
  ·have hne:k'≠k:=fun e2=>e (MI M.keys (i:=j') (j:=j) (a:=k) (by rw [List.getElem?_map,h1];simp [e2]) (by rw [List.getElem?_map,he];rfl))
   rw [List.getElem?_set,if_neg (by omega)]
   refine w.done j' k' v' b' h1 h2 ?_
   rcases List.mem_append.1 h3 with h3|h3
   ·exact h3
   ·exact absurd (birth j' k' v' b' h2 (List.mem_singleton.1 h3)) e
 ·have h1:=hi j k v b he hr (List.mem_append.2 (.inr (List.mem_singleton.2 rfl)))
  rw [List.getElem?_set,if_neg h1]
  exact w.rest i fun j' k' v' b' h2 h3 h4=>hi j' k' v' b' h2 h3 (List.mem_append.2 (.inl h4))
theorem FE {base:List Va} {es:List (Int × Va)} {raw:List (AV × AV × Nat)} (hrel:fJ vAV es raw) (hlow2:∀ (j:Nat) (k:Int) (v:Va),es[j]?=some (k,v)→0≤k∧k<(base.length:Int)) {sn:List Nat} {arr:List Va} (w:Written base es raw sn arr) (hall:∀ e ∈ raw,e.2.2 ∈ sn):arr=kV base es:=by
 apply List.ext_getElem?
 intro i
 unfold kV
 rw [List.getElem?_mapIdx]
 have hl:=L8 es raw hrel
 cases hm:mget (i:Int) es with
 |some v =>
  obtain ⟨j,hj⟩:=MO es hm
  have hjl:j<raw.length:=by rw [hl];exact (List.getElem?_eq_some_iff.1 hj).1
  obtain ⟨k',v',h1,h2⟩:=F5 es raw hrel j raw[j] (List.getElem?_eq_getElem hjl)
  rw [hj] at h1
  injection h1 with h1
  injection h1 with h3 h4
  subst h3;subst h4
  have hd:=w.done j _ _ _ hj (by rw [List.getElem?_eq_getElem hjl,h2]) (hall _ (List.getElem_mem hjl))
  rw [Int.toNat_natCast] at hd
  rw [hd]
  have hb:=(hlow2 j _ _ hj).2
  rw [List.getElem?_eq_getElem (show i<base.length by omega)]
  simp
 |none =>
  have:=w.rest i fun j k v b h1 h2 h3 hk=>Eh es hm j v (by
   have h0:=(hlow2 j k v h1).1
   have:(i:Int)=k:=by omega
   rw [this];exact h1)
  rw [this]
  cases base[i]? <;> rfl
end Go.Proofs.YthkjmiejaoomcaaGreat.Am
