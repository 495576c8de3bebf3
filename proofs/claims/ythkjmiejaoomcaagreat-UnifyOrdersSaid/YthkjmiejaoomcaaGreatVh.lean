/- Part of the proof of a law of layer 5: own texts, joined. -/
import Derived.Test.YthkjmiejaoomcaaGreatVb
import Derived.Test.YthkjmiejaoomcaaGreatVg
import Derived.ProofKit
set_option linter.unusedVariables false
set_option linter.unusedSimpArgs false
set_option linter.unnecessarySimpa false
namespace Go.Proofs.YthkjmiejaoomcaaGreat.Am
open Go Go.RowKit Go.Proofs
set_option maxRecDepth 100000
set_option maxHeartbeats 1000000
def G0 (W:World):Gh:=⟨0,fun _=>⟨0,0,0,0,0⟩,fun b _=>b<W.heap.size,fun b=>b<W.heap.size⟩
theorem sim0 (W:World):Sim Tryz.prog (G0 W) (fun _=>Option.none) W :=
 { dom:=fun i o h=>by simp at h,obj:=fun i o h=>by simp at h,inj:=fun i j a b h=>by simp at h,stab:=fun b o h=>h,prt:=fun b h=>h }
theorem Sl:Tryz.prog.underlying 25=some (.slice 27):=by kernel_rfl
theorem Li:Tryz.prog.underlying 3=some (.int .i64):=by kernel_rfl
theorem Rm:Tryz.prog.underlying 9=some .string:=by kernel_rfl
theorem Rn:Tryz.prog.underlying 4=some .bool:=by kernel_rfl
def fieldsOf (d:Option TypeDesc):List (Nat × Nat):=match d with
 |some (.struct fs)=>fs.toList.map fun f=>(f.type,f.offset)
 |_=>[]
theorem O6:fieldsOf (Tryz.prog.underlying 27)=[(3,0),(3,1),(9,2),(25,3)]:=by kernel_rfl
theorem Sk:∃ f0 f1 f2 f3:Field,Tryz.prog.underlying 27=some (.struct #[f0,f1,f2,f3])∧(f0.type=3∧f0.offset=0)∧(f1.type=3∧f1.offset=1)∧(f2.type=9∧f2.offset=2)∧(f3.type=25∧f3.offset=3):=by
 have h:=O6
 unfold fieldsOf at h
 split at h
 ·rename_i fs hfs
  obtain ⟨l⟩:=fs
  simp only [List.map_eq_cons_iff,List.map_eq_nil_iff] at h
  obtain ⟨f0,r0,rfl,h0,f1,r1,rfl,h1,f2,r2,rfl,h2,f3,r3,rfl,h3,rfl⟩:=h
  simp only [Prod.mk.injEq] at h0 h1 h2 h3
  exact ⟨f0,f1,f2,f3,hfs,h0,h1,h2,h3⟩
 ·cases h
theorem cells3:Tryz.prog.cellsOf 3=1:=by kernel_rfl
theorem RN:Tryz.prog.cellsOf 9=1:=by kernel_rfl
theorem Um:Tryz.prog.cellsOf 25=1:=by kernel_rfl
theorem rM:Tryz.prog.cellsOf 27=4:=by kernel_rfl
theorem Gl {α:Type} {p:Nat→α→Prop}:∀ n:Nat,(∀ i,i<n→∃ x,p i x)→∃ l:List α,l.length=n∧∀ i x,l[i]?=some x→p i x
 |0,_=>⟨[],rfl,fun i x h=>by simp at h⟩
 |n+1,h=>by
  obtain ⟨l,hl,hp⟩:=Gl n fun i hi=>h i (by omega)
  obtain ⟨x,hx⟩:=h n (by omega)
  refine ⟨l++[x],by simp [hl],fun i y hy=>?_⟩
  by_cases hi:i<l.length
  ·rw [List.getElem?_append_left hi] at hy;exact hp i y hy
  ·rw [List.getElem?_append_right (by omega)] at hy
   by_cases e:i=n
   ·subst e;rw [hl,Nat.sub_self] at hy;simp at hy;subst hy;exact hx
   ·have:i - l.length≥1:=by omega
    rw [List.getElem?_eq_none (by simpa using this)] at hy;cases hy
theorem A9 {W:World} {b:Nat}:∀ (l:List Term) (o:Nat),(∀ i t,l[i]?=some t→∃ cs:List Value,RelL (G0 W) W (ay t) cs∧∀ k v,cs[k]?=some v→W.cell? ⟨b,o+i * 4+k,Option.none⟩=some v∧v.oneCell'=true) →
  ∃ vs:List Value,vs.length=l.length * 4∧RelL (G0 W) W (encs l) vs∧∀ j v,vs[j]?=some v→W.cell? ⟨b,o+j,Option.none⟩=some v∧v.oneCell'=true
 |[],o,_=>⟨[],rfl,by rw [bB];simp [RelL],fun j v h=>by simp at h⟩
 |t::l,o,h=>by
  obtain ⟨cs,hr,hc⟩:=h 0 t rfl
  obtain ⟨vs,hl,hrv,hv⟩:=A9 l (o+4) fun i u hu=>by
   obtain ⟨cs,h1,h2⟩:=h (i+1) u (by simpa using hu)
   refine ⟨cs,h1,fun k v hk=>?_⟩
   rw [show o+4+i * 4+k=o+(i+1) * 4+k by omega]
   exact h2 k v hk
  have hlen:cs.length=4:=by have:=RelL.length hr;simpa using this
  refine ⟨cs++vs,by simp [hlen,hl];omega,?_,fun j v hj=>?_⟩
  ·rw [ll]
   exact RelL.append (xs:=ay t) hr hrv
  ·by_cases hj4:j<cs.length
   ·rw [List.getElem?_append_left hj4] at hj
    have:=hc j v hj
    rwa [Nat.zero_mul,Nat.add_zero] at this
   ·rw [List.getElem?_append_right (by omega)] at hj
    have:=hv (j - cs.length) v hj
    rwa [show o+4+(j - cs.length)=o+j by omega] at this
theorem oU {H:Type} {enc':TypeId × Value→H} {W:World}:∀ (fuel:Nat),
  (∀ (v:Value) (x:DataW H × List MemPlace),DataW.trod enc' Tryz.prog W 0 (fun _=>true) true fuel 25 [v]=some x→∃ l:List Term,Rel (G0 W) W (.list 4 (encs l) l.length .none) v∧v.oneCell'=true) ∧
  (∀ (cs:List Value) (x:DataW H × List MemPlace),DataW.trod enc' Tryz.prog W 0 (fun _=>true) true fuel 27 cs=some x→∃ t:Term,RelL (G0 W) W (ay t) cs∧∀ v ∈ cs,v.oneCell'=true):=by
 intro fuel
 induction fuel using Nat.strongRecOn with
 |_ fuel ih =>
  refine ⟨fun v x h=>?_,fun cs x h=>?_⟩
  ·rcases DataW.trod_slice Sl h with ⟨h1,_⟩|⟨a,len,cap,elems,rest,n,rfl,h1,_,_,hlc,_,hel,hread,_,_⟩
   ·injection h1 with h1
    subst h1
    refine ⟨[],?_,rfl⟩
    simp only [Rel,bB,RelL,jP]
    exact ⟨_,_,[],rfl,Nat.le_refl _,rfl,rfl,.inl rfl,trivial⟩
   ·injection h1 with h1
    subst h1
    rw [rM] at hread
    have hget:∀ i,i<len→∃ t:Term,∃ cs:List Value,RelL (G0 W) W (ay t) cs∧∀ k v,cs[k]?=some v→W.cell? ((a.add (i * 4)).add k)=some v∧v.oneCell'=true:=by
     intro i hi
     have h2:=hread i hi
     have h3:∃ y,elems[i]?=some y:=⟨_,List.getElem?_eq_getElem (by omega)⟩
     obtain ⟨y,hy⟩:=h3
     rw [hy] at h2
     cases hc:W.cells? 0 (a.add (i * 4)) 4 with
     |none=>rw [hc] at h2;cases h2
     |some cs =>
      rw [hc,Option.bind_some] at h2
      obtain ⟨t,ht,hone⟩:=(ih n (by omega)).2 cs y h2
      obtain ⟨_,hcl,hce⟩:=World.cells?_some hc
      refine ⟨t,cs,ht,fun k v hk=>⟨?_,hone v (List.mem_of_getElem? hk)⟩⟩
      rw [hce k (by have:=(List.getElem?_eq_some_iff.1 hk).1;omega),hk]
    obtain ⟨l,hll,hlp⟩:=Gl len hget
    refine ⟨l,?_,rfl⟩
    simp only [Rel,jP]
    rcases Nat.eq_zero_or_pos len with h0|h0
    ·subst h0
     have:l=[]:=List.eq_nil_of_length_eq_zero hll
     subst this
     exact ⟨_,_,[],rfl,by simp,by rw [bB];simp [RelL],rfl,.inl rfl,trivial⟩
    ·obtain ⟨b,o,sp⟩:=a
     have hsp:sp=Option.none:=by
      obtain ⟨t,cs,hr,hc⟩:=hget 0 h0
      have hlen:cs.length=4:=by have:=RelL.length hr;simpa using this
      obtain ⟨v,hv⟩:∃ v,cs[0]?=some v:=⟨_,List.getElem?_eq_getElem (by omega)⟩
      have:=(hc 0 v hv).1
      rw [Nat.zero_mul] at this
      simp only [Addr.add,if_true,World.cell?] at this
      split at this
      ·split at this
       ·cases this
       ·rename_i hn;cases sp
        ·rfl
        ·simp at hn
      ·cases this
     subst hsp
     have hadd:∀ n,Addr.add ⟨b,o,Option.none⟩ n=⟨b,o+n,Option.none⟩:=by
      intro n;unfold Addr.add;split
      ·rename_i e;subst e;rfl
      ·rfl
     obtain ⟨vs,hvl,hvr,hvc⟩:=A9 (W:=W) (b:=b) l o fun i t ht=>by
      obtain ⟨cs,hr,hc⟩:=hlp i t ht
      refine ⟨cs,hr,fun k v hk=>?_⟩
      have:=hc k v hk
      rw [hadd] at this
      have e2:Addr.add ⟨b,o+i * 4,Option.none⟩ k=⟨b,o+i * 4+k,Option.none⟩:=by
       unfold Addr.add;split
       ·rename_i e;subst e;rfl
       ·rfl
      rw [e2] at this
      exact this
     refine ⟨_,_,vs,by rw [hll],by rw [hll];exact hlc,hvr,hvl,.inr ⟨b,o,rfl,fun j v hj=>?_⟩,trivial⟩
     obtain ⟨h1,h2⟩:=hvc j v hj
     refine ⟨h1,?_,h2⟩
     show b<W.heap.size
     unfold World.cell? at h1
     split at h1
     ·rename_i hb;exact (Array.getElem?_eq_some_iff.1 hb).1
     ·cases h1
  ·obtain ⟨f0,f1,f2,f3,hu,⟨t0,o0⟩,⟨t1,o1⟩,⟨t2,o2⟩,⟨t3,o3⟩⟩:=Sk
   obtain ⟨xs,n,rfl,_,hcl,hxl,hf⟩:=DataW.trod_struct hu h
   rw [rM] at hcl
   have hx:∀ i,i<4→∃ y,xs[i]?=some y:=fun i hi=>⟨_,List.getElem?_eq_getElem (by rw [hxl];simpa using hi)⟩
   match cs,hcl with
   |[a,b,c,d],_ =>
    have g0:=hf 0 f0 rfl
    have g1:=hf 1 f1 rfl
    have g2:=hf 2 f2 rfl
    have g3:=hf 3 f3 rfl
    rw [t0,o0,cells3] at g0
    rw [t1,o1,cells3] at g1
    rw [t2,o2,RN] at g2
    rw [t3,o3,Um] at g3
    simp only [List.drop_zero,List.drop_succ_cons,List.take_succ_cons,List.take_zero] at g0 g1 g2 g3
    obtain ⟨y0,hy0⟩:=hx 0 (by omega)
    obtain ⟨y1,hy1⟩:=hx 1 (by omega)
    obtain ⟨y2,hy2⟩:=hx 2 (by omega)
    obtain ⟨y3,hy3⟩:=hx 3 (by omega)
    rw [hy0] at g0
    rw [hy1] at g1
    rw [hy2] at g2
    rw [hy3] at g3
    obtain ⟨k,e0,_,_⟩:=DataW.trod_int Li g0
    obtain ⟨m,e1,_,_⟩:=DataW.trod_int Li g1
    obtain ⟨s,e2,_,_⟩:=DataW.trod_string Rm g2
    obtain ⟨l,hl,h3⟩:=(ih n (by omega)).1 d y3 g3
    injection e0 with e0;injection e1 with e1;injection e2 with e2
    subst e0;subst e1;subst e2
    refine ⟨⟨k,m,s,l⟩,?_,fun v hv=>?_⟩
    ·exact RelL.cons_iff.2 ⟨by simp only [Rel],RelL.cons_iff.2 ⟨by simp only [Rel],RelL.cons_iff.2 ⟨by simp only [Rel],RelL.cons_iff.2 ⟨hl,by simp only [RelL]⟩⟩⟩⟩
    ·simp only [List.mem_cons,List.not_mem_nil,or_false] at hv
     rcases hv with rfl|rfl|rfl|rfl
     ·rfl
     ·rfl
     ·rfl
     ·exact h3
theorem QP {f:FuncId} {args:List AV} {vargs:Array Value} {W:World} {b:Bool} (k:az Tryz.prog f args (fun _=>Option.none) fun o _=>o=.ret (.bool b)) (hr:RelL (G0 W) W args vargs.toList) :
  Calls Tryz.prog f vargs W fun e W'=>e=.returned (.bool b)∧Below W.heap.size W W':=by
 have hF:nZ Fence.wide:=⟨fun _=>trivial,rfl⟩
 have:=(k 0).2 Fence.wide 0 (G0 W) W vargs hF rfl (sim0 W) rfl hr
 refine (callsIn_wide.1 this).mono fun e W' ⟨o,h',G',ho,s',evo,ro⟩=>?_
 subst ho
 cases e with
 |returned v =>
  have h1:Rel G' W' (.bool b) v:=ro
  simp only [Rel] at h1
  refine ⟨by rw [h1],evo.keep.os,evo.keep.tape,evo.keep.output,evo.keep.size,evo.keep.block⟩
 |panicked ch=>exact ro.elim
 |outgrown=>exact ro.elim
def inner (k d:Int):Int:=if k==5 then d+1 else d
theorem gM (l:List Term):(encs l).length=l.length * 4:=by
 rw [dh,List.length_flatMap]
 induction l with
 |nil=>rfl
 |cons t l ih=>simp only [List.map_cons,List.sum_cons,List.length_cons,List.length_nil] at ih ⊢;omega
theorem tV:∀ l:List Term,(encs l).all AV.flat=true
 |[]=>by rw [encs];rfl
 |t::l=>by rw [ll];simp only [List.all_cons,AV.flat,tV l,Bool.and_self]
mutual
def dep:Term→Int
 |⟨_,_,_,l⟩=>depL l+1
def depL:List Term→Int
 |[]=>0
 |t::ts=>max (dep t) (depL ts)
end
theorem yU:∀ s,(∀ t:Term,t.size≤s→1≤dep t)∧(∀ l:List Term,sizes l≤s→0≤depL l):=by
 intro s
 induction s with
 |zero =>
  refine ⟨fun t ht=>?_,fun l hl=>?_⟩
  ·obtain ⟨a,b,c,l⟩:=t;rw [Term.size] at ht;omega
  ·cases l with
   |nil=>rw [depL];omega
   |cons t ts=>obtain ⟨a,b,c,l⟩:=t;rw [sizes,Term.size] at hl;omega
 |succ s ih =>
  have hT:∀ t:Term,t.size≤s+1→1≤dep t:=by
   intro t ht
   obtain ⟨a,b,c,l⟩:=t
   rw [Term.size] at ht
   have:=ih.2 l (by omega)
   rw [dep];omega
  refine ⟨hT,fun l=>?_⟩
  induction l with
  |nil=>intro _;rw [depL];omega
  |cons t ts ihl =>
   intro hl
   rw [sizes] at hl
   have:=hT t (by omega)
   have:=ihl (by omega)
   rw [depL];omega
theorem Kb:∀ s,(∀ (t:Term) (m:Int),t.size≤s→dS t m=min (dep t) (max m 0+1))∧(∀ (l:List Term) (m n:Int),sizes l≤s→0≤n→iI l m n=if m>0 then max n (min (depL l) m) else n):=by
 intro s
 induction s with
 |zero =>
  refine ⟨fun t m ht=>?_,fun l m n hl hn=>?_⟩
  ·obtain ⟨a,b,c,l⟩:=t;rw [Term.size] at ht;omega
  ·cases l with
   |nil=>rw [iI,depL];split <;> omega
   |cons t ts=>obtain ⟨a,b,c,l⟩:=t;rw [sizes,Term.size] at hl;omega
 |succ s ih =>
  have hT:∀ (t:Term) (m:Int),t.size≤s+1→dS t m=min (dep t) (max m 0+1):=by
   intro t m ht
   obtain ⟨a,b,c,l⟩:=t
   rw [Term.size] at ht
   have h1:=ih.2 l m 0 (by omega) (Int.le_refl _)
   have h2:=(yU s).2 l (by omega)
   rw [dS,dep,h1]
   split <;> omega
  refine ⟨hT,fun l=>?_⟩
  induction l with
  |nil=>intro m n _ hn;rw [iI,depL];split <;> omega
  |cons t ts ihl =>
   intro m n hl hn
   rw [sizes] at hl
   have h1:=hT t (m - 1) (by omega)
   have h2:=(yU (s+1)).1 t (by omega)
   rw [iI,depL]
   split
   ·rename_i hm
    rw [ihl m _ (by omega) (by unfold wD;split <;> omega),if_pos hm,h1]
    unfold wD
    split <;> omega
   ·rfl
mutual
theorem BS:∀ (t:Term) (m:Int),dF t m≤t.size
 |⟨k,n,s,l⟩,m=>by
  have:=DX l m 1
  rw [dF,Term.size];omega
theorem DX:∀ (l:List Term) (m n:Int),gI l m n≤n+sizes l
 |[],m,n=>by rw [gI,sizes];omega
 |t::l,m,n=>by
  rw [gI,sizes]
  split
  ·have h1:=BS t (m - n)
   have h2:=DX l m (n+dF t (m - n))
   omega
  ·omega
end
theorem zK (t:Term) (m:Int) (h:(t.size:Int)≤m):dF t m=t.size :=
 (qU t.size).1 t m (Nat.le_refl _) (Int.le_trans (BS t m) h)
theorem DW (t:Term) (m:Int):dF t m>m↔(t.size:Int)>m:=by
 constructor
 ·intro h;have:=BS t m;omega
 ·intro h
  apply Classical.byContradiction
  intro hn
  have:=(qU t.size).1 t m (Nat.le_refl _) (by omega)
  omega
end Go.Proofs.YthkjmiejaoomcaaGreat.Am
