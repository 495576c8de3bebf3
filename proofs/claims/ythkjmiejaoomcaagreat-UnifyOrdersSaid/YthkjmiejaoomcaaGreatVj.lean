/- Part of the proof of a law of layer 5: own texts, joined. -/
import Derived.Test.YthkjmiejaoomcaaGreatVh
import Derived.Test.YthkjmiejaoomcaaGreatVi
set_option linter.unusedVariables false
set_option linter.unusedSimpArgs false
set_option linter.unnecessarySimpa false
namespace Go.Proofs.YthkjmiejaoomcaaGreat.Am
open Go Go.RowKit Go.Proofs
set_option maxRecDepth 100000
set_option maxHeartbeats 1000000
theorem y5 {α:Type} {cl:α→List AV} {z:Nat} (hz:∀ t,(cl t).length=z) {W:World} {b:Nat}:∀ (l:List α) (o:Nat),(∀ i t,l[i]?=some t→∃ cs:List Value,RelL (G0 W) W (cl t) cs∧∀ k v,cs[k]?=some v→W.cell? ⟨b,o+i * z+k,Option.none⟩=some v∧v.oneCell'=true) →
  ∃ vs:List Value,vs.length=l.length * z∧RelL (G0 W) W (l.flatMap cl) vs∧∀ j v,vs[j]?=some v→W.cell? ⟨b,o+j,Option.none⟩=some v∧v.oneCell'=true
 |[],o,_=>⟨[],by simp,by simp [RelL],fun j v h=>by simp at h⟩
 |t::l,o,h=>by
  obtain ⟨cs,hr,hc⟩:=h 0 t rfl
  obtain ⟨vs,hl,hrv,hv⟩:=y5 hz l (o+z) fun i u hu=>by
   obtain ⟨cs,h1,h2⟩:=h (i+1) u (by simpa using hu)
   refine ⟨cs,h1,fun k v hk=>?_⟩
   rw [show o+z+i * z+k=o+(i+1) * z+k by rw [Nat.add_mul,Nat.one_mul];omega]
   exact h2 k v hk
  have hlen:cs.length=z:=by have:=RelL.length hr;rw [hz] at this;omega
  refine ⟨cs++vs,by rw [List.length_append,hlen,hl,List.length_cons,Nat.add_mul,Nat.one_mul];omega,?_,fun j v hj=>?_⟩
  ·rw [List.flatMap_cons]
   exact RelL.append (xs:=cl t) hr hrv
  ·by_cases hj4:j<cs.length
   ·rw [List.getElem?_append_left hj4] at hj
    have:=hc j v hj
    rwa [Nat.zero_mul,Nat.add_zero] at this
   ·rw [List.getElem?_append_right (by omega)] at hj
    have:=hv (j - cs.length) v hj
    rwa [show o+z+(j - cs.length)=o+j by omega] at this
theorem open_slice {H:Type} {enc':TypeId × Value→H} {W:World} {α:Type} {cl:α→List AV} {z:Nat} {T E:TypeId} (hz:∀ t,(cl t).length=z) (hz0:0<z) (hu:Tryz.prog.underlying T=some (.slice E)) (hcz:Tryz.prog.cellsOf E=z) {fuel:Nat}
  (ih:∀ n,n<fuel→∀ (cs:List Value) (x:DataW H × List MemPlace),DataW.trod enc' Tryz.prog W 0 (fun _=>true) true n E cs=some x→∃ t:α,RelL (G0 W) W (cl t) cs∧∀ v ∈ cs,v.oneCell'=true)
  (v:Value) (x:DataW H × List MemPlace) (h:DataW.trod enc' Tryz.prog W 0 (fun _=>true) true fuel T [v]=some x):∃ l:List α,Rel (G0 W) W (.list z (l.flatMap cl) l.length .none) v∧v.oneCell'=true:=by
 rcases DataW.trod_slice hu h with ⟨h1,_⟩|⟨a,len,cap,elems,rest,n,rfl,h1,_,_,hlc,_,hel,hread,_,_⟩
 ·injection h1 with h1
  subst h1
  refine ⟨[],?_,rfl⟩
  simp only [Rel,List.flatMap_nil,RelL,jP]
  exact ⟨_,_,[],rfl,Nat.le_refl _,rfl,by simp,.inl rfl,trivial⟩
 ·injection h1 with h1
  subst h1
  rw [hcz] at hread
  have hget:∀ i,i<len→∃ t:α,∃ cs:List Value,RelL (G0 W) W (cl t) cs∧∀ k v,cs[k]?=some v→W.cell? ((a.add (i * z)).add k)=some v∧v.oneCell'=true:=by
   intro i hi
   have h2:=hread i hi
   have h3:∃ y,elems[i]?=some y:=⟨_,List.getElem?_eq_getElem (by omega)⟩
   obtain ⟨y,hy⟩:=h3
   rw [hy] at h2
   cases hc:W.cells? 0 (a.add (i * z)) z with
   |none=>rw [hc] at h2;cases h2
   |some cs =>
    rw [hc,Option.bind_some] at h2
    obtain ⟨t,ht,hone⟩:=ih n (by omega) cs y h2
    obtain ⟨_,hcl,hce⟩:=World.cells?_some hc
    refine ⟨t,cs,ht,fun k v hk=>⟨?_,hone v (List.mem_of_getElem? hk)⟩⟩
    rw [hce k (by have:=(List.getElem?_eq_some_iff.1 hk).1;omega),hk]
  obtain ⟨l,hll,hlp⟩:=Gl len hget
  refine ⟨l,?_,rfl⟩
  simp only [Rel,jP]
  rcases Nat.eq_zero_or_pos len with h0|h0
  ·subst h0
   have:l=[]:=List.eq_nil_of_length_eq_zero hll
   subst this
   exact ⟨_,_,[],rfl,by simp,by simp [RelL],by simp,.inl rfl,trivial⟩
  ·obtain ⟨b,o,sp⟩:=a
   have hsp:sp=Option.none:=by
    obtain ⟨t,cs,hr,hc⟩:=hget 0 h0
    have hlen:cs.length=z:=by have:=RelL.length hr;rw [hz] at this;omega
    obtain ⟨v,hv⟩:∃ v,cs[0]?=some v:=⟨_,List.getElem?_eq_getElem (by omega)⟩
    have:=(hc 0 v hv).1
    rw [Nat.zero_mul] at this
    simp only [Addr.add,if_true,World.cell?] at this
    split at this
    ·split at this
     ·cases this
     ·rename_i hn;cases sp
      ·rfl
      ·simp at hn
    ·cases this
   subst hsp
   have hadd:∀ n,Addr.add ⟨b,o,Option.none⟩ n=⟨b,o+n,Option.none⟩:=by
    intro n;unfold Addr.add;split
    ·rename_i e;subst e;rfl
    ·rfl
   obtain ⟨vs,hvl,hvr,hvc⟩:=y5 hz (W:=W) (b:=b) l o fun i t ht=>by
    obtain ⟨cs,hr,hc⟩:=hlp i t ht
    refine ⟨cs,hr,fun k v hk=>?_⟩
    have:=hc k v hk
    rw [hadd] at this
    have e2:Addr.add ⟨b,o+i * z,Option.none⟩ k=⟨b,o+i * z+k,Option.none⟩:=by
     unfold Addr.add;split
     ·rename_i e;subst e;rfl
     ·rfl
    rw [e2] at this
    exact this
   refine ⟨_,_,vs,by rw [hll],by rw [hll];exact hlc,hvr,hvl,.inr ⟨b,o,rfl,fun j v hj=>?_⟩,trivial⟩
   obtain ⟨h1,h2⟩:=hvc j v hj
   refine ⟨h1,?_,h2⟩
   show b<W.heap.size
   unfold World.cell? at h1
   split at h1
   ·rename_i hb;exact (Array.getElem?_eq_some_iff.1 hb).1
   ·cases h1
theorem Sm:Tryz.prog.underlying 22=some (.slice 62):=by kernel_rfl
theorem Sj:Tryz.prog.underlying 40=some (.slice 60):=by kernel_rfl
theorem GY:Tryz.prog.cellsOf 60=2:=by kernel_rfl
theorem NZ:Tryz.prog.cellsOf 62=8:=by kernel_rfl
theorem Uo:Tryz.prog.cellsOf 22=1:=by kernel_rfl
theorem Ul:Tryz.prog.cellsOf 40=1:=by kernel_rfl
theorem WU:Tryz.prog.cellsOf 4=1:=by kernel_rfl
theorem Un:Tryz.prog.cellsOf 24=1:=by kernel_rfl
theorem Kv {T:TypeId} {a b:Nat × Nat} (h:fieldsOf (Tryz.prog.underlying T)=[a,b]):∃ f0 f1:Field,Tryz.prog.underlying T=some (.struct #[f0,f1])∧(f0.type=a.1∧f0.offset=a.2)∧(f1.type=b.1∧f1.offset=b.2):=by
 unfold fieldsOf at h
 split at h
 ·rename_i fs hfs
  obtain ⟨l⟩:=fs
  simp only [List.map_eq_cons_iff,List.map_eq_nil_iff] at h
  obtain ⟨f0,r0,rfl,h0,f1,r1,rfl,h1,rfl⟩:=h
  subst h0;subst h1
  exact ⟨f0,f1,hfs,⟨rfl,rfl⟩,⟨rfl,rfl⟩⟩
 ·cases h
theorem AP {T:TypeId} {a:Nat × Nat} (h:fieldsOf (Tryz.prog.underlying T)=[a]):∃ f0:Field,Tryz.prog.underlying T=some (.struct #[f0])∧(f0.type=a.1∧f0.offset=a.2):=by
 unfold fieldsOf at h
 split at h
 ·rename_i fs hfs
  obtain ⟨l⟩:=fs
  simp only [List.map_eq_cons_iff,List.map_eq_nil_iff] at h
  obtain ⟨f0,r0,rfl,h0,rfl⟩:=h
  subst h0
  exact ⟨f0,hfs,⟨rfl,rfl⟩⟩
 ·cases h
theorem rF {T:TypeId} {a b c d:Nat × Nat} (h:fieldsOf (Tryz.prog.underlying T)=[a,b,c,d]):∃ f0 f1 f2 f3:Field,Tryz.prog.underlying T=some (.struct #[f0,f1,f2,f3])∧(f0.type=a.1∧f0.offset=a.2)∧(f1.type=b.1∧f1.offset=b.2)∧(f2.type=c.1∧f2.offset=c.2)∧(f3.type=d.1∧f3.offset=d.2):=by
 unfold fieldsOf at h
 split at h
 ·rename_i fs hfs
  obtain ⟨l⟩:=fs
  simp only [List.map_eq_cons_iff,List.map_eq_nil_iff] at h
  obtain ⟨f0,r0,rfl,h0,f1,r1,rfl,h1,f2,r2,rfl,h2,f3,r3,rfl,h3,rfl⟩:=h
  subst h0;subst h1;subst h2;subst h3
  exact ⟨f0,f1,f2,f3,hfs,⟨rfl,rfl⟩,⟨rfl,rfl⟩,⟨rfl,rfl⟩,⟨rfl,rfl⟩⟩
 ·cases h
theorem Si:fieldsOf (Tryz.prog.underlying 60)=[(9,0),(40,1)]:=by kernel_rfl
theorem Sg:fieldsOf (Tryz.prog.underlying 62)=[(3,0),(60,1),(4,3),(27,4)]:=by kernel_rfl
theorem Lj:fieldsOf (Tryz.prog.underlying 24)=[(22,0)]:=by kernel_rfl
theorem zO {H:Type} {enc':TypeId × Value→H} {W:World}:∀ (fuel:Nat) (cs:List Value) (x:DataW H × List MemPlace),DataW.trod enc' Tryz.prog W 0 (fun _=>true) true fuel 60 cs=some x→∃ t:Ty,RelL (G0 W) W (cB t) cs∧∀ v ∈ cs,v.oneCell'=true:=by
 intro fuel
 induction fuel using Nat.strongRecOn with
 |_ fuel ih =>
  intro cs x h
  obtain ⟨f0,f1,hu,⟨t0,o0⟩,⟨t1,o1⟩⟩:=Kv Si
  obtain ⟨xs,n,rfl,_,hcl,hxl,hf⟩:=DataW.trod_struct hu h
  rw [GY] at hcl
  have hx:∀ i,i<2→∃ y,xs[i]?=some y:=fun i hi=>⟨_,List.getElem?_eq_getElem (by rw [hxl];simpa using hi)⟩
  match cs,hcl with
  |[a,b],_ =>
   have g0:=hf 0 f0 rfl
   have g1:=hf 1 f1 rfl
   rw [t0,o0,RN] at g0
   rw [t1,o1,Ul] at g1
   simp only [List.drop_zero,List.drop_succ_cons,List.take_succ_cons,List.take_zero] at g0 g1
   obtain ⟨y0,hy0⟩:=hx 0 (by omega)
   obtain ⟨y1,hy1⟩:=hx 1 (by omega)
   rw [hy0] at g0
   rw [hy1] at g1
   obtain ⟨s,e0,_,_⟩:=DataW.trod_string Rm g0
   obtain ⟨l,hl,h3⟩:=open_slice (cl:=cB) (z:=2) (fun _=>rfl) (by omega) Sj GY (fun k hk=>ih k (by omega)) b y1 g1
   injection e0 with e0
   subst e0
   refine ⟨⟨s,l⟩,?_,fun v hv=>?_⟩
   ·rw [← lZ] at hl
    exact RelL.cons_iff.2 ⟨by simp only [Rel],RelL.cons_iff.2 ⟨hl,by simp only [RelL]⟩⟩
   ·simp only [List.mem_cons,List.not_mem_nil,or_false] at hv
    rcases hv with rfl|rfl
    ·rfl
    ·exact h3
theorem uZ {G:Gh} {W:World} {xs ys:List AV} {vs:List Value} {k:Nat} (hk:xs.length=k) (h1:RelL G W xs (vs.take k)) (h2:RelL G W ys (vs.drop k)):RelL G W (xs++ys) vs:=by
 have:=RelL.append h1 h2
 rwa [List.take_append_drop] at this
theorem BX {H:Type} {enc':TypeId × Value→H} {W:World} (fuel:Nat) (cs:List Value) (x:DataW H × List MemPlace) (h:DataW.trod enc' Tryz.prog W 0 (fun _=>true) true fuel 62 cs=some x):∃ v:Va,RelL (G0 W) W (bO v) cs∧∀ w ∈ cs,w.oneCell'=true:=by
 obtain ⟨f0,f1,f2,f3,hu,⟨t0,o0⟩,⟨t1,o1⟩,⟨t2,o2⟩,⟨t3,o3⟩⟩:=rF Sg
 obtain ⟨xs,n,rfl,_,hcl,hxl,hf⟩:=DataW.trod_struct hu h
 rw [NZ] at hcl
 have hx:∀ i,i<4→∃ y,xs[i]?=some y:=fun i hi=>⟨_,List.getElem?_eq_getElem (by rw [hxl];simpa using hi)⟩
 match cs,hcl with
 |[a,b,c,d,e,f,g,i],_ =>
  have g0:=hf 0 f0 rfl
  have g1:=hf 1 f1 rfl
  have g2:=hf 2 f2 rfl
  have g3:=hf 3 f3 rfl
  rw [t0,o0,cells3] at g0
  rw [t1,o1,GY] at g1
  rw [t2,o2,WU] at g2
  rw [t3,o3,rM] at g3
  simp only [List.drop_zero,List.drop_succ_cons,List.take_succ_cons,List.take_zero] at g0 g1 g2 g3
  obtain ⟨y0,hy0⟩:=hx 0 (by omega)
  obtain ⟨y1,hy1⟩:=hx 1 (by omega)
  obtain ⟨y2,hy2⟩:=hx 2 (by omega)
  obtain ⟨y3,hy3⟩:=hx 3 (by omega)
  rw [hy0] at g0
  rw [hy1] at g1
  rw [hy2] at g2
  rw [hy3] at g3
  obtain ⟨k,e0,_,_⟩:=DataW.trod_int Li g0
  obtain ⟨ty,hty,oty⟩:=zO n _ y1 g1
  obtain ⟨q,e2,_⟩:=DataW.trod_bool Rn g2
  obtain ⟨t,ht,ot⟩:=(oU n).2 _ y3 g3
  injection e0 with e0;injection e2 with e2
  subst e0;subst e2
  refine ⟨⟨k,ty,q,t⟩,?_,fun v hv=>?_⟩
  ·exact RelL.cons_iff.2 ⟨by simp only [Rel],RelL.append (xs:=cB ty) (vs:=[b,c]) hty (RelL.cons_iff.2 ⟨by simp only [Rel],ht⟩)⟩
  ·simp only [List.mem_cons,List.not_mem_nil,or_false] at hv oty ot
   rcases hv with rfl|rfl|rfl|rfl|rfl|rfl|rfl|rfl
   ·rfl
   ·exact oty _ (.inl rfl)
   ·exact oty _ (.inr rfl)
   ·rfl
   ·exact ot _ (.inl rfl)
   ·exact ot _ (.inr (.inl rfl))
   ·exact ot _ (.inr (.inr (.inl rfl)))
   ·exact ot _ (.inr (.inr (.inr rfl)))
theorem xX {H:Type} {enc':TypeId × Value→H} {W:World} (fuel:Nat) (cs:List Value) (x:DataW H × List MemPlace) (h:DataW.trod enc' Tryz.prog W 0 (fun _=>true) true fuel 24 cs=some x):∃ l:List Va,RelL (G0 W) W [.list 8 (aM l) l.length .none] cs:=by
 obtain ⟨f0,hu,⟨t0,o0⟩⟩:=AP Lj
 obtain ⟨xs,n,rfl,_,hcl,hxl,hf⟩:=DataW.trod_struct hu h
 rw [Un] at hcl
 have hx:∀ i,i<1→∃ y,xs[i]?=some y:=fun i hi=>⟨_,List.getElem?_eq_getElem (by rw [hxl];simpa using hi)⟩
 match cs,hcl with
 |[a],_ =>
  have g0:=hf 0 f0 rfl
  rw [t0,o0,Uo] at g0
  simp only [List.drop_zero,List.drop_succ_cons,List.take_succ_cons,List.take_zero] at g0
  obtain ⟨y0,hy0⟩:=hx 0 (by omega)
  rw [hy0] at g0
  obtain ⟨l,hl,h3⟩:=open_slice (cl:=bO) (z:=8) (fun _=>rfl) (by omega) Sm NZ (fun k hk=>BX k) a y0 g0
  exact ⟨l,RelL.cons_iff.2 ⟨hl,by simp only [RelL]⟩⟩
theorem Ir {H:Type} {enc':TypeId × Value→H} {W:World} {T:TypeId} {cs:Array Value} {d:DataW H} {ps:List MemPlace} (h:DataW.Trod enc' Tryz.prog W 0 (fun _=>true) true T (.agg cs) d ps):∃ fuel,DataW.trod enc' Tryz.prog W 0 (fun _=>true) true fuel T cs.toList=some (d,ps):=h
theorem JY {H:Type} {enc':TypeId × Value→H} {W:World} {cs:Array Value} {d:DataW H} {ps:List MemPlace} (h:DataW.Trod enc' Tryz.prog W 0 (fun _=>true) true 24 (.agg cs) d ps):∃ l:List Va,Rel (G0 W) W (.agg [.list 8 (aM l) l.length .none]) (.agg cs):=by
 obtain ⟨fuel,hf⟩:=Ir h
 obtain ⟨l,hl⟩:=xX fuel _ _ hf
 exact ⟨l,by simp only [Rel];exact ⟨cs,rfl,hl⟩⟩
end Go.Proofs.YthkjmiejaoomcaaGreat.Am
