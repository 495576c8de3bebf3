/- Part of the proof of a law of layer 5: own texts, joined. -/
import Derived.Test.YthkjmiejaoomcaaGreatProg
import Derived.Below
import Derived.Orders
import Derived.Laws.Entries
import Derived.Laws.Cells
import Derived.Laws.CopyRow
import Derived.Laws.Tables
import Derived.Laws.Small
import Derived.Laws.MakeOwn
import Derived.Laws.IdiomRangeMap
import Derived.OrdersIn
import Derived.RangeFuncIn
set_option linter.unusedVariables false
set_option linter.unusedSimpArgs false
set_option linter.unnecessarySimpa false
namespace Go.Proofs.YthkjmiejaoomcaaGreat.Am
open Go Go.RowKit Go.Proofs
set_option maxRecDepth 100000
set_option maxHeartbeats 1000000
inductive Tok where
 |none
 |full
 |nil
 |id (k:Nat)
inductive AV where
 |any
 |bool (b:Bool)
 |someBool
 |int (k:IntKind) (n:Int)
 |str (s:ByteArray)
 |ptr (id off:Nat)
 |cptr (cells:List AV) (off:Nat)
 |nilptr
 |list (sz:Nat) (cells:List AV) (n:Nat) (t:Tok)
 |sl (id off n:Nat)
 |map (id:Nat)
 |nilmap
 |nilfunc
 |func (fn:Fn) (first captured:List AV)
 |yield (i:Nat)
 |raw (b:Nat)
 |nilI
 |iface (t:TypeId) (v:AV)
 |agg (cs:List AV)
 |tuple (vs:List AV)
instance:Inhabited AV:=⟨.any⟩
inductive AObj where
 |cells (cs:List AV) (T:TypeId)
 |front (T:TypeId)
 |map (es:List (AV × AV × Nat)) (clock:Nat)
 |iter (m:Option Nat) (since:Nat) (seen:List Nat) (last:Nat)
 |siter (s:ByteArray) (pos:Nat)
 |loop (st:LoopState) (pend:Option Code) (nt:Nat) (env:Nat→AV) (ps:List Nat) (asg bd:Code) (d:Nat)
 |defs
abbrev ai:=Nat→Option AObj
def upd (h:ai) (i:Nat) (o:Option AObj):ai:=fun j=>if j=i then o else h j
theorem upd_same (h:ai) (i:Nat) (o:Option AObj):upd h i o i=o:=by simp [upd]
theorem ae (h:ai) (o:Option AObj) {i j:Nat} (hj:j≠i):upd h i o j=h j:=by simp [upd,hj]
structure Place where
 ty:TypeId
 loc:Nat
 frm:Nat
 lim:Nat
 sz:Nat
structure Gh where
 n:Nat
 obj:Nat→Place
 stable:Nat→Nat→Prop
 prot:Nat→Prop
def uI (G:Gh) (W:World) (b o:Nat) (vs:List Value):Prop :=
 ∀ j v,vs[j]?=some v→W.cell? ⟨b,o+j,Option.none⟩=some v∧G.stable b (o+j)∧v.oneCell'=true
def jP (G:Gh):Tok→Option Addr→Nat→Nat→Nat→Prop
 |.none,_,_,_,_=>True
 |.full,_,n,c,_=>c=n
 |.nil,a,n,c,_=>a=Option.none∧n=0∧c=0
 |.id k,a,n,c,len=>k<G.n∧∃ o,a=some ⟨(G.obj k).loc,o,Option.none⟩∧(G.obj k).frm=o+len∧o+c * (G.obj k).sz≤(G.obj k).lim
mutual
def Rel (G:Gh) (W:World):AV→Value→Prop
 |.any,_=>True
 |.bool b,v=>v=.bool b
 |.someBool,v=>∃ b,v=.bool b
 |.int k n,v=>v=.int k n
 |.str s,v=>v=.string s
 |.ptr i off,v=>i<G.n∧v=.pointer (some ⟨(G.obj i).loc,off,Option.none⟩)
 |.cptr cells off,v=>∃ b o vs,v=.pointer (some ⟨b,o+off,Option.none⟩)∧RelL G W cells vs∧uI G W b o vs
 |.nilptr,v=>v=.pointer Option.none
 |.list sz cells n t,v=>∃ a c vs,v=.slice a n c∧n≤c∧RelL G W cells vs∧vs.length=n * sz∧(n=0∨∃ b o,a=some ⟨b,o,Option.none⟩∧uI G W b o vs)∧jP G t a n c vs.length
 |.sl i off n,v=>i<G.n∧∃ c,n≤c∧v=.slice (some ⟨(G.obj i).loc,off,Option.none⟩) n c∧(off=0→c * (G.obj i).sz≤(G.obj i).lim)
 |.map i,v=>i<G.n∧v=.map (some (G.obj i).loc)
 |.nilmap,v=>v=.map Option.none
 |.nilfunc,v=>v=.nilFunc
 |.func fn f c,v=>∃ f' c',v=.func fn f' c'∧RelL G W f f'.toList∧RelL G W c c'.toList
 |.yield i,v=>i<G.n∧v=.func (.yield (G.obj i).loc) #[] #[]
 |.raw b,v=>v=.pointer (some ⟨b,0,Option.none⟩)
 |.nilI,v=>v=.nilIface
 |.iface t x,v=>∃ x',v=.iface t x'∧Rel G W x x'
 |.agg cs,v=>∃ vs,v=.agg vs∧RelL G W cs vs.toList
 |.tuple cs,v=>∃ vs,v=.tuple vs∧RelL G W cs vs.toList
def RelL (G:Gh) (W:World):List AV→List Value→Prop
 |[],vs=>vs=[]
 |c::cs,vs=>∃ v r,vs=v::r∧Rel G W c v∧RelL G W cs r
end
structure Keep (p:Nat→Prop) (W W':World):Prop where
 os:W'.os=W.os
 tape:W'.tape=W.tape
 output:W'.output=W.output
 size:W.heap.size≤W'.heap.size
 block:∀ k,p k→W'.heap[k]?=W.heap[k]?
theorem Keep.refl (p:Nat→Prop) (W:World):Keep p W W:=⟨rfl,rfl,rfl,Nat.le_refl _,fun _ _=>rfl⟩
theorem Keep.trans {p:Nat→Prop} {a b c:World} (h:Keep p a b) (k:Keep p b c):Keep p a c :=
 ⟨k.os.trans h.os,k.tape.trans h.tape,k.output.trans h.output,Nat.le_trans h.size k.size,fun i hi=>(k.block i hi).trans (h.block i hi)⟩
theorem Keep.less {p q:Nat→Prop} {a b:World} (h:Keep p a b) (hq:∀ k,q k→p k):Keep q a b:=⟨h.os,h.tape,h.output,h.size,fun k hk=>h.block k (hq k hk)⟩
structure Evo (G:Gh) (W:World) (G':Gh) (W':World):Prop where
 prot:G'.prot=G.prot
 n:G.n≤G'.n
 obj:∀ i,i<G.n→G'.obj i=G.obj i
 mem:∀ b o v,G.stable b o→W.cell? ⟨b,o,Option.none⟩=some v→G'.stable b o∧W'.cell? ⟨b,o,Option.none⟩=some v
 keep:Keep G.prot W W'
 old:∀ b o,G.prot b→G'.stable b o→G.stable b o
theorem Evo.refl (G:Gh) (W:World):Evo G W G W:=⟨rfl,Nat.le_refl _,fun _ _=>rfl,fun _ _ _ h k=>⟨h,k⟩,Keep.refl _ _,fun _ _ _ h=>h⟩
theorem Evo.trans {G G1 G2:Gh} {W W1 W2:World} (h:Evo G W G1 W1) (k:Evo G1 W1 G2 W2):Evo G W G2 W2 :=
 ⟨k.prot.trans h.prot,Nat.le_trans h.n k.n,fun i hi=>(k.obj i (Nat.lt_of_lt_of_le hi h.n)).trans (h.obj i hi),
  fun b o v hs hc=>let ⟨a,c⟩:=h.mem b o v hs hc;k.mem b o v a c,h.keep.trans (h.prot ▸ k.keep),fun b o hp hs=>h.old b o hp (k.old b o (h.prot ▸ hp) hs)⟩
structure Ext (G:Gh) (W:World) (G':Gh) (W':World):Prop where
 n:G.n≤G'.n
 obj:∀ i,i<G.n→G'.obj i=G.obj i
 mem:∀ b o v,G.stable b o→W.cell? ⟨b,o,Option.none⟩=some v→G'.stable b o∧W'.cell? ⟨b,o,Option.none⟩=some v
theorem Evo.ext {G G':Gh} {W W':World} (e:Evo G W G' W'):Ext G W G' W':=⟨e.n,e.obj,e.mem⟩
theorem uI.monoX {G G':Gh} {W W':World} (e:Ext G W G' W') {b o:Nat} {vs:List Value} (h:uI G W b o vs):uI G' W' b o vs :=
 fun j v hv=>let ⟨a,c,d⟩:=h j v hv;let ⟨x,y⟩:=e.mem _ _ _ c a;⟨y,x,d⟩
theorem jP.monoX {G G':Gh} {W W':World} (e:Ext G W G' W') {t:Tok} {a:Option Addr} {n c l:Nat} (h:jP G t a n c l):jP G' t a n c l:=by
 cases t with
 |none=>trivial
 |full=>exact h
 |nil=>exact h
 |id k =>
  obtain ⟨hk,h⟩:=h
  exact ⟨Nat.lt_of_lt_of_le hk e.n,by rw [e.obj k hk];exact h⟩
mutual
theorem Rel.monoX {G G':Gh} {W W':World} (e:Ext G W G' W'):∀ (a:AV) (v:Value),Rel G W a v→Rel G' W' a v
 |.any,_,_=>by simp [Rel]
 |.bool b,v,h=>by simpa [Rel] using h
 |.someBool,v,h=>by simpa [Rel] using h
 |.int k n,v,h=>by simpa [Rel] using h
 |.str s,v,h=>by simpa [Rel] using h
 |.ptr i off,v,h=>by
  simp only [Rel] at h ⊢
  exact ⟨Nat.lt_of_lt_of_le h.1 e.n,by rw [e.obj i h.1];exact h.2⟩
 |.cptr cells off,v,h=>by
  simp only [Rel] at h ⊢
  obtain ⟨b,o,vs,hv,hr,hm⟩:=h
  exact ⟨b,o,vs,hv,RelL.monoX e cells vs hr,hm.monoX e⟩
 |.nilptr,v,h=>by simpa [Rel] using h
 |.list sz cells n t,v,h=>by
  simp only [Rel] at h ⊢
  obtain ⟨a,c,vs,hv,hc,hr,hl,hm,ht⟩:=h
  exact ⟨a,c,vs,hv,hc,RelL.monoX e cells vs hr,hl,hm.imp id fun ⟨b,o,ha,hm⟩=>⟨b,o,ha,hm.monoX e⟩,ht.monoX e⟩
 |.sl i off n,v,h=>by
  simp only [Rel] at h ⊢
  exact ⟨Nat.lt_of_lt_of_le h.1 e.n,by rw [e.obj i h.1];exact h.2⟩
 |.map i,v,h=>by
  simp only [Rel] at h ⊢
  exact ⟨Nat.lt_of_lt_of_le h.1 e.n,by rw [e.obj i h.1];exact h.2⟩
 |.nilmap,v,h=>by simpa [Rel] using h
 |.nilfunc,v,h=>by simpa [Rel] using h
 |.func fn f c,v,h=>by
  simp only [Rel] at h ⊢
  obtain ⟨f',c',hv,hf,hc⟩:=h
  exact ⟨f',c',hv,RelL.monoX e f _ hf,RelL.monoX e c _ hc⟩
 |.yield i,v,h=>by
  simp only [Rel] at h ⊢
  exact ⟨Nat.lt_of_lt_of_le h.1 e.n,by rw [e.obj i h.1];exact h.2⟩
 |.raw b,v,h=>by simpa [Rel] using h
 |.nilI,v,h=>by simpa [Rel] using h
 |.iface t x,v,h=>by
  simp only [Rel] at h ⊢
  obtain ⟨x',hv,hx⟩:=h
  exact ⟨x',hv,Rel.monoX e x x' hx⟩
 |.agg cs,v,h=>by
  simp only [Rel] at h ⊢
  obtain ⟨vs,hv,hx⟩:=h
  exact ⟨vs,hv,RelL.monoX e cs _ hx⟩
 |.tuple cs,v,h=>by
  simp only [Rel] at h ⊢
  obtain ⟨vs,hv,hx⟩:=h
  exact ⟨vs,hv,RelL.monoX e cs _ hx⟩
theorem RelL.monoX {G G':Gh} {W W':World} (e:Ext G W G' W'):∀ (xs:List AV) (vs:List Value),RelL G W xs vs→RelL G' W' xs vs
 |[],vs,h=>by simpa [RelL] using h
 |c::cs,vs,h=>by
  simp only [RelL] at h ⊢
  obtain ⟨v,r,hv,hc,hr⟩:=h
  exact ⟨v,r,hv,Rel.monoX e c v hc,RelL.monoX e cs r hr⟩
end
theorem uI.mono {G G':Gh} {W W':World} (e:Evo G W G' W') {b o:Nat} {vs:List Value} (h:uI G W b o vs):uI G' W' b o vs:=h.monoX e.ext
theorem Rel.mono {G G':Gh} {W W':World} (e:Evo G W G' W') (a:AV) (v:Value) (h:Rel G W a v):Rel G' W' a v:=Rel.monoX e.ext a v h
theorem RelL.mono {G G':Gh} {W W':World} (e:Evo G W G' W') (xs:List AV) (vs:List Value) (h:RelL G W xs vs):RelL G' W' xs vs:=RelL.monoX e.ext xs vs h
section
variable {G:Gh} {W:World}
theorem RelL.cons_iff {c:AV} {cs:List AV} {v:Value} {vs:List Value}:RelL G W (c::cs) (v::vs)↔Rel G W c v∧RelL G W cs vs:=by
 simp only [RelL,List.cons.injEq]
 exact ⟨fun ⟨_,_,⟨rfl,rfl⟩,h⟩=>h,fun h=>⟨v,vs,⟨rfl,rfl⟩,h⟩⟩
theorem RelL.length {xs:List AV}:∀ {vs:List Value},RelL G W xs vs→vs.length=xs.length:=by
 induction xs with
 |nil=>intro vs h;simp only [RelL] at h;subst h;rfl
 |cons a xs ih =>
  intro vs h
  simp only [RelL] at h
  obtain ⟨v,r,rfl,_,h⟩:=h
  simp [ih h]
theorem RelL.get {xs:List AV}:∀ {vs:List Value} {i:Nat} {a:AV},RelL G W xs vs→xs[i]?=some a→∃ v,vs[i]?=some v∧Rel G W a v:=by
 induction xs with
 |nil=>intro vs i a h hi;simp at hi
 |cons b xs ih =>
  intro vs i a h hi
  simp only [RelL] at h
  obtain ⟨v,r,rfl,hb,h⟩:=h
  cases i with
  |zero=>simp only [List.getElem?_cons_zero,Option.some.injEq] at hi ⊢;subst hi;exact ⟨v,rfl,hb⟩
  |succ i=>simpa using ih h (by simpa using hi)
theorem RelL.append {xs bs:List AV}:∀ {vs us:List Value},RelL G W xs vs→RelL G W bs us→RelL G W (xs++bs) (vs++us):=by
 induction xs with
 |nil=>intro vs us h k;simp only [RelL] at h;subst h;exact k
 |cons b xs ih =>
  intro vs us h k
  simp only [RelL] at h
  obtain ⟨u,r,rfl,hb,h⟩:=h
  simp only [List.cons_append,RelL.cons_iff]
  exact ⟨hb,ih h k⟩
theorem RelL.take {xs:List AV}:∀ {vs:List Value} (n:Nat),RelL G W xs vs→RelL G W (xs.take n) (vs.take n):=by
 induction xs with
 |nil=>intro vs n h;simp only [RelL] at h;subst h;simp [RelL]
 |cons b xs ih =>
  intro vs n h
  simp only [RelL] at h
  obtain ⟨u,r,rfl,hb,h⟩:=h
  cases n with
  |zero=>simp [RelL]
  |succ n=>simp only [List.take_succ_cons,RelL.cons_iff];exact ⟨hb,ih n h⟩
theorem RelL.drop {xs:List AV}:∀ {vs:List Value} (n:Nat),RelL G W xs vs→RelL G W (xs.drop n) (vs.drop n):=by
 induction xs with
 |nil=>intro vs n h;simp only [RelL] at h;subst h;simp [RelL]
 |cons b xs ih =>
  intro vs n h
  cases n with
  |zero=>simpa using h
  |succ n =>
   simp only [RelL] at h
   obtain ⟨u,r,rfl,hb,h⟩:=h
   simp only [List.drop_succ_cons];exact ih n h
theorem RelL.of_get {xs:List AV}:∀ {vs:List Value},vs.length=xs.length→(∀ (i:Nat) (a:AV) (v:Value),xs[i]?=some a→vs[i]?=some v→Rel G W a v)→RelL G W xs vs:=by
 induction xs with
 |nil=>intro vs hl _;simp only [RelL];exact List.eq_nil_of_length_eq_zero hl
 |cons b xs ih =>
  intro vs hl h
  cases vs with
  |nil=>simp at hl
  |cons v vs =>
   rw [RelL.cons_iff]
   exact ⟨h 0 b v rfl rfl,ih (by simpa using hl) fun i a u hi hu=>h (i+1) a u (by simpa using hi) (by simpa using hu)⟩
end
def RelE (G:Gh) (W:World):List (AV × AV × Nat)→List MapEntry→Prop
 |[],l=>l=[]
 |(k,v,n)::es,l=>∃ e r,l=e::r∧Rel G W k e.key∧Rel G W v e.val∧e.born=n∧RelE G W es r
theorem RelE.monoX {G G':Gh} {W W':World} (e:Ext G W G' W'):∀ (es:List (AV × AV × Nat)) (l:List MapEntry),RelE G W es l→RelE G' W' es l
 |[],l,h=>by simpa [RelE] using h
 |(k,v,n)::es,l,h=>by
  simp only [RelE] at h ⊢
  obtain ⟨x,r,hl,hk,hv,hb,hr⟩:=h
  exact ⟨x,r,hl,Rel.monoX e _ _ hk,Rel.monoX e _ _ hv,hb,RelE.monoX e es r hr⟩
theorem RelE.mono {G G':Gh} {W W':World} (e:Evo G W G' W') (es:List (AV × AV × Nat)) (l:List MapEntry) (h:RelE G W es l):RelE G' W' es l:=RelE.monoX e.ext es l h
def pq (nt:Nat) (o:Oper):Bool:=match o.dst with|some d=>Nat.ble (Nat.succ d) nt|Option.none=>true
def eH (nt:Nat):Code→Bool
 |.region _ ops _=>ops.toList.all (pq nt)
 |.seq a b=>eH nt a&&eH nt b
 |.cond _ a b=>eH nt a&&eH nt b
 |.block _ c=>eH nt c
 |.loop c=>eH nt c
 |.rangeFunc _ ps a b=>ps.toList.all (fun p=>Nat.ble (Nat.succ p) nt)&&eH nt a&&eH nt b
 |.scope c=>eH nt c
 |_=>true
def tsz (P:Program) (t:TypeId):Option Nat:=(P.info? t).map (·.size)
def jB (P:Program) (G:Gh) (W:World) (i:Nat):AObj→Prop
 |.cells cs T=>¬ G.prot (G.obj i).loc∧((G.obj i).ty=T∧tsz P T=some (G.obj i).sz)∧(∀ o,¬ G.stable (G.obj i).loc o)∧∃ c,W.heap[(G.obj i).loc]?=some (.cells c T (0,0))∧(G.obj i).lim≤c.size∧cs.length≤c.size∧RelL G W cs (c.toList.take cs.length)
 |.front T=>¬ G.prot (G.obj i).loc∧((G.obj i).ty=T∧tsz P T=some (G.obj i).sz)∧(∀ o,(G.obj i).frm≤o→¬ G.stable (G.obj i).loc o)∧∃ c,W.heap[(G.obj i).loc]?=some (.cells c T (0,0))∧(G.obj i).lim≤c.size
 |.map es clock=>¬ G.prot (G.obj i).loc∧∃ l,W.heap[(G.obj i).loc]?=some (.map l clock)∧RelE G W es l.toList
 |.iter m since seen last=>¬ G.prot (G.obj i).loc∧(∀ k,m=some k→k<G.n)∧W.heap[(G.obj i).loc]?=some (.mapIter (m.map fun k=>(G.obj k).loc) since seen.toArray last)
 |.siter s pos=>¬ G.prot (G.obj i).loc∧W.heap[(G.obj i).loc]?=some (.stringIter s pos)
 |.loop st pend nt env ps asg bd d=>¬ G.prot (G.obj i).loc∧(d<G.n∧(ps.all (fun p=>Nat.ble (Nat.succ p) nt)&&eH nt asg&&eH nt bd)=true)∧∃ (fn:FuncId) (tmps:Array Value),tmps.size=nt∧(∀ t,Rel G W (env t) (tmps.getD t undef)) ∧
   W.heap[(G.obj i).loc]?=some (.loop { state:=st,pending:=pend,fn:=fn,tmps:=tmps,params:=ps.toArray,assign:=asg,body:=bd,defers:=(G.obj d).loc })
 |.defs=>¬ G.prot (G.obj i).loc∧W.heap[(G.obj i).loc]?=some (.deferred (some []))
structure Sim (P:Program) (G:Gh) (h:ai) (W:World):Prop where
 dom:∀ i o,h i=some o→i<G.n
 obj:∀ i o,h i=some o→jB P G W i o
 inj:∀ i j a b,h i=some a→h j=some b→(G.obj i).loc=(G.obj j).loc→i=j
 stab:∀ b o,G.stable b o→b<W.heap.size
 prt:∀ b,G.prot b→b<W.heap.size
theorem Sim.fresh {P:Program} {G:Gh} {h:ai} {W:World} (s:Sim P G h W):h G.n=Option.none:=by
 cases e:h G.n with
 |none=>rfl
 |some o=>exact absurd (s.dom _ _ e) (Nat.lt_irrefl _)
theorem Sim.mine {P:Program} {G:Gh} {h:ai} {W:World} (s:Sim P G h W):¬ G.prot W.heap.size:=fun hp=>Nat.lt_irrefl _ (s.prt _ hp)
theorem jB.lt {P:Program} {G:Gh} {W:World} {i:Nat} {o:AObj} (h:jB P G W i o):(G.obj i).loc<W.heap.size:=by
 cases o with
 |cells cs T=>obtain ⟨_,_,_,c,hc,_⟩:=h;exact (Array.getElem?_eq_some_iff.1 hc).1
 |front T=>obtain ⟨_,_,_,c,hc,_⟩:=h;exact (Array.getElem?_eq_some_iff.1 hc).1
 |map es n=>obtain ⟨_,c,hc,_⟩:=h;exact (Array.getElem?_eq_some_iff.1 hc).1
 |iter m s l k=>exact (Array.getElem?_eq_some_iff.1 h.2.2).1
 |siter s p=>exact (Array.getElem?_eq_some_iff.1 h.2).1
 |loop st pend nt env ps asg bd d=>obtain ⟨_,_,fn,tmps,_,_,hc⟩:=h;exact (Array.getElem?_eq_some_iff.1 hc).1
 |defs=>exact (Array.getElem?_eq_some_iff.1 h.2).1
theorem jB.mine {P:Program} {G:Gh} {W:World} {i:Nat} {o:AObj} (h:jB P G W i o):¬ G.prot (G.obj i).loc:=by
 cases o <;> exact h.1
theorem jB.kept' {P:Program} {G G':Gh} {W W':World} {i:Nat} {o:AObj} (e:Ext G W G' W') (hi:i<G.n) (h:jB P G W i o) (hm:¬ G'.prot (G.obj i).loc)
  (hb:W'.heap[(G.obj i).loc]?=W.heap[(G.obj i).loc]?)
  (hs:∀ k,G'.stable (G.obj i).loc k→G.stable (G.obj i).loc k):jB P G' W' i o:=by
 cases o with
 |cells cs T =>
  obtain ⟨h1,h0,h2,c,hc,hl,hcs,hr⟩:=h
  refine ⟨by rw [e.obj i hi];exact hm,by rw [e.obj i hi];exact h0,fun o ho=>?_,c,?_,?_,hcs,RelL.monoX e _ _ hr⟩
  ·rw [e.obj i hi] at ho;exact h2 o (hs o ho)
  ·rw [e.obj i hi,hb];exact hc
  ·rw [e.obj i hi];exact hl
 |front T =>
  obtain ⟨h1,h0,h2,c,hc,hl⟩:=h
  refine ⟨by rw [e.obj i hi];exact hm,by rw [e.obj i hi];exact h0,fun o hf ho=>?_,c,?_,?_⟩
  ·rw [e.obj i hi] at ho hf;exact h2 o hf (hs o ho)
  ·rw [e.obj i hi,hb];exact hc
  ·rw [e.obj i hi];exact hl
 |map es n =>
  obtain ⟨h1,c,hc,hr⟩:=h
  exact ⟨by rw [e.obj i hi];exact hm,c,by rw [e.obj i hi,hb];exact hc,RelE.monoX e _ _ hr⟩
 |iter m s l k =>
  obtain ⟨h1,h2,hc⟩:=h
  refine ⟨by rw [e.obj i hi];exact hm,fun k hk=>Nat.lt_of_lt_of_le (h2 k hk) e.n,?_⟩
  rw [e.obj i hi,hb,hc]
  cases m with
  |none=>rfl
  |some k=>simp only [Option.map_some];rw [e.obj k (h2 k rfl)]
 |siter s p=>exact ⟨by rw [e.obj i hi];exact hm,by rw [e.obj i hi,hb];exact h.2⟩
 |loop st pend nt env ps asg bd d =>
  obtain ⟨h1,hd,fn,tmps,hn,hr,hc⟩:=h
  refine ⟨by rw [e.obj i hi];exact hm,⟨Nat.lt_of_lt_of_le hd.1 e.n,hd.2⟩,fn,tmps,hn,fun t=>Rel.monoX e _ _ (hr t),?_⟩
  rw [e.obj i hi,hb,hc,e.obj d hd.1]
 |defs=>exact ⟨by rw [e.obj i hi];exact hm,by rw [e.obj i hi,hb];exact h.2⟩
theorem jB.kept {P:Program} {G G':Gh} {W W':World} {i:Nat} {o:AObj} (e:Evo G W G' W') (hi:i<G.n) (h:jB P G W i o)
  (hb:W'.heap[(G.obj i).loc]?=W.heap[(G.obj i).loc]?)
  (hs:∀ k,G'.stable (G.obj i).loc k→G.stable (G.obj i).loc k):jB P G' W' i o:=jB.kept' e.ext hi h (by rw [e.prot];exact h.mine) hb hs
section
variable {P:Program} {G:Gh} {h:ai} {W:World}
theorem cell_of_heap {W W':World} {b o:Nat} (h:W'.heap[b]?=W.heap[b]?):W'.cell? ⟨b,o,Option.none⟩=W.cell? ⟨b,o,Option.none⟩:=World.cell?_of_block (a:=⟨b,o,Option.none⟩) h
theorem d9 {W:World} {o:Obj} {k:Nat} (h:k<W.heap.size):(W.alloc o).heap[k]?=W.heap[k]?:=Below.heap_alloc W o k h
theorem dI (W:World) (o:Obj):(W.alloc o).heap[W.heap.size]?=some o:=by
 show (W.heap.push o)[W.heap.size]?=_
 simp
theorem size_alloc (W:World) (o:Obj):(W.alloc o).heap.size=W.heap.size+1:=by
 show (W.heap.push o).size=_
 simp
theorem Evo.same {W':World} (hh:W'.heap=W.heap) (ho:W'.os=W.os) (ht:W'.tape=W.tape) (hp:W'.output=W.output):Evo G W G W' :=
 ⟨rfl,Nat.le_refl _,fun _ _=>rfl,fun b o v hs hc=>⟨hs,(cell_of_heap (W:=W) (W':=W') (by rw [hh])).trans hc⟩,⟨ho,ht,hp,by rw [hh];exact Nat.le_refl _,fun k _=>by rw [hh]⟩,fun _ _ _ h=>h⟩
theorem Sim.same {W':World} (s:Sim P G h W) (hh:W'.heap=W.heap) (ho:W'.os=W.os) (ht:W'.tape=W.tape) (hp:W'.output=W.output):Sim P G h W' :=
 ⟨s.dom,fun i o hi=>(s.obj i o hi).kept (Evo.same hh ho ht hp) (s.dom i o hi) (by rw [hh]) (fun _ h=>h),s.inj,fun b o hb=>by rw [hh];exact s.stab b o hb,fun b hb=>by rw [hh];exact s.prt b hb⟩
theorem Evo.write {W':World} {b:Nat} (hb:Keep G.prot W W') (hk:∀ k,k≠b→k<W.heap.size→W'.heap[k]?=W.heap[k]?) (st:∀ b o,G.stable b o→b<W.heap.size)
  (hno:∀ k v,G.stable b k→W.cell? ⟨b,k,Option.none⟩=some v→False):Evo G W G W' :=
 ⟨rfl,Nat.le_refl _,fun _ _=>rfl,fun b' o v hs hc=>by
  by_cases e:b'=b
  ·subst e;exact (hno o v hs hc).elim
  ·exact ⟨hs,by rw [cell_of_heap (hk b' e (st b' o hs))];exact hc⟩,hb,fun _ _ _ h=>h⟩
theorem Sim.write {W':World} {i:Nat} {o o':AObj} (s:Sim P G h W) (hi:h i=some o) (e:Evo G W G W')
  (hk:∀ k,k≠(G.obj i).loc→k<W.heap.size→W'.heap[k]?=W.heap[k]?) (ho:jB P G W' i o'):Sim P G (upd h i (some o')) W':=by
 have conv:∀ (j:Nat) (a:AObj),upd h i (some o') j=some a→∃ a0,h j=some a0:=by
  intro j a hj
  by_cases e:j=i
  ·subst e;exact ⟨o,hi⟩
  ·rw [ae _ _ e] at hj;exact ⟨a,hj⟩
 refine ⟨fun j a hj=>?_,fun j q hj=>?_,fun j k a b hj hk' hlo=>?_,fun b k hb=>Nat.lt_of_lt_of_le (s.stab b k hb) e.keep.size,fun b hb=>Nat.lt_of_lt_of_le (s.prt b hb) e.keep.size⟩
 ·obtain ⟨a0,h0⟩:=conv j a hj;exact s.dom j a0 h0
 ·by_cases hij:j=i
  ·subst hij
   rw [upd_same] at hj
   injection hj with hj;subst hj;exact ho
  ·rw [ae _ _ hij] at hj
   exact (s.obj j q hj).kept e (s.dom j q hj) (hk _ (fun hx=>hij (s.inj j i q o hj hi hx)) (s.obj j q hj).lt) (fun _ h=>h)
 ·obtain ⟨a0,ha0⟩:=conv j a hj
  obtain ⟨b0,hb0⟩:=conv k b hk'
  exact s.inj j k a0 b0 ha0 hb0 hlo
theorem Sim.less {h':ai} (s:Sim P G h W) (hl:∀ i o,h' i=some o→h i=some o):Sim P G h' W :=
 ⟨fun i o hi=>s.dom i o (hl i o hi),fun i o hi=>s.obj i o (hl i o hi),fun i j a b ha hb=>s.inj i j a b (hl i a ha) (hl j b hb),s.stab,s.prt⟩
theorem pI {h:ai} {i j:Nat} {o:AObj} (hj:upd h i Option.none j=some o):j≠i∧h j=some o:=by
 by_cases e:j=i
 ·subst e;rw [upd_same] at hj;simp at hj
 ·rw [ae _ _ e] at hj;exact ⟨e,hj⟩
theorem Sim.kill {i:Nat} (s:Sim P G h W):Sim P G (upd h i Option.none) W:=s.less fun _ _ hj=>(pI hj).2
def Gh.row (G:Gh) (B:Nat):Gh:={ G with stable:=fun b o=>G.stable b o∨b=B }
theorem Keep.alloc {p:Nat→Prop} (hp:∀ b,p b→b<W.heap.size) (o:Obj):Keep p W (W.alloc o):=⟨rfl,rfl,rfl,by rw [size_alloc];exact Nat.le_succ _,fun k hk=>d9 (hp k hk)⟩
theorem Evo.row (st:∀ b o,G.stable b o→b<W.heap.size) (hp:∀ b,G.prot b→b<W.heap.size) (o:Obj):Evo G W (G.row W.heap.size) (W.alloc o) :=
 ⟨rfl,Nat.le_refl _,fun _ _=>rfl,fun b k v hs hc=>⟨.inl hs,by rw [cell_of_heap (d9 (st b k hs))];exact hc⟩,Keep.alloc hp o,fun b k hb hs=>hs.resolve_right fun e=>absurd (hp b hb) (by omega)⟩
theorem Sim.row (s:Sim P G h W) (o:Obj):Sim P (G.row W.heap.size) h (W.alloc o):=by
 have e:=Evo.row (G:=G) s.stab s.prt o
 refine ⟨s.dom,fun i q hi=>(s.obj i q hi).kept e (s.dom i q hi) (d9 (s.obj i q hi).lt) (fun k hk=>?_),s.inj,fun b k hb=>?_,fun b hb=>Nat.lt_of_lt_of_le (s.prt b hb) e.keep.size⟩
 ·rcases hk with hk|hk
  ·exact hk
  ·have:=(s.obj i q hi).lt;omega
 ·rw [size_alloc]
  rcases hb with hb|hb
  ·have:=s.stab b k hb;omega
  ·omega
def Gh.push (G:Gh) (p:Place) (st:Nat→Prop):Gh :=
 { G with n:=G.n+1,obj:=fun i=>if i=G.n then p else G.obj i,stable:=fun b o=>G.stable b o∨(b=p.loc∧st o) }
theorem Gh.push_obj (G:Gh) (p:Place) (st:Nat→Prop):(G.push p st).obj G.n=p:=by simp [Gh.push]
theorem Gh.push_old (G:Gh) (p:Place) (st:Nat→Prop) {i:Nat} (hi:i<G.n):(G.push p st).obj i=G.obj i:=by simp [Gh.push,Nat.ne_of_lt hi]
theorem Evo.push (s:Sim P G h W) {p:Place} (hp:p.loc=W.heap.size) (st:Nat→Prop) (o:Obj):Evo G W (G.push p st) (W.alloc o) :=
 ⟨rfl,Nat.le_succ _,fun i hi=>Gh.push_old G p st hi,fun b k v hs hc=>⟨.inl hs,by rw [cell_of_heap (d9 (s.stab b k hs))];exact hc⟩,Keep.alloc s.prt o,fun b k hb hs=>hs.resolve_right fun e=>absurd (s.prt b hb) (by rw [e.1,hp];omega)⟩
theorem iA {h:ai} {n:Nat} {q x:AObj} {i:Nat} (hx:upd h n (some q) i=some x):(i≠n∧h i=some x)∨(i=n∧x=q):=by
 by_cases e:i=n
 ·subst e;rw [upd_same] at hx;injection hx with hx;exact .inr ⟨rfl,hx.symm⟩
 ·rw [ae _ _ e] at hx;exact .inl ⟨e,hx⟩
theorem Sim.push (s:Sim P G h W) {p:Place} (hp:p.loc=W.heap.size) (st:Nat→Prop) (o:Obj) (q:AObj) (hq:jB P (G.push p st) (W.alloc o) G.n q):Sim P (G.push p st) (upd h G.n (some q)) (W.alloc o):=by
 have e:=Evo.push s hp st o
 refine ⟨fun i x hx=>?_,fun i x hx=>?_,fun i j a b ha hb hlo=>?_,fun b k hb=>?_,fun b hb=>Nat.lt_of_lt_of_le (s.prt b hb) e.keep.size⟩
 ·rcases iA hx with ⟨_,hx⟩|⟨rfl,rfl⟩
  ·exact Nat.lt_succ_of_lt (s.dom i x hx)
  ·exact Nat.lt_succ_self _
 ·rcases iA hx with ⟨_,hx⟩|⟨rfl,rfl⟩
  ·refine (s.obj i x hx).kept e (s.dom i x hx) (d9 (s.obj i x hx).lt) (fun k hk=>?_)
   rcases hk with hk|hk
   ·exact hk
   ·have:=(s.obj i x hx).lt;have:=hk.1;omega
  ·exact hq
 ·rcases iA ha with ⟨_,ha'⟩|⟨hi,ha'⟩ <;> rcases iA hb with ⟨_,hb'⟩|⟨hj,hb'⟩
  ·rw [Gh.push_old _ _ _ (s.dom i a ha'),Gh.push_old _ _ _ (s.dom j b hb')] at hlo
   exact s.inj i j a b ha' hb' hlo
  ·rw [hj,Gh.push_old _ _ _ (s.dom i a ha'),Gh.push_obj,hp] at hlo
   have:=(s.obj i a ha').lt;omega
  ·rw [hi,Gh.push_old _ _ _ (s.dom j b hb'),Gh.push_obj,hp] at hlo
   have:=(s.obj j b hb').lt;omega
  ·rw [hi,hj]
 ·rw [size_alloc]
  rcases hb with hb|hb
  ·have:=s.stab b k hb;omega
  ·have:=hb.1;omega
theorem Evo.grow {W':World} {k:Nat} {T:TypeId} (s:Sim P G h W) (hk:h k=some (.front T)) {p:Place} (hp:p.loc=(G.obj k).loc) (st:Nat→Prop)
  (hb:Keep G.prot W W') (hblk:∀ j,j≠(G.obj k).loc→j<W.heap.size→W'.heap[j]?=W.heap[j]?)
  (hcell:∀ o v,o<(G.obj k).frm→W.cell? ⟨(G.obj k).loc,o,Option.none⟩=some v→W'.cell? ⟨(G.obj k).loc,o,Option.none⟩=some v):Evo G W (G.push p st) W':=by
 refine ⟨rfl,Nat.le_succ _,fun i hi=>Gh.push_old G p st hi,fun b o v hs hc=>⟨.inl hs,?_⟩,hb,fun b o hb hs=>hs.resolve_right fun e=>(s.obj k _ hk).mine (by rw [← hp,← e.1];exact hb)⟩
 by_cases e:b=(G.obj k).loc
 ·subst e
  obtain ⟨_,_,hst,_⟩:=s.obj k _ hk
  refine hcell o v ?_ hc
  exact Nat.lt_of_not_le fun hle=>hst o hle hs
 ·rw [cell_of_heap (hblk b e (s.stab b o hs))];exact hc
theorem Sim.grow {W':World} {k:Nat} {T:TypeId} (s:Sim P G h W) (hk:h k=some (.front T)) {p:Place} (hp:p.loc=(G.obj k).loc) (st:Nat→Prop)
  (hst:∀ o,st o→o<p.frm) (hfrm:(G.obj k).frm≤p.frm) (hty:p.ty=(G.obj k).ty) (hsz:p.sz=(G.obj k).sz) (e:Evo G W (G.push p st) W')
  (hblk:∀ j,j≠(G.obj k).loc→j<W.heap.size→W'.heap[j]?=W.heap[j]?)
  (hc:∃ c,W'.heap[(G.obj k).loc]?=some (.cells c T (0,0))∧p.lim≤c.size):Sim P (G.push p st) (upd (upd h k Option.none) G.n (some (.front T))) W':=by
 have s':=s.kill (i:=k)
 have ne:∀ (i:Nat) (x:AObj),upd h k Option.none i=some x→(G.obj i).loc≠(G.obj k).loc:=by
  intro i x hx hlo
  obtain ⟨hne,hx⟩:=pI hx
  exact hne (s.inj i k x _ hx hk hlo)
 refine ⟨fun i x hx=>?_,fun i x hx=>?_,fun i j a b ha hb hlo=>?_,fun b o hb=>?_,fun b hb=>Nat.lt_of_lt_of_le (s.prt b hb) e.keep.size⟩
 ·rcases iA hx with ⟨_,hx⟩|⟨rfl,rfl⟩
  ·exact Nat.lt_succ_of_lt (s'.dom i x hx)
  ·exact Nat.lt_succ_self _
 ·rcases iA hx with ⟨_,hx⟩|⟨rfl,rfl⟩
  ·refine (s'.obj i x hx).kept e (s'.dom i x hx) (hblk _ (ne i x hx) (s'.obj i x hx).lt) (fun o ho=>?_)
   rcases ho with ho|ho
   ·exact ho
   ·exact (ne i x hx (ho.1.trans hp)).elim
  ·obtain ⟨hbase,htp,hsto,_⟩:=s.obj k _ hk
   obtain ⟨c,hc,hl⟩:=hc
   refine ⟨by rw [Gh.push_obj,hp];exact hbase,by rw [Gh.push_obj,hty,hsz];exact htp,fun o ho hs=>?_,c,by rw [Gh.push_obj,hp];exact hc,by rw [Gh.push_obj];exact hl⟩
   rw [Gh.push_obj] at ho hs
   rcases hs with hs|hs
   ·exact hsto o (Nat.le_trans hfrm ho) (hp ▸ hs)
   ·exact absurd (hst o hs.2) (by omega)
 ·rcases iA ha with ⟨_,ha'⟩|⟨hi,ha'⟩ <;> rcases iA hb with ⟨_,hb'⟩|⟨hj,hb'⟩
  ·rw [Gh.push_old _ _ _ (s'.dom i a ha'),Gh.push_old _ _ _ (s'.dom j b hb')] at hlo
   exact s'.inj i j a b ha' hb' hlo
  ·rw [hj,Gh.push_old _ _ _ (s'.dom i a ha'),Gh.push_obj,hp] at hlo
   exact (ne i a ha' hlo).elim
  ·rw [hi,Gh.push_old _ _ _ (s'.dom j b hb'),Gh.push_obj,hp] at hlo
   exact (ne j b hb' hlo.symm).elim
  ·rw [hi,hj]
 ·rcases hb with hb|hb
  ·exact Nat.lt_of_lt_of_le (s.stab b o hb) e.keep.size
  ·rw [hb.1,hp];exact Nat.lt_of_lt_of_le (s.obj k _ hk).lt e.keep.size
end
section
variable {P:Program} {G:Gh} {h:ai} {W:World}
def AV.cells:AV→List AV
 |.agg cs=>cs
 |v=>[v]
def AV.flat:AV→Bool
 |.agg _|.tuple _|.any=>false
 |_=>true
def AV.known:AV→Bool
 |.any=>false
 |_=>true
theorem Rel.cells {v:AV} {v':Value} (hr:Rel G W v v') (hk:v.known=true):RelL G W v.cells v'.cells.toList:=by
 cases v <;> simp only [AV.cells,AV.known,Bool.false_eq_true] at hk ⊢
 case agg cs =>
  simp only [Rel] at hr
  obtain ⟨vs,rfl,h⟩:=hr
  exact h
 all_goals
  have hc:v'.cells=#[v']:=by
   clear hk
   simp only [Rel] at hr
   first
    |(subst hr;rfl)
    |(obtain ⟨_,rfl⟩:=hr;rfl)
    |(obtain ⟨_,_,rfl,_⟩:=hr;rfl)
    |(obtain ⟨_,_,_,rfl,_⟩:=hr;rfl)
    |(obtain ⟨_,rfl,_⟩:=hr;rfl)
  rw [hc]
  simp only [RelL]
  exact ⟨v',[],rfl,hr,rfl⟩
theorem Rel.flat {v:AV} {v':Value} (hr:Rel G W v v') (hk:v.flat=true):v'.oneCell'=true:=by
 cases v <;> simp only [AV.flat,Bool.false_eq_true] at hk
 all_goals
  simp only [Rel] at hr
  first
   |(subst hr;rfl)
   |(obtain ⟨_,rfl⟩:=hr;rfl)
   |(obtain ⟨_,_,rfl,_⟩:=hr;rfl)
   |(obtain ⟨_,_,_,rfl,_⟩:=hr;rfl)
   |(obtain ⟨_,rfl,_⟩:=hr;rfl)
theorem RelL.flat {xs:List AV}:∀ {vs:List Value},RelL G W xs vs→xs.all AV.flat=true→∀ v ∈ vs,v.oneCell'=true:=by
 induction xs with
 |nil=>intro vs h _;simp only [RelL] at h;subst h;simp
 |cons x xs ih =>
  intro vs h hf
  simp only [RelL] at h
  obtain ⟨v,r,rfl,hx,h⟩:=h
  simp only [List.all_cons,Bool.and_eq_true] at hf
  intro u hu
  rcases List.mem_cons.1 hu with rfl|hu
  ·exact hx.flat hf.1
  ·exact ih h hf.2 u hu
def OkK (k:Nat) (P:Program) (G:Gh) (W:World) (s:Go.Sem Value) (v:AV) (h':ai):Prop :=
 ∃ G' W' v',s.run P W=.ok v' W'∧Rel G' W' v v'∧Sim P G' h' W'∧Evo G W G' W'∧G'.n≤G.n+k
def OkUK (k:Nat) (P:Program) (G:Gh) (W:World) (s:Go.Sem Unit) (h':ai):Prop :=
 ∃ G' W',s.run P W=.ok () W'∧Sim P G' h' W'∧Evo G W G' W'∧G'.n≤G.n+k
abbrev Ok:=OkK 1
theorem Ok.pure {k:Nat} {s:Go.Sem Value} {v:AV} {v':Value} (sim:Sim P G h W) (hs:s.run P W=.ok v' W) (hr:Rel G W v v'):OkK k P G W s v h :=
 ⟨G,W,v',hs,hr,sim,Evo.refl _ _,Nat.le_add_right _ _⟩
def tagg (P:Program) (t:TypeId):Option Bool:=(P.underlying t).map fun|.struct _|.array _ _=>true|_=>false
def dm (P:Program) (t:TypeId):Option TypeId:=match P.underlying t with|some (.slice e)=>some e|_=>Option.none
def bC (P:Program) (t:TypeId) (f:Nat):Option (Nat × Nat) :=
 match P.underlying t with
 |some (.struct fs)=>(fs[f]?).bind fun q=>(tsz P q.type).map fun z=>(q.offset,z)
 |_=>Option.none
def bI (P:Program) (t:TypeId):Option Value:=(P.info? t).bind (·.zero)
inductive TK where
 |bool
 |int (k:IntKind)
 |string
 |slice (e:TypeId)
 |iface
 |other
def tk (P:Program) (t:TypeId):Option TK:=(P.underlying t).map fun
 |.bool=>.bool
 |.int k=>.int k
 |.string=>.string
 |.slice e=>.slice e
 |.interface _=>.iface
 |_=>.other
theorem Sq {t:TypeId} (h:tk P t=some .bool):P.underlying t=some .bool:=by
 unfold tk at h
 cases hu:P.underlying t with
 |none=>simp [hu] at h
 |some d=>cases d <;> simp [hu] at h ⊢
theorem wO {t:TypeId} (h:tk P t=some .iface):P.underlying t=some (.interface (P.methodsAt t)):=by
 unfold tk at h
 cases hu:P.underlying t with
 |none=>simp [hu] at h
 |some d=>cases d <;> simp [hu,Program.methodsAt] at h ⊢
theorem oD {t:TypeId} (h:tk P t=some .string):P.underlying t=some .string:=by
 unfold tk at h
 cases hu:P.underlying t with
 |none=>simp [hu] at h
 |some d=>cases d <;> simp [hu] at h ⊢
theorem U8 {t:TypeId} {k:IntKind} (h:tk P t=some (.int k)):P.underlying t=some (.int k):=by
 unfold tk at h
 cases hu:P.underlying t with
 |none=>simp [hu] at h
 |some d=>cases d <;> simp [hu] at h ⊢;exact h
theorem Hy {t e:TypeId} (h:tk P t=some (.slice e)):P.underlying t=some (.slice e):=by
 unfold tk at h
 cases hu:P.underlying t with
 |none=>simp [hu] at h
 |some d=>cases d <;> simp [hu] at h ⊢;exact h
theorem FL {t:TypeId} {k:TK} (h:tk P t=some k):∃ d,P.underlying t=some d∧(k≠.iface→∀ m,d≠.interface m):=by
 unfold tk at h
 cases hu:P.underlying t with
 |none=>simp [hu] at h
 |some d =>
  refine ⟨d,rfl,fun hk m hd=>?_⟩
  subst hd
  simp [hu] at h
  exact hk h.symm
theorem run_sizeOf {t:TypeId} {z:Nat} (h:tsz P t=some z) (W:World):(sizeOf t).run P W=.ok z W:=by
 unfold tsz at h
 cases hi:P.info? t with
 |none=>simp [hi] at h
 |some i=>simp [hi] at h;subst h;simp [sizeOf,typeInfo,hi]
theorem sG {t:TypeId} {g:Bool} (h:tagg P t=some g) (W:World):(isAgg t).run P W=.ok g W:=by
 unfold tagg at h
 cases hu:P.underlying t with
 |none=>simp [hu] at h
 |some d =>
  rw [hu] at h
  simp only [Option.map_some,Option.some.injEq] at h
  subst h
  simp only [isAgg,Sem.run_bind,run_underlying hu,Result.andThen_ok]
  cases d <;> rfl
theorem fM {t:TypeId} {z:Value} (h:bI P t=some z) (W:World):(zeroValue t).run P W=.ok z W:=by
 unfold bI at h
 cases hi:P.info? t with
 |none=>simp [hi] at h
 |some i=>simp [hi] at h;simp [zeroValue,typeInfo,hi,h]
theorem aP {t e:TypeId} (h:dm P t=some e):P.underlying t=some (.slice e):=by
 unfold dm at h
 split at h
 ·injection h with h;subst h;assumption
 ·simp at h
theorem addr_add (b o n:Nat):(⟨b,o,Option.none⟩:Addr).add n=⟨b,o+n,Option.none⟩:=by
 unfold Addr.add;split <;> simp_all
def ofLeaf:Value→AV
 |.bool b=>.bool b
 |.int k n=>.int k n
 |.string s=>.str s
 |.pointer Option.none=>.nilptr
 |.slice Option.none 0 0=>.list 0 [] 0 .nil
 |.map Option.none=>.nilmap
 |.nilFunc=>.nilfunc
 |.nilIface=>.nilI
 |_=>.any
def ofConst:Value→AV
 |.agg cs=>.agg (cs.toList.map ofLeaf)
 |v=>ofLeaf v
theorem Rel.ofLeaf (v:Value):Rel G W (ofLeaf v) v:=by
 unfold Am.ofLeaf
 split <;> simp [Rel,RelL,jP]
theorem RelL.ofLeaf (vs:List Value):RelL G W (vs.map Am.ofLeaf) vs:=by
 induction vs with
 |nil=>simp [RelL]
 |cons v vs ih=>rw [List.map_cons,RelL.cons_iff];exact ⟨Rel.ofLeaf v,ih⟩
theorem Rel.ofConst (v:Value):Rel G W (ofConst v) v:=by
 unfold Am.ofConst
 split
 ·simp only [Rel];exact ⟨_,rfl,RelL.ofLeaf _⟩
 ·exact Rel.ofLeaf _
theorem D6 (sim:Sim P G h W) {T:TypeId} {z:Nat} (hz:tsz P T=some z) {cs:List AV} {v':Value} (hr:RelL G W cs v'.cells.toList) :
  Ok P G W (do Pure.pure (.pointer (some (← newVar T v')))) (.ptr G.n 0) (upd h G.n (some (.cells cs T))):=by
 let p:Place:=⟨T,W.heap.size,0,v'.cells.size,z⟩
 have e:=Evo.push sim (p:=p) rfl (fun _=>False) (.cells v'.cells T)
 have hl:=RelL.length hr
 refine ⟨G.push p (fun _=>False),W.alloc (.cells v'.cells T),.pointer (some ⟨W.heap.size,0,Option.none⟩),?_,?_,?_,e,Nat.le_refl _⟩
 ·simp [newVar,newRow]
 ·simp only [Rel]
  refine ⟨by simp [Gh.push],?_⟩
  rw [Gh.push_obj]
 ·refine sim.push (p:=p) rfl _ _ _ ⟨?_,?_,?_,v'.cells,?_,?_,?_,?_⟩
  ·rw [Gh.push_obj];exact sim.mine
  ·rw [Gh.push_obj];exact ⟨rfl,hz⟩
  ·intro o ho
   rw [Gh.push_obj] at ho
   rcases ho with ho|ho
   ·exact absurd (sim.stab _ _ ho) (Nat.lt_irrefl _)
   ·exact ho.2
  ·rw [Gh.push_obj];exact dI _ _
  ·rw [Gh.push_obj];exact Nat.le_refl _
  ·rw [← hl];simp
  ·rw [← hl,List.take_length];exact RelL.mono e _ _ hr
def zu (g:Bool) (z:Nat) (l:List AV):Option AV:=if g then (if z≤l.length then some (.agg (l.take z)) else Option.none) else l.head?
theorem wQ {G:Gh} {W:World} {T:TypeId} {g:Bool} {z b o off:Nat} {cells:List AV} {vs:List Value} {v:AV} (hg:tagg P T=some g) (hz:tsz P T=some z)
  (hr:RelL G W cells vs) (hc:∀ j v,vs[j]?=some v→W.cell? ⟨b,o+j,Option.none⟩=some v) (hp:zu g z (cells.drop off)=some v) :
  ∃ v',(loadVar T ⟨b,o+off,Option.none⟩).run P W=.ok v' W∧Rel G W v v':=by
 have hl:=RelL.length hr
 unfold zu at hp
 cases g with
 |true =>
  simp only [if_true] at hp
  split at hp
  ·rename_i hle
   injection hp with hp
   subst hp
   have hrd:=RelL.take z (RelL.drop off hr)
   have hlen:((vs.drop off).take z).length=z:=by
    rw [List.length_take,List.length_drop,hl];rw [List.length_drop] at hle;omega
   have hload:=run_loadCells_list (P:=P) W ⟨b,o+off,Option.none⟩ ((vs.drop off).take z) (fun j v hv=>by
    rw [addr_add]
    rw [List.getElem?_take] at hv
    split at hv
    ·rw [List.getElem?_drop] at hv
     rw [Nat.add_assoc]
     exact hc _ _ hv
    ·simp at hv)
   rw [hlen] at hload
   refine ⟨.agg ((vs.drop off).take z).toArray,?_,?_⟩
   ·simp only [loadVar,Sem.run_bind,sG hg,Result.andThen_ok,if_true,run_sizeOf hz,hload,Sem.run_pure]
   ·simp only [Rel];exact ⟨_,rfl,by simpa using hrd⟩
  ·simp at hp
 |false =>
  simp only [Bool.false_eq_true,if_false] at hp
  rw [List.head?_drop] at hp
  obtain ⟨v',hv',hrel⟩:=RelL.get hr hp
  refine ⟨v',?_,hrel⟩
  simp only [loadVar,Sem.run_bind,sG hg,Result.andThen_ok,Bool.false_eq_true,if_false,run_load,hc _ _ hv']
def CY (P:Program) (T:TypeId) (a:AV) (h:ai):Option AV :=
 match tagg P T,tsz P T,a with
 |some g,some z,.ptr i off=>match h i with
  |some (.cells cs _)=>zu g z (cs.drop off)
  |_=>Option.none
 |some g,some z,.cptr cs off=>zu g z (cs.drop off)
 |_,_,_=>Option.none
theorem Mv (sim:Sim P G h W) {T:TypeId} {a v:AV} {a':Value} (ha:Rel G W a a') (hl:CY P T a h=some v):OkK 0 P G W (Instr.loadAt T a') v h:=by
 unfold CY at hl
 split at hl
 ·rename_i g z i off hg hz
  split at hl
  ·rename_i cs T' hi
   simp only [Rel] at ha
   obtain ⟨hin,rfl⟩:=ha
   obtain ⟨_,_,_,c,hc,_,hle,hr⟩:=sim.obj i _ hi
   obtain ⟨v',hv',hrel⟩:=wQ (P:=P) (b:=(G.obj i).loc) (o:=0) hg hz hr (fun j v hv=>by
    rw [List.getElem?_take] at hv
    split at hv
    ·rw [Nat.zero_add]
     simp only [World.cell?,hc]
     simpa using hv
    ·simp at hv) hl
   rw [Nat.zero_add] at hv'
   exact Ok.pure sim (by simpa [Instr.loadAt,Instr.sureAddr] using hv') hrel
  ·simp at hl
 ·rename_i g z cs off hg hz
  simp only [Rel] at ha
  obtain ⟨b,o,vs,rfl,hr,hm⟩:=ha
  obtain ⟨v',hv',hrel⟩:=wQ (P:=P) hg hz hr (fun j v hv=>(hm j v hv).1) hl
  exact Ok.pure sim (by simpa [Instr.loadAt,Instr.sureAddr] using hv') hrel
 ·simp at hl
def dV (cs:List AV) (off:Nat) (vs:List AV):List AV:=cs.take off++(vs++cs.drop (off+vs.length))
def l9 (P:Program) (T:TypeId) (a v:AV) (h:ai):Option ai :=
 match tsz P T,a with
 |some z,.ptr i off=>match h i with
  |some (.cells cs T')=>if v.cells.length=z∧off+z≤cs.length∧v.cells.all AV.flat=true then some (upd h i (some (.cells (dV cs off v.cells) T'))) else Option.none
  |_=>Option.none
 |_,_=>Option.none
theorem Aw {v:AV} (h:v.cells.all AV.flat=true):v.known=true:=by
 cases v <;> simp_all [AV.cells,AV.flat,AV.known]
theorem iJ (W:World) (g:Nat) (row:Array Value) (k:Nat) (hk:k≠g):(W.setRow g row).heap[k]?=W.heap[k]?:=by
 simp only [World.setRow,Array.getElem?_modify]
 rw [if_neg (by omega)]
theorem mo (W:World) (g:Nat) (row c:Array Value) (T:TypeId) (fr:Nat × Nat) (hg:W.heap[g]?=some (.cells c T fr)):(W.setRow g row).heap[g]?=some (.cells row T fr):=by
 simp only [World.setRow,Array.getElem?_modify]
 simp [hg]
theorem qZ {p:Nat→Prop} (W:World) (g:Nat) (row:Array Value) (hg:¬ p g):Keep p W (W.setRow g row) :=
 ⟨rfl,rfl,rfl,by simp [World.setRow],fun k hk=>iJ W g row k (fun e=>hg (e ▸ hk))⟩
theorem PG (sim:Sim P G h W) {T:TypeId} {a v:AV} {a' v':Value} {h':ai} (ha:Rel G W a a') (hv:Rel G W v v') (hs:l9 P T a v h=some h'):OkUK 0 P G W (Instr.storeAt T a' v') h':=by
 unfold l9 at hs
 split at hs
 ·rename_i z i off hz
  split at hs
  ·rename_i cs T' hi
   split at hs
   ·rename_i hcond
    obtain ⟨hlen,hoff,hflat⟩:=hcond
    injection hs with hs
    subst hs
    simp only [Rel] at ha
    obtain ⟨hin,rfl⟩:=ha
    have hsim:=sim.obj i _ hi
    obtain ⟨hb,hty,hst,c,hc,hlim,hle,hr⟩:=hsim
    have hvc:=hv.cells (Aw hflat)
    have hvl:=RelL.length hvc
    have hall:=RelL.flat hvc hflat
    have hrun:=run_storeCells_at (P:=P) (G.obj i).loc off T' v'.cells.toList 0 c W hc (by rw [hvl];omega) hall
    have hsz:v'.cells.size=z:=by rw [← hlen,← hvl];simp
    let row:Array Value:=(c.toList.take (off+0)++v'.cells.toList++c.toList.drop (off+0+v'.cells.toList.length)).toArray
    have hbel:=qZ (p:=G.prot) W (G.obj i).loc row hb
    have e:Evo G W G (W.setRow (G.obj i).loc row):=Evo.write (b:=(G.obj i).loc) hbel (fun k hk _=>iJ W _ row k hk) sim.stab (fun k v hk _=>hst k hk)
    refine ⟨G,W.setRow (G.obj i).loc row,?_,?_,e,Nat.le_add_right _ _⟩
    ·simp only [Instr.storeAt,Instr.sureAddr,pure_bind,storeVar,Sem.run_bind,run_sizeOf hz,Result.andThen_ok,hsz,ne_eq,not_true,if_false,Sem.run_ite,hrun,row]
    ·refine sim.write hi e (fun k hk _=>iJ W _ row k hk) ⟨hb,hty,hst,row,mo W _ row c T' _ hc,?_,?_,?_⟩
     ·have:row.size=c.size:=by
       simp only [row,List.size_toArray,List.length_append,List.length_take,List.length_drop,Array.length_toList]
       have:v'.cells.size=z:=hsz
       omega
      rw [this];exact hlim
     ·have:row.size=c.size:=by
       simp only [row,List.size_toArray,List.length_append,List.length_take,List.length_drop,Array.length_toList]
       have:v'.cells.size=z:=hsz
       omega
      rw [this]
      simp only [dV,List.length_append,List.length_take,List.length_drop]
      omega
     ·have hr':=RelL.mono e _ _ hr
      have hvc':=RelL.mono e _ _ hvc
      have hlc:(dV cs off v.cells).length=cs.length:=by
       simp only [dV,List.length_append,List.length_take,List.length_drop];omega
      rw [hlc]
      have key:row.toList.take cs.length=(c.toList.take cs.length).take off++(v'.cells.toList++(c.toList.take cs.length).drop (off+v.cells.length)):=by
       simp only [row,Nat.add_zero]
       rw [List.append_assoc,List.take_append,List.take_append]
       simp only [List.length_take,Array.length_toList,hvl,List.take_take]
       rw [Nat.min_eq_left (show off≤c.size by omega),Nat.min_eq_right (show off≤cs.length by omega),Nat.min_eq_left (show off≤cs.length by omega)]
       congr 1
       have h1:v'.cells.toList.take (cs.length - off)=v'.cells.toList:=List.take_of_length_le (by rw [hvl];omega)
       rw [h1]
       congr 1
       rw [List.drop_take]
       congr 1
       omega
      rw [key]
      refine RelL.append (RelL.take off hr') (RelL.append hvc' ?_)
      exact RelL.drop _ hr'
   ·simp at hs
  ·simp at hs
 ·simp at hs
end
section
variable {P:Program} {G:Gh} {h:ai} {W:World}
def uD (P:Program) (T:TypeId) (a:AV) (f:Nat):Option AV :=
 match bC P T f with
 |some (o,z)=>if z=0 then Option.none else match a with
  |.ptr i off=>some (.ptr i (off+o))
  |.cptr cs off=>some (.cptr cs (off+o))
  |_=>Option.none
 |_=>Option.none
theorem xO {T:TypeId} {f o z b off:Nat} (hf:bC P T f=some (o,z)) (hz:z≠0) (W:World) :
  (Instr.fieldAt T (.pointer (some ⟨b,off,Option.none⟩)) f).run P W=.ok (.pointer (some ⟨b,off+o,Option.none⟩)) W:=by
 unfold bC at hf
 split at hf
 ·rename_i fs hu
  cases hq:fs[f]? with
  |none=>simp [hq] at hf
  |some q =>
   simp only [hq,Option.bind_some] at hf
   cases ht:tsz P q.type with
   |none=>simp [ht] at hf
   |some z' =>
    simp only [ht,Option.map_some,Option.some.injEq,Prod.mk.injEq] at hf
    obtain ⟨rfl,rfl⟩:=hf
    simp [Instr.fieldAt,run_underlying hu,hq,Instr.sureAddr,fieldPlace,run_sizeOf ht,hz,addr_add]
 ·simp at hf
theorem PK (sim:Sim P G h W) {T:TypeId} {a v:AV} {a':Value} {f:Nat} (ha:Rel G W a a') (hl:uD P T a f=some v):OkK 0 P G W (Instr.fieldAt T a' f) v h:=by
 unfold uD at hl
 split at hl
 ·rename_i o z hf
  split at hl
  ·simp at hl
  ·rename_i hz
   split at hl
   ·injection hl with hl;subst hl
    simp only [Rel] at ha
    obtain ⟨hin,rfl⟩:=ha
    exact Ok.pure sim (xO hf hz W) (by simp only [Rel];exact ⟨hin,trivial⟩)
   ·injection hl with hl;subst hl
    simp only [Rel] at ha
    obtain ⟨b,o',vs,rfl,hr,hm⟩:=ha
    exact Ok.pure sim (xO hf hz W) (by simp only [Rel];exact ⟨b,o',vs,by rw [Nat.add_assoc],hr,hm⟩)
   ·simp at hl
 ·simp at hl
def uC (P:Program) (T:TypeId) (x i:AV):Option AV :=
 match dm P T,i with
 |some E,.int _ n=>match tsz P E with
  |some z=>match x with
   |.list sz cells len _=>if 0≤n∧n<len∧sz=z then some (.cptr cells (n.toNat * z)) else Option.none
   |.sl id off len=>if 0≤n∧n<len then some (.ptr id (off+n.toNat * z)) else Option.none
   |_=>Option.none
  |_=>Option.none
 |_,_=>Option.none
theorem PI (sim:Sim P G h W) {T:TypeId} {x i v:AV} {x' i':Value} (hx:Rel G W x x') (hi:Rel G W i i') (hl:uC P T x i=some v):OkK 0 P G W (Instr.indexAt T x' i') v h:=by
 unfold uC at hl
 split at hl
 ·rename_i E k n hE
  have hu:=aP hE
  simp only [Rel] at hi
  subst hi
  split at hl
  ·rename_i z hz
   split at hl
   ·rename_i sz cells len t
    split at hl
    ·rename_i hc
     obtain ⟨h0,h1,rfl⟩:=hc
     injection hl with hl;subst hl
     simp only [Rel] at hx
     obtain ⟨a,c,vs,rfl,hle,hr,hlen,hm,_⟩:=hx
     rcases hm with hm|⟨b,o,rfl,hm⟩
     ·omega
     ·exact Ok.pure sim (v':=.pointer (some ⟨b,o+n.toNat * sz,Option.none⟩)) (by simp [Instr.indexAt,run_underlying hu,asIntOf,h0,h1,run_sizeOf hz,addr_add]) (by simp only [Rel];exact ⟨b,o,vs,rfl,hr,hm⟩)
    ·simp at hl
   ·rename_i id off len
    split at hl
    ·rename_i hc
     injection hl with hl;subst hl
     simp only [Rel] at hx
     obtain ⟨hin,c,hle,rfl,_⟩:=hx
     exact Ok.pure sim (v':=.pointer (some ⟨(G.obj id).loc,off+n.toNat * z,Option.none⟩)) (by simp [Instr.indexAt,run_underlying hu,asIntOf,hc.1,hc.2,run_sizeOf hz,addr_add]) (by simp only [Rel];exact ⟨hin,trivial⟩)
    ·simp at hl
   ·simp at hl
  ·simp at hl
 ·simp at hl
def aInt (op:BinOp) (k:IntKind) (a b:Int):Option AV :=
 match op with
 |.add=>some (.int k (k.wrap (a+b)))
 |.sub=>some (.int k (k.wrap (a - b)))
 |.mul=>some (.int k (k.wrap (a * b)))
 |.eql=>some (.bool (a==b))
 |.neq=>some (.bool (a != b))
 |.lss=>some (.bool (decide (a<b)))
 |.leq=>some (.bool (decide (a≤b)))
 |.gtr=>some (.bool (decide (a>b)))
 |.geq=>some (.bool (decide (a≥b)))
 |.quo=>if b=0 then Option.none else some (.int k (k.wrap (a.tdiv b)))
 |.rem=>if b=0 then Option.none else some (.int k (a.tmod b))
 |.shl=>if b<0 then Option.none else some (.int k (k.wrap (a * 2 ^ (min b.toNat k.bits))))
 |.shr=>if b<0 then Option.none else some (.int k (a.fdiv (2 ^ (min b.toNat k.bits))))
 |_=>Option.none
def Fw (op:BinOp) (k:IntKind) (a b:Int):Option AV :=
 match op with
 |.shl=>if b<0 then Option.none else some (.int k (k.wrap (a * 2 ^ (min b.toNat k.bits))))
 |.shr=>if b<0 then Option.none else some (.int k (a.fdiv (2 ^ (min b.toNat k.bits))))
 |_=>Option.none
def aStr (op:BinOp) (a b:ByteArray):Option AV :=
 match op with
 |.eql=>some (.bool (a.toList==b.toList))
 |.neq=>some (.bool (!(a.toList==b.toList)))
 |.lss=>some (.bool (Op.bytesLess a.toList b.toList))
 |.gtr=>some (.bool (!(Op.bytesLess a.toList b.toList||a.toList==b.toList)))
 |.leq=>some (.bool (Op.bytesLess a.toList b.toList||a.toList==b.toList))
 |.geq=>some (.bool (!(Op.bytesLess a.toList b.toList)))
 |.add=>if a.size+b.size≤4611686018427387904 then some (.str (a++b)) else Option.none
 |_=>Option.none
def aBin (P:Program) (op:BinOp) (T:TypeId) (x y:AV):Option AV :=
 match x,y with
 |.int k a,.int k' b=>if k=k' then aInt op k a b else Fw op k a b
 |.str a,.str b=>aStr op a b
 |.bool a,.bool b=>match tk P T,op with
  |some .bool,.eql=>some (.bool (a==b))
  |some .bool,.neq=>some (.bool (!(a==b)))
  |_,_=>Option.none
 |.iface _ _,.nilI=>match tk P T,op with
  |some .iface,.eql=>some (.bool false)
  |some .iface,.neq=>some (.bool true)
  |_,_=>Option.none
 |.nilI,.nilI=>if (P.methodsAt T).isEmpty=true then match tk P T,op with
  |some .iface,.eql=>some (.bool true)
  |some .iface,.neq=>some (.bool false)
  |_,_=>Option.none
  else Option.none
 |.sl _ _ _,.list _ _ _ .nil=>match dm P T,op with
  |some _,.eql=>some (.bool false)
  |some _,.neq=>some (.bool true)
  |_,_=>Option.none
 |.list _ _ n t,.list _ _ _ .nil=>match dm P T,op with
  |some _,.eql=>if n=0 then (match t with|.nil=>some (.bool true)|_=>some .someBool) else some (.bool false)
  |some _,.neq=>if n=0 then (match t with|.nil=>some (.bool false)|_=>some .someBool) else some (.bool true)
  |_,_=>Option.none
 |_,_=>Option.none
theorem sH (W:World) (d:Nat) {t e:TypeId} {a:Option Addr} {l c:Nat} (h:P.underlying t=some (.slice e)):(Op.equalIn (d+1) t (.slice a l c) (.slice Option.none 0 0)).run P W=.ok a.isNone W:=by
 cases a <;> simp [Op.equalIn,run_underlying h]
theorem iC (W:World) {t e:TypeId} {a:Option Addr} {l c:Nat} (h:P.underlying t=some (.slice e)):(Op.equal t (.slice a l c) (.slice Option.none 0 0)).run P W=.ok a.isNone W:=sH W 9999 h
theorem uY (W:World) (d:Nat) {t u:TypeId} {x:Value} (h:P.underlying t=some (.interface (P.methodsAt t))):(Op.equalIn (d+1) t (.iface u x) .nilIface).run P W=.ok false W:=by
 simp [Op.equalIn,run_underlying h]
theorem oI (W:World) {t u:TypeId} {x:Value} (h:P.underlying t=some (.interface (P.methodsAt t))):(Op.equal t (.iface u x) .nilIface).run P W=.ok false W:=uY W 9999 h
theorem BL (W:World) (d:Nat) {t:TypeId} (h:P.underlying t=some (.interface (P.methodsAt t))):(Op.equalIn (d+1) t .nilIface .nilIface).run P W=.ok true W:=by
 simp [Op.equalIn,run_underlying h]
theorem xP (W:World) {t:TypeId} (h:P.underlying t=some (.interface (P.methodsAt t))):(Op.equal t .nilIface .nilIface).run P W=.ok true W:=BL W 9999 h
theorem wB (W:World) (d:Nat) {t:TypeId} (h:P.underlying t=some (.interface (P.methodsAt t))) (hm:(P.methodsAt t).isEmpty=true):(Op.eqGuardIn (d+1) t .nilIface .nilIface).run P W=.ok false W:=by
 simp [Op.eqGuardIn,run_underlying h,hm]
theorem qI (W:World) (op:BinOp) {t:TypeId} {X Y:Operand} (h:P.underlying t=some (.interface (P.methodsAt t))) (hm:(P.methodsAt t).isEmpty=true):(eqGuard op t X Y .nilIface .nilIface).run P W=.ok () W:=by
 have hk:(Op.eqGuardIn Op.maxDepth t .nilIface .nilIface).run P W=.ok false W:=wB W 9999 h hm
 unfold eqGuard
 cases op <;> simp [hk]
theorem WE (sim:Sim P G h W) {op:BinOp} {T:TypeId} {X Y:Operand} {x y v:AV} {x' y':Value} (hx:Rel G W x x') (hy:Rel G W y y') (hl:aBin P op T x y=some v) :
  OkK 0 P G W (do eqGuard op T X Y x' y';binOp op T x' y') v h:=by
 unfold aBin at hl
 split at hl
 ·rename_i k a k' b
  simp only [Rel] at hx hy
  subst hx;subst hy
  split at hl
  ·rename_i hk;subst hk
   have hg:(eqGuard op T X Y (.int k a) (.int k b)).run P W=.ok () W:=by unfold eqGuard;cases op <;> simp
   unfold aInt at hl
   split at hl <;> first|(simp at hl;done)|(injection hl with hl;subst hl;exact Ok.pure sim (by rw [Sem.run_bind,hg];simp [binOp,Op.intArith,Op.intCmp];rfl) (by simp [Rel]))|(split at hl <;> first|(simp at hl;done)|(rename_i hb;injection hl with hl;subst hl;exact Ok.pure sim (by rw [Sem.run_bind,hg];simp [binOp,Op.intDiv,Op.shift,hb];rfl) (by simp [Rel])))
  ·have hg:(eqGuard op T X Y (.int k a) (.int k' b)).run P W=.ok () W:=by unfold eqGuard;cases op <;> simp
   unfold Fw at hl
   split at hl <;> first|(simp at hl;done)|(split at hl <;> first|(simp at hl;done)|(rename_i hb;injection hl with hl;subst hl;exact Ok.pure sim (by rw [Sem.run_bind,hg];simp [binOp,Op.shift,hb];rfl) (by simp [Rel])))
 ·rename_i a b
  simp only [Rel] at hx hy
  subst hx;subst hy
  have hg:(eqGuard op T X Y (.string a) (.string b)).run P W=.ok () W:=by unfold eqGuard;cases op <;> simp
  unfold aStr at hl
  split at hl <;> first|(simp at hl;done)|(injection hl with hl;subst hl;exact Ok.pure sim (by rw [Sem.run_bind,hg];simp [binOp,Op.stringOp];rfl) (by simp [Rel]))|skip
  split at hl
  ·rename_i hsz
   injection hl with hl;subst hl
   have hno:¬ (((a.size+b.size:Nat):Int)>IntKind.i64.max):=by
    have:IntKind.i64.max=9223372036854775807:=by decide
    rw [this];omega
   exact Ok.pure sim (v':=.string (a++b)) (by rw [Sem.run_bind,hg,Result.andThen_ok];simp only [binOp,Op.stringOp];rw [if_neg hno];rfl) (by simp [Rel])
  ·simp at hl
 ·rename_i a b
  simp only [Rel] at hx hy
  subst hx;subst hy
  have hg:(eqGuard op T X Y (.bool a) (.bool b)).run P W=.ok () W:=by unfold eqGuard;cases op <;> simp
  split at hl <;> first|(simp at hl;done)|(rename_i hu;injection hl with hl;subst hl;exact Ok.pure sim (by rw [Sem.run_bind,hg];simp [binOp,run_equal_bool W T a b (Sq hu)];rfl) (by simp [Rel]))
 ·rename_i t u
  simp only [Rel] at hx hy
  obtain ⟨u',rfl,_⟩:=hx
  subst hy
  split at hl
  ·rename_i hT
   injection hl with hl;subst hl
   have hu:=wO hT
   have hg:(eqGuard .eql T X Y (.iface t u') .nilIface).run P W=.ok () W:=by unfold eqGuard;simp
   refine Ok.pure sim (v':=.bool false) ?_ (by simp [Rel])
   rw [Sem.run_bind,hg,Result.andThen_ok]
   simp only [binOp]
   simp [oI W hu]
  ·rename_i hT
   injection hl with hl;subst hl
   have hu:=wO hT
   have hg:(eqGuard .neq T X Y (.iface t u') .nilIface).run P W=.ok () W:=by unfold eqGuard;simp
   refine Ok.pure sim (v':=.bool true) ?_ (by simp [Rel])
   rw [Sem.run_bind,hg,Result.andThen_ok]
   simp only [binOp]
   simp [oI W hu]
  ·simp at hl
 ·simp only [Rel] at hx hy
  subst hx;subst hy
  split at hl
  ·rename_i hms
   split at hl
   ·rename_i hT
    injection hl with hl;subst hl
    have hu:=wO hT
    refine Ok.pure sim (v':=.bool true) ?_ (by simp [Rel])
    rw [Sem.run_bind,qI W .eql hu hms,Result.andThen_ok]
    simp only [binOp]
    simp [xP W hu]
   ·rename_i hT
    injection hl with hl;subst hl
    have hu:=wO hT
    refine Ok.pure sim (v':=.bool false) ?_ (by simp [Rel])
    rw [Sem.run_bind,qI W .neq hu hms,Result.andThen_ok]
    simp only [binOp]
    simp [xP W hu]
   ·simp at hl
  ·simp at hl
 ·simp only [Rel] at hx hy
  obtain ⟨_,c1,_,rfl,_⟩:=hx
  obtain ⟨a2,p2,vs2,rfl,hle2,hr2,hl2,hm2,ht2⟩:=hy
  simp only [jP] at ht2
  obtain ⟨rfl,rfl,rfl⟩:=ht2
  split at hl
  ·rename_i E hE
   injection hl with hl;subst hl
   have hu:=aP hE
   refine Ok.pure sim (v':=.bool false) ?_ (by simp [Rel])
   rw [Sem.run_bind,show (eqGuard .eql T X Y (.slice (some _) _ c1) (.slice Option.none 0 0)).run P W=.ok () W by unfold eqGuard;simp,Result.andThen_ok]
   simp only [binOp]
   simp [iC W hu]
  ·rename_i E hE
   injection hl with hl;subst hl
   have hu:=aP hE
   refine Ok.pure sim (v':=.bool true) ?_ (by simp [Rel])
   rw [Sem.run_bind,show (eqGuard .neq T X Y (.slice (some _) _ c1) (.slice Option.none 0 0)).run P W=.ok () W by unfold eqGuard;simp,Result.andThen_ok]
   simp only [binOp]
   simp [iC W hu]
  ·simp at hl
 ·rename_i s1 c1 n1 t1 s2 c2 n2
  simp only [Rel] at hx hy
  obtain ⟨a1,p1,vs1,rfl,hle1,hr1,hl1,hm1,ht1⟩:=hx
  obtain ⟨a2,p2,vs2,rfl,hle2,hr2,hl2,hm2,ht2⟩:=hy
  simp only [jP] at ht2
  obtain ⟨rfl,rfl,rfl⟩:=ht2
  split at hl
  ·rename_i E hE
   have hu:=aP hE
   have hg:(eqGuard .eql T X Y (.slice a1 n1 p1) (.slice Option.none 0 0)).run P W=.ok () W:=by unfold eqGuard;simp
   have hrun:(do eqGuard .eql T X Y (.slice a1 n1 p1) (.slice Option.none 0 0);binOp .eql T (.slice a1 n1 p1) (.slice Option.none 0 0):Go.Sem Value).run P W=.ok (.bool a1.isNone) W:=by
    rw [Sem.run_bind,hg,Result.andThen_ok]
    simp only [binOp]
    simp [iC W hu]
   split at hl
   ·split at hl
    ·injection hl with hl;subst hl
     simp only [jP] at ht1
     obtain ⟨rfl,_,_⟩:=ht1
     exact Ok.pure sim hrun (by simp [Rel])
    ·injection hl with hl;subst hl
     exact Ok.pure sim hrun (by simp [Rel])
   ·rename_i hn
    injection hl with hl;subst hl
    obtain ⟨b,o,rfl,_⟩:=hm1.resolve_left hn
    exact Ok.pure sim hrun (by simp [Rel])
  ·rename_i E hE
   have hu:=aP hE
   have hg:(eqGuard .neq T X Y (.slice a1 n1 p1) (.slice Option.none 0 0)).run P W=.ok () W:=by unfold eqGuard;simp
   have hrun:(do eqGuard .neq T X Y (.slice a1 n1 p1) (.slice Option.none 0 0);binOp .neq T (.slice a1 n1 p1) (.slice Option.none 0 0):Go.Sem Value).run P W=.ok (.bool (!a1.isNone)) W:=by
    rw [Sem.run_bind,hg,Result.andThen_ok]
    simp only [binOp]
    simp [iC W hu]
   split at hl
   ·split at hl
    ·injection hl with hl;subst hl
     simp only [jP] at ht1
     obtain ⟨rfl,_,_⟩:=ht1
     exact Ok.pure sim hrun (by simp [Rel])
    ·injection hl with hl;subst hl
     exact Ok.pure sim hrun (by simp [Rel])
   ·rename_i hn
    injection hl with hl;subst hl
    obtain ⟨b,o,rfl,_⟩:=hm1.resolve_left hn
    exact Ok.pure sim hrun (by simp [Rel])
  ·simp at hl
 ·simp at hl
def Da (P:Program) (T:TypeId) (x:AV) (ok:Bool):Option AV :=
 match tagg P T,bI P T,x with
 |some true,some zv,.iface t v=>if ok=true then (if t=T then some (.tuple [v,.bool true]) else some (.tuple [Am.ofConst zv,.bool false])) else if t=T then some v else Option.none
 |_,_,_=>Option.none
theorem Mx (sim:Sim P G h W) {xT T:TypeId} {x v:AV} {x':Value} {ok:Bool} (hx:Rel G W x x') (hl:Da P T x ok=some v):OkK 0 P G W (Instr.typeAssert x' xT T ok) v h:=by
 unfold Da at hl
 split at hl
 ·rename_i zv t u hg hzv
  simp only [Rel] at hx
  obtain ⟨u',rfl,hu'⟩:=hx
  unfold tagg at hg
  have htu:(Value.iface t u')=Value.iface t u':=rfl
  cases hu:P.underlying T with
  |none=>simp [hu] at hg
  |some d =>
   have hni:∀ m,d≠.interface m:=by
    intro m e;subst e;simp [hu] at hg
   split at hl
   ·rename_i hok
    subst hok
    split at hl
    ·rename_i ht;subst ht
     injection hl with hl;subst hl
     refine Ok.pure sim (v':=.tuple #[u',.bool true]) ?_ (by simp only [Rel,RelL];exact ⟨_,rfl,_,_,rfl,hu',_,_,rfl,rfl,rfl⟩)
     simp only [Instr.typeAssert,Sem.run_bind,run_underlying hu,Result.andThen_ok]
     cases d <;> first|(exact absurd rfl (hni _))|simp
    ·rename_i ht
     injection hl with hl;subst hl
     refine Ok.pure sim (v':=.tuple #[zv,.bool false]) ?_ (by simp only [Rel,RelL];exact ⟨_,rfl,_,_,rfl,Rel.ofConst zv,_,_,rfl,rfl,rfl⟩)
     simp only [Instr.typeAssert,Sem.run_bind,run_underlying hu,Result.andThen_ok]
     cases d <;> first|(exact absurd rfl (hni _))|simp [ht,fM hzv]
   ·rename_i hok
    have hok:ok=false:=by simpa using hok
    subst hok
    split at hl
    ·rename_i ht;subst ht
     injection hl with hl;subst hl
     refine Ok.pure sim (v':=u') ?_ hu'
     simp only [Instr.typeAssert,Sem.run_bind,run_underlying hu,Result.andThen_ok]
     cases d <;> first|(exact absurd rfl (hni _))|simp
    ·simp at hl
 ·simp at hl
end
section
variable {P:Program} {G:Gh} {h:ai} {W:World}
def bv (P:Program) (t:TypeId):Option Nat:=(P.info? t).map (·.bytes)
theorem Nq (need:Nat):∀ (r c:Nat),c<need+(need+768) / 4+1→c≤need+(need+768) / 4→Go.Builtin.growBy need r c≤need+(need+768) / 4:=by
 intro r
 induction r with
 |zero=>intro c _ h;simpa [Go.Builtin.growBy] using h
 |succ r ih =>
  intro c h1 h2
  simp only [Go.Builtin.growBy]
  split
  ·exact h2
  ·exact ih _ (by omega) (by omega)
theorem nextslicecap_le {need cap:Nat} (h:cap<need):Go.Builtin.nextslicecap need cap≤3 * need:=by
 unfold Go.Builtin.nextslicecap
 split
 ·omega
 ·split
  ·omega
  ·have:=Nq need 4 cap (by omega) (by omega)
   omega
theorem size_zeroCells (zero:Array Value) (n:Nat):(Go.Builtin.zeroCells zero n).size=n * zero.size:=by
 simp [Go.Builtin.zeroCells]
theorem run_append_grow {tS tX E:TypeId} {ty:TypeId} {z by_:Nat} {zv:Value} (hS:dm P tS=some E) {EX:TypeId} (hX:dm P tX=some EX) (hz:tsz P E=some z) (hb:bv P E=some by_) (hzv:bI P E=some zv)
  {base:Option Addr} {n1 c1:Nat} {old:List Value} {a2:Option Addr} {n2 c2:Nat} {new:List Value}
  (hold:(Go.Builtin.firstCells z n1 (.slice base n1 c1)).run P W=.ok old.toArray W)
  (hnew:∀ W':World,W'.heap=W.heap→(Go.Builtin.firstCells z n2 (.slice a2 n2 c2)).run P W'=.ok new.toArray W')
  (hold':∀ W':World,W'.heap=W.heap→(Go.Builtin.firstCells z n1 (.slice base n1 c1)).run P W'=.ok old.toArray W')
  (hby:0<by_) (hbnd:(n1+n2) * by_≤70368744177664) (hc:c1<n1+n2) :
  ∃ (cap:Nat) (W1:World),n1+n2≤cap∧W1.heap=W.heap∧W1.os=W.os∧W1.tape=W.tape∧W1.output=W.output ∧
   (Go.Builtin.append_ #[tS,tX] ty #[.slice base n1 c1,.slice a2 n2 c2]).run P W =
    .ok (.slice (some ⟨W.heap.size,0,Option.none⟩) (n1+n2) cap) (W1.alloc (.cells (old.toArray++new.toArray++Go.Builtin.zeroCells zv.cells (cap - (n1+n2))) E)):=by
 have hu:=aP hS
 have hux:=aP hX
 have hinfo:∃ i,P.info? E=some i∧i.bytes=by_:=by
  unfold bv at hb
  cases hi:P.info? E with
  |none=>simp [hi] at hb
  |some i=>simp [hi] at hb;exact ⟨i,rfl,hb⟩
 obtain ⟨i,hi,hib⟩:=hinfo
 have hneed:n1+n2≤70368744177664:=Nat.le_trans (Nat.le_mul_of_pos_right _ hby) hbnd
 have hns:=nextslicecap_le hc
 have hbig:¬ Go.Builtin.nextslicecap (n1+n2) c1 * by_>2 ^ 48:=by
  have h1:Go.Builtin.nextslicecap (n1+n2) c1 * by_≤3 * (n1+n2) * by_:=Nat.mul_le_mul_right _ hns
  have h2:3 * (n1+n2) * by_=3 * ((n1+n2) * by_):=by rw [Nat.mul_assoc]
  omega
 let q:Question:=.appendCap (n1+n2) c1 E
 let t:=W.tape W.drawn q
 refine ⟨q.cut t,{ W with drawn:=W.drawn+1 },?_,rfl,rfl,rfl,rfl,?_⟩
 ·show n1+n2≤(n1+n2)+t % (2 ^ 63 - (n1+n2))
  omega
 ·have hnot:¬ n1+n2≤c1:=by omega
  have hmax:¬ ((n1+n2:Nat):Int)>IntKind.i64.max:=by
   have:IntKind.i64.max=9223372036854775807:=by decide
   rw [this];omega
  have hti:∀ W,(typeInfo E).run P W=.ok i W:=fun W=>by simp [typeInfo,hi]
  have e1:=hnew { W with drawn:=W.drawn+1 } rfl
  have e2:=hold' { W with drawn:=W.drawn+1 } rfl
  have hq:q.forced=false:=rfl
  have hmax':¬ (((n1:Nat):Int)+((n2:Nat):Int)>IntKind.i64.max):=by simpa using hmax
  simp only [Go.Builtin.append_]
  simp only [Sem.run_bind,List.getElem?_toArray,List.getElem?_cons_zero,List.getElem?_cons_succ,run_underlying hu,run_underlying hux,Result.andThen_ok,run_sizeOf hz,Sem.run_pure,Bool.false_eq_true,if_false,Go.Builtin.lenOf,
   if_neg hnot,hti,hib,hbig,hmax,false_and,Bool.not_false,if_true,Sem.run_ite,run_choose,run_askRoom,fM hzv]
  rw [if_neg (show ¬ (Question.appendCap (n1+n2) c1 E).forced=true by simp [Question.forced])]
  simp only [Result.andThen_ok]
  rw [e2]
  simp only [Result.andThen_ok]
  rw [e1]
  simp only [Result.andThen_ok,newRow,Sem.run_bind,run_newObj,Sem.run_pure]
  rfl
theorem run_append_fits {tS tX E:TypeId} {ty:TypeId} {z:Nat} (hS:dm P tS=some E) {EX:TypeId} (hX:dm P tX=some EX) (hz:tsz P E=some z)
  {b o n1 c1:Nat} {a2:Option Addr} {n2 c2:Nat} {new:List Value} {c:Array Value} {T:TypeId}
  (hnew:(Go.Builtin.firstCells z n2 (.slice a2 n2 c2)).run P W=.ok new.toArray W) (hc:n1+n2≤c1)
  (hh:W.heap[b]?=some (.cells c T (0,0))) (hl:new.length=n2 * z) (hfit:o+n1 * z+n2 * z≤c.size) (hone:∀ v ∈ new,v.oneCell'=true) :
   (Go.Builtin.append_ #[tS,tX] ty #[.slice (some ⟨b,o,Option.none⟩) n1 c1,.slice a2 n2 c2]).run P W =
    .ok (.slice (some ⟨b,o,Option.none⟩) (n1+n2) c1) (W.setRow b (c.toList.take (o+n1 * z+0)++new++c.toList.drop (o+n1 * z+0+new.length)).toArray):=by
 have hu:=aP hS
 have hux:=aP hX
 have hst:=run_storeCells_at (P:=P) b (o+n1 * z) T new 0 c W hh (by omega) hone
 simp only [Go.Builtin.append_]
 simp only [Sem.run_bind,List.getElem?_toArray,List.getElem?_cons_zero,List.getElem?_cons_succ,run_underlying hu,run_underlying hux,Result.andThen_ok,run_sizeOf hz,Sem.run_pure,Bool.false_eq_true,if_false,Go.Builtin.lenOf,
  if_pos hc,Bool.not_false,if_true,Sem.run_ite,hnew,addr_add,hst]
theorem pY {sz:Nat} {n:Nat} {z:Nat} {a:Option Addr} {c:Nat} {vs:List Value} (hz:n=0∨sz=z) (hl:vs.length=n * sz)
  (hm:n=0∨∃ b o,a=some ⟨b,o,Option.none⟩∧uI G W b o vs):∀ W':World,W'.heap=W.heap→(Go.Builtin.firstCells z n (.slice a n c)).run P W'=.ok vs.toArray W':=by
 intro W' hW
 by_cases h0:n=0
 ·subst h0
  have:vs=[]:=List.eq_nil_of_length_eq_zero (by simpa using hl)
  subst this
  cases a <;> simp [Go.Builtin.firstCells,loadCells,loadCellsFrom]
 ·rcases hm with hm|⟨b,o,rfl,hm⟩
  ·exact absurd hm h0
  ·have hz:=hz.resolve_left h0
   subst hz
   have:=run_loadCells_list (P:=P) W' ⟨b,o,Option.none⟩ vs (fun j v hv=>by
    rw [addr_add]
    exact (cell_of_heap (W:=W) (W':=W') (by rw [hW])).trans (hm j v hv).1)
   rw [hl] at this
   simpa [Go.Builtin.firstCells] using this
def dX (P:Program) (tS tX:TypeId) (base x:AV) (h:ai) (p:Nat):Option (AV × ai) :=
 match dm P tS,dm P tX with
 |some E,some _=>match tsz P E,bv P E,bI P E with
  |some z,some b,some zv=>match base,x with
   |.list sz1 c1 n1 t,.list sz2 c2 n2 _ =>
    if (n1=0∨sz1=z)∧(n2=0∨sz2=z)∧0<b∧(n1+n2) * b≤70368744177664∧zv.cells.size=z then
     match t with
     |.full=>if n2=0 then some (base,h) else some (.list z (c1++c2) (n1+n2) (.id p),upd h p (some (.front E)))
     |.nil=>if n2=0 then some (base,h) else some (.list z (c1++c2) (n1+n2) (.id p),upd h p (some (.front E)))
     |.id k=>if n2=0 then some (base,h) else match h k with
      |some (.front E')=>if E'=E∧n2≠0 then some (.list z (c1++c2) (n1+n2) (.id p),upd (upd h k Option.none) p (some (.front E))) else Option.none
      |_=>Option.none
     |.none=>if n2=0 then some (base,h) else Option.none
    else Option.none
   |_,_=>Option.none
  |_,_,_=>Option.none
 |_,_=>Option.none
theorem Ku (sim:Sim P G h W) {W1:World} (hh:W1.heap=W.heap) (ho:W1.os=W.os) (ht:W1.tape=W.tape) (hp:W1.output=W.output) {E:TypeId} {z cap need:Nat} {cells:List AV} {vs:List Value} {rest:Array Value}
  (hz:tsz P E=some z) (hr:RelL G W cells vs) (hl:vs.length=need * z) (hcap:need≤cap) (hrest:rest.size=(cap - need) * z) (hone:∀ v ∈ vs,v.oneCell'=true) :
  ∃ G',Rel G' (W1.alloc (.cells (vs.toArray++rest) E)) (.list z cells need (.id G.n)) (.slice (some ⟨W.heap.size,0,Option.none⟩) need cap) ∧
   Sim P G' (upd h G.n (some (.front E))) (W1.alloc (.cells (vs.toArray++rest) E))∧Evo G W G' (W1.alloc (.cells (vs.toArray++rest) E))∧G'.n≤G.n+1:=by
 have sim1:=sim.same hh ho ht hp
 have e1:Evo G W G W1:=Evo.same hh ho ht hp
 have hs1:W1.heap.size=W.heap.size:=by rw [hh]
 let p:Place:=⟨E,W1.heap.size,vs.length,vs.length+rest.size,z⟩
 have e:=Evo.push sim1 (p:=p) rfl (fun o=>o<vs.length) (.cells (vs.toArray++rest) E)
 refine ⟨G.push p (fun o=>o<vs.length),?_,?_,e1.trans e,Nat.le_refl _⟩
 ·simp only [Rel]
  refine ⟨_,cap,vs,rfl,hcap,RelL.mono (e1.trans e) _ _ hr,hl,.inr ⟨_,_,rfl,fun j v hv=>?_⟩,?_⟩
  ·have hj:j<vs.length:=(List.getElem?_eq_some_iff.1 hv).1
   refine ⟨?_,.inr ⟨hs1.symm,by omega⟩,hone v (List.mem_of_getElem? hv)⟩
   rw [Nat.zero_add]
   have hat:(W1.alloc (.cells (vs.toArray++rest) E)).heap[W.heap.size]?=some (.cells (vs.toArray++rest) E):=by rw [← hs1];exact dI _ _
   simp only [World.cell?,hat]
   simp [Array.getElem?_append,hj,List.getElem?_eq_getElem hj ▸ hv]
  ·simp only [jP]
   refine ⟨Nat.lt_succ_self _,0,?_⟩
   rw [Gh.push_obj]
   refine ⟨by simp [p,hs1],by simp [p],?_⟩
   simp only [p]
   rw [hrest,hl,Nat.zero_add,← Nat.add_mul]
   exact Nat.mul_le_mul_right _ (by omega)
 ·refine sim1.push (p:=p) rfl _ _ _ ⟨?_,?_,?_,vs.toArray++rest,?_,?_⟩
  ·rw [Gh.push_obj];exact sim1.mine
  ·rw [Gh.push_obj];exact ⟨rfl,hz⟩
  ·intro o ho hs
   rw [Gh.push_obj] at ho hs
   rcases hs with hs|hs
   ·exact absurd (sim1.stab _ _ hs) (Nat.lt_irrefl _)
   ·have:=hs.2;simp only [p] at ho;omega
  ·rw [Gh.push_obj];exact dI _ _
  ·rw [Gh.push_obj];simp [p]
theorem uI.one {b o:Nat} {vs:List Value} (hm:uI G W b o vs):∀ v ∈ vs,v.oneCell'=true:=by
 intro v hv
 obtain ⟨j,hj⟩:=List.mem_iff_getElem?.1 hv
 exact (hm j v hj).2.2
theorem MU {a:Option Addr} {n sz:Nat} {vs:List Value} (hl:vs.length=n * sz) (hm:n=0∨∃ b o,a=some ⟨b,o,Option.none⟩∧uI G W b o vs):∀ v ∈ vs,v.oneCell'=true:=by
 rcases hm with rfl|⟨b,o,_,hm⟩
 ·have:vs=[]:=List.eq_nil_of_length_eq_zero (by simpa using hl)
  subst this;simp
 ·exact hm.one
def Src (P:Program) (G:Gh) (W:World):AV→Value→Prop
 |.list sz c2 n2 _,x'=>∃ a2 cap2 vs2,x'=.slice a2 n2 cap2∧n2≤cap2∧RelL G W c2 vs2∧vs2.length=n2 * sz∧(∀ v ∈ vs2,v.oneCell'=true) ∧
   ∀ z,(n2=0∨sz=z)→∀ W':World,W'.heap=W.heap→(Go.Builtin.firstCells z n2 (.slice a2 n2 cap2)).run P W'=.ok vs2.toArray W'
 |_,_=>False
theorem Src.of {sz n2:Nat} {c2:List AV} {t:Tok} {x':Value} (hx:Rel G W (.list sz c2 n2 t) x'):Src P G W (.list sz c2 n2 t) x':=by
 simp only [Rel] at hx
 obtain ⟨a2,cap2,vs2,rfl,hle2,hr2,hl2,hm2,ht2⟩:=hx
 exact ⟨a2,cap2,vs2,rfl,hle2,hr2,hl2,MU hl2 hm2,fun z q2=>pY q2 hl2 hm2⟩
def unSl (P:Program) (h:ai) (x:AV):AV:=match x with
 |.sl k off n=>match h k with
  |some (.cells cs T)=>match tsz P T with
   |some z=>if off+n * z≤cs.length∧((cs.drop off).take (n * z)).all AV.flat=true then .list z ((cs.drop off).take (n * z)) n .none else x
   |_=>x
  |_=>x
 |x=>x
theorem Src.unSl (sim:Sim P G h W) {x:AV} {x':Value} (hx:Rel G W x x') {sz n2:Nat} {c2:List AV} {t:Tok} (he:unSl P h x=.list sz c2 n2 t):Src P G W (.list sz c2 n2 t) x':=by
 unfold Am.unSl at he
 split at he
 ·rename_i k off n
  split at he
  ·rename_i cs T hk
   split at he
   ·rename_i z hz
    split at he
    ·rename_i hc
     obtain ⟨hle,hfl⟩:=hc
     injection he with e1 e2 e3 e4
     subst e1;subst e2;subst e3;subst e4
     simp only [Rel] at hx
     obtain ⟨hkn,c,hnc,rfl,_⟩:=hx
     obtain ⟨_,_,_,row,hrow,hlr,hcr,hrel⟩:=sim.obj k _ hk
     have hr2:=RelL.take (n * z) (RelL.drop off hrel)
     have hlen:(((row.toList.take cs.length).drop off).take (n * z)).length=n * z:=by
      have:row.toList.length=row.size:=Array.length_toList
      rw [List.length_take,List.length_drop,List.length_take,this];omega
     refine ⟨_,c,_,rfl,hnc,hr2,hlen,RelL.flat hr2 hfl,fun z' q2 W' hW'=>?_⟩
     have hfin:n=0∨z=z':=q2
     by_cases h0:n=0
     ·subst h0
      simp only [Nat.zero_mul,List.take_zero]
      simp [Go.Builtin.firstCells,loadCells,loadCellsFrom]
     ·have hz':=hfin.resolve_left h0
      subst hz'
      have:=run_loadCells_list (P:=P) W' ⟨(G.obj k).loc,off,Option.none⟩ (((row.toList.take cs.length).drop off).take (n * z)) (fun j v hv=>by
       rw [addr_add]
       rw [List.getElem?_take] at hv
       split at hv
       ·rw [List.getElem?_drop,List.getElem?_take] at hv
        split at hv
        ·simp only [World.cell?,hW',hrow]
         simpa using hv
        ·simp at hv
       ·simp at hv)
      rw [hlen] at this
      simpa [Go.Builtin.firstCells] using this
    ·cases he
   ·cases he
  ·cases he
 ·subst he;exact Src.of hx
theorem MB (sim:Sim P G h W) {tS tX ty:TypeId} {base x v:AV} {base' x':Value} {h':ai} (hb:Rel G W base base') (hx:∀ sz c n t,x=.list sz c n t→Src P G W (.list sz c n t) x') (hl:dX P tS tX base x h G.n=some (v,h')) :
  Ok P G W (Go.Builtin.append_ #[tS,tX] ty #[base',x']) v h':=by
 unfold dX at hl
 split at hl
 ·rename_i E EX hS hX
  split at hl
  ·rename_i z b zv hz hby hzv
   split at hl
   ·rename_i sz1 c1 n1 t sz2 c2 n2 t2
    split at hl
    ·rename_i hcond
     obtain ⟨q1,q2,hb0,hbnd,hzs⟩:=hcond
     have hb0':=hb
     simp only [Rel] at hb
     obtain ⟨a1,cap1,vs1,rfl,hle1,hr1,hl1,hm1,ht1⟩:=hb
     obtain ⟨a2,cap2,vs2,rfl,hle2,hr2,hl2,o2,hf2⟩:=hx _ _ _ _ rfl
     have f1:=pY (P:=P) (c:=cap1) q1 hl1 hm1
     have f2:=hf2 z q2
     have o1:=MU hl1 hm1
     have l1:vs1.length=n1 * z:=by rcases q1 with rfl|rfl <;> simp_all
     have l2:vs2.length=n2 * z:=by rcases q2 with rfl|rfl <;> simp_all
     have hneed:n1+n2≤70368744177664:=Nat.le_trans (Nat.le_mul_of_pos_right _ hb0) hbnd
     have idle:n2=0→(Go.Builtin.append_ #[tS,tX] ty #[.slice a1 n1 cap1,.slice a2 n2 cap2]).run P W=.ok (.slice a1 n1 cap1) W:=by
      intro h0
      have hu:=aP hS
      have hux:=aP hX
      have f2':=f2 W rfl
      subst h0
      have hv2:vs2=[]:=List.eq_nil_of_length_eq_zero (by simpa using hl2)
      subst hv2
      simp only [Go.Builtin.append_]
      simp only [Sem.run_bind,List.getElem?_toArray,List.getElem?_cons_zero,List.getElem?_cons_succ,run_underlying hu,run_underlying hux,Result.andThen_ok,run_sizeOf hz,Sem.run_pure,Bool.false_eq_true,if_false,Go.Builtin.lenOf,
       Nat.add_zero,if_pos hle1,Bool.not_false,if_true,Sem.run_ite,f2']
      cases a1 <;> simp [storeCells]
     have grow:∀ h1,Sim P G h1 W→cap1<n1+n2→Ok P G W (Go.Builtin.append_ #[tS,tX] ty #[.slice a1 n1 cap1,.slice a2 n2 cap2]) (.list z (c1++c2) (n1+n2) (.id G.n)) (upd h1 G.n (some (.front E))):=by
      intro h1 sim1 hlt
      obtain ⟨cap,W1,hcap,hh,hos,htp,hop,hrun⟩:=run_append_grow (ty:=ty) hS hX hz hby hzv (f1 W rfl) f2 f1 hb0 hbnd hlt
      obtain ⟨G',hrel,hsim,hevo⟩:=Ku sim1 (P:=P) hh hos htp hop (rest:=Go.Builtin.zeroCells zv.cells (cap - (n1+n2))) (E:=E) (z:=z) (cap:=cap) (need:=n1+n2) (cells:=c1++c2) (vs:=vs1++vs2) hz (RelL.append hr1 hr2)
       (by rw [List.length_append,l1,l2,Nat.add_mul]) hcap (by rw [size_zeroCells,hzs]) (by
        intro v hv
        rcases List.mem_append.1 hv with hv|hv
        ·exact o1 v hv
        ·exact o2 v hv)
      have happ:(vs1++vs2).toArray=vs1.toArray++vs2.toArray:=by simp
      rw [happ] at hrel hsim hevo
      exact ⟨G',_,_,hrun,hrel,hsim,hevo⟩
     split at hl
     ·rename_i t
      split at hl
      ·rename_i h0
       injection hl with hl;injection hl with hv hh;subst hv;subst hh
       exact Ok.pure sim (idle h0) hb0'
      ·rename_i h0
       injection hl with hl;injection hl with hv hh;subst hv;subst hh
       simp only [jP] at ht1
       exact grow h sim (by omega)
     ·split at hl
      ·rename_i h0
       injection hl with hl;injection hl with hv hh;subst hv;subst hh
       exact Ok.pure sim (idle h0) hb0'
      ·rename_i h0
       injection hl with hl;injection hl with hv hh;subst hv;subst hh
       simp only [jP] at ht1
       exact grow h sim (by omega)
     ·rename_i t k
      split at hl
      ·rename_i h0
       injection hl with hl;injection hl with hv hh;subst hv;subst hh
       exact Ok.pure sim (idle h0) hb0'
      rename_i hn0
      split at hl
      ·rename_i E' hk
       split at hl
       ·rename_i hc
        obtain ⟨rfl,hn2⟩:=hc
        injection hl with hl;injection hl with hv hh;subst hv;subst hh
        by_cases hfit:n1+n2≤cap1
        ·
         simp only [jP] at ht1
         obtain ⟨hkn,o,rfl,hfrm,hlim⟩:=ht1
         obtain ⟨hbase,⟨hty,hszk⟩,hst,c,hc,hcl⟩:=sim.obj k _ hk
         have hzk:z=(G.obj k).sz:=by rw [hz] at hszk;injection hszk
         have hmul:(n1+n2) * z≤cap1 * z:=Nat.mul_le_mul_right _ hfit
         rw [Nat.add_mul] at hmul
         have hroom:o+n1 * z+n2 * z≤c.size:=by rw [hzk] at hmul ⊢;omega
         have hrun:=run_append_fits (ty:=ty) hS hX hz (f2 W rfl) hfit hc l2 hroom o2
         let row:Array Value:=(c.toList.take (o+n1 * z+0)++vs2++c.toList.drop (o+n1 * z+0+vs2.length)).toArray
         have hrow:row.size=c.size:=by
          simp only [row,List.size_toArray,List.length_append,List.length_take,List.length_drop,Array.length_toList]
          rw [l2];omega
         have hfk:(G.obj k).frm=o+n1 * z:=by rw [hfrm,l1]
         let p:Place:=⟨E',(G.obj k).loc,o+n1 * z+n2 * z,(G.obj k).lim,z⟩
         have hget:∀ j,j<o+n1 * z→row[j]?=c[j]?:=by
          intro j hj
          simp only [row,List.getElem?_toArray,Nat.add_zero]
          rw [List.append_assoc,List.getElem?_append_left (by simp only [List.length_take,Array.length_toList];omega),List.getElem?_take,if_pos hj]
          simp
         have hget2:∀ j,j<n2 * z→row[o+n1 * z+j]?=vs2[j]?:=by
          intro j hj
          simp only [row,List.getElem?_toArray,Nat.add_zero]
          rw [List.append_assoc,List.getElem?_append_right (by simp only [List.length_take,Array.length_toList];omega)]
          have:o+n1 * z+j - (c.toList.take (o+n1 * z)).length=j:=by
           simp only [List.length_take,Array.length_toList];omega
          rw [this,List.getElem?_append_left (by omega)]
         have hat:=mo W (G.obj k).loc row c E' (0,0) hc
         have hbel:=qZ (p:=G.prot) W (G.obj k).loc row hbase
         have e:Evo G W (G.push p (fun j=>o+n1 * z≤j∧j<o+n1 * z+n2 * z)) (W.setRow (G.obj k).loc row) :=
          Evo.grow sim hk (p:=p) rfl _ hbel (fun j hj _=>iJ W _ row j hj) (fun j v hj hv=>by
           simp only [World.cell?,hat]
           simp only [World.cell?,hc] at hv
           rw [hfk] at hj
           simpa [hget j hj] using hv)
         have hsim:Sim P (G.push p (fun j=>o+n1 * z≤j∧j<o+n1 * z+n2 * z)) (upd (upd h k Option.none) G.n (some (.front E'))) (W.setRow (G.obj k).loc row) :=
          Sim.grow sim hk (p:=p) rfl _ (fun j hj=>hj.2) (by rw [hfk];simp only [p];omega) hty.symm hzk e (fun j hj _=>iJ W _ row j hj) ⟨row,hat,by rw [hrow];exact hcl⟩
         refine ⟨_,_,_,hrun,?_,hsim,e,Nat.le_refl _⟩
         simp only [Rel]
         refine ⟨_,cap1,vs1++vs2,rfl,hfit,RelL.append (RelL.mono e _ _ hr1) (RelL.mono e _ _ hr2),by rw [List.length_append,l1,l2,Nat.add_mul],.inr ⟨_,_,rfl,fun j v hv=>?_⟩,?_⟩
         ·by_cases hj:j<vs1.length
          ·rw [List.getElem?_append_left hj] at hv
           rcases hm1 with hm1|⟨b',o',heq,hm1⟩
           ·subst hm1;simp at l1;omega
           ·injection heq with heq;injection heq with hb' ho' _;subst hb';subst ho'
            exact (uI.mono e hm1) j v hv
          ·rw [List.getElem?_append_right (by omega)] at hv
           have hj2:j - vs1.length<vs2.length:=(List.getElem?_eq_some_iff.1 hv).1
           refine ⟨?_,.inr ⟨rfl,by rw [l1] at hj;omega,by rw [l1,l2] at hj2;omega⟩,o2 v (List.mem_of_getElem? hv)⟩
           have hcell:(W.setRow (G.obj k).loc row).cell? ⟨(G.obj k).loc,o+j,Option.none⟩=row[o+j]?:=by simp [World.cell?,hat]
           have:=hget2 (j - vs1.length) (by rw [l2] at hj2;exact hj2)
           rw [l1] at this hj
           rw [show o+n1 * z+(j - n1 * z)=o+j by omega] at this
           exact hcell.trans (this.trans (by rw [← l1];exact hv))
         ·simp only [jP]
          refine ⟨Nat.lt_succ_self _,o,?_⟩
          rw [Gh.push_obj]
          refine ⟨rfl,?_,?_⟩
          ·simp only [p,List.length_append,l1,l2];omega
          ·simp only [p];rw [hzk];exact hlim
        ·exact grow (upd h k Option.none) sim.kill (by omega)
       ·simp at hl
      ·simp at hl
     ·split at hl
      ·rename_i h0
       injection hl with hl;injection hl with hv hh;subst hv;subst hh
       exact Ok.pure sim (idle h0) hb0'
      ·simp at hl
    ·simp at hl
   ·simp at hl
  ·simp at hl
 ·simp at hl
end
section
variable {P:Program} {G:Gh} {h:ai} {W:World}
def ik (place:Nat→Option (Nat × Nat)) (cells:List AV):List (Nat × AV)→Option (List AV)
 |[]=>some cells
 |(i,v)::rest=>match place i with
  |Option.none=>Option.none
  |some (off,size)=>if v.known=true∧v.cells.length=size∧off+size≤cells.length then ik place (dV cells off v.cells) rest else Option.none
theorem EE (off:Nat):∀ (vs:List Value) (k:Nat) (cs:Array Value),off+k+vs.length≤cs.size →
  ((vs.zipIdx k).foldl (fun cs (p:Value × Nat)=>cs.setIfInBounds (off+p.2) p.1) cs).toList=cs.toList.take (off+k)++(vs++cs.toList.drop (off+k+vs.length)):=by
 intro vs
 induction vs with
 |nil=>intro k cs h;simp
 |cons v vs ih =>
  intro k cs h
  simp only [List.length_cons] at h
  simp only [List.zipIdx_cons,List.foldl_cons]
  rw [ih (k+1) _ (by simp only [Array.size_setIfInBounds];omega)]
  simp only [Array.toList_setIfInBounds,List.length_cons]
  have hlt:off+k<cs.toList.length:=by simp only [Array.length_toList];omega
  rw [List.take_set,List.drop_set_of_lt (by omega),show off+(k+1)=off+k+1 by omega,show off+k+1+vs.length=off+k+(vs.length+1) by omega]
  rw [List.take_succ_eq_append_getElem hlt,List.set_append_right _ _ (by simp only [List.length_take];omega)]
  simp only [List.length_take,Nat.min_eq_left (Nat.le_of_lt hlt),Nat.sub_self,List.set_cons_zero,List.append_assoc,List.cons_append,List.nil_append]
def RelP (G:Gh) (W:World):List (Nat × AV)→List (Nat × Value)→Prop
 |[],l=>l=[]
 |(i,v)::rest,l=>∃ v' r,l=(i,v')::r∧Rel G W v v'∧RelP G W rest r
theorem IW (place:Nat→Option (Nat × Nat)):∀ (parts:List (Nat × AV)) (parts':List (Nat × Value)) (cells cells':List AV) (cs:Array Value),RelP G W parts parts'→RelL G W cells cs.toList→ik place cells parts=some cells' →
  ∃ cs',Instr.fill place cs parts'=some cs'∧RelL G W cells' cs'.toList:=by
 intro parts
 induction parts with
 |nil =>
  intro parts' cells cells' cs hp hc hf
  simp only [RelP] at hp;subst hp
  simp only [ik,Option.some.injEq] at hf;subst hf
  exact ⟨cs,rfl,hc⟩
 |cons p rest ih =>
  intro parts' cells cells' cs hp hc hf
  obtain ⟨i,v⟩:=p
  simp only [RelP] at hp
  obtain ⟨v',r,rfl,hv,hr⟩:=hp
  simp only [ik] at hf
  split at hf
  ·simp at hf
  ·rename_i off size hpl
   split at hf
   ·rename_i hcond
    obtain ⟨hk,hl,hle⟩:=hcond
    have hvc:=hv.cells hk
    have hvl:=RelL.length hvc
    have hcl:=RelL.length hc
    have hsz:v'.cells.size=size:=by rw [← hl,← hvl];simp
    have hcsz:cs.size=cells.length:=by rw [← hcl];simp
    have hfold:=EE off v'.cells.toList 0 cs (by rw [hvl];omega)
    have harr:(v'.cells.zipIdx.foldl (fun cs (x:Value × Nat)=>cs.setIfInBounds (off+x.2) x.1) cs)=((v'.cells.toList.zipIdx 0).foldl (fun cs (p:Value × Nat)=>cs.setIfInBounds (off+p.2) p.1) cs):=by
     rw [← Array.foldl_toList];simp
    obtain ⟨cs',hfill,hrel⟩:=ih r (dV cells off v.cells) cells' (v'.cells.zipIdx.foldl (fun cs (x:Value × Nat)=>cs.setIfInBounds (off+x.2) x.1) cs) hr (by
     rw [harr,hfold]
     simp only [dV,Nat.add_zero]
     refine RelL.append (RelL.take _ hc) (RelL.append hvc ?_)
     rw [hvl]
     exact RelL.drop _ hc) hf
    refine ⟨cs',?_,hrel⟩
    simp only [Instr.fill,hpl]
    rw [if_neg (by simp only [ne_eq,decide_not,Bool.or_eq_true,Bool.not_eq_eq_eq_not,Bool.not_true,decide_eq_false_iff_not,decide_eq_true_eq];omega)]
    exact hfill
   ·simp at hf
theorem RelL.anys:∀ (n:Nat) (vs:List Value),vs.length=n→RelL G W (List.replicate n AV.any) vs:=by
 intro n
 induction n with
 |zero=>intro vs h;simp only [List.replicate_zero,RelL];exact List.eq_nil_of_length_eq_zero h
 |succ n ih =>
  intro vs h
  cases vs with
  |nil=>simp at h
  |cons v vs=>rw [List.replicate_succ,RelL.cons_iff];exact ⟨by simp [Rel],ih vs (by simpa using h)⟩
def bn (P:Program) (t:TypeId) (len:Nat) (parts:List (Nat × AV)):Option AV :=
 match dm P t with
 |some E=>match tsz P E,bI P E with
  |some z,some zv=>if len * z≤16777216 then
    match ik (fun i=>some (i * z,z)) (List.replicate (len * z) .any) parts with
    |some cells=>if cells.all AV.flat=true∧cells.length=len * z then some (.list z cells len .full) else Option.none
    |_=>Option.none
   else Option.none
  |_,_=>Option.none
 |_=>Option.none
theorem Cb (sim:Sim P G h W) {t:TypeId} {len:Nat} {parts:List (Nat × AV)} {parts':Array (Nat × Value)} {v:AV} (hp:RelP G W parts parts'.toList) (hl:bn P t len parts=some v) :
  OkK 0 P G W (Instr.buildSlice t len parts') v h:=by
 unfold bn at hl
 split at hl
 ·rename_i E hE
  split at hl
  ·rename_i z zv hz hzv
   split at hl
   ·rename_i hsmall
    split at hl
    ·rename_i cells hfill
     split at hl
     ·rename_i hflat
      injection hl with hl;subst hl
      have hu:=aP hE
      let zc:Array Value:=if len * z=0 then #[] else zv.cells
      obtain ⟨cs,hcs,hrel⟩:=IW (G:=G) (W:=W) (fun i=>some (i * z,z)) parts parts'.toList _ cells ((Array.range (len * z)).map (zc[· % zc.size]!)) hp (RelL.anys _ _ (by simp)) hfill
      have hlen:=RelL.length hrel
      refine ⟨G.row W.heap.size,W.alloc (.cells cs E),.slice (some ⟨W.heap.size,0,Option.none⟩) len len,?_,?_,sim.row _,Evo.row sim.stab sim.prt _,Nat.le_refl _⟩
      ·simp only [Instr.buildSlice,Sem.run_bind,run_underlying hu,Result.andThen_ok,run_sizeOf hz]
       rw [if_neg (by omega)]
       have hcs':=hcs
       by_cases h0:len * z=0
       ·simp only [zc,if_pos h0] at hcs'
        simp only [if_pos h0,pure_bind,hcs',newRow,Sem.run_bind,run_newObj,Sem.run_pure,Result.andThen_ok]
        rfl
       ·simp only [zc,if_neg h0] at hcs'
        simp only [if_neg h0,Sem.run_bind,fM hzv,Result.andThen_ok,Sem.run_pure,pure_bind,hcs',newRow,run_newObj]
        rfl
      ·simp only [Rel]
       refine ⟨_,len,cs.toList,rfl,Nat.le_refl _,RelL.mono (Evo.row sim.stab sim.prt _) _ _ hrel,by rw [hlen];exact hflat.2,.inr ⟨_,_,rfl,fun j u hj=>?_⟩,rfl⟩
       refine ⟨?_,.inr rfl,RelL.flat hrel hflat.1 u (List.mem_of_getElem? hj)⟩
       rw [Nat.zero_add]
       simp only [World.cell?,dI]
       simpa using hj
     ·simp at hl
    ·simp at hl
   ·simp at hl
  ·simp at hl
 ·simp at hl
def dZ (P:Program) (t:TypeId):Option (List (Nat × Nat)) :=
 match P.underlying t with
 |some (.struct fields)=>fields.toList.mapM (fun f=>(P.info? f.type).map fun i=>(f.offset,i.size))
 |_=>Option.none
def dL (P:Program) (t:TypeId) (parts:List (Nat × AV)):Option AV :=
 match bI P t,dZ P t with
 |some zv,some places=>(ik (fun (i:Nat)=>places[i]?) (zv.cells.toList.map ofLeaf) parts).map .agg
 |_,_=>Option.none
theorem PM (sim:Sim P G h W) {t:TypeId} {parts:List (Nat × AV)} {parts':Array (Nat × Value)} {v:AV} (hp:RelP G W parts parts'.toList) (hl:dL P t parts=some v) :
  OkK 0 P G W (Instr.build t parts') v h:=by
 unfold dL at hl
 split at hl
 ·rename_i zv places hzv hpl
  cases hf:ik (fun (i:Nat)=>places[i]?) (zv.cells.toList.map ofLeaf) parts with
  |none=>simp [hf] at hl
  |some cells =>
   simp only [hf,Option.map_some,Option.some.injEq] at hl
   subst hl
   have hfun:(fun (i:Nat)=>places.toArray[i]?)=(fun (i:Nat)=>places[i]?):=by funext i;simp
   obtain ⟨cs,hcs,hrel⟩:=IW (G:=G) (W:=W) (fun (i:Nat)=>places[i]?) parts parts'.toList _ cells zv.cells hp (RelL.ofLeaf _) hf
   refine Ok.pure sim (run_build (P:=P) W t parts' cs ?_) (by simp only [Rel];exact ⟨cs,rfl,hrel⟩)
   unfold bI at hzv
   unfold dZ at hpl
   split at hpl
   ·rename_i fields hu
    cases hi:P.info? t with
    |none=>simp [hi] at hzv
    |some it =>
     simp only [hi,Option.bind_some] at hzv
     simp only [Program.built,hi,hu,hzv,hpl,hfun]
     exact hcs
   ·simp at hpl
 ·simp at hl
def Ro (t:Tok) (l hh n:Nat) (three:Bool):Tok :=
 if three then .full else match t with
  |.none=>.none
  |.nil=>.none
  |.full=>if hh=n then .full else .none
  |.id k=>if l=0∧hh=n then .id k else .none
def iF (x:Option AV) (d:Int):Option Int :=
 match x with
 |Option.none=>some d
 |some (.int _ i)=>some i
 |_=>Option.none
def zq (P:Program) (T:TypeId) (x:AV) (lo hi mx:Option AV):Option AV :=
 match dm P T,x with
 |some E,.list sz cells n t=>match tsz P E,iF lo 0,iF hi n with
  |some z,some l,some hh =>
   if (n=0∨sz=z)∧0≤l∧l≤hh∧hh≤n then
    match mx with
    |Option.none=>some (.list z ((cells.drop (l.toNat * z)).take ((hh - l).toNat * z)) (hh - l).toNat (Ro t l.toNat hh.toNat n false))
    |some (.int _ m)=>if m=hh∧hi.isSome=true then some (.list z ((cells.drop (l.toNat * z)).take ((hh - l).toNat * z)) (hh - l).toNat .full) else Option.none
    |_=>Option.none
   else Option.none
  |_,_,_=>Option.none
 |some E,.sl i off n=>match tsz P E,iF lo 0,iF hi n with
  |some z,some l,some hh =>
   if 0<z∧0≤l∧l≤hh∧hh≤n then
    match mx with
    |Option.none=>if l=hh then some (.list 0 [] 0 .none) else some (.sl i (off+l.toNat * z) (hh - l).toNat)
    |some (.int _ m)=>if m=hh∧hi.isSome=true then (if l=hh then some (.list 0 [] 0 .full) else some (.sl i (off+l.toNat * z) (hh - l).toNat)) else Option.none
    |_=>Option.none
   else Option.none
  |_,_,_=>Option.none
 |Option.none,.str s=>match tk P T,iF lo 0,iF hi s.size,mx with
  |some .string,some l,some hh,Option.none=>if 0≤l∧l≤hh∧hh≤s.size then some (.str (s.extract l.toNat hh.toNat)) else Option.none
  |_,_,_,_=>Option.none
 |_,_=>Option.none
theorem LY {k:IntKind} {i:Int} {y:Nat} {code:BoundsCode} (h0:0≤i) (h1:i≤y) (W:World):(Instr.sliceBound (.int k i) y code).run P W=.ok i.toNat W:=by
 simp [Instr.sliceBound,asIntOf,h0,h1]
theorem L9 {sz z:Nat} {cells:List AV} {n c l hh:Nat} {t':Tok} {a:Option Addr} {vs:List Value} (hsz:n=0∨sz=z) (hr:RelL G W cells vs) (hlen:vs.length=n * sz) (hnc:n≤c)
  (hm:n=0∨∃ b o,a=some ⟨b,o,Option.none⟩∧uI G W b o vs) (hl:l≤hh) (hhn:hh≤n) {m:Nat} (hmc:hh≤m)
  (ht:jP G t' (if m=l then a else a.map (·.add (l * z))) (hh - l) (m - l) ((hh - l) * z)) :
  Rel G W (.list z ((cells.drop (l * z)).take ((hh - l) * z)) (hh - l) t') (.slice (if m=l then a else a.map (·.add (l * z))) (hh - l) (m - l)):=by
 have hlen2:((vs.drop (l * z)).take ((hh - l) * z)).length=(hh - l) * z:=by
  rw [List.length_take,List.length_drop,hlen]
  rcases hsz with rfl|rfl
  ·have:hh - l=0:=by omega
   simp [this]
  ·have h1:(hh - l) * sz+l * sz≤n * sz:=by rw [← Nat.add_mul];exact Nat.mul_le_mul_right _ (by omega)
   omega
 simp only [Rel]
 refine ⟨_,m - l,(vs.drop (l * z)).take ((hh - l) * z),rfl,by omega,RelL.take _ (RelL.drop _ hr),hlen2,?_,by rw [hlen2];exact ht⟩
 by_cases h0:hh - l=0
 ·exact .inl h0
 ·right
  have hn0:n≠0:=by omega
  obtain ⟨b,o,rfl,hm2⟩:=hm.resolve_left hn0
  have hml:m≠l:=by omega
  refine ⟨b,o+l * z,by rw [if_neg hml];simp [addr_add],fun j v hv=>?_⟩
  rw [List.getElem?_take] at hv
  split at hv
  ·rw [List.getElem?_drop] at hv
   have:=hm2 _ _ hv
   rw [Nat.add_assoc]
   exact this
  ·simp at hv
def RelO (G:Gh) (W:World):Option AV→Option Value→Prop
 |Option.none,Option.none=>True
 |some a,some b=>Rel G W a b
 |_,_=>False
def bnd (x:Option Value) (y:Nat) (code:BoundsCode) (d:Nat):Go.Sem Nat:=match x with|some v=>Instr.sliceBound v y code|Option.none=>Pure.pure d
theorem mi {x:Option AV} {x':Option Value} {d k y:Nat} {code:BoundsCode} (hr:RelO G W x x') (hb:iF x (d:Int)=some (k:Int)) (hk:k≤y) (W':World):(bnd x' y code d).run P W'=.ok k W':=by
 cases x with
 |none =>
  cases x' with
  |none =>
   simp only [iF,Option.some.injEq] at hb
   have:d=k:=by omega
   subst this;rfl
  |some v=>exact hr.elim
 |some a =>
  cases x' with
  |none=>exact hr.elim
  |some v =>
   simp only [RelO] at hr
   cases a <;> simp only [iF,reduceCtorEq] at hb
   rename_i kk i
   injection hb with hb;subst hb
   simp only [Rel] at hr;subst hr
   have:=LY (P:=P) (k:=kk) (i:=(k:Int)) (y:=y) (code:=code) (by omega) (by omega) W'
   simpa [bnd] using this
theorem Om (n c:Nat) (lo hi:Option Value):Instr.sliceBounds true n c lo hi Option.none=(do let h ← bnd hi c .sliceAcap n;let l ← bnd lo h .sliceB 0;Pure.pure (l,h,c)):=by
 cases lo <;> cases hi <;> rfl
theorem Ol (n c:Nat) (lo:Option Value) (w m:Value):Instr.sliceBounds true n c lo (some w) (some m)=(do let m ← bnd (some m) c .slice3Acap 0;let h ← bnd (some w) m .slice3B n;let l ← bnd lo h .slice3C 0;Pure.pure (l,h,m)):=by
 cases lo <;> rfl
theorem ok_slice (sim:Sim P G h W) {T:TypeId} {x v:AV} {x':Value} {lo hi mx:Option AV} {lo' hi' mx':Option Value} (hx:Rel G W x x')
  (hlo:RelO G W lo lo') (hhi:RelO G W hi hi') (hmx:RelO G W mx mx')
  (hl:zq P T x lo hi mx=some v):OkK 0 P G W (Instr.sliceAt T x' lo' hi' mx') v h:=by
 unfold zq at hl
 split at hl
 ·rename_i E sz cells n t hE
  have hu:=aP hE
  simp only [Rel] at hx
  obtain ⟨a,c,vs,rfl,hnc,hr,hlen,hm',htok⟩:=hx
  split at hl
  ·rename_i z l hh hz hbl hbh
   split at hl
   ·rename_i hcond
    obtain ⟨hsz,h0,hlh,hhn⟩:=hcond
    obtain ⟨l,rfl⟩:=Int.eq_ofNat_of_zero_le h0
    obtain ⟨hh,rfl⟩:=Int.eq_ofNat_of_zero_le (Int.le_trans h0 hlh)
    have hlh':l≤hh:=Int.ofNat_le.1 hlh
    have hhn':hh≤n:=Int.ofNat_le.1 hhn
    have hsub:((hh:Int) - (l:Int)).toNat=hh - l:=by omega
    have rlo:=fun (code:BoundsCode) (W':World)=>mi (P:=P) (code:=code) (y:=hh) (d:=0) hlo hbl hlh' W'
    split at hl
    ·injection hl with hl;subst hl
     cases mx' with
     |some w=>exact hmx.elim
     |none =>
     simp only [hsub,Int.toNat_natCast]
     have hrun:(Instr.sliceBounds true n c lo' hi' Option.none).run P W=.ok (l,hh,c) W:=by
      rw [Om]
      simp only [Sem.run_bind,mi (P:=P) (code:=.sliceAcap) (y:=c) (d:=n) hhi hbh (by omega) W,Result.andThen_ok,rlo,Sem.run_pure]
     refine Ok.pure sim (v':=.slice (if c=l then a else a.map (·.add (l * z))) (hh - l) (c - l)) ?_ (L9 hsz hr hlen hnc hm' hlh' hhn' (by omega) ?_)
     ·simp only [Instr.sliceAt,Instr.slice,Sem.run_bind,run_underlying hu,Result.andThen_ok,hrun,run_sizeOf hz,Sem.run_pure]
     ·unfold Ro
      simp only [Bool.false_eq_true,if_false]
      cases t with
      |none=>trivial
      |nil=>trivial
      |full =>
       simp only [jP] at htok
       subst htok
       simp only []
       split
       ·simp only [jP];omega
       ·trivial
      |id k =>
       simp only []
       split
       ·rename_i hcut
        obtain ⟨hl0,hhn2⟩:=hcut
        subst hl0;subst hhn2
        simp only [jP] at htok ⊢
        obtain ⟨hk,o,ha,hf,hlm⟩:=htok
        refine ⟨hk,o,?_,?_,by rw [Nat.sub_zero];exact hlm⟩
        ·rw [ha];split <;> simp [addr_add]
        ·rw [hf,hlen,Nat.sub_zero]
         rcases hsz with h|h <;> simp [h]
       ·trivial
    ·rename_i k m
     split at hl
     ·rename_i hmm
      obtain ⟨rfl,his⟩:=hmm
      injection hl with hl;subst hl
      cases mx' with
      |none=>exact hmx.elim
      |some mw =>
      cases hi with
      |none=>simp at his
      |some hv =>
      cases hi' with
      |none=>exact hhi.elim
      |some w =>
      simp only [hsub,Int.toNat_natCast]
      have hrun:(Instr.sliceBounds true n c lo' (some w) (some mw)).run P W=.ok (l,hh,hh) W:=by
       rw [Ol]
       have r3:=mi (P:=P) (code:=.slice3Acap) (y:=c) (d:=0) (k:=hh) (x:=some (.int k (hh:Int))) (x':=some mw) hmx (by simp only [iF]) (by omega) W
       simp only [Sem.run_bind,r3,mi (P:=P) (code:=.slice3B) (y:=hh) (d:=n) hhi hbh (Nat.le_refl _) W,Result.andThen_ok,rlo,Sem.run_pure]
      refine Ok.pure sim (v':=.slice (if hh=l then a else a.map (·.add (l * z))) (hh - l) (hh - l)) ?_ (L9 hsz hr hlen hnc hm' hlh' hhn' (Nat.le_refl _) rfl)
      simp only [Instr.sliceAt,Instr.slice,Sem.run_bind,run_underlying hu,Result.andThen_ok,hrun,run_sizeOf hz,Sem.run_pure]
     ·simp at hl
    ·simp at hl
   ·simp at hl
  ·simp at hl
 ·rename_i E i off n hE
  have hu:=aP hE
  simp only [Rel] at hx
  obtain ⟨hi0,c,hnc,rfl,hlim⟩:=hx
  split at hl
  ·rename_i z l hh hz hbl hbh
   split at hl
   ·rename_i hcond
    obtain ⟨hz0,h0,hlh,hhn⟩:=hcond
    obtain ⟨l,rfl⟩:=Int.eq_ofNat_of_zero_le h0
    obtain ⟨hh,rfl⟩:=Int.eq_ofNat_of_zero_le (Int.le_trans h0 hlh)
    have hlh':l≤hh:=Int.ofNat_le.1 hlh
    have hhn':hh≤n:=Int.ofNat_le.1 hhn
    have hsub:((hh:Int) - (l:Int)).toNat=hh - l:=by omega
    have rlo:=fun (code:BoundsCode) (W':World)=>mi (P:=P) (code:=code) (y:=hh) (d:=0) hlo hbl hlh' W'
    have rel:∀ m,hh≤m→m≤c→l≠hh→Rel G W (.sl i (off+l * z) (hh - l)) (.slice (if m=l then some (⟨(G.obj i).loc,off,Option.none⟩:Addr) else (some (⟨(G.obj i).loc,off,Option.none⟩:Addr)).map (·.add (l * z))) (hh - l) (m - l)):=by
     intro m hm1 hm2 hne
     have hml:m≠l:=by omega
     rw [if_neg hml]
     simp only [Rel,Option.map_some,addr_add]
     refine ⟨hi0,m - l,by omega,rfl,fun hof=>?_⟩
     have hl0:l * z=0:=by omega
     have hl0:l=0:=by
      rcases Nat.mul_eq_zero.1 hl0 with h|h
      ·exact h
      ·omega
     have:=hlim (by omega)
     refine Nat.le_trans (Nat.mul_le_mul_right _ ?_) this
     omega
    split at hl
    ·cases mx' with
     |some w=>exact hmx.elim
     |none =>
     simp only [hsub,Int.toNat_natCast] at hl
     have hrun:(Instr.sliceBounds true n c lo' hi' Option.none).run P W=.ok (l,hh,c) W:=by
      rw [Om]
      simp only [Sem.run_bind,mi (P:=P) (code:=.sliceAcap) (y:=c) (d:=n) hhi hbh (by omega) W,Result.andThen_ok,rlo,Sem.run_pure]
     have hr2:(Instr.sliceAt T (.slice (some ⟨(G.obj i).loc,off,Option.none⟩) n c) lo' hi' Option.none).run P W=.ok (.slice (if c=l then some (⟨(G.obj i).loc,off,Option.none⟩:Addr) else (some (⟨(G.obj i).loc,off,Option.none⟩:Addr)).map (·.add (l * z))) (hh - l) (c - l)) W:=by
      simp only [Instr.sliceAt,Instr.slice,Sem.run_bind,run_underlying hu,Result.andThen_ok,hrun,run_sizeOf hz,Sem.run_pure]
     split at hl
     ·rename_i he
      have he:l=hh:=by omega
      injection hl with hl;subst hl
      refine Ok.pure sim hr2 ?_
      subst he
      simp only [Rel]
      exact ⟨_,c - l,[],by rw [Nat.sub_self],by omega,by simp [RelL],by simp,by simp,trivial⟩
     ·rename_i he
      injection hl with hl;subst hl
      exact Ok.pure sim hr2 (rel c (by omega) (Nat.le_refl _) (by omega))
    ·rename_i k m
     split at hl
     ·rename_i hmm
      obtain ⟨rfl,his⟩:=hmm
      cases mx' with
      |none=>exact hmx.elim
      |some mw =>
      cases hi with
      |none=>simp at his
      |some hv =>
      cases hi' with
      |none=>exact hhi.elim
      |some w =>
      simp only [hsub,Int.toNat_natCast] at hl
      have hrun:(Instr.sliceBounds true n c lo' (some w) (some mw)).run P W=.ok (l,hh,hh) W:=by
       rw [Ol]
       have r3:=mi (P:=P) (code:=.slice3Acap) (y:=c) (d:=0) (k:=hh) (x:=some (.int k (hh:Int))) (x':=some mw) hmx (by simp only [iF]) (by omega) W
       simp only [Sem.run_bind,r3,mi (P:=P) (code:=.slice3B) (y:=hh) (d:=n) hhi hbh (Nat.le_refl _) W,Result.andThen_ok,rlo,Sem.run_pure]
      have hr2:(Instr.sliceAt T (.slice (some ⟨(G.obj i).loc,off,Option.none⟩) n c) lo' (some w) (some mw)).run P W=.ok (.slice (if hh=l then some (⟨(G.obj i).loc,off,Option.none⟩:Addr) else (some (⟨(G.obj i).loc,off,Option.none⟩:Addr)).map (·.add (l * z))) (hh - l) (hh - l)) W:=by
       simp only [Instr.sliceAt,Instr.slice,Sem.run_bind,run_underlying hu,Result.andThen_ok,hrun,run_sizeOf hz,Sem.run_pure]
      split at hl
      ·rename_i he
       have he:l=hh:=by omega
       injection hl with hl;subst hl
       refine Ok.pure sim hr2 ?_
       subst he
       simp only [Rel]
       exact ⟨_,l - l,[],by rw [Nat.sub_self],by omega,by simp [RelL],by simp,by simp,by simp [jP]⟩
      ·rename_i he
       injection hl with hl;subst hl
       exact Ok.pure sim hr2 (rel hh (Nat.le_refl _) (by omega) (by omega))
     ·simp at hl
    ·simp at hl
   ·simp at hl
  ·simp at hl
 ·rename_i s hE
  simp only [Rel] at hx
  subst hx
  split at hl
  ·rename_i l hh hT hbl hbh
   have hu:=oD hT
   split at hl
   ·rename_i hcond
    obtain ⟨h0,hlh,hhn⟩:=hcond
    obtain ⟨l,rfl⟩:=Int.eq_ofNat_of_zero_le h0
    obtain ⟨hh,rfl⟩:=Int.eq_ofNat_of_zero_le (Int.le_trans h0 hlh)
    have hlh':l≤hh:=Int.ofNat_le.1 hlh
    have hhn':hh≤s.size:=Int.ofNat_le.1 hhn
    injection hl with hl;subst hl
    cases mx' with
    |some w=>exact hmx.elim
    |none =>
    refine Ok.pure sim (v':=.string (s.extract l hh)) ?_ (by simp [Rel])
    have hb:Instr.sliceBounds false s.size s.size lo' hi' Option.none=(do let h ← bnd hi' s.size .sliceAlen s.size;let l ← bnd lo' h .sliceB 0;Pure.pure (l,h,s.size)):=by
     cases lo' <;> cases hi' <;> simp [Instr.sliceBounds,bnd]
    simp only [Instr.sliceAt,Instr.slice,Sem.run_bind,run_underlying hu,Result.andThen_ok,hb,mi (P:=P) (code:=.sliceAlen) (y:=s.size) (d:=s.size) hhi hbh hhn' W,mi (P:=P) (code:=.sliceB) (y:=hh) (d:=0) hlo hbl hlh' W,Sem.run_pure,Option.isSome_none,Bool.false_eq_true,if_false]
   ·simp at hl
  ·simp at hl
 ·simp at hl
end
section
variable {P:Program} {G:Gh} {h:ai} {W:World}
def zt:AV→AV→Option Bool
 |.int k a,.int k' b=>if k=k' then some (a==b) else Option.none
 |.str a,.str b=>some (a==b)
 |.bool a,.bool b=>some (a==b)
 |_,_=>Option.none
def qD (k:AV):List (AV × AV × Nat)→Nat→Option (Option (Nat × AV))
 |[],_=>some Option.none
 |(k',v,_)::es,i=>match zt k k' with
  |some true=>some (some (i,v))
  |some false=>qD k es (i+1)
  |Option.none=>Option.none
def tmap (P:Program) (t:TypeId):Option (TypeId × TypeId):=match P.underlying t with|some (.map k e)=>some (k,e)|_=>Option.none
def plainKey (P:Program) (t:TypeId):AV→Bool
 |.int _ _=>match tk P t with|some (.int _)=>true|_=>false
 |.str _=>match tk P t with|some .string=>true|_=>false
 |.bool _=>match tk P t with|some .bool=>true|_=>false
 |_=>false
theorem gy {t k e:TypeId} (h:tmap P t=some (k,e)):P.underlying t=some (.map k e):=by
 unfold tmap at h
 split at h
 ·injection h with h;injection h with h1 h2;subst h1;subst h2;assumption
 ·simp at h
theorem xg {t:TypeId} {d:TypeDesc} (hd:P.underlying t=some d) {k:AV} {k':Value} (hk:Rel G W k k') (hp:plainKey P t k=true):∀ (es:List (AV × AV × Nat)) (l:List MapEntry) (i:Nat) (r:Option (Nat × AV)),RelE G W es l→qD k es i=some r →
  ∃ r',Instr.findNow d k' l i=some r'∧(match r,r' with|Option.none,Option.none=>True|some (j,v),some (j',v')=>j=j'∧Rel G W v v'∧(∃ e n,es[j - i]?=some (e,v,n)∧i≤j∧zt k e=some true)|_,_=>False):=by
 intro es
 induction es with
 |nil =>
  intro l i r hr hf
  simp only [RelE] at hr;subst hr
  simp only [qD,Option.some.injEq] at hf;subst hf
  exact ⟨Option.none,rfl,trivial⟩
 |cons x es ih =>
  intro l i r hr hf
  obtain ⟨kk,v,n⟩:=x
  simp only [RelE] at hr
  obtain ⟨e,rest,rfl,hkk,hv,hb,hr⟩:=hr
  simp only [qD] at hf
  have key:∀ b,zt k kk=some b→Instr.sameNow d k' e.key=some b:=by
   intro b hs
   cases k <;> cases kk <;> simp only [zt,reduceCtorEq] at hs <;> simp only [plainKey] at hp <;> simp only [Rel] at hk hkk <;> simp only [tk,hd,Option.map_some] at hp <;> cases d <;> simp only [Bool.false_eq_true] at hp <;> rw [hk,hkk] <;> simpa [Instr.sameNow] using hs
  split at hf
  ·rename_i hs
   injection hf with hf;subst hf
   exact ⟨some (i,e.val),by simp only [Instr.findNow,key true hs],rfl,hv,kk,n,by simp,Nat.le_refl _,hs⟩
  ·rename_i hs
   obtain ⟨r',hr',hm⟩:=ih rest (i+1) r hr hf
   refine ⟨r',by simp only [Instr.findNow,key false hs];exact hr',?_⟩
   cases r with
   |none=>cases r' <;> exact hm
   |some p =>
    obtain ⟨j,vj⟩:=p
    cases r' with
    |none=>exact hm
    |some p' =>
     obtain ⟨j',vj'⟩:=p'
     obtain ⟨h1,h2,e',n',h3,h4,h5⟩:=hm
     refine ⟨h1,h2,e',n',?_,by omega,h5⟩
     rw [show j - i=(j - (i+1))+1 by omega]
     simpa using h3
  ·simp at hf
theorem run_checkKey {t:TypeId} {d:TypeDesc} (hd:P.underlying t=some d) {k:AV} {k':Value} (hk:Rel G W k k') (hp:plainKey P t k=true) (b:Bool) (W':World):(Instr.checkKey b 10000 t k').run P W'=.ok () W':=by
 have all:∀ n,(Instr.checkKey b (n+1) t k').run P W'=.ok () W':=by
  intro n
  cases k <;> simp only [plainKey,Bool.false_eq_true] at hp <;> simp only [Rel] at hk <;> simp only [tk,hd,Option.map_some] at hp <;> cases d <;> simp only [Bool.false_eq_true] at hp <;> subst hk <;> simp [Instr.checkKey,run_underlying hd]
 exact all 9999
def iM (P:Program) (T:TypeId) (m k:AV) (ok:Bool) (h:ai):Option AV :=
 match tmap P T,m with
 |some (K,E),.map i=>match h i,bI P E with
  |some (.map es _),some zv =>
   if plainKey P K k=true then
    match qD k es 0 with
    |some (some (_,v))=>some (if ok then .tuple [v,.bool true] else v)
    |some Option.none=>some (if ok then .tuple [ofConst zv,.bool false] else ofConst zv)
    |Option.none=>Option.none
   else Option.none
  |_,_=>Option.none
 |_,_=>Option.none
theorem Mt (sim:Sim P G h W) {T:TypeId} {m k v:AV} {m' k':Value} {ok:Bool} (hm:Rel G W m m') (hk:Rel G W k k') (hl:iM P T m k ok h=some v):OkK 0 P G W (Instr.lookup T m' k' ok) v h:=by
 unfold iM at hl
 split at hl
 ·rename_i K E i hT
  split at hl
  ·rename_i es clock zv hi hzv
   split at hl
   ·rename_i hp
    have hu:=gy hT
    simp only [Rel] at hm
    obtain ⟨hin,rfl⟩:=hm
    obtain ⟨hb,l,hh,hrel⟩:=sim.obj i _ hi
    have hd:∃ d,P.underlying K=some d:=by
     cases k <;> simp only [plainKey,Bool.false_eq_true] at hp <;> cases hd:P.underlying K <;> simp [tk,hd] at hp ⊢
    obtain ⟨d,hd⟩:=hd
    have hck:=run_checkKey (P:=P) hd hk hp l.isEmpty W
    have hget:(getObj (G.obj i).loc).run P W=.ok (.map l clock) W:=by simp only [getObj,Sem.run,hh]
    split at hl
    ·rename_i j u hf
     obtain ⟨r',hr',hmm⟩:=xg (P:=P) hd hk hp es l.toList 0 _ hrel hf
     cases r' with
     |none=>exact hmm.elim
     |some p =>
      obtain ⟨j',u'⟩:=p
      obtain ⟨_,hu',_⟩:=hmm
      injection hl with hl;subst hl
      refine Ok.pure sim (v':=if ok then .tuple #[u',.bool true] else u') ?_ ?_
      ·simp only [Instr.lookup,Sem.run_bind,run_underlying hu,Result.andThen_ok,hget,hck,Sem.run_pure,Instr.findKey,run_underlying hd,hr']
       try (cases ok <;> rfl)
      ·cases ok
       ·exact hu'
       ·simp only [if_true,Rel];exact ⟨_,rfl,by simp [RelL,Rel];exact hu'⟩
    ·rename_i hf
     obtain ⟨r',hr',hmm⟩:=xg (P:=P) hd hk hp es l.toList 0 _ hrel hf
     cases r' with
     |some p=>exact hmm.elim
     |none =>
      injection hl with hl;subst hl
      refine Ok.pure sim (v':=if ok then .tuple #[zv,.bool false] else zv) ?_ ?_
      ·simp only [Instr.lookup,Sem.run_bind,run_underlying hu,Result.andThen_ok,hget,hck,Sem.run_pure,Instr.findKey,run_underlying hd,hr',fM hzv]
       try (cases ok <;> rfl)
      ·cases ok
       ·exact Rel.ofConst _
       ·simp only [if_true,Rel];exact ⟨_,rfl,by simp [RelL,Rel];exact Rel.ofConst _⟩
    ·simp at hl
   ·simp at hl
  ·simp at hl
 ·simp at hl
def eY (P:Program) (T:TypeId) (m k v:AV) (h:ai):Option ai :=
 match tmap P T,m with
 |some (K,E),.map i=>match h i with
  |some (.map es clock) =>
   if plainKey P K k=true then
    match qD k es 0 with
    |some (some (j,_))=>some (upd h i (some (.map (es.modify j fun e=>(k,v,e.2.2)) clock)))
    |some Option.none=>some (upd h i (some (.map (es++[(k,v,clock)]) (clock+1))))
    |Option.none=>Option.none
   else Option.none
  |_=>Option.none
 |_,_=>Option.none
theorem RelE.append {es fs:List (AV × AV × Nat)}:∀ {l m:List MapEntry},RelE G W es l→RelE G W fs m→RelE G W (es++fs) (l++m):=by
 induction es with
 |nil=>intro l m h k;simp only [RelE] at h;subst h;exact k
 |cons x es ih =>
  intro l m h k
  obtain ⟨a,b,n⟩:=x
  simp only [RelE] at h
  obtain ⟨e,r,rfl,h1,h2,h3,h4⟩:=h
  simp only [List.cons_append,RelE]
  exact ⟨e,r++m,rfl,h1,h2,h3,ih h4 k⟩
theorem RelE.modify {es:List (AV × AV × Nat)} {k v:AV} {k' v':Value} (hk:Rel G W k k') (hv:Rel G W v v'):∀ {l:List MapEntry} (j:Nat),RelE G W es l→RelE G W (es.modify j fun e=>(k,v,e.2.2)) (l.modify j fun e=>{ e with key:=k',val:=v' }):=by
 induction es with
 |nil=>intro l j h;simp only [RelE] at h;subst h;cases j <;> simp [RelE]
 |cons x es ih =>
  intro l j h
  obtain ⟨a,b,n⟩:=x
  simp only [RelE] at h
  obtain ⟨e,r,rfl,h1,h2,h3,h4⟩:=h
  cases j with
  |zero=>simp only [List.modify_zero_cons,RelE];exact ⟨_,r,rfl,hk,hv,h3,h4⟩
  |succ j=>simp only [List.modify_succ_cons,RelE];exact ⟨e,_,rfl,h1,h2,h3,ih j h4⟩
theorem RelE.get {es:List (AV × AV × Nat)}:∀ {l:List MapEntry} {j:Nat} {a b:AV} {n:Nat},RelE G W es l→es[j]?=some (a,b,n)→∃ e,l[j]?=some e∧Rel G W a e.key∧Rel G W b e.val:=by
 induction es with
 |nil=>intro l j a b n h hj;simp at hj
 |cons x es ih =>
  intro l j a b n h hj
  obtain ⟨a',b',n'⟩:=x
  simp only [RelE] at h
  obtain ⟨e,r,rfl,h1,h2,h3,h4⟩:=h
  cases j with
  |zero =>
   simp only [List.getElem?_cons_zero,Option.some.injEq,Prod.mk.injEq] at hj
   obtain ⟨rfl,rfl,rfl⟩:=hj
   exact ⟨e,rfl,h1,h2⟩
  |succ j=>simpa using ih h4 (by simpa using hj)
theorem RP (a b:ByteArray):(a==b)=(a.data==b.data):=by
 cases a;cases b;rfl
theorem ba_eq {a b:ByteArray} (h:(a==b)=true):a=b:=by
 rw [RP] at h
 have:=eq_of_beq h
 cases a;cases b;simp_all
theorem Ut (a:ByteArray):(a==a)=true:=by rw [RP];simp
theorem BJ {k e:AV} {k' e':Value} (hk:Rel G W k k') (he:Rel G W e e') (hs:zt k e=some true) (n:Nat):Instr.sameBits n e' k'=true:=by
 cases k <;> cases e <;> simp only [zt,reduceCtorEq] at hs <;> simp only [Rel] at hk he <;> subst hk <;> subst he
 ·have:=eq_of_beq (Option.some.inj hs);subst this;simp [Instr.sameBits]
 ·split at hs
  ·rename_i hkk;have:=eq_of_beq (Option.some.inj hs);subst this;subst hkk;simp [Instr.sameBits]
  ·simp at hs
 ·have:=ba_eq (Option.some.inj hs);subst this;simp [Instr.sameBits,Ut]
theorem D7 (sim:Sim P G h W) {T:TypeId} {m k v:AV} {m' k' v':Value} {h':ai} (hm:Rel G W m m') (hk:Rel G W k k') (hv:Rel G W v v') (hl:eY P T m k v h=some h'):OkUK 0 P G W (Instr.mapUpdate T m' k' v') h':=by
 unfold eY at hl
 split at hl
 ·rename_i K E i hT
  split at hl
  ·rename_i es clock hi
   split at hl
   ·rename_i hp
    have hu:=gy hT
    simp only [Rel] at hm
    obtain ⟨hin,rfl⟩:=hm
    obtain ⟨hb,l,hh,hrel⟩:=sim.obj i _ hi
    have hd:∃ d,P.underlying K=some d:=by
     cases k <;> simp only [plainKey,Bool.false_eq_true] at hp <;> cases hd:P.underlying K <;> simp [tk,hd] at hp ⊢
    obtain ⟨d,hd⟩:=hd
    have hck:=run_checkKey (P:=P) hd hk hp false W
    have hget:(getObj (G.obj i).loc).run P W=.ok (.map l clock) W:=by simp only [getObj,Sem.run,hh]
    have hset:∀ o,(setObj (G.obj i).loc o).run P W=.ok () { W with heap:=W.heap.setIfInBounds (G.obj i).loc o }:=by
     intro o;simp only [setObj,Sem.run,hh]
    have step:∀ (l':Array MapEntry) (c':Nat) (es':List (AV × AV × Nat)),(∀ W',Evo G W G W'→RelE G W' es' l'.toList) →
      Sim P G (upd h i (some (.map es' c'))) { W with heap:=W.heap.setIfInBounds (G.obj i).loc (.map l' c') }∧Evo G W G { W with heap:=W.heap.setIfInBounds (G.obj i).loc (.map l' c') }:=by
     intro l' c' es' hr'
     have hlt:(G.obj i).loc<W.heap.size:=(Array.getElem?_eq_some_iff.1 hh).1
     have hk':∀ j,j≠(G.obj i).loc→({ W with heap:=W.heap.setIfInBounds (G.obj i).loc (.map l' c') }:World).heap[j]?=W.heap[j]?:=by
      intro j hj
      show (W.heap.setIfInBounds (G.obj i).loc (.map l' c'))[j]?=_
      rw [Array.getElem?_setIfInBounds,if_neg (by omega)]
     have hbel:Keep G.prot W { W with heap:=W.heap.setIfInBounds (G.obj i).loc (.map l' c') }:=⟨rfl,rfl,rfl,by simp,fun j hj=>hk' j (fun e=>hb (e ▸ hj))⟩
     have e:Evo G W G { W with heap:=W.heap.setIfInBounds (G.obj i).loc (.map l' c') }:=Evo.write (b:=(G.obj i).loc) hbel (fun j hj _=>hk' j hj) sim.stab (fun j u _ hc=>by simp [World.cell?,hh] at hc)
     exact ⟨sim.write hi e (fun j hj _=>hk' j hj) ⟨hb,l',by show (W.heap.setIfInBounds (G.obj i).loc (.map l' c'))[(G.obj i).loc]?=_;simp [hlt],hr' _ e⟩,e⟩
    split at hl
    ·rename_i j u hf
     obtain ⟨r',hr',hmm⟩:=xg (P:=P) hd hk hp es l.toList 0 _ hrel hf
     cases r' with
     |none=>exact hmm.elim
     |some p =>
      obtain ⟨j',u'⟩:=p
      obtain ⟨rfl,hu',ek,en,he,_,hsm⟩:=hmm
      injection hl with hl;subst hl
      obtain ⟨ee,hee,hek,_⟩:=RelE.get hrel he
      have hlj:l[j]?=some ee:=by simpa using hee
      have hbits:=BJ hk hek hsm 10000
      have hks:(Instr.keyThatStays (((l[j]?).map (·.key)).getD k') k').run P W=.ok k' W:=by
       rw [hlj];simp only [Option.map_some,Option.getD_some,Instr.keyThatStays,hbits,if_true,Sem.run_pure]
      obtain ⟨hsim,e⟩:=step (l.modify j fun e=>{ e with key:=k',val:=v' }) clock (es.modify j fun e=>(k,v,e.2.2)) (fun W' e'=>by
       have:=RelE.modify (Rel.mono e' _ _ hk) (Rel.mono e' _ _ hv) j (RelE.mono e' _ _ hrel)
       simpa using this)
      refine ⟨G,_,?_,hsim,e,Nat.le_refl _⟩
      simp only [Instr.mapUpdate,Sem.run_bind,run_underlying hu,Result.andThen_ok,hget,hck,Instr.findKey,run_underlying hd,hr',Sem.run_pure,hks,hset]
    ·rename_i hf
     obtain ⟨r',hr',hmm⟩:=xg (P:=P) hd hk hp es l.toList 0 _ hrel hf
     cases r' with
     |some p=>exact hmm.elim
     |none =>
      injection hl with hl;subst hl
      obtain ⟨hsim,e⟩:=step (l.push { key:=k',val:=v',born:=clock }) (clock+1) (es++[(k,v,clock)]) (fun W' e'=>by
       have:=RelE.append (RelE.mono e' _ _ hrel) (show RelE G W' [(k,v,clock)] [{ key:=k',val:=v',born:=clock }] from ⟨_,[],rfl,Rel.mono e' _ _ hk,Rel.mono e' _ _ hv,rfl,rfl⟩)
       simpa using this)
      refine ⟨G,_,?_,hsim,e,Nat.le_refl _⟩
      simp only [Instr.mapUpdate,Sem.run_bind,run_underlying hu,Result.andThen_ok,hget,hck,Instr.findKey,run_underlying hd,hr',Sem.run_pure,hset]
    ·simp at hl
   ·simp at hl
  ·simp at hl
 ·simp at hl
theorem JZ (sim:Sim P G h W) {t:TypeId}:Ok P G W (Instr.makeMap t Option.none) (.map G.n) (upd h G.n (some (.map [] 0))):=by
 let p:Place:=⟨0,W.heap.size,0,0,0⟩
 have e:=Evo.push sim (p:=p) rfl (fun _=>False) (.map #[] 0)
 refine ⟨G.push p (fun _=>False),W.alloc (.map #[] 0),.map (some W.heap.size),?_,?_,?_,e,Nat.le_refl _⟩
 ·simp only [Instr.makeMap,Sem.run_bind,Sem.run_pure,Result.andThen_ok,run_newObj];rfl
 ·simp only [Rel]
  refine ⟨by simp [Gh.push],?_⟩
  rw [Gh.push_obj]
 ·refine sim.push (p:=p) rfl _ _ _ ⟨?_,#[],?_,by simp [RelE]⟩
  ·rw [Gh.push_obj];exact sim.mine
  ·rw [Gh.push_obj];exact dI _ _
end
section
variable {P:Program} {G:Gh} {h:ai} {W:World}
def zn (zc:List AV) (z n:Nat):List AV:=(List.range (n * z)).map fun i=>zc.getD (i % z) .any
def qy (P:Program) (t:TypeId) (l c:AV) (h:ai) (p:Nat):Option (AV × ai) :=
 match dm P t,l,c with
 |some E,.int _ n,.int _ m=>match tsz P E,bv P E,bI P E with
  |some z,some b,some zv=>if n=m∧0≤n∧n.toNat * b≤70368744177664∧0<b∧zv.cells.size=z then some (.sl p 0 n.toNat,upd h p (some (.cells (zn (zv.cells.toList.map ofLeaf) z n.toNat) E))) else Option.none
  |_,_,_=>Option.none
 |_,_,_=>Option.none
theorem D8 (sim:Sim P G h W) {t:TypeId} {l c v:AV} {l' c':Value} {h':ai} (hl:Rel G W l l') (hc:Rel G W c c') (hs:qy P t l c h G.n=some (v,h')):Ok P G W (Instr.makeSlice t l' c') v h':=by
 unfold qy at hs
 split at hs
 ·rename_i E k n k' m hE
  split at hs
  ·rename_i z b zv hz hb hzv
   split at hs
   ·rename_i hcond
    obtain ⟨rfl,h0,hsmall,hb0,hzs⟩:=hcond
    obtain ⟨n,rfl⟩:=Int.eq_ofNat_of_zero_le h0
    injection hs with hs;injection hs with hv hh;subst hv;subst hh
    simp only [Rel] at hl hc
    subst hl;subst hc
    simp only [Int.toNat_natCast] at hsmall ⊢
    have hu:=aP hE
    have hn:n≤70368744177664:=Nat.le_trans (Nat.le_mul_of_pos_right _ hb0) hsmall
    have hw:IntKind.i64.wrap (n:Int)=n:=by
     rw [IntKind.wrap_i64]
     omega
    have hinfo:∃ i,P.info? E=some i∧i.bytes=b:=by
     unfold bv at hb
     cases hi:P.info? E with
     |none=>simp [hi] at hb
     |some i=>simp [hi] at hb;exact ⟨i,rfl,hb⟩
    obtain ⟨i,hi,hib⟩:=hinfo
    have hti:∀ W,(typeInfo E).run P W=.ok i W:=fun W=>by simp [typeInfo,hi]
    have hbn:¬ ((b:Int) * (n:Int)>2 ^ 48):=by
     have:b * n≤70368744177664:=by rw [Nat.mul_comm];exact hsmall
     have h2:=Int.ofNat_le.2 this
     rw [Int.natCast_mul] at h2
     generalize (b:Int) * (n:Int)=q at h2 ⊢
     omega
    let zc:Array Value:=if n * z=0 then #[] else zv.cells
    let cells:Array Value:=(Array.range (n * z)).map (zc[· % zc.size]!)
    let p:Place:=⟨E,W.heap.size,0,n * z,z⟩
    have e:=Evo.push sim (p:=p) rfl (fun _=>False) (.cells cells E)
    have hcs:cells.size=n * z:=by
     show ((Array.range (n * z)).map (zc[· % zc.size]!)).size=n * z
     generalize n * z=q
     rw [Array.size_map,Array.size_range]
    refine ⟨G.push p (fun _=>False),W.alloc (.cells cells E),.slice (some ⟨W.heap.size,0,Option.none⟩) n n,?_,?_,?_,e,Nat.le_refl _⟩
    ·have hlt0:¬ ((n:Int)<0):=by omega
     have hnn:¬ ((n:Int)>(n:Int)):=by omega
     simp only [Instr.makeSlice,Sem.run_bind,run_underlying hu,Result.andThen_ok,asInt,asIntOf,Sem.run_pure,hti,hib,hw,hlt0,hbn,hnn,decide_false,Bool.or_false,Bool.or_self,Bool.false_eq_true,if_false,run_askRoom,run_sizeOf hz,Int.toNat_natCast]
     by_cases h0:n * z=0
     ·simp only [h0,if_true,Sem.run_pure,Result.andThen_ok,newRow,Sem.run_bind,run_newObj,cells,zc]
      rfl
     ·simp only [h0,if_false,Sem.run_bind,fM hzv,Sem.run_pure,Result.andThen_ok,newRow,run_newObj,cells,zc]
      rfl
    ·simp only [Rel]
     refine ⟨by simp [Gh.push],n,Nat.le_refl _,?_,?_⟩
     ·rw [Gh.push_obj]
     ·rw [Gh.push_obj];simp [p]
    ·refine sim.push (p:=p) rfl _ _ _ ⟨?_,?_,?_,cells,?_,?_,?_,?_⟩
     ·rw [Gh.push_obj];exact sim.mine
     ·rw [Gh.push_obj];exact ⟨rfl,hz⟩
     ·intro o ho
      rw [Gh.push_obj] at ho
      rcases ho with ho|ho
      ·exact absurd (sim.stab _ _ ho) (Nat.lt_irrefl _)
      ·exact ho.2
     ·rw [Gh.push_obj];exact dI _ _
     ·rw [Gh.push_obj,hcs];exact Nat.le_refl _
     ·simp [zn,hcs]
     ·have hlen:(zn (zv.cells.toList.map ofLeaf) z n).length=n * z:=by simp [zn]
      rw [hlen,List.take_of_length_le (by simp [hcs])]
      refine RelL.of_get (by simp [hcs,hlen]) (fun j a u ha hu'=>?_)
      have hj:j<n * z:=by have:=(List.getElem?_eq_some_iff.1 ha).1;omega
      have hz0:n * z≠0:=by omega
      have hzpos:0<z:=by
       rcases Nat.eq_zero_or_pos z with h|h
       ·subst h;simp at hz0
       ·exact h
      have hzc:zc=zv.cells:=by simp only [zc,if_neg hz0]
      simp only [zn,List.getElem?_map,List.getElem?_range hj,Option.map_some,Option.some.injEq] at ha
      have hm:j % z<z:=Nat.mod_lt _ hzpos
      have hu2:zv.cells[j % z]?=some u:=by
       simp only [cells,Array.getElem?_toList,Array.getElem?_map,Array.getElem?_range,hj,if_true,Option.map_some,Option.some.injEq,hzc,hzs] at hu'
       rw [← hu',getElem!_pos zv.cells (j % z) (by omega)]
       exact Array.getElem?_eq_getElem (by omega)
      have hmap:(zv.cells.toList.map ofLeaf)[j % z]?=some (ofLeaf u):=by simp [hu2]
      rw [List.getD_eq_getElem?_getD,hmap] at ha
      simp only [Option.getD_some] at ha
      rw [← ha]
      exact Rel.ofLeaf u
   ·simp at hs
  ·simp at hs
 ·simp at hs
end
section
variable {P:Program} {G:Gh} {h:ai} {W:World}
theorem Sim.move {W':World} {k:Nat} {a q:AObj} (s:Sim P G h W) (hk:h k=some a) {p:Place} (hp:p.loc=(G.obj k).loc) (e:Evo G W (G.push p (fun _=>False)) W')
  (hblk:∀ j,j≠(G.obj k).loc→j<W.heap.size→W'.heap[j]?=W.heap[j]?) (hq:jB P (G.push p (fun _=>False)) W' G.n q):Sim P (G.push p (fun _=>False)) (upd (upd h k Option.none) G.n (some q)) W':=by
 have s':=s.kill (i:=k)
 have ne:∀ (i:Nat) (x:AObj),upd h k Option.none i=some x→(G.obj i).loc≠(G.obj k).loc:=by
  intro i x hx hlo
  obtain ⟨hne,hx⟩:=pI hx
  exact hne (s.inj i k x _ hx hk hlo)
 refine ⟨fun i x hx=>?_,fun i x hx=>?_,fun i j a b ha hb hlo=>?_,fun b o hb=>?_,fun b hb=>Nat.lt_of_lt_of_le (s.prt b hb) e.keep.size⟩
 ·rcases iA hx with ⟨_,hx⟩|⟨rfl,rfl⟩
  ·exact Nat.lt_succ_of_lt (s'.dom i x hx)
  ·exact Nat.lt_succ_self _
 ·rcases iA hx with ⟨_,hx⟩|⟨rfl,rfl⟩
  ·refine (s'.obj i x hx).kept e (s'.dom i x hx) (hblk _ (ne i x hx) (s'.obj i x hx).lt) (fun o ho=>?_)
   rcases ho with ho|ho
   ·exact ho
   ·exact ho.2.elim
  ·exact hq
 ·rcases iA ha with ⟨_,ha'⟩|⟨hi,ha'⟩ <;> rcases iA hb with ⟨_,hb'⟩|⟨hj,hb'⟩
  ·rw [Gh.push_old _ _ _ (s'.dom i a ha'),Gh.push_old _ _ _ (s'.dom j b hb')] at hlo
   exact s'.inj i j a b ha' hb' hlo
  ·rw [hj,Gh.push_old _ _ _ (s'.dom i a ha'),Gh.push_obj,hp] at hlo
   exact (ne i a ha' hlo).elim
  ·rw [hi,Gh.push_old _ _ _ (s'.dom j b hb'),Gh.push_obj,hp] at hlo
   exact (ne j b hb' hlo.symm).elim
  ·rw [hi,hj]
 ·rcases hb with hb|hb
  ·exact Nat.lt_of_lt_of_le (s.stab b o hb) e.keep.size
  ·exact hb.2.elim
theorem Evo.move {W':World} {k:Nat} {cs:List AV} {T:TypeId} (s:Sim P G h W) (hk:h k=some (.cells cs T)) (p:Place)
  (hb:Keep G.prot W W') (hblk:∀ j,j≠(G.obj k).loc→j<W.heap.size→W'.heap[j]?=W.heap[j]?):Evo G W (G.push p (fun _=>False)) W':=by
 refine ⟨rfl,Nat.le_succ _,fun i hi=>Gh.push_old G p _ hi,fun b o v hs hc=>⟨.inl hs,?_⟩,hb,fun b o _ hs=>hs.resolve_right fun e=>e.2⟩
 by_cases e:b=(G.obj k).loc
 ·subst e
  obtain ⟨_,_,hst,_⟩:=s.obj k _ hk
  exact (hst o hs).elim
 ·rw [cell_of_heap (hblk b e (s.stab b o hs))];exact hc
theorem yC (sim:Sim P G h W) {W1:World} (hh:W1.heap=W.heap) (ho:W1.os=W.os) (ht:W1.tape=W.tape) (hp:W1.output=W.output) {E:TypeId} {z cap need:Nat} {cells:List AV} {vs:List Value} {rest:Array Value}
  (hz:tsz P E=some z) (hr:RelL G W cells vs) (hl:vs.length=need * z) (hcap:need≤cap) (hrest:rest.size=(cap - need) * z) :
  ∃ G',Rel G' (W1.alloc (.cells (vs.toArray++rest) E)) (.sl G.n 0 need) (.slice (some ⟨W.heap.size,0,Option.none⟩) need cap) ∧
   Sim P G' (upd h G.n (some (.cells cells E))) (W1.alloc (.cells (vs.toArray++rest) E))∧Evo G W G' (W1.alloc (.cells (vs.toArray++rest) E))∧G'.n≤G.n+1:=by
 have sim1:=sim.same hh ho ht hp
 have e1:Evo G W G W1:=Evo.same hh ho ht hp
 have hs1:W1.heap.size=W.heap.size:=by rw [hh]
 let p:Place:=⟨E,W1.heap.size,0,vs.length+rest.size,z⟩
 have e:=Evo.push sim1 (p:=p) rfl (fun o=>False) (.cells (vs.toArray++rest) E)
 have hsz:vs.length+rest.size=cap * z:=by
  rw [hl,hrest,← Nat.add_mul];congr 1;omega
 refine ⟨G.push p (fun o=>False),?_,?_,e1.trans e,Nat.le_refl _⟩
 ·simp only [Rel]
  rw [Gh.push_obj]
  exact ⟨Nat.lt_succ_self _,cap,hcap,by simp only [p];rw [hs1],fun _=>by simp only [p];omega⟩
 ·refine sim1.push (p:=p) rfl _ _ _ ⟨?_,?_,?_,vs.toArray++rest,?_,?_,?_,?_⟩
  ·rw [Gh.push_obj];exact sim1.mine
  ·rw [Gh.push_obj];exact ⟨rfl,hz⟩
  ·intro o hs
   rw [Gh.push_obj] at hs
   rcases hs with hs|hs
   ·exact absurd (sim1.stab _ _ hs) (Nat.lt_irrefl _)
   ·exact hs.2
  ·rw [Gh.push_obj];exact dI _ _
  ·rw [Gh.push_obj];simp [p]
  ·rw [← RelL.length hr];simp
  ·rw [← RelL.length hr]
   have:(vs.toArray++rest).toList.take vs.length=vs:=by simp
   rw [this]
   exact RelL.mono (e1.trans e) _ _ hr
def aOwn (P:Program) (tS tX:TypeId) (base x:AV) (h:ai) (p:Nat):Option (AV × ai) :=
 match dm P tS,dm P tX with
 |some E,some _=>match tsz P E,bv P E,bI P E with
  |some z,some b,some zv=>match x with
   |.list sz2 c2 n2 _ =>
    if (n2=0∨sz2=z)∧0<b∧zv.cells.size=z then
     match base with
     |.list sz1 c1 n1 .full=>if n2=0 then some (base,h) else if (n1=0∨sz1=z)∧(n1+n2) * b≤70368744177664 then some (.sl p 0 (n1+n2),upd h p (some (.cells (c1++c2) E))) else Option.none
     |.list sz1 c1 n1 .nil=>if n2=0 then some (base,h) else if (n1=0∨sz1=z)∧(n1+n2) * b≤70368744177664 then some (.sl p 0 (n1+n2),upd h p (some (.cells (c1++c2) E))) else Option.none
     |.sl k off n1=>if n2=0 then some (base,h) else match h k with
      |some (.cells cs E')=>if off=0∧E'=E∧cs.length=n1 * z∧(n1+n2) * b≤70368744177664 then some (.sl p 0 (n1+n2),upd (upd h k Option.none) p (some (.cells (cs++c2) E))) else Option.none
      |_=>Option.none
     |_=>Option.none
    else Option.none
   |_=>Option.none
  |_,_,_=>Option.none
 |_,_=>Option.none
theorem kQ {tS tX E EX ty:TypeId} {z:Nat} (hS:dm P tS=some E) (hX:dm P tX=some EX) (hz:tsz P E=some z) {a1 a2:Option Addr} {n1 c1 c2:Nat} (hle:n1≤c1)
  (hnew:(Go.Builtin.firstCells z 0 (.slice a2 0 c2)).run P W=.ok #[] W) :
  (Go.Builtin.append_ #[tS,tX] ty #[.slice a1 n1 c1,.slice a2 0 c2]).run P W=.ok (.slice a1 n1 c1) W:=by
 have hu:=aP hS
 have hux:=aP hX
 simp only [Go.Builtin.append_]
 simp only [Sem.run_bind,List.getElem?_toArray,List.getElem?_cons_zero,List.getElem?_cons_succ,run_underlying hu,run_underlying hux,Result.andThen_ok,run_sizeOf hz,Sem.run_pure,Bool.false_eq_true,if_false,Go.Builtin.lenOf,
  Nat.add_zero,if_pos hle,Bool.not_false,if_true,Sem.run_ite,hnew]
 cases a1 <;> simp [storeCells]
theorem WB (sim:Sim P G h W) {tS tX ty:TypeId} {base x v:AV} {base' x':Value} {h':ai} (hb:Rel G W base base') (hx:∀ sz c n t,x=.list sz c n t→Src P G W (.list sz c n t) x') (hl:aOwn P tS tX base x h G.n=some (v,h')) :
  Ok P G W (Go.Builtin.append_ #[tS,tX] ty #[base',x']) v h':=by
 unfold aOwn at hl
 split at hl
 ·rename_i E EX hS hX
  split at hl
  ·rename_i z b zv hz hby hzv
   split at hl
   ·rename_i sz2 c2 n2 t2
    split at hl
    ·rename_i hcond
     obtain ⟨q2,hb0,hzs⟩:=hcond
     have hb':=hb
     obtain ⟨a2,cap2,vs2,rfl,hle2,hr2,hl2,o2,hf2⟩:=hx _ _ _ _ rfl
     have f2:=hf2 z q2
     have l2:vs2.length=n2 * z:=by rcases q2 with rfl|rfl <;> simp_all
     have e0:n2=0→vs2=[]:=fun h0=>List.eq_nil_of_length_eq_zero (by rw [l2,h0,Nat.zero_mul])
     split at hl
     ·rename_i sz1 c1 n1
      simp only [Rel] at hb
      obtain ⟨a1,cap1,vs1,rfl,hle1,hr1,hl1,hm1,ht1⟩:=hb
      split at hl
      ·rename_i h0
       injection hl with hl;injection hl with hv hh;subst hv;subst hh
       have hf:=f2 W rfl
       rw [e0 h0] at hf
       subst h0
       exact Ok.pure sim (kQ hS hX hz hle1 hf) hb'
      ·rename_i h0
       split at hl
       ·rename_i hc
        obtain ⟨q1,hbnd⟩:=hc
        injection hl with hl;injection hl with hv hh;subst hv;subst hh
        have f1:=pY (P:=P) (c:=cap1) q1 hl1 hm1
        have l1:vs1.length=n1 * z:=by rcases q1 with rfl|rfl <;> simp_all
        simp only [jP] at ht1
        obtain ⟨cap,W1,hcap,hh,hos,htp,hop,hrun⟩:=run_append_grow (ty:=ty) hS hX hz hby hzv (f1 W rfl) f2 f1 hb0 hbnd (by omega)
        obtain ⟨G',hrel,hsim,hevo⟩:=yC sim (P:=P) hh hos htp hop (rest:=Go.Builtin.zeroCells zv.cells (cap - (n1+n2))) (E:=E) (z:=z) (cap:=cap) (need:=n1+n2) (cells:=c1++c2) (vs:=vs1++vs2) hz (RelL.append hr1 hr2)
         (by rw [List.length_append,l1,l2,Nat.add_mul]) hcap (by rw [size_zeroCells,hzs])
        have happ:(vs1++vs2).toArray=vs1.toArray++vs2.toArray:=by simp
        rw [happ] at hrel hsim hevo
        exact ⟨G',_,_,hrun,hrel,hsim,hevo⟩
       ·simp at hl
     ·rename_i sz1 c1 n1
      simp only [Rel] at hb
      obtain ⟨a1,cap1,vs1,rfl,hle1,hr1,hl1,hm1,ht1⟩:=hb
      split at hl
      ·rename_i h0
       injection hl with hl;injection hl with hv hh;subst hv;subst hh
       have hf:=f2 W rfl
       rw [e0 h0] at hf
       subst h0
       exact Ok.pure sim (kQ hS hX hz hle1 hf) hb'
      ·rename_i h0
       split at hl
       ·rename_i hc
        obtain ⟨q1,hbnd⟩:=hc
        injection hl with hl;injection hl with hv hh;subst hv;subst hh
        have f1:=pY (P:=P) (c:=cap1) q1 hl1 hm1
        have l1:vs1.length=n1 * z:=by rcases q1 with rfl|rfl <;> simp_all
        simp only [jP] at ht1
        obtain ⟨cap,W1,hcap,hh,hos,htp,hop,hrun⟩:=run_append_grow (ty:=ty) hS hX hz hby hzv (f1 W rfl) f2 f1 hb0 hbnd (by omega)
        obtain ⟨G',hrel,hsim,hevo⟩:=yC sim (P:=P) hh hos htp hop (rest:=Go.Builtin.zeroCells zv.cells (cap - (n1+n2))) (E:=E) (z:=z) (cap:=cap) (need:=n1+n2) (cells:=c1++c2) (vs:=vs1++vs2) hz (RelL.append hr1 hr2)
         (by rw [List.length_append,l1,l2,Nat.add_mul]) hcap (by rw [size_zeroCells,hzs])
        have happ:(vs1++vs2).toArray=vs1.toArray++vs2.toArray:=by simp
        rw [happ] at hrel hsim hevo
        exact ⟨G',_,_,hrun,hrel,hsim,hevo⟩
       ·simp at hl
     ·rename_i k off n1
      simp only [Rel] at hb
      obtain ⟨hkn,cap1,hle1,rfl,hlim⟩:=hb
      split at hl
      ·rename_i h0
       injection hl with hl;injection hl with hv hh;subst hv;subst hh
       have hf:=f2 W rfl
       rw [e0 h0] at hf
       subst h0
       exact Ok.pure sim (kQ hS hX hz hle1 hf) hb'
      ·rename_i h0
       split at hl
       ·rename_i cs E' hk
        split at hl
        ·rename_i hc
         obtain ⟨rfl,rfl,hcs,hbnd⟩:=hc
         injection hl with hl;injection hl with hv hh;subst hv;subst hh
         obtain ⟨hbase,⟨hty,hszk⟩,hst,c,hc,hcl,hcc,hrc⟩:=sim.obj k _ hk
         have hzk:z=(G.obj k).sz:=by rw [hz] at hszk;injection hszk
         have l1:(c.toList.take cs.length).length=n1 * z:=by
          have:c.toList.length=c.size:=Array.length_toList
          rw [List.length_take,this];omega
         have f1:∀ W':World,W'.heap=W.heap→(Go.Builtin.firstCells z n1 (.slice (some ⟨(G.obj k).loc,0,Option.none⟩) n1 cap1)).run P W'=.ok (c.toList.take cs.length).toArray W':=by
          intro W' hW
          have:=run_loadCells_list (P:=P) W' ⟨(G.obj k).loc,0,Option.none⟩ (c.toList.take cs.length) (fun j v hv=>by
           rw [addr_add]
           refine (cell_of_heap (W:=W) (W':=W') (by rw [hW])).trans ?_
           simp only [World.cell?,hc,Nat.zero_add]
           rw [List.getElem?_take] at hv
           split at hv
           ·simpa using hv
           ·simp at hv)
          rw [l1] at this
          simpa [Go.Builtin.firstCells] using this
         by_cases hfit:n1+n2≤cap1
         ·have hmul:(n1+n2) * z≤cap1 * z:=Nat.mul_le_mul_right _ hfit
          rw [Nat.add_mul] at hmul
          have hroom:0+n1 * z+n2 * z≤c.size:=by rw [hzk] at hmul ⊢;omega
          have hrun:=run_append_fits (ty:=ty) hS hX hz (f2 W rfl) hfit hc l2 hroom o2
          let row:Array Value:=(c.toList.take (0+n1 * z+0)++vs2++c.toList.drop (0+n1 * z+0+vs2.length)).toArray
          have hrow:row.size=c.size:=by
           simp only [row,List.size_toArray,List.length_append,List.length_take,List.length_drop,Array.length_toList]
           rw [l2];omega
          let p:Place:=⟨E',(G.obj k).loc,0,(G.obj k).lim,z⟩
          have hat:=mo W (G.obj k).loc row c E' (0,0) hc
          have hbel:=qZ (p:=G.prot) W (G.obj k).loc row hbase
          have e:Evo G W (G.push p (fun _=>False)) (W.setRow (G.obj k).loc row):=Evo.move sim hk p hbel (fun j hj _=>iJ W _ row j hj)
          have htake:row.toList.take (cs++c2).length=c.toList.take cs.length++vs2:=by
           have hc2:=RelL.length hr2
           rw [List.length_append,← hc2]
           simp only [row,Nat.zero_add,Nat.add_zero]
           rw [← hcs]
           have:(c.toList.take cs.length++vs2).length=cs.length+vs2.length:=by rw [List.length_append,l1,hcs]
           rw [← this,List.take_left]
          refine ⟨_,_,_,hrun,?_,Sim.move sim hk (p:=p) rfl e (fun j hj _=>iJ W _ row j hj) ⟨?_,?_,?_,row,?_,?_,?_,?_⟩,e,Nat.le_refl _⟩
          ·simp only [Rel]
           rw [Gh.push_obj]
           exact ⟨Nat.lt_succ_self _,cap1,hfit,rfl,fun _=>by simp only [p];rw [hzk];exact hlim rfl⟩
          ·rw [Gh.push_obj];exact hbase
          ·rw [Gh.push_obj];exact ⟨rfl,hz⟩
          ·intro o hs
           rw [Gh.push_obj] at hs
           rcases hs with hs|hs
           ·exact hst o hs
           ·exact hs.2
          ·rw [Gh.push_obj];exact hat
          ·rw [Gh.push_obj,hrow];exact hcl
          ·rw [List.length_append,hcs,← RelL.length hr2,l2,hrow];omega
          ·rw [htake];exact RelL.append (RelL.mono e _ _ hrc) (RelL.mono e _ _ hr2)
         ·obtain ⟨cap,W1,hcap,hh,hos,htp,hop,hrun⟩:=run_append_grow (ty:=ty) hS hX hz hby hzv (f1 W rfl) f2 f1 hb0 hbnd (by omega)
          obtain ⟨G',hrel,hsim,hevo⟩:=yC (sim.kill (i:=k)) (P:=P) hh hos htp hop (rest:=Go.Builtin.zeroCells zv.cells (cap - (n1+n2))) (E:=E') (z:=z) (cap:=cap) (need:=n1+n2) (cells:=cs++c2) (vs:=c.toList.take cs.length++vs2) hz (RelL.append hrc hr2)
           (by rw [List.length_append,l1,l2,Nat.add_mul]) hcap (by rw [size_zeroCells,hzs])
          have happ:(c.toList.take cs.length++vs2).toArray=(c.toList.take cs.length).toArray++vs2.toArray:=by simp
          rw [happ] at hrel hsim hevo
          exact ⟨G',_,_,hrun,hrel,hsim,hevo⟩
        ·simp at hl
       ·simp at hl
     ·simp at hl
    ·simp at hl
   ·simp at hl
  ·simp at hl
 ·simp at hl
def Gh.freeze (G:Gh) (p m:Nat):Gh:={ G with stable:=fun b o=>G.stable b o∨(b=(G.obj p).loc∧o<m) }
theorem Evo.freeze (p m:Nat) (hp:¬ G.prot (G.obj p).loc):Evo G W (G.freeze p m) W :=
 ⟨rfl,Nat.le_refl _,fun _ _=>rfl,fun b o v hs hc=>⟨.inl hs,hc⟩,Keep.refl _ _,fun b o hb hs=>hs.resolve_right fun e=>hp (e.1 ▸ hb)⟩
theorem Sim.freeze {p m:Nat} {cs:List AV} {T:TypeId} (s:Sim P G h W) (hp:h p=some (.cells cs T)):Sim P (G.freeze p m) (upd h p Option.none) W:=by
 have s':=s.kill (i:=p)
 refine ⟨s'.dom,fun i o hi=>(s'.obj i o hi).kept (Evo.freeze p m (s.obj p _ hp).mine) (s'.dom i o hi) rfl (fun k hk=>?_),s'.inj,fun b o hb=>?_,s.prt⟩
 ·rcases hk with hk|hk
  ·exact hk
  ·obtain ⟨hne,hi'⟩:=pI hi
   exact (hne (s.inj i p o _ hi' hp hk.1)).elim
 ·rcases hb with hb|hb
  ·exact s.stab b o hb
  ·rw [hb.1];exact (s.obj p _ hp).lt
theorem Rel.freeze {p z n:Nat} {cs:List AV} {T:TypeId} (s:Sim P G h W) (hp:h p=some (.cells cs T)) (hl:cs.length=n * z) (hf:cs.all AV.flat=true) {v:Value} (hr:Rel G W (.sl p 0 n) v):Rel (G.freeze p cs.length) W (.list z cs n .none) v:=by
 simp only [Rel] at hr ⊢
 obtain ⟨_,c,hnc,rfl,hlim⟩:=hr
 obtain ⟨hbase,hty,hst,row,hrow,hlr,hcr,hrel⟩:=s.obj p _ hp
 have hrl:(row.toList.take cs.length).length=cs.length:=by
  have:row.toList.length=row.size:=Array.length_toList
  rw [List.length_take,this];omega
 refine ⟨_,c,row.toList.take cs.length,rfl,hnc,RelL.mono (Evo.freeze p cs.length hbase) _ _ hrel,by rw [hrl,hl],.inr ⟨_,_,rfl,fun j v hv=>?_⟩,trivial⟩
 have hj:j<cs.length:=by rw [← hrl];exact (List.getElem?_eq_some_iff.1 hv).1
 refine ⟨?_,.inr ⟨rfl,by omega⟩,RelL.flat hrel hf v (List.mem_of_getElem? hv)⟩
 rw [List.getElem?_take,if_pos hj] at hv
 simp only [World.cell?,hrow,Nat.zero_add]
 simpa using hv
end
section
variable {P:Program} {G:Gh} {h:ai} {W:World}
def Lu (P:Program) (t:TypeId) (f:Nat):Option (Nat × Bool × Nat) :=
 match P.underlying t with
 |some (.struct fs)=>match fs[f]? with
  |some q=>match tagg P q.type,tsz P q.type with
   |some g,some z=>some (q.offset,g,z)
   |_,_=>Option.none
  |_=>Option.none
 |_=>Option.none
def Fz (P:Program) (t:TypeId) (x:AV) (f:Nat):Option AV :=
 match x,Lu P t f with
 |.agg cs,some (o,g,z)=>zu g z (cs.drop o)
 |_,_=>Option.none
theorem Pm {T:TypeId} {g:Bool} {z off:Nat} {cells:List AV} {vs:Array Value} {v:AV} (hg:tagg P T=some g) (hz:tsz P T=some z)
  (hr:RelL G W cells vs.toList) (hp:zu g z (cells.drop off)=some v):∃ v',(part T vs off).run P W=.ok v' W∧Rel G W v v':=by
 have hl:=RelL.length hr
 unfold zu at hp
 cases g with
 |true =>
  simp only [if_true] at hp
  split at hp
  ·rename_i hle
   injection hp with hp
   subst hp
   have hrd:=RelL.take z (RelL.drop off hr)
   refine ⟨.agg (vs.extract off (off+z)),?_,?_⟩
   ·simp only [part,Sem.run_bind,sG hg,Result.andThen_ok,if_true,run_sizeOf hz,Sem.run_pure]
   ·simp only [Rel]
    refine ⟨_,rfl,?_⟩
    rw [Array.toList_extract]
    have:(List.drop off vs.toList).take z=List.extract vs.toList off (off+z):=by
     simp [List.extract_eq_take_drop]
    rw [← this];exact hrd
  ·simp at hp
 |false =>
  simp only [Bool.false_eq_true,if_false] at hp
  rw [List.head?_drop] at hp
  obtain ⟨v',hv',hrel⟩:=RelL.get hr hp
  refine ⟨v',?_,hrel⟩
  have hv2:vs[off]?=some v':=by simpa using hv'
  simp only [part,Sem.run_bind,sG hg,Result.andThen_ok,Bool.false_eq_true,if_false,hv2,Sem.run_pure]
theorem Mw (sim:Sim P G h W) {T:TypeId} {x v:AV} {x':Value} {f:Nat} (hx:Rel G W x x') (hl:Fz P T x f=some v):OkK 0 P G W (Instr.field T x' f) v h:=by
 unfold Fz at hl
 split at hl
 ·rename_i cs o g z hf
  simp only [Rel] at hx
  obtain ⟨vs,rfl,hr⟩:=hx
  unfold Lu at hf
  split at hf
  ·rename_i fs hu
   split at hf
   ·rename_i q hq
    split at hf
    ·rename_i g' z' hg hz
     injection hf with hf
     simp only [Prod.mk.injEq] at hf
     obtain ⟨rfl,rfl,rfl⟩:=hf
     obtain ⟨v',hv',hrel⟩:=Pm (P:=P) (T:=q.type) hg hz hr hl
     refine Ok.pure sim (v':=v') ?_ hrel
     simp only [Instr.field,Sem.run_bind,run_underlying hu,Result.andThen_ok,hq,asAgg,Sem.run_pure]
     exact hv'
    ·simp at hf
   ·simp at hf
  ·simp at hf
 ·simp at hl
def Br (P:Program) (t:TypeId) (x i:AV):Option AV :=
 match x,i with
 |.str s,.int _ n=>match tk P t with
  |some .string=>if 0≤n then (match s[n.toNat]? with|some b=>some (.int .u8 b.toNat)|_=>Option.none) else Option.none
  |_=>Option.none
 |_,_=>Option.none
theorem F9 (sim:Sim P G h W) {T:TypeId} {x i v:AV} {x' i':Value} (hx:Rel G W x x') (hi:Rel G W i i') (hl:Br P T x i=some v):OkK 0 P G W (Instr.index T x' i') v h:=by
 unfold Br at hl
 split at hl
 ·rename_i s k n
  simp only [Rel] at hx hi
  subst hx;subst hi
  split at hl
  ·rename_i hT
   have hu:=oD hT
   split at hl
   ·rename_i h0
    split at hl
    ·rename_i b hb
     injection hl with hl;subst hl
     refine Ok.pure sim (v':=.int .u8 b.toNat) ?_ (by simp [Rel])
     simp only [Instr.index,asIntOf,Sem.run_bind,Sem.run_pure,Result.andThen_ok,run_underlying hu,h0,if_true,hb]
    ·simp at hl
   ·simp at hl
  ·simp at hl
 ·simp at hl
theorem Sim.newObj (sim:Sim P G h W) (o:Obj) (q:AObj) (p:Place) (hp:p.loc=W.heap.size) (hq:jB P (G.push p (fun _=>False)) (W.alloc o) G.n q) :
  Sim P (G.push p (fun _=>False)) (upd h G.n (some q)) (W.alloc o)∧Evo G W (G.push p (fun _=>False)) (W.alloc o) :=
 ⟨sim.push hp _ _ _ hq,Evo.push sim hp _ _⟩
theorem Sim.setObj (sim:Sim P G h W) {i:Nat} {a q:AObj} (hi:h i=some a) {o o':Obj} (ho:W.heap[(G.obj i).loc]?=some o) (hnc:∀ c T fr,o≠.cells c T fr)
  (hq:∀ W',Evo G W G W'→W'.heap[(G.obj i).loc]?=some o'→jB P G W' i q) :
  (Go.setObj (G.obj i).loc o').run P W=.ok () { W with heap:=W.heap.setIfInBounds (G.obj i).loc o' } ∧
  Sim P G (upd h i (some q)) { W with heap:=W.heap.setIfInBounds (G.obj i).loc o' }∧Evo G W G { W with heap:=W.heap.setIfInBounds (G.obj i).loc o' }:=by
 have hlt:(G.obj i).loc<W.heap.size:=(Array.getElem?_eq_some_iff.1 ho).1
 have hk':∀ j,j≠(G.obj i).loc→({ W with heap:=W.heap.setIfInBounds (G.obj i).loc o' }:World).heap[j]?=W.heap[j]?:=by
  intro j hj
  show (W.heap.setIfInBounds (G.obj i).loc o')[j]?=_
  rw [Array.getElem?_setIfInBounds,if_neg (by omega)]
 have hm:=(sim.obj i _ hi).mine
 have hbel:Keep G.prot W { W with heap:=W.heap.setIfInBounds (G.obj i).loc o' }:=⟨rfl,rfl,rfl,by simp,fun j hj=>hk' j (fun e=>hm (e ▸ hj))⟩
 have e:Evo G W G { W with heap:=W.heap.setIfInBounds (G.obj i).loc o' }:=Evo.write (b:=(G.obj i).loc) hbel (fun j hj _=>hk' j hj) sim.stab (fun j u _ hc=>by
  simp only [World.cell?,ho] at hc
  cases o <;> first|(exact absurd rfl (hnc _ _ _))|simp at hc)
 refine ⟨by simp only [Go.setObj,Sem.run,ho],sim.write hi e (fun j hj _=>hk' j hj) (hq _ e ?_),e⟩
 show (W.heap.setIfInBounds (G.obj i).loc o')[(G.obj i).loc]?=_
 simp [hlt]
def Bp (P:Program) (t:TypeId) (x:AV) (h:ai) (p:Nat):Option (AV × ai) :=
 match x with
 |.map m=>match tmap P t,h m with
  |some _,some (.map _ clock)=>some (.ptr p 0,upd h p (some (.iter (some m) clock [] clock)))
  |_,_=>Option.none
 |.nilmap=>match tmap P t with
  |some _=>some (.ptr p 0,upd h p (some (.iter Option.none 0 [] 0)))
  |_=>Option.none
 |.str s=>match tk P t with
  |some .string=>some (.ptr p 0,upd h p (some (.siter s 0)))
  |_=>Option.none
 |_=>Option.none
theorem PH (sim:Sim P G h W) {T:TypeId} {x v:AV} {x':Value} {h':ai} (hx:Rel G W x x') (hl:Bp P T x h G.n=some (v,h')):Ok P G W (Instr.range T x') v h':=by
 have mk:∀ (o:Obj) (q:AObj),(∀ G' W' i,G'.n=G.n+1→(∀ j,j<G.n→G'.obj j=G.obj j)→G'.prot=G.prot→(G'.obj i).loc=W.heap.size→W'.heap[(G'.obj i).loc]?=some o→jB P G' W' i q) →
   ∃ G',Sim P G' (upd h G.n (some q)) (W.alloc o)∧Evo G W G' (W.alloc o)∧G'.n≤G.n+1∧Rel G' (W.alloc o) (.ptr G.n 0) (.pointer (some ⟨W.heap.size,0,Option.none⟩)):=by
  intro o q hq
  let p:Place:=⟨0,W.heap.size,0,0,0⟩
  obtain ⟨s,e⟩:=Sim.newObj sim o q p rfl (hq _ _ _ rfl (fun j hj=>Gh.push_old G p _ hj) rfl (by rw [Gh.push_obj]) (by rw [Gh.push_obj];exact dI _ _))
  refine ⟨_,s,e,Nat.le_refl _,?_⟩
  simp only [Rel]
  exact ⟨Nat.lt_succ_self _,by rw [Gh.push_obj]⟩
 unfold Bp at hl
 split at hl
 ·rename_i m
  split at hl
  ·rename_i q es clock hq hm
   obtain ⟨k,e⟩:=q
   have hu:=gy hq
   injection hl with hl;injection hl with hv hh;subst hv;subst hh
   simp only [Rel] at hx
   obtain ⟨hmn,rfl⟩:=hx
   obtain ⟨hpm,l,hl,_⟩:=sim.obj m _ hm
   obtain ⟨G',s,e',hn,hr⟩:=mk (.mapIter (some (G.obj m).loc) clock #[] clock) (.iter (some m) clock [] clock) (fun G' W' i hn ho hp hlo hw=>by
    refine ⟨by rw [hp,hlo];exact sim.mine,fun k hk=>by injection hk with hk;omega,?_⟩
    rw [hw,Option.map_some,ho m hmn])
   refine ⟨G',_,_,?_,hr,s,e',hn⟩
   simp only [Instr.range,Sem.run_bind,run_underlying hu,Result.andThen_ok]
   have hget:(getObj (G.obj m).loc).run P W=.ok (.map l clock) W:=by simp only [getObj,Sem.run,hl]
   simp only [hget,Result.andThen_ok,Sem.run_pure,run_newObj,Sem.run_bind]
   rfl
  ·simp at hl
 ·split at hl
  ·rename_i q hq
   obtain ⟨k,e⟩:=q
   have hu:=gy hq
   injection hl with hl;injection hl with hv hh;subst hv;subst hh
   simp only [Rel] at hx
   subst hx
   obtain ⟨G',s,e',hn,hr⟩:=mk (.mapIter Option.none 0 #[] 0) (.iter Option.none 0 [] 0) (fun G' W' i hn ho hp hlo hw=>by
    refine ⟨by rw [hp,hlo];exact sim.mine,fun k hk=>by simp at hk,?_⟩
    rw [hw];rfl)
   refine ⟨G',_,_,?_,hr,s,e',hn⟩
   simp only [Instr.range,Sem.run_bind,run_underlying hu,Result.andThen_ok,Sem.run_pure,run_newObj]
   rfl
  ·simp at hl
 ·rename_i str
  split at hl
  ·rename_i hT
   have hu:=oD hT
   injection hl with hl;injection hl with hv hh;subst hv;subst hh
   simp only [Rel] at hx
   subst hx
   obtain ⟨G',s,e',hn,hr⟩:=mk (.stringIter str 0) (.siter str 0) (fun G' W' i hn ho hp hlo hw=>⟨by rw [hp,hlo];exact sim.mine,hw⟩)
   refine ⟨G',_,_,?_,hr,s,e',hn⟩
   simp only [Instr.range,Sem.run_bind,run_underlying hu,Result.andThen_ok,Sem.run_pure,run_newObj]
   rfl
  ·simp at hl
 ·simp at hl
def FB (x:AV) (h:ai):Option AV :=
 match x with
 |.ptr i 0=>match h i with
  |some (.iter (some m) _ seen last)=>match h m with
   |some (.map es clock)=>if clock=last then (match seen.getLast? with
    |some s=>match es.find? (fun e=>e.2.2==s) with
     |some e=>some (.tuple [e.1,e.2.1])
     |_=>Option.none
    |_=>Option.none) else Option.none
   |_=>Option.none
  |_=>Option.none
 |_=>Option.none
theorem RelE.find {s:Nat}:∀ {es:List (AV × AV × Nat)} {l:List MapEntry} {e:AV × AV × Nat},RelE G W es l→es.find? (fun e=>e.2.2==s)=some e→∃ e',l.find? (fun e=>e.born==s)=some e'∧Rel G W e.1 e'.key∧Rel G W e.2.1 e'.val
 |[],l,e,_,hf=>by simp at hf
 |(k,v,n)::es,l,e,hr,hf=>by
  simp only [RelE] at hr
  obtain ⟨x,r,rfl,hk,hv,hb,hr⟩:=hr
  simp only [List.find?_cons] at hf ⊢
  rw [hb]
  cases hn:(n==s) with
  |true =>
   rw [hn] at hf
   injection hf with hf;subst hf
   exact ⟨x,rfl,hk,hv⟩
  |false =>
   rw [hn] at hf
   exact RelE.find hr hf
theorem PL (sim:Sim P G h W) {x v:AV} {x':Value} (hx:Rel G W x x') (hl:FB x h=some v):OkK 0 P G W (Instr.entry x') v h:=by
 unfold FB at hl
 split at hl
 ·rename_i i
  simp only [Rel] at hx
  obtain ⟨hin,rfl⟩:=hx
  split at hl
  ·rename_i m since seen last hi
   obtain ⟨_,hm,hit⟩:=sim.obj i _ hi
   split at hl
   ·rename_i es clock hmm
    obtain ⟨_,l,hlm,hre⟩:=sim.obj m _ hmm
    split at hl
    ·rename_i hc
     subst hc
     split at hl
     ·rename_i s hs
      split at hl
      ·rename_i e he
       injection hl with hl;subst hl
       obtain ⟨e',hf,hk,hv⟩:=RelE.find hre he
       refine Ok.pure sim (v':=.tuple #[e'.key,e'.val]) ?_ (by simp only [Rel,RelL];exact ⟨_,rfl,_,_,rfl,hk,_,_,rfl,hv,rfl⟩)
       have h1:(getObj (G.obj i).loc).run P W=.ok (.mapIter (some (G.obj m).loc) since seen.toArray clock) W:=by simp only [getObj,Sem.run,hit];rfl
       have h2:(getObj (G.obj m).loc).run P W=.ok (.map l clock) W:=by simp only [getObj,Sem.run,hlm]
       have h3:seen.toArray.back?=some s:=by simpa using hs
       have h4:l.find? (fun e=>e.born==s)=some e':=by rw [← Array.find?_toList];exact hf
       simp only [Instr.entry,Sem.run_bind,h1,Result.andThen_ok,h3,h2,bne_self_eq_false,Bool.false_eq_true,if_false,h4,Sem.run_pure]
      ·simp at hl
     ·simp at hl
    ·simp at hl
   ·simp at hl
  ·simp at hl
 ·simp at hl
def rT (es:List (AV × AV × Nat)) (seen:List Nat):List (AV × AV × Nat):=es.filter fun e=>!seen.contains e.2.2
def zw (x:AV) (h:ai) (next:AV→ai→Prop):Prop :=
 match x with
 |.ptr i 0=>match h i with
  |some (.iter Option.none _ _ _)=>next (.tuple [.bool false]) h
  |some (.iter (some m) since seen last)=>match h m with
   |some (.map es clock)=>since≤last∧(∀ e ∈ es,e.2.2<since)∧(rT es seen=[]→next (.tuple [.bool false]) h) ∧
     ∀ e ∈ rT es seen,next (.tuple [.bool true,e.1,e.2.1]) (upd h i (some (.iter (some m) since (seen++[e.2.2]) clock)))
   |_=>False
  |_=>False
 |_=>False
theorem RelE.born {es:List (AV × AV × Nat)}:∀ {l:List MapEntry},RelE G W es l→∀ {x},x ∈ l→∃ e ∈ es,e.2.2=x.born∧Rel G W e.1 x.key∧Rel G W e.2.1 x.val:=by
 induction es with
 |nil=>intro l h x hx;simp only [RelE] at h;subst h;cases hx
 |cons a es ih =>
  intro l h x hx
  obtain ⟨k,v,n⟩:=a
  simp only [RelE] at h
  obtain ⟨y,r,rfl,hk,hv,hb,hr⟩:=h
  rcases List.mem_cons.1 hx with rfl|hx
  ·exact ⟨_,List.mem_cons_self,hb.symm,hk,hv⟩
  ·obtain ⟨e,he,h1⟩:=ih hr hx;exact ⟨e,List.mem_cons_of_mem _ he,h1⟩
theorem RelE.born' {es:List (AV × AV × Nat)}:∀ {l:List MapEntry},RelE G W es l→∀ {e},e ∈ es→∃ x ∈ l,e.2.2=x.born:=by
 induction es with
 |nil=>intro l h e he;cases he
 |cons a es ih =>
  intro l h e he
  obtain ⟨k,v,n⟩:=a
  simp only [RelE] at h
  obtain ⟨y,r,rfl,hk,hv,hb,hr⟩:=h
  rcases List.mem_cons.1 he with rfl|he
  ·exact ⟨_,List.mem_cons_self,hb.symm⟩
  ·obtain ⟨x,hx,h1⟩:=ih hr he;exact ⟨x,List.mem_cons_of_mem _ hx,h1⟩
theorem Bq {x:AV} {next next':AV→ai→Prop} (hn:zw x h next) (hk:∀ v h',next v h'→next' v h'):zw x h next':=by
 unfold zw at hn ⊢
 split at hn
 ·split at hn
  ·exact hk _ _ hn
  ·split at hn
   ·exact ⟨hn.1,hn.2.1,fun h0=>hk _ _ (hn.2.2.1 h0),fun e he=>hk _ _ (hn.2.2.2 e he)⟩
   ·exact hn.elim
  ·exact hn.elim
 ·exact hn.elim
theorem BK (sim:Sim P G h W) {x:AV} {x':Value} {ty:TypeId} {next:AV→ai→Prop} (hx:Rel G W x x') (hn:zw x h next) :
  ∃ v h',next v h'∧Ok P G W (Instr.next x' false ty) v h'∧∃ v' W',(Instr.next x' false ty).run P W=.ok v' W'∧∃ G',Sim P G' h' W'∧Rel G' W' v v'∧Evo G W G' W'∧G'.n=G.n:=by
 unfold zw at hn
 split at hn
 ·rename_i i
  simp only [Rel] at hx
  obtain ⟨hin,rfl⟩:=hx
  split at hn
  ·rename_i since seen last hi
   obtain ⟨_,_,hit⟩:=sim.obj i _ hi
   have h1:(getObj (G.obj i).loc).run P W=.ok (.mapIter Option.none since seen.toArray last) W:=by simp only [getObj,Sem.run,hit];rfl
   have hr:(Instr.next (.pointer (some ⟨(G.obj i).loc,0,Option.none⟩)) false ty).run P W=.ok (.tuple #[.bool false]) W:=by
    simp only [Instr.next,Sem.run_bind,h1,Result.andThen_ok,Sem.run_pure]
   exact ⟨_,_,hn,Ok.pure sim hr (by simp [Rel,RelL]),_,_,hr,G,sim,by simp [Rel,RelL],Evo.refl _ _,rfl⟩
  ·rename_i m since seen last hi
   obtain ⟨_,hm,hit⟩:=sim.obj i _ hi
   split at hn
   ·rename_i es clock hmm
    obtain ⟨hsl,hold,hnil,hcons⟩:=hn
    obtain ⟨_,l,hlm,hre⟩:=sim.obj m _ hmm
    have h1:(getObj (G.obj i).loc).run P W=.ok (.mapIter (some (G.obj m).loc) since seen.toArray last) W:=by simp only [getObj,Sem.run,hit];rfl
    have h2:(getObj (G.obj m).loc).run P W=.ok (.map l clock) W:=by simp only [getObj,Sem.run,hlm]
    have hold':∀ x ∈ l.toList,x.born<since:=fun x hx=>by
     obtain ⟨e,he,hb,_⟩:=RelE.born hre hx
     rw [← hb];exact hold e he
    have htest:=next_test_false seen.toArray l since last hold' hsl
    have hmem:∀ x ∈ (Array.filter (fun e=>!seen.toArray.contains e.born) l).toList,x.born<since:=fun x hx=>hold' x (by simp at hx ⊢;exact hx.1)
    have hleft:∀ x ∈ (Array.filter (fun e=>!seen.toArray.contains e.born) l).toList,∃ e ∈ rT es seen,e.2.2=x.born∧Rel G W e.1 x.key∧Rel G W e.2.1 x.val:=by
     intro x hx
     simp only [Array.toList_filter,List.mem_filter] at hx
     obtain ⟨e,he,hb,hk,hv⟩:=RelE.born hre hx.1
     refine ⟨e,List.mem_filter.2 ⟨he,?_⟩,hb,hk,hv⟩
     have:=hx.2
     rw [hb]
     simpa using this
    have hleft0:(Array.filter (fun e=>!seen.toArray.contains e.born) l).size=0→rT es seen=[]:=by
     intro h0
     unfold rT
     rw [List.filter_eq_nil_iff]
     intro e he
     obtain ⟨x,hx,hb⟩:=RelE.born' hre he
     have hnone:Array.filter (fun e=>!seen.toArray.contains e.born) l=#[]:=Array.eq_empty_of_size_eq_zero h0
     rw [Array.filter_eq_empty_iff] at hnone
     have:=hnone x (by simpa using hx)
     rw [hb]
     simpa using this
    generalize hL:Array.filter (fun e=>!seen.toArray.contains e.born) l=L at hmem hleft hleft0
    have e1:L.filter (fun x=>decide (x.born<since))=L:=Array.filter_eq_self.2 (fun x hx=>by simpa using hmem x (by simpa using hx))
    have e2:L.filter (fun x=>decide (x.born≥since))=#[]:=by
     rw [Array.filter_eq_empty_iff]
     intro x hx
     have:=hmem x (by simpa using hx)
     simp
     omega
    by_cases h0:L.size=0
    ·have hLe:L=#[]:=Array.eq_empty_of_size_eq_zero h0
     have hr:(Instr.next (.pointer (some ⟨(G.obj i).loc,0,Option.none⟩)) false ty).run P W=.ok (.tuple #[.bool false]) W:=by
      simp only [Instr.next,Sem.run_bind,h1,Result.andThen_ok,h2,htest,Bool.false_eq_true,if_false,hL,hLe]
      simp [choose,Sem.run,Question.forced]
     exact ⟨_,_,hnil (hleft0 h0),Ok.pure sim hr (by simp [Rel,RelL]),_,_,hr,G,sim,by simp [Rel,RelL],Evo.refl _ _,rfl⟩
    ·have hne:L.isEmpty=false:=by simp [Array.isEmpty,h0]
     have hch:∃ (j:Nat) (W1:World),j<L.size∧(W1=W∨W1={ W with drawn:=W.drawn+1 })∧(choose (Question.mapNext L.size)).run P W=.ok j W1:=by
      by_cases hf:L.size≤1
      ·exact ⟨0,W,by omega,.inl rfl,by simp [choose,Sem.run,Question.forced,hf]⟩
      ·exact ⟨_,{ W with drawn:=W.drawn+1 },Nat.mod_lt _ (by omega),.inr rfl,by
        simp only [choose,Sem.run,Question.forced,decide_eq_true_eq,hf,if_false,Question.cut]
        rfl⟩
     obtain ⟨j,W1,hj,hW1,hrun⟩:=hch
     have sim1:Sim P G h W1:=by
      rcases hW1 with rfl|rfl
      ·exact sim
      ·exact sim.same rfl rfl rfl rfl
     have ev1:Evo G W G W1:=by
      rcases hW1 with rfl|rfl
      ·exact Evo.refl _ _
      ·exact Evo.same rfl rfl rfl rfl
     have hit1:W1.heap[(G.obj i).loc]?=some (.mapIter (some (G.obj m).loc) since seen.toArray last):=by
      rcases hW1 with rfl|rfl <;> exact hit
     obtain ⟨e,he,hb,hk,hv⟩:=hleft L[j] (by simp)
     obtain ⟨hset,sim2,ev2⟩:=Sim.setObj sim1 hi (o':=.mapIter (some (G.obj m).loc) since (seen.toArray.push L[j].born) clock) (q:=.iter (some m) since (seen++[e.2.2]) clock) hit1 (fun _ _ _=>by simp) (fun W' e' hw=>by
      refine ⟨(sim.obj i _ hi).mine,hm,?_⟩
      rw [hw,hb]
      simp)
     have hr:(Instr.next (.pointer (some ⟨(G.obj i).loc,0,Option.none⟩)) false ty).run P W=.ok (.tuple #[.bool true,L[j].key,L[j].val]) { W1 with heap:=W1.heap.setIfInBounds (G.obj i).loc (.mapIter (some (G.obj m).loc) since (seen.toArray.push L[j].born) clock) }:=by
      simp only [Instr.next,Sem.run_bind,h1,Result.andThen_ok,h2,htest,Bool.false_eq_true,if_false,hL,e1,e2,hne,Array.append_empty,Array.empty_append,Array.size_map,hrun,Array.getElem?_map,Array.getElem?_eq_getElem hj,Option.map_some,hset,Sem.run_pure]
     have ev:=ev1.trans ev2
     have hrel:Rel G { W1 with heap:=W1.heap.setIfInBounds (G.obj i).loc (.mapIter (some (G.obj m).loc) since (seen.toArray.push L[j].born) clock) } (.tuple [.bool true,e.1,e.2.1]) (.tuple #[.bool true,L[j].key,L[j].val]):=by
      simp only [Rel,RelL]
      exact ⟨_,rfl,_,_,rfl,rfl,_,_,rfl,Rel.mono ev _ _ hk,_,_,rfl,Rel.mono ev _ _ hv,rfl⟩
     exact ⟨_,_,hcons e he,⟨G,_,_,hr,hrel,sim2,ev,Nat.le_succ _⟩,_,_,hr,G,sim2,hrel,ev,rfl⟩
   ·exact hn.elim
  ·exact hn.elim
 ·exact hn.elim
end
section
variable {P:Program} {G:Gh} {h:ai} {W:World}
inductive Re where
 |normal
 |exit (id:Nat)
 |ret
 |panic (v:AV)
abbrev Env:=Nat→AV
abbrev AK:=Re→Env→ai→Prop
def eupd (τ:Env) (d:Nat) (v:AV):Env:=fun t=>bif t==d then v else τ t
theorem Uh (τ:Env) (d:Nat) (v:AV) (t:Nat):eupd τ d v t=bif t==d then v else τ t:=rfl
def aPut (τ:Env):Option Nat→AV→Env
 |some d,v=>eupd τ d v
 |Option.none,_=>τ
def aR (τ:Env):Operand→AV
 |.tmp t=>τ t
 |.const v=>ofConst v
 |.global _=>.any
 |.func f=>.func (.func f) [] []
structure RelT (nt:Nat) (G:Gh) (W:World) (τ:Env) (a:Act):Prop where
 size:a.tmps.size=nt
 get:∀ t,Rel G W (τ t) (a.tmps.getD t undef)
theorem RelT.mono {nt:Nat} {G':Gh} {W':World} {τ:Env} {a:Act} (e:Evo G W G' W') (r:RelT nt G W τ a):RelT nt G' W' τ a:=⟨r.size,fun t=>Rel.mono e _ _ (r.get t)⟩
theorem RelT.eval {nt:Nat} {τ:Env} {a:Act} (r:RelT nt G W τ a) (x:Operand):Rel G W (aR τ x) (a.eval x):=by
 cases x with
 |tmp t=>exact r.get t
 |const v=>exact Rel.ofConst v
 |global g=>simp [aR,Rel]
 |func f=>simp only [aR,Act.eval,Rel];exact ⟨#[],#[],rfl,by simp [RelL],by simp [RelL]⟩
theorem RelT.put {nt:Nat} {τ:Env} {a:Act} (r:RelT nt G W τ a) {dst:Option Nat} (hd:∀ d,dst=some d→d<nt) {v:AV} {v':Value} (hv:Rel G W v v'):RelT nt G W (aPut τ dst v) (a.put dst v'):=by
 cases dst with
 |none=>exact r
 |some d =>
  have hd:=hd d rfl
  refine ⟨by simp [Act.put,r.size],fun t=>?_⟩
  simp only [aPut,eupd,Act.put]
  by_cases e:t=d
  ·subst e
   simp only [beq_self_eq_true,cond_true]
   have hs:=r.size
   simpa [Array.getD,hs,hd] using hv
  ·have:(t==d)=false:=by simpa using e
   simp only [this,cond_false]
   have:=r.get t
   have e':d≠t:=fun h=>e h.symm
   simpa [Array.getD_eq_getD_getElem?,Array.getElem?_setIfInBounds_ne e'] using this
def aNot:AV→Option AV
 |.bool b=>some (.bool (!b))
 |_=>Option.none
def aNeg:AV→Option AV
 |.int k n=>some (.int k (k.wrap (0 - n)))
 |_=>Option.none
def mh (P:Program) (s d:TypeId) (x:AV):Option AV :=
 match tk P s,tk P d,x with
 |some _,some (.int k),.int _ n=>some (.int k (k.wrap n))
 |some _,some .string,.str s=>some (.str s)
 |_,_,_=>Option.none
def OE (P:Program) (t:TypeId) (x:AV):Option AV :=
 match tk P t with
 |some .iface=>Option.none
 |some _=>some (.iface t x)
 |Option.none=>Option.none
def aNil:AV→Option AV
 |.ptr i o=>some (.ptr i o)
 |.cptr c o=>some (.cptr c o)
 |.func (.func f) a b=>some (.func (.func f) a b)
 |_=>Option.none
def uE:AV→Nat→Option AV
 |.tuple vs,i=>vs[i]?
 |_,_=>Option.none
def aLen (P:Program) (t:TypeId) (x:AV):Option AV :=
 match tk P t,x with
 |some (.slice _),.list _ _ n _=>some (.int .i64 n)
 |some (.slice _),.sl _ _ n=>some (.int .i64 n)
 |some .string,.str s=>some (.int .i64 s.size)
 |_,_=>Option.none
def aMax:AV→AV→Option AV
 |.int k x,.int k' y=>if k=k' then some (.int k (if y>x then y else x)) else Option.none
 |_,_=>Option.none
def aMin:AV→AV→Option AV
 |.int k x,.int k' y=>if k=k' then some (.int k (if y<x then y else x)) else Option.none
 |_,_=>Option.none
def jX (P:Program) (b:Builtin) (ts:List TypeId) (xs:List AV) (h:ai) (p:Nat):Option (AV × ai) :=
 match b,ts,xs with
 |.append,[tS,tX],[s,x]=>dX P tS tX s (unSl P h x) h p
 |.len,[t],[x]=>(aLen P t x).map (·,h)
 |.max,_,[x,y]=>(aMax x y).map (·,h)
 |.min,_,[x,y]=>(aMin x y).map (·,h)
 |_,_,_=>Option.none
def aop (P:Program) (o:Op) (e:Operand→AV) (h:ai) (p:Nat):Option (AV × ai) :=
 match o with
 |.move x=>some (e x,h)
 |.assign x=>some (e x,h)
 |.pick c a b=>match e c with
  |.bool t=>some (bif t then e a else e b,h)
  |_=>Option.none
 |.alloc T=>match tsz P T,bI P T with
  |some _,some zv=>if (ofConst zv).known=true then some (.ptr p 0,upd h p (some (.cells (ofConst zv).cells T))) else Option.none
  |_,_=>Option.none
 |.box T x=>match tsz P T with
  |some _=>if (e x).known=true then some (.ptr p 0,upd h p (some (.cells (e x).cells T))) else Option.none
  |_=>Option.none
 |.build t parts=>(dL P t (parts.toList.map fun q=>(q.1,e q.2))).map (·,h)
 |.buildSlice t len parts=>(bn P t len (parts.toList.map fun q=>(q.1,e q.2))).map (·,h)
 |.load t a=>(CY P t (e a) h).map (·,h)
 |.store t a x=>(l9 P t (e a) (e x) h).map (.tuple [],·)
 |.nilCheck x=>(aNil (e x)).map (·,h)
 |.binOp op t x y _=>(aBin P op t (e x) (e y)).map (·,h)
 |.unOp .not _ x=>(aNot (e x)).map (·,h)
 |.unOp .neg _ x=>(aNeg (e x)).map (·,h)
 |.field t x f=>(Fz P t (e x) f).map (·,h)
 |.index t x i=>(Br P t (e x) (e i)).map (·,h)
 |.range t x=>Bp P t (e x) h p
 |.entry x=>(FB (e x) h).map (·,h)
 |.convert s d x=>(mh P s d (e x)).map (·,h)
 |.makeInterface t x=>(OE P t (e x)).map (·,h)
 |.makeFunc fn first cap=>some (.func fn (first.toList.map e) (cap.toList.map e),h)
 |.makeMap _ Option.none=>some (.map p,upd h p (some (.map [] 0)))
 |.makeSlice t l c=>qy P t (e l) (e c) h p
 |.slice t x lo hi mx=>(zq P t (e x) (lo.map e) (hi.map e) (mx.map e)).map (·,h)
 |.fieldAddr t x f=>(uD P t (e x) f).map (·,h)
 |.indexAddr t x i=>(uC P t (e x) (e i)).map (·,h)
 |.lookup t x i ok=>(iM P t (e x) (e i) ok h).map (·,h)
 |.mapUpdate t m k x=>(eY P t (e m) (e k) (e x) h).map (.tuple [],·)
 |.extract x i=>(uE (e x) i).map (·,h)
 |.typeAssert x _ T ok=>(Da P T (e x) ok).map (·,h)
 |.call c=>match c.callee with
  |.builtin b=>jX P b c.argTypes.toList (c.args.toList.map e) h p
  |_=>Option.none
 |_=>Option.none
def OkN (k:Nat) (P:Program) (G:Gh) (W:World) (s:Go.Sem Next) (v:AV) (h':ai):Prop :=
 ∃ G' W' v',(s.run P W=.ok (.value v') W'∨(s.run P W=.ok .skip W'∧v'=undef))∧Rel G' W' v v'∧Sim P G' h' W'∧Evo G W G' W'∧G'.n≤G.n+k
theorem OkK.next {n:Nat} {s:Go.Sem Value} {v:AV} {h':ai} (k:OkK n P G W s v h'):OkN n P G W (do Pure.pure (Next.value (← s))) v h':=by
 obtain ⟨G',W',v',hr,r,s',e⟩:=k
 exact ⟨G',W',v',.inl (by simp only [Sem.run_bind,hr,Result.andThen_ok,Sem.run_pure]),r,s',e⟩
theorem OkUK.next {n:Nat} {s:Go.Sem Unit} {h':ai} (k:OkUK n P G W s h'):OkN n P G W (do s;Pure.pure Next.skip) (.tuple []) h':=by
 obtain ⟨G',W',hr,s',e⟩:=k
 exact ⟨G',W',undef,.inr ⟨by simp only [Sem.run_bind,hr,Result.andThen_ok,Sem.run_pure],rfl⟩,by simp [Rel,RelL,undef],s',e⟩
theorem RelP.map {e:Operand→AV} {ρ:Operand→Value} (he:∀ x,Rel G W (e x) (ρ x)):∀ (l:List (Nat × Operand)),RelP G W (l.map fun q=>(q.1,e q.2)) (l.map fun q=>(q.1,ρ q.2))
 |[]=>by simp [RelP]
 |(i,x)::l=>by simp only [List.map_cons,RelP];exact ⟨_,_,rfl,he x,RelP.map he l⟩
theorem RelL.map {e:Operand→AV} {ρ:Operand→Value} (he:∀ x,Rel G W (e x) (ρ x)):∀ (l:List Operand),RelL G W (l.map e) (l.map ρ)
 |[]=>by simp [RelL]
 |x::l=>by simp only [List.map_cons,RelL];exact ⟨_,_,rfl,he x,RelL.map he l⟩
theorem RelO.map {e:Operand→AV} {ρ:Operand→Value} (he:∀ x,Rel G W (e x) (ρ x)) (x:Option Operand):RelO G W (x.map e) (x.map ρ):=by
 cases x with
 |none=>trivial
 |some x=>exact he x
def bN:Op→Bool
 |.alloc _|.box ..|.makeMap ..|.makeSlice ..|.range ..=>true
 |.call c=>match c.callee with|.builtin .append=>true|_=>false
 |_=>false
def kOf:Builtin→Nat|.append=>1|_=>0
theorem WC (sim:Sim P G h W) {t ty:TypeId} {x v:AV} {x':Value} (hx:Rel G W x x') (hl:aLen P t x=some v):OkK 0 P G W (Go.Builtin.len_ #[t] ty #[x']) v h:=by
 unfold aLen at hl
 split at hl <;> first|(simp at hl;done)|skip
 ·rename_i hu
  have hu:=Hy hu
  injection hl with hl;subst hl
  simp only [Rel] at hx
  obtain ⟨a,c,vs,rfl,_⟩:=hx
  exact Ok.pure sim (by simp [Go.Builtin.len_,run_underlying hu,goInt];rfl) (by simp [Rel])
 ·rename_i hu
  have hu:=Hy hu
  injection hl with hl;subst hl
  simp only [Rel] at hx
  obtain ⟨_,c,_,rfl,_⟩:=hx
  exact Ok.pure sim (by simp [Go.Builtin.len_,run_underlying hu,goInt];rfl) (by simp [Rel])
 ·rename_i hu
  have hu:=oD hu
  injection hl with hl;subst hl
  simp only [Rel] at hx
  subst hx
  exact Ok.pure sim (by simp [Go.Builtin.len_,run_underlying hu,goInt];rfl) (by simp [Rel])
theorem J2 (sim:Sim P G h W) {b:Builtin} {ts:Array TypeId} {ty:TypeId} {cs:Array Bool} {xs:List AV} {xs':Array Value} {v:AV} {h':ai} (hx:RelL G W xs xs'.toList) (hl:jX P b ts.toList xs h G.n=some (v,h')) :
  OkN (kOf b) P G W (builtin b ts ty cs xs') v h':=by
 unfold jX at hl
 have two:∀ {x y:AV} {l:Array Value},RelL G W [x,y] l.toList→∃ a b,l=#[a,b]∧Rel G W x a∧Rel G W y b:=by
  intro x y l hr
  simp only [RelL] at hr
  obtain ⟨a,r,hl,ha,b,r',hl',hb,hn⟩:=hr
  subst hn;subst hl'
  exact ⟨a,b,by rw [← Array.toList_inj];simpa using hl,ha,hb⟩
 have one:∀ {x:AV} {l:Array Value},RelL G W [x] l.toList→∃ a,l=#[a]∧Rel G W x a:=by
  intro x l hr
  simp only [RelL] at hr
  obtain ⟨a,r,hl,ha,hn⟩:=hr
  subst hn
  exact ⟨a,by rw [← Array.toList_inj];simpa using hl,ha⟩
 split at hl
 ·rename_i tS tX s x hts
  obtain ⟨a,c,rfl,ha,hc⟩:=two hx
  have:ts=#[tS,tX]:=by rw [← Array.toList_inj];simpa using hts
  subst this
  exact (MB sim ha (fun _ _ _ _ he=>Src.unSl sim hc he) hl).next
 ·rename_i t x hts
  obtain ⟨a,rfl,ha⟩:=one hx
  have:ts=#[t]:=by rw [← Array.toList_inj];simpa using hts
  subst this
  cases hq:aLen P t x with
  |none=>simp [hq] at hl
  |some u =>
   simp only [hq,Option.map_some,Option.some.injEq,Prod.mk.injEq] at hl
   obtain ⟨rfl,rfl⟩:=hl
   exact (WC sim ha hq).next
 ·rename_i x y
  obtain ⟨a,c,rfl,ha,hc⟩:=two hx
  cases hq:aMax x y with
  |none=>simp [hq] at hl
  |some u =>
   simp only [hq,Option.map_some,Option.some.injEq,Prod.mk.injEq] at hl
   obtain ⟨rfl,rfl⟩:=hl
   unfold aMax at hq
   split at hq
   ·rename_i k p k' q
    split at hq
    ·rename_i hk;subst hk
     injection hq with hq;subst hq
     simp only [Rel] at ha hc
     subst ha;subst hc
     exact (Ok.pure sim (s:=Go.Builtin.max_ ts ty #[.int k p,.int k q]) (v':=.int k (if q>p then q else p)) (by simp [Go.Builtin.max_,Go.Builtin.max2]) (by simp [Rel])).next
    ·simp at hq
   ·simp at hq
 ·rename_i x y
  obtain ⟨a,c,rfl,ha,hc⟩:=two hx
  cases hq:aMin x y with
  |none=>simp [hq] at hl
  |some u =>
   simp only [hq,Option.map_some,Option.some.injEq,Prod.mk.injEq] at hl
   obtain ⟨rfl,rfl⟩:=hl
   unfold aMin at hq
   split at hq
   ·rename_i k p k' q
    split at hq
    ·rename_i hk;subst hk
     injection hq with hq;subst hq
     simp only [Rel] at ha hc
     subst ha;subst hc
     exact (Ok.pure sim (s:=Go.Builtin.min_ ts ty #[.int k p,.int k q]) (v':=.int k (if q<p then q else p)) (by simp [Go.Builtin.min_,Go.Builtin.min2]) (by simp [Rel])).next
    ·simp at hq
   ·simp at hq
 ·simp at hl
theorem CZ {x v:AV} {i:Nat} (h:uE x i=some v):∃ vs,x=.tuple vs∧vs[i]?=some v:=by
 cases x <;> simp only [uE,reduceCtorEq] at h
 exact ⟨_,rfl,h⟩
theorem eU {α:Type} {x:Option AV} {v:AV} {h h':ai} (hl:x.map (·,h)=some (v,h')):x=some v∧h'=h:=by
 cases x with
 |none=>simp at hl
 |some u=>simp only [Option.map_some,Option.some.injEq,Prod.mk.injEq] at hl;exact ⟨by rw [hl.1],hl.2.symm⟩
theorem Iy {x:Option ai} {v:AV} {h':ai} (hl:x.map ((.tuple [],·):ai→AV × ai)=some (v,h')):x=some h'∧v=.tuple []:=by
 cases x with
 |none=>simp at hl
 |some u=>simp only [Option.map_some,Option.some.injEq,Prod.mk.injEq] at hl;exact ⟨by rw [hl.2],hl.1.symm⟩
theorem Ta (sim:Sim P G h W) {o:Oper} {e:Operand→AV} {ρ:Operand→Value} {v:AV} {h':ai} (he:∀ x,Rel G W (e x) (ρ x)) (hl:aop P o.op e h G.n=some (v,h')):OkN (bif bN o.op then 1 else 0) P G W (execOp ρ o) v h':=by
 unfold aop at hl
 unfold execOp
 split at hl
 ·rename_i x hop
  simp only [hop]
  injection hl with hl;injection hl with hv hh;subst hv;subst hh
  exact ⟨G,W,ρ x,.inl rfl,he x,sim,Evo.refl _ _,Nat.le_add_right _ _⟩
 ·rename_i x hop
  simp only [hop]
  injection hl with hl;injection hl with hv hh;subst hv;subst hh
  exact ⟨G,W,ρ x,.inl rfl,he x,sim,Evo.refl _ _,Nat.le_add_right _ _⟩
 ·rename_i c a b hop
  simp only [hop]
  split at hl
  ·rename_i t hc
   injection hl with hl;injection hl with hv hh;subst hv;subst hh
   have hcr:=he c
   rw [hc] at hcr
   simp only [Rel] at hcr
   refine ⟨G,W,if t then ρ a else ρ b,.inl ?_,?_,sim,Evo.refl _ _,Nat.le_add_right _ _⟩
   ·simp [hcr,asBool]
   ·cases t
    ·simpa using he b
    ·simpa using he a
  ·simp at hl
 ·rename_i T hop
  simp only [hop]
  split at hl
  ·rename_i z zv hz hzv
   split at hl
   ·rename_i hk
    injection hl with hl;injection hl with hv hh;subst hv;subst hh
    refine OkK.next ?_
    have:=D6 sim hz (Rel.cells (Rel.ofConst zv) hk)
    obtain ⟨G',W',v',hr,r,s',e'⟩:=this
    refine ⟨G',W',v',?_,r,s',e'⟩
    simp only [Instr.alloc,Sem.run_bind,fM hzv,Result.andThen_ok]
    simpa only [Sem.run_bind] using hr
   ·simp at hl
  ·simp at hl
 ·rename_i T x hop
  simp only [hop]
  split at hl
  ·rename_i z hz
   split at hl
   ·rename_i hk
    injection hl with hl;injection hl with hv hh;subst hv;subst hh
    exact (D6 sim hz (Rel.cells (he x) hk)).next
   ·simp at hl
  ·simp at hl
 ·rename_i t parts hop
  simp only [hop]
  obtain ⟨h1,rfl⟩:=eU (α:=Unit) hl
  exact (PM sim (by have:=RelP.map he parts.toList;simpa using this) h1).next
 ·rename_i t len parts hop
  simp only [hop]
  obtain ⟨h1,rfl⟩:=eU (α:=Unit) hl
  exact (Cb sim (by have:=RelP.map he parts.toList;simpa using this) h1).next
 ·rename_i t a hop
  simp only [hop]
  obtain ⟨h1,rfl⟩:=eU (α:=Unit) hl
  exact (Mv sim (he a) h1).next
 ·rename_i t a x hop
  simp only [hop]
  obtain ⟨h1,rfl⟩:=Iy hl
  exact (PG sim (he a) (he x) h1).next
 ·rename_i x hop
  simp only [hop]
  obtain ⟨h1,rfl⟩:=eU (α:=Unit) hl
  have hx:=he x
  refine ⟨G,W,ρ x,.inl ?_,?_,sim,Evo.refl _ _,Nat.le_add_right _ _⟩
  ·unfold aNil at h1
   split at h1 <;> first|(simp at h1;done)|skip
   ·rename_i heq;rw [heq] at hx;simp only [Rel] at hx;rw [hx.2];rfl
   ·rename_i heq;rw [heq] at hx;simp only [Rel] at hx;obtain ⟨b,o',vs,hb,_⟩:=hx;rw [hb];rfl
   ·rename_i heq;rw [heq] at hx;simp only [Rel] at hx;obtain ⟨f',c',hb,_⟩:=hx;rw [hb];rfl
  ·unfold aNil at h1
   split at h1 <;> first|(simp at h1;done)|(rename_i heq;injection h1 with h1;rw [← h1,← heq];exact hx)
 ·rename_i op t x y _ hop
  simp only [hop]
  obtain ⟨h1,rfl⟩:=eU (α:=Unit) hl
  exact (WE sim (he x) (he y) h1).next
 ·rename_i t x hop
  simp only [hop]
  obtain ⟨h1,rfl⟩:=eU (α:=Unit) hl
  have hx:=he x
  unfold aNot at h1
  split at h1
  ·rename_i b heq
   rw [heq] at hx
   simp only [Rel] at hx
   injection h1 with h1;subst h1
   exact (Ok.pure sim (v':=.bool (!b)) (by rw [hx];rfl) (by simp [Rel])).next
  ·simp at h1
 ·rename_i t x hop
  simp only [hop]
  obtain ⟨h1,rfl⟩:=eU (α:=Unit) hl
  have hx:=he x
  unfold aNeg at h1
  split at h1
  ·rename_i k n heq
   rw [heq] at hx
   simp only [Rel] at hx
   injection h1 with h1;subst h1
   exact (Ok.pure sim (v':=.int k (k.wrap (0 - n))) (by rw [hx];simp [Op.unary,Op.intArith]) (by simp [Rel])).next
  ·simp at h1
 ·rename_i t x f hop
  simp only [hop]
  obtain ⟨h1,rfl⟩:=eU (α:=Unit) hl
  exact (Mw sim (he x) h1).next
 ·rename_i t x i hop
  simp only [hop]
  obtain ⟨h1,rfl⟩:=eU (α:=Unit) hl
  exact (F9 sim (he x) (he i) h1).next
 ·rename_i t x hop
  simp only [hop]
  exact (PH sim (he x) hl).next
 ·rename_i x hop
  simp only [hop]
  obtain ⟨h1,rfl⟩:=eU (α:=Unit) hl
  exact (PL sim (he x) h1).next
 ·rename_i s d x hop
  simp only [hop]
  obtain ⟨h1,rfl⟩:=eU (α:=Unit) hl
  have hx:=he x
  unfold mh at h1
  split at h1
  ·rename_i ds k kk n hs hd heq
   obtain ⟨_,hs,_⟩:=FL hs
   have hd:=U8 hd
   rw [heq] at hx
   simp only [Rel] at hx
   injection h1 with h1;subst h1
   exact (Ok.pure sim (v':=.int k (k.wrap n)) (by rw [hx];simp [convert,run_underlying hs,run_underlying hd,Conv.intToInt]) (by simp [Rel])).next
  ·rename_i ds str hs hd heq
   obtain ⟨_,hs,_⟩:=FL hs
   have hd:=oD hd
   rw [heq] at hx
   simp only [Rel] at hx
   injection h1 with h1;subst h1
   exact (Ok.pure sim (v':=.string str) (by rw [hx];simp [convert,run_underlying hs,run_underlying hd]) (by simp [Rel])).next
  ·simp at h1
 ·rename_i t x hop
  simp only [hop]
  obtain ⟨h1,rfl⟩:=eU (α:=Unit) hl
  unfold OE at h1
  split at h1
  ·simp at h1
  ·rename_i d hno hd
   obtain ⟨d,hd,hn⟩:=FL hd
   have hno:=hn hno
   injection h1 with h1;subst h1
   refine (Ok.pure sim (v':=.iface t (ρ x)) ?_ (by simp only [Rel];exact ⟨_,rfl,he x⟩)).next
   simp only [Instr.makeInterface,Sem.run_bind,run_underlying hd,Result.andThen_ok]
   cases d <;> first|rfl|exact absurd rfl (hno _)
  ·simp at h1
 ·rename_i fn first cap hop
  simp only [hop]
  injection hl with hl;injection hl with hv hh;subst hv;subst hh
  refine (Ok.pure sim (v':=.func fn (first.map ρ) (cap.map ρ)) rfl ?_).next
  simp only [Rel]
  exact ⟨_,_,rfl,by have:=RelL.map he first.toList;simpa using this,by have:=RelL.map he cap.toList;simpa using this⟩
 ·rename_i t hop
  simp only [hop]
  injection hl with hl;injection hl with hv hh;subst hv;subst hh
  exact (JZ sim).next
 ·rename_i t l c hop
  simp only [hop]
  exact (D8 sim (he l) (he c) hl).next
 ·rename_i t x lo hi mx hop
  simp only [hop]
  obtain ⟨h1,rfl⟩:=eU (α:=Unit) hl
  exact (ok_slice sim (he x) (RelO.map he lo) (RelO.map he hi) (RelO.map he mx) h1).next
 ·rename_i t x f hop
  simp only [hop]
  obtain ⟨h1,rfl⟩:=eU (α:=Unit) hl
  exact (PK sim (he x) h1).next
 ·rename_i t x i hop
  simp only [hop]
  obtain ⟨h1,rfl⟩:=eU (α:=Unit) hl
  exact (PI sim (he x) (he i) h1).next
 ·rename_i t x i ok hop
  simp only [hop]
  obtain ⟨h1,rfl⟩:=eU (α:=Unit) hl
  exact (Mt sim (he x) (he i) h1).next
 ·rename_i t m k x hop
  simp only [hop]
  obtain ⟨h1,rfl⟩:=Iy hl
  exact (D7 sim (he m) (he k) (he x) h1).next
 ·rename_i x i hop
  simp only [hop]
  obtain ⟨h1,rfl⟩:=eU (α:=Unit) hl
  have hx:=he x
  obtain ⟨vs,heq,h1⟩:=CZ h1
  rw [heq] at hx
  simp only [Rel] at hx
  obtain ⟨us,hus,hr⟩:=hx
  obtain ⟨u,hu,hru⟩:=RelL.get hr h1
  refine (Ok.pure sim (v':=u) ?_ hru).next
  rw [hus]
  simp only [Instr.extract]
  rw [show us[i]?=some u by simpa using hu]
  rfl
 ·rename_i x xT T ok hop
  simp only [hop]
  obtain ⟨h1,rfl⟩:=eU (α:=Unit) hl
  exact (Mx sim (he x) h1).next
 ·rename_i c hop
  simp only [hop]
  split at hl
  ·rename_i b hc
   unfold OkN
   simp only [resolve,hc,invoke,pure_bind]
   have hk:(bif bN (.call c) then 1 else 0)=kOf b:=by simp only [bN,hc];cases b <;> rfl
   rw [hk]
   exact J2 sim (b:=b) (ts:=c.argTypes) (xs':=c.args.map ρ) (by have:=RelL.map he c.args.toList;simpa using this) hl
  ·simp at hl
 ·simp at hl
end
section
variable {P:Program} {G:Gh} {h:ai} {W:World}
inductive AOut where
 |ret (v:AV)
 |panic (v:AV)
def Bu (G:Gh) (W:World):AOut→Ending→Prop
 |.ret v,.returned v'=>Rel G W v v'
 |.panic v,.panicked ch=>∃ v',ch=[{ v:=v',recovered:=false }]∧Rel G W v v'
 |_,_=>False
structure nZ (F:Fence):Prop where
 fn:∀ f,F.fn f
 deep:F.depth=Option.none
inductive ADef where
 |fn (f:AV) (args:List AV)
 |coll (d:Nat)
def zF (G:Gh) (W:World):ADef→Deferred→Prop
 |.fn f args,d=>∃ fn first cap,f=.func fn first cap∧∃ f' c' a',d={ target:=.fn fn c',args:=f'++a' }∧RelL G W first f'.toList∧RelL G W cap c'.toList∧RelL G W args a'.toList
 |.coll k,d=>k<G.n∧d={ target:=.collected (G.obj k).loc,args:=#[] }
def wJ (G:Gh) (W:World):List ADef→List Deferred→Prop
 |[],l=>l=[]
 |d::ds,l=>∃ d' r,l=d'::r∧zF G W d d'∧wJ G W ds r
theorem zF.mono {G':Gh} {W':World} (e:Evo G W G' W') {d:ADef} {d':Deferred} (h:zF G W d d'):zF G' W' d d':=by
 cases d with
 |fn f args =>
  obtain ⟨fn,first,cap,hf,f',c',a',hd,h1,h2,h3⟩:=h
  exact ⟨fn,first,cap,hf,f',c',a',hd,RelL.mono e _ _ h1,RelL.mono e _ _ h2,RelL.mono e _ _ h3⟩
 |coll k =>
  obtain ⟨hk,hd⟩:=h
  exact ⟨Nat.lt_of_lt_of_le hk e.n,by rw [e.obj k hk];exact hd⟩
theorem wJ.mono {G':Gh} {W':World} (e:Evo G W G' W'):∀ {ds:List ADef} {l:List Deferred},wJ G W ds l→wJ G' W' ds l
 |[],_,h=>h
 |d::ds,l,h=>by
  obtain ⟨d',r,hl,hd,hr⟩:=h
  exact ⟨d',r,hl,hd.mono e,wJ.mono e hr⟩
structure AS where
 τ:Env
 h:ai
 n:Nat
 ds:List ADef
 rd:Option Nat
abbrev KS:=Re→AS→Prop
theorem Evo.pad {m:Nat} (hm:G.n≤m):Evo G W { G with n:=m } W:=⟨rfl,hm,fun _ _=>rfl,fun _ _ _ h k=>⟨h,k⟩,Keep.refl _ _,fun _ _ _ h=>h⟩
theorem Sim.pad {m:Nat} (s:Sim P G h W) (hm:G.n≤m):Sim P { G with n:=m } h W :=
 ⟨fun i o hi=>Nat.lt_of_lt_of_le (s.dom i o hi) hm,fun i o hi=>(s.obj i o hi).kept (Evo.pad hm) (s.dom i o hi) rfl (fun _ h=>h),s.inj,s.stab,s.prt⟩
def gT (P:Program) (f:FuncId) (args:List AV) (h:ai) (n:Nat) (Q:AOut→ai→Nat→Prop):Prop :=
 (∀ args' W,(callFunc f args').run P W=.ok (.enter f args') W) ∧
 ∀ F m G W vargs,nZ F→F.round=Option.none→Sim P G h W→G.n=n→RelL G W args vargs.toList→CallsIn F m P f vargs W fun e W'=>∃ o h' G',Q o h' G'.n∧Sim P G' h' W'∧Evo G W G' W'∧Bu G' W' o e
def az (P:Program) (f:FuncId) (args:List AV) (h:ai) (Q:AOut→ai→Prop):Prop:=∀ n,gT P f args h n fun o h' _=>Q o h'
theorem gT.mono {f:FuncId} {args:List AV} {n:Nat} {Q Q':AOut→ai→Nat→Prop} (k:gT P f args h n Q) (hq:∀ o h' n',Q o h' n'→Q' o h' n'):gT P f args h n Q' :=
 ⟨k.1,fun F m G W vargs hF hr s hn r=>(k.2 F m G W vargs hF hr s hn r).mono fun e W' ⟨o,h',G',q,rest⟩=>⟨o,h',G',hq o h' _ q,rest⟩⟩
theorem az.mono {f:FuncId} {args:List AV} {Q Q':AOut→ai→Prop} (k:az P f args h Q) (hq:∀ o h',Q o h'→Q' o h'):az P f args h Q' :=
 fun n=>(k n).mono fun o h' _=>hq o h'
theorem CallsIn.anyRound {F:Fence} {m:Nat} {f:FuncId} {args:Array Value} {R:Ending→World→Prop} (k:CallsIn F.plain m P f args W R):CallsIn F m P f args W R:=k
def oo (P:Program) (l:Nat) (args:List AV) (h:ai) (n:Nat) (Q:AOut→ai→Nat→Prop):Prop :=
 ∀ F m G W vargs,nZ F→Sim P G h W→G.n=n→RelL G W args vargs.toList→∃ f tmps asg bd,
  (Instr.yield (G.obj l).loc vargs).run P W=.ok (.round (G.obj l).loc f tmps asg bd) W∧RoundIn F m P (G.obj l).loc f tmps asg bd W fun e W'=>∃ o h' G',Q o h' G'.n∧Sim P G' h' W'∧Evo G W G' W'∧Bu G' W' o e
theorem oo.mono {l:Nat} {args:List AV} {n:Nat} {Q Q':AOut→ai→Nat→Prop} (k:oo P l args h n Q) (hq:∀ o h' n',Q o h' n'→Q' o h' n'):oo P l args h n Q':=by
 intro F m G W vargs hF s hn r
 obtain ⟨f,tmps,asg,bd,hy,hr⟩:=k F m G W vargs hF s hn r
 exact ⟨f,tmps,asg,bd,hy,hr.mono fun e W' ⟨o,h',G',q,rest⟩=>⟨o,h',G',hq o h' _ q,rest⟩⟩
def C8 (P:Program) (f:AV) (args:List AV) (h:ai) (n:Nat) (Q:AOut→ai→Nat→Prop):Prop :=
 match f with
 |.func (.func g) first cap=>gT P g (first++args++cap) h n Q
 |.yield l=>oo P l args h n Q
 |_=>False
theorem Bt {f:AV} {args:List AV} {n:Nat} {Q Q':AOut→ai→Nat→Prop} (k:C8 P f args h n Q) (hq:∀ o h' n',Q o h' n'→Q' o h' n'):C8 P f args h n Q':=by
 unfold C8 at k ⊢
 split at k
 ·exact k.mono hq
 ·exact oo.mono k hq
 ·exact k.elim
def oq (P:Program) (o:Oper) (s:AS) (next:AS→Prop):Prop :=
 s.h s.n=Option.none→match aop P o.op (aR s.τ) s.h s.n with
 |some (v,h')=>next { s with τ:=aPut s.τ o.dst v,h:=h',n:=s.n+bif bN o.op then 1 else 0 }
 |Option.none=>False
def Fy (v:AV) (h:ai) (pan:AV→Prop):Prop :=
 match v with
 |.iface t x=>pan (.iface t x)
 |_=>False
def kI (P:Program) (c:Call) (dst:Option Nat) (s:AS) (next:AS→Prop):Prop :=
 match c.callee,c.argTypes.toList,c.args.toList with
 |.builtin .append,[tS,tX],[b,x]=>s.h s.n=Option.none→match aOwn P tS tX (aR s.τ b) (unSl P s.h (aR s.τ x)) s.h s.n with
  |some (v,h')=>next { s with τ:=aPut s.τ dst v,h:=h',n:=s.n+1 }
  |Option.none=>False
 |_,_,_=>False
def amOp (P:Program) (o:Oper) (s:AS) (next:AS→Prop) (pan:AV→AS→Prop):Prop :=
 match o.op with
 |.call c=>match c.callee with
  |.builtin .recover=>False
  |.builtin b=>oq P o s next∨kI P c o.dst s next
  |.value f=>C8 P (aR s.τ f) (c.args.toList.map (aR s.τ)) s.h s.n fun
   |.ret v,h',n'=>next { s with τ:=aPut s.τ o.dst v,h:=h',n:=n' }
   |.panic v,h',n'=>pan v { s with h:=h',n:=n' }
  |.invoke _ _=>False
 |.panic x=>Fy (aR s.τ x) s.h fun v=>pan v s
 |.defer c=>match c.callee with
  |.value f=>s.rd=Option.none∧(∃ fn a b,aR s.τ f=.func fn a b)∧next { s with τ:=aPut s.τ o.dst (.tuple []),ds:=.fn (aR s.τ f) (c.args.toList.map (aR s.τ))::s.ds }
  |_=>False
 |.next x false=>zw (aR s.τ x) s.h fun v h'=>next { s with τ:=aPut s.τ o.dst v,h:=h' }
 |op=>oq P o s next
def eQ (ops:Array Oper) (o:Oper) (τ:Env):Option Bool :=
 match o.guard with
 |Option.none=>some true
 |some (j,want)=>match (ops[j]?).bind (·.dst) with
  |Option.none=>some false
  |some t=>match τ t with
   |.bool b=>some (b==want)
   |.tuple _=>some false
   |_=>Option.none
def jF (ops:Array Oper) (τ:Env):Env:=fun t=>bif ops.toList.any (fun o=>o.dst==some t) then .any else τ t
def panK (ops:Array Oper) (K:KS):AV→AS→Prop:=fun v s=>K (.panic v) { s with τ:=jF ops s.τ }
def pE (P:Program) (ops:Array Oper):List Oper→KS→AS→Prop
 |[],K,s=>K .normal s
 |o::rest,K,s=>match eQ ops o s.τ with
  |some true=>amOp P o s (pE P ops rest K) (panK ops K)
  |some false=>pE P ops rest K { s with τ:=aPut s.τ o.dst (.tuple []) }
  |Option.none=>False
structure Agree (P:Program) (nt:Nat) (F:Fence) (G0:Gh) (W0:World) (G:Gh) (W:World) (s:AS) (a:Act):Prop where
 sim:Sim P G s.h W
 num:G.n=s.n
 evo:Evo G0 W0 G W
 tmps:RelT nt G W s.τ a
 defers:wJ G W s.ds a.defers
 rd:(s.rd=Option.none→F.round=Option.none)∧∀ k,s.rd=some k→k<G.n∧F.round=some (G.obj k).loc
def Post (P:Program) (nt:Nat) (F:Fence) (G0:Gh) (W0:World) (K:KS):Exit→Act→World→Prop
 |.normal,a,W=>∃ G s,Agree P nt F G0 W0 G W s a∧K .normal s
 |.exit id,a,W=>∃ G s,Agree P nt F G0 W0 G W s a∧K (.exit id) s
 |.ret,a,W=>∃ G s,Agree P nt F G0 W0 G W s a∧K .ret s
 |.panic ch,a,W=>∃ G s v v',Agree P nt F G0 W0 G W s a∧ch=[{ v:=v',recovered:=false }]∧Rel G W v v'∧K (.panic v) s
 |_,_,_=>False
theorem put_defers (a:Act) (d:Option Tmp) (v:Value):(a.put d v).defers=a.defers:=by cases d <;> rfl
theorem uf {nt:Nat} {o:Oper} (hd:pq nt o=true):∀ d,o.dst=some d→d<nt:=by
 intro d h1;unfold pq at hd;rw [h1] at hd;exact Nat.le_of_ble_eq_true hd
theorem fZ {F:Fence} (hF:nZ F) {f:Option FuncId}:∀ g,f=some g→F.fn g:=fun g _=>hF.fn g
theorem qg {F:Fence} (hF:nZ F) {m:Nat}:F.depth.isSome=true→1≤m:=fun h=>by rw [hF.deep] at h;cases h
section
variable {F:Fence} {m:Nat} {o:Oper} {nt:Nat} {G0:Gh} {W0:World} {s:AS} {a:Act} {next:AS→Prop} {pan:AV→AS→Prop} {Kn:Act→World→Prop} {Q:Exit→Act→World→Prop}
theorem u6 {G':Gh} {W':World} {rd:Option Nat} (e:Evo G W G' W') (h:(rd=Option.none→F.round=Option.none)∧∀ k,rd=some k→k<G.n∧F.round=some (G.obj k).loc):(rd=Option.none→F.round=Option.none)∧∀ k,rd=some k→k<G'.n∧F.round=some (G'.obj k).loc :=
 ⟨h.1,fun k hk=>let ⟨h1,h2⟩:=h.2 k hk;⟨Nat.lt_of_lt_of_le h1 e.n,by rw [e.obj k h1];exact h2⟩⟩
theorem Agree.step {G':Gh} {h':ai} {W':World} {v:AV} {v':Value} {n':Nat} (ag:Agree P nt F G0 W0 G W s a) (hd:pq nt o=true) (hsim:Sim P G' h' W') (hn:G'.n=n') (he:Evo G W G' W') (hv:Rel G' W' v v') :
  Agree P nt F G0 W0 G' W' { s with τ:=aPut s.τ o.dst v,h:=h',n:=n' } (a.put o.dst v') :=
 ⟨hsim,hn,ag.evo.trans he,(ag.tmps.mono he).put (uf hd) hv,by rw [put_defers];exact ag.defers.mono he,u6 he ag.rd⟩
theorem zo (hF:nZ F) (ag:Agree P nt F G0 W0 G W s a) (hd:pq nt o=true) (hop:∀ c,o.op≠.defer c)
  (hn:∀ G' W' s' a',Agree P nt F G0 W0 G' W' s' a'→next s'→Kn a' W') (hs:oq P o s next):o.wpIn F m P a W Kn Q:=by
 have hs:=hs (by rw [← ag.num];exact ag.sim.fresh)
 refine ⟨fZ hF,?_⟩
 rw [Oper.semAt_eq _ _ _ hop]
 split at hs
 ·rename_i v h' hop
  obtain ⟨G',W',v',hr,hv,hsim,he,hle⟩:=Ta ag.sim (o:=o) (ρ:=a.eval) (fun x=>ag.tmps.eval x) (by rw [ag.num];exact hop)
  have ep:=Evo.pad (G:=G') (W:=W') (m:=s.n+bif bN o.op then 1 else 0) (by rw [← ag.num];exact hle)
  have ag':=Agree.step (o:=o) ag hd (hsim.pad (by rw [← ag.num];exact hle)) rfl (he.trans ep) (Rel.mono ep _ _ hv)
  rcases hr with hr|⟨hr,hu⟩
  ·rw [hr];exact hn _ _ _ _ ag' hs
  ·rw [hr];subst hu;exact hn _ _ _ _ ag' hs
 ·exact hs.elim
theorem KW (hF:nZ F) {c:Call} (ag:Agree P nt F G0 W0 G W s a) (hd:pq nt o=true) (hop:o.op=.call c)
  (hn:∀ G' W' s' a',Agree P nt F G0 W0 G' W' s' a'→next s'→Kn a' W') (hs:kI P c o.dst s next):o.wpIn F m P a W Kn Q:=by
 refine ⟨fZ hF,?_⟩
 rw [Oper.semAt_eq _ _ _ (by rw [hop];intro c h;cases h)]
 unfold kI at hs
 split at hs
 ·rename_i tS tX b x hc hts hxs
  have hs:=hs (by rw [← ag.num];exact ag.sim.fresh)
  split at hs
  ·rename_i v h' hl
   have hts':c.argTypes=#[tS,tX]:=by rw [← Array.toList_inj];simpa using hts
   have hxs':c.args=#[b,x]:=by rw [← Array.toList_inj];simpa using hxs
   have hrun:=(WB (ty:=o.type) ag.sim (ag.tmps.eval b) (fun _ _ _ _ he=>Src.unSl ag.sim (ag.tmps.eval x) he) (by rw [ag.num];exact hl)).next
   obtain ⟨G',W',v',hr,hv,hsim,he,hle⟩:=hrun
   have ep:=Evo.pad (G:=G') (W:=W') (m:=s.n+1) (by rw [← ag.num];exact hle)
   have ag':=Agree.step (o:=o) ag hd (hsim.pad (by rw [← ag.num];exact hle)) rfl (he.trans ep) (Rel.mono ep _ _ hv)
   have hexec:(execOp a.eval o).run P W=(do Pure.pure (Next.value (← Go.Builtin.append_ #[tS,tX] o.type #[a.eval b,a.eval x])):Go.Sem Next).run P W:=by
    unfold execOp
    simp only [hop,resolve,hc,hts',hxs',invoke,pure_bind,List.map_toArray,List.map_cons,List.map_nil]
    rfl
   rw [hexec]
   rcases hr with hr|⟨hr,hu⟩
   ·rw [hr];exact hn _ _ _ _ ag' hs
   ·rw [hr];subst hu;exact hn _ _ _ _ ag' hs
  ·exact hs.elim
 ·exact hs.elim
theorem vZ {fn:Fn} {f' c' args:Array Value}:(Deferred.ofValue (.func fn f' c') args).run P W=.ok { target:=.fn fn c',args:=f'++args } W:=by
 simp [Deferred.ofValue]
theorem Bl (hF:nZ F) (ag:Agree P nt F G0 W0 G W s a) (hd:pq nt o=true)
  (hn:∀ G' W' s' a',Agree P nt F G0 W0 G' W' s' a'→next s'→Kn a' W')
  (hp:∀ G' W' s' v v',Agree P nt F G0 W0 G' W' s' a→Rel G' W' v v'→pan v s'→Q (.panic [{ v:=v',recovered:=false }]) a W')
  (hs:amOp P o s next pan):o.wpIn F m P a W Kn Q:=by
 unfold amOp at hs
 split at hs
 ·rename_i c hop
  have hnd:∀ c,o.op≠.defer c:=by rw [hop];intro c h;cases h
  split at hs
  ·exact hs.elim
  ·rename_i b _ hc
   rcases hs with hs|hs
   ·exact zo hF ag hd hnd hn hs
   ·exact KW hF ag hd hop hn hs
  ·rename_i f hc
   have hargs:RelL G W (c.args.toList.map (aR s.τ)) (c.args.map a.eval).toList:=by
    rw [Array.toList_map];exact RelL.map (fun x=>ag.tmps.eval x) _
   have hfe:=ag.tmps.eval f
   refine ⟨fZ hF,?_⟩
   rw [Oper.semAt_eq _ _ _ hnd]
   unfold C8 at hs
   split at hs
   ·rename_i g first cap hf
    rw [hf] at hfe
    simp only [Rel] at hfe
    obtain ⟨first',cap',hfv,hr1,hr2⟩:=hfe
    obtain ⟨hent,hcalls⟩:=hs
    have hargs2:RelL G W (first++c.args.toList.map (aR s.τ)++cap) (first'++c.args.map a.eval++cap').toList:=by
     simp only [Array.toList_append]
     exact RelL.append (RelL.append hr1 hargs) hr2
    have hrun:(execOp a.eval o).run P W=.ok (.enter g (first'++c.args.map a.eval++cap')) W:=by
     unfold execOp
     simp only [hop,resolve,hc,Deferred.ofValue,hfv,pure_bind,invoke]
     exact hent _ _
    rw [hrun]
    refine ⟨qg hF,?_⟩
    have hcc:CallsIn F.plain (m - 1) P g (first'++c.args.map a.eval++cap') W _:=hcalls F.plain (m - 1) G W _ ⟨hF.fn,hF.deep⟩ rfl ag.sim ag.num hargs2
    refine (CallsIn.anyRound hcc).mono fun e W' hQ=>?_
    obtain ⟨out,h',G',hq,hsim,he,hro⟩:=hQ
    cases out with
    |ret v =>
     cases e with
     |returned v'=>exact hn _ _ _ _ (Agree.step (o:=o) ag hd hsim rfl he hro) hq
     |panicked ch=>exact hro.elim
     |outgrown=>exact hro.elim
    |panic v =>
     cases e with
     |returned v'=>exact hro.elim
     |panicked ch =>
      obtain ⟨v',rfl,hv⟩:=hro
      exact hp _ _ { s with h:=h',n:=G'.n } v v' ⟨hsim,rfl,ag.evo.trans he,ag.tmps.mono he,ag.defers.mono he,u6 he ag.rd⟩ hv hq
     |outgrown=>exact hro.elim
   ·rename_i l hf
    rw [hf] at hfe
    simp only [Rel] at hfe
    obtain ⟨hln,hfv⟩:=hfe
    obtain ⟨g,tmps,asg,bd,hy,hround⟩:=hs F (m - 1) G W (c.args.map a.eval) hF ag.sim ag.num hargs
    have hrun:(execOp a.eval o).run P W=.ok (.round (G.obj l).loc g tmps asg bd) W:=by
     unfold execOp
     simp only [hop,resolve,hc,Deferred.ofValue,hfv,pure_bind,invoke,Array.empty_append]
     exact hy
    rw [hrun]
    refine ⟨qg hF,?_⟩
    refine hround.mono fun e W' hQ=>?_
    obtain ⟨out,h',G',hq,hsim,he,hro⟩:=hQ
    cases out with
    |ret v =>
     cases e with
     |returned v'=>exact hn _ _ _ _ (Agree.step (o:=o) ag hd hsim rfl he hro) hq
     |panicked ch=>exact hro.elim
     |outgrown=>exact hro.elim
    |panic v =>
     cases e with
     |returned v'=>exact hro.elim
     |panicked ch =>
      obtain ⟨v',rfl,hv⟩:=hro
      exact hp _ _ { s with h:=h',n:=G'.n } v v' ⟨hsim,rfl,ag.evo.trans he,ag.tmps.mono he,ag.defers.mono he,u6 he ag.rd⟩ hv hq
     |outgrown=>exact hro.elim
   ·exact hs.elim
  ·exact hs.elim
 ·rename_i x hop
  refine ⟨fZ hF,?_⟩
  rw [Oper.semAt_eq _ _ _ (by rw [hop];intro c h;cases h)]
  unfold Fy at hs
  split at hs
  ·rename_i t y hx
   have hxe:=ag.tmps.eval x
   rw [hx] at hxe
   have hxe0:=hxe
   simp only [Rel] at hxe
   obtain ⟨y',hy,hry⟩:=hxe
   have hrun:(execOp a.eval o).run P W=.halt (.panic (.iface t y')) W:=by
    unfold execOp
    simp only [hop,hy,Instr.panic,Sem.run_bind,run_goPanic,Result.andThen_halt]
   rw [hrun]
   rw [hy] at hxe0
   exact hp G W s _ _ ag hxe0 hs
  ·exact hs.elim
 ·rename_i c hop
  split at hs
  ·rename_i f hc
   obtain ⟨hrd,⟨fn,fa,fb,hfv⟩,hs⟩:=hs
   have hro:=ag.rd.1 hrd
   refine ⟨fZ hF,?_⟩
   rw [hro,Oper.semAt_none]
   have hfe:=ag.tmps.eval f
   rw [hfv] at hfe
   simp only [Rel] at hfe
   obtain ⟨f',c',hfv',hr1,hr2⟩:=hfe
   have hrun:(execOp a.eval o).run P W=.ok (.defer { target:=.fn fn c',args:=f'++c.args.map a.eval }) W:=by
    unfold execOp
    simp only [hop,resolve,hc,hfv',Sem.run_bind,vZ,Result.andThen_ok,Sem.run_pure]
   rw [hrun]
   refine hn G W { s with τ:=aPut s.τ o.dst (.tuple []),ds:=.fn (aR s.τ f) (c.args.toList.map (aR s.τ))::s.ds } _ ⟨ag.sim,ag.num,ag.evo,?_,?_,ag.rd⟩ hs
   ·have rt:RelT nt G W s.τ { a with defers:=(⟨Target.fn fn c',f'++c.args.map a.eval⟩:Deferred)::a.defers }:=⟨ag.tmps.size,ag.tmps.get⟩
    exact rt.put (uf hd) (by simp [Rel,RelL,undef])
   ·rw [put_defers]
    refine ⟨_,_,rfl,⟨fn,fa,fb,hfv,f',c',c.args.map a.eval,rfl,hr1,hr2,?_⟩,ag.defers⟩
    rw [Array.toList_map];exact RelL.map (fun x=>ag.tmps.eval x) _
  ·exact hs.elim
 ·rename_i x hop
  refine ⟨fZ hF,?_⟩
  rw [Oper.semAt_eq _ _ _ (by rw [hop];intro c h;cases h)]
  obtain ⟨v,h',hnx,_,v',W',hrun,G',hsim,hrel,he,hgn⟩:=BK (ty:=o.type) ag.sim (ag.tmps.eval x) hs
  have hrun':(execOp a.eval o).run P W=.ok (.value v') W':=by
   unfold execOp
   simp only [hop,Sem.run_bind,hrun,Result.andThen_ok,Sem.run_pure]
  rw [hrun']
  exact hn _ _ _ _ (Agree.step (o:=o) ag hd hsim (by rw [hgn,ag.num]) he hrel) hnx
 ·rename_i h1 h2 h3 h4
  exact zo hF ag hd (fun c hc=>h3 c hc) hn hs
theorem kH {ops:Array Oper} {τ:Env} (r:RelT nt G W τ a) {b:Bool} (hw:eQ ops o τ=some b):Region.wanted o (yielded ops a.tmps)=b:=by
 unfold eQ at hw
 unfold Region.wanted
 split at hw
 ·rename_i hg
  injection hw with hw;subst hw
  rw [hg]
 ·rename_i j want hg
  rw [hg]
  simp only
  split at hw
  ·rename_i hd
   injection hw with hw;subst hw
   simp only [yielded,hd,Option.bind_none]
   cases want <;> rfl
  ·rename_i t hd
   have hget:=r.get t
   split at hw
   ·rename_i bb hb
    injection hw with hw;subst hw
    rw [hb] at hget
    simp only [Rel] at hget
    have hsome:a.tmps[t]?=some (.bool bb):=by
     rw [Array.getD_eq_getD_getElem?] at hget
     cases hq:a.tmps[t]? with
     |none=>rw [hq] at hget;simp [undef] at hget
     |some u=>rw [hq] at hget;simp only [Option.getD_some] at hget;rw [hget]
    simp only [yielded,hd,Option.bind_some,hsome]
    cases bb <;> cases want <;> rfl
   ·rename_i vs hb
    injection hw with hw;subst hw
    rw [hb] at hget
    simp only [Rel] at hget
    obtain ⟨us,hus,_⟩:=hget
    have:∀ bb,a.tmps[t]?≠some (.bool bb):=by
     intro bb hq
     rw [Array.getD_eq_getD_getElem?,hq] at hus
     simp at hus
    have hy:yielded ops a.tmps j=Option.none:=by
     unfold yielded
     rw [hd]
     simp only [Option.bind_some]
    rw [hy];rfl
   ·simp at hw
theorem RelT.mask {ops:Array Oper} {τ:Env} (r:RelT nt G W τ a):RelT nt G W (jF ops τ) a:=by
 refine ⟨r.size,fun t=>?_⟩
 unfold jF
 cases ops.toList.any (fun o=>o.dst==some t) with
 |true=>simp [Rel]
 |false=>exact r.get t
theorem DY {ops:Array Oper} {K:KS} {v:AV} {v':Value} (ag:Agree P nt F G0 W0 G W s a) (hv:Rel G W v v') (hp:panK ops K v s):Post P nt F G0 W0 K (.panic [{ v:=v',recovered:=false }]) a W :=
 ⟨G,{ s with τ:=jF ops s.τ },v,v',⟨ag.sim,ag.num,ag.evo,ag.tmps.mask,ag.defers,ag.rd⟩,rfl,hv,hp⟩
theorem Agree.skip (ag:Agree P nt F G0 W0 G W s a) (hd:pq nt o=true):Agree P nt F G0 W0 G W { s with τ:=aPut s.τ o.dst (.tuple []) } (a.put o.dst undef) :=
 ⟨ag.sim,ag.num,ag.evo,ag.tmps.put (uf hd) (by simp [Rel,RelL,undef]),by rw [put_defers];exact ag.defers,ag.rd⟩
theorem G9 (hF:nZ F) {ops:Array Oper} {K:KS} (hQ:∀ e a W,Post P nt F G0 W0 K e a W→Q e a W):∀ (l:List Oper) (i:Nat),(∀ k o,l[k]?=some o→ops[i+k]?=some o)→(∀ o ∈ l,pq nt o=true) →
  ∀ {G:Gh} {W:World} {s:AS} {a:Act},Agree P nt F G0 W0 G W s a→pE P ops l K s→wpOpsIn F m P ops Q (List.range' i l.length) a W:=by
 intro l
 induction l with
 |nil =>
  intro i _ _ G W s a ag hs
  exact hQ _ _ _ ⟨G,s,ag,hs⟩
 |cons o rest ih =>
  intro i hl hd G W s a ag hs
  have ho:ops[i]?=some o:=by simpa using hl 0 o rfl
  have hl':∀ k o',rest[k]?=some o'→ops[i+1+k]?=some o':=fun k o' hk=>by
   have:=hl (k+1) o' (by simpa using hk)
   rwa [show i+(k+1)=i+1+k by omega] at this
  rw [List.length_cons,List.range'_succ,wpOpsIn_cons]
  unfold wpOpIn
  rw [ho]
  simp only
  simp only [pE] at hs
  split at hs
  ·rename_i hw
   rw [if_pos (kH ag.tmps hw)]
   exact Bl hF ag (hd o (by simp)) (fun G' W' s' a' ag' hn=>ih (i+1) hl' (fun o' h'=>hd o' (by simp [h'])) ag' hn) (fun G' W' s' v v' ag' hv hp=>hQ _ _ _ (DY ag' hv hp)) hs
  ·rename_i hw
   rw [if_neg (by rw [kH ag.tmps hw];simp)]
   exact ⟨fZ hF,ih (i+1) hl' (fun o' h'=>hd o' (by simp [h'])) (ag.skip (hd o (by simp))) hs⟩
  ·exact hs.elim
end
end
section
variable {P:Program} {G:Gh} {h:ai} {W:World} {ops:Array Oper}
theorem Fs {e e':Operand→AV} (op:Op) (he:∀ x ∈ op.operands,e x=e' x) (h:ai) (p:Nat):aop P op e h p=aop P op e' h p:=by
 cases op <;> simp only [aop]
 all_goals try (simp only [Op.operands] at he)
 case move x=>rw [he x (by simp)]
 case assign x=>rw [he x (by simp)]
 case pick c a b=>rw [he c (by simp),he a (by simp),he b (by simp)]
 case box T x=>rw [he x (by simp)]
 case build t parts =>
  have:(parts.toList.map fun q=>(q.1,e q.2))=(parts.toList.map fun q=>(q.1,e' q.2)):=List.map_congr_left fun q hq=>by rw [he q.2 (by simp;exact ⟨q.1,by simpa using hq⟩)]
  rw [this]
 case buildSlice t len parts =>
  have:(parts.toList.map fun q=>(q.1,e q.2))=(parts.toList.map fun q=>(q.1,e' q.2)):=List.map_congr_left fun q hq=>by rw [he q.2 (by simp;exact ⟨q.1,by simpa using hq⟩)]
  rw [this]
 case load t a=>rw [he a (by simp)]
 case store t a x=>rw [he a (by simp),he x (by simp)]
 case nilCheck x=>rw [he x (by simp)]
 case binOp op t x y t2=>rw [he x (by simp),he y (by simp)]
 case unOp op t x=>cases op <;> simp only [aop] <;> rw [he x (by simp)]
 case typeAssert x a b c=>rw [he x (by simp)]
 case convert s d x=>rw [he x (by simp)]
 case makeInterface t x=>rw [he x (by simp)]
 case makeFunc fn first cap =>
  have h1:first.toList.map e=first.toList.map e':=List.map_congr_left fun q hq=>he q (by simp;exact .inl (by simpa using hq))
  have h2:cap.toList.map e=cap.toList.map e':=List.map_congr_left fun q hq=>he q (by simp;exact .inr (by simpa using hq))
  rw [h1,h2]
 case makeMap t r=>cases r <;> rfl
 case makeSlice t l c=>rw [he l (by simp),he c (by simp)]
 case field t x f=>rw [he x (by simp)]
 case index t x i=>rw [he x (by simp),he i (by simp)]
 case range t x=>rw [he x (by simp)]
 case entry x=>rw [he x (by simp)]
 case slice t x lo hi mx =>
  have h1:lo.map e=lo.map e':=by cases lo <;> simp;exact he _ (by simp)
  have h2:hi.map e=hi.map e':=by cases hi <;> simp;exact he _ (by simp)
  have h3:mx.map e=mx.map e':=by cases mx <;> simp;exact he _ (by simp)
  rw [he x (by simp),h1,h2,h3]
 case fieldAddr t x f=>rw [he x (by simp)]
 case indexAddr t x i=>rw [he x (by simp),he i (by simp)]
 case lookup t x i ok=>rw [he x (by simp),he i (by simp)]
 case mapUpdate t m k x=>rw [he m (by simp),he k (by simp),he x (by simp)]
 case extract x i=>rw [he x (by simp)]
 case call c =>
  have h1:c.args.toList.map e=c.args.toList.map e':=List.map_congr_left fun q hq=>he q (by simp [Call.operands];exact .inr (by simpa using hq))
  rw [h1]
theorem Ky {τ τ':Env} {l:List Tmp} {op:Op} (hl:∀ t,.tmp t ∈ op.operands→t ∈ l) (ht:∀ t ∈ l,τ t=τ' t):∀ x ∈ op.operands,aR τ x=aR τ' x:=by
 intro x hx
 cases x with
 |tmp t=>exact ht t (hl t hx)
 |_=>rfl
theorem zQ {o:Oper} {t:Tmp} (h:Operand.tmp t ∈ o.op.operands):t ∈ o.looksAt ops:=by
 unfold Oper.looksAt
 refine List.mem_append_left _ (List.mem_filterMap.2 ⟨.tmp t,by simpa using h,rfl⟩)
theorem Gj {o:Oper} {g:Nat} {b:Bool} {t:Tmp} (h:o.guard=some (g,b)) (hd:(ops[g]?).bind (·.dst)=some t):t ∈ o.looksAt ops:=by
 unfold Oper.looksAt
 refine List.mem_append_right _ ?_
 rw [h]
 simp only [hd,Option.toList_some,List.mem_singleton]
def uG (ops:Array Oper) (o:Oper) (τ τ':Env):Prop:=∀ t ∈ o.looksAt ops,τ t=τ' t
theorem uG.eval {o:Oper} {τ τ':Env} (h:uG ops o τ τ'):∀ x ∈ o.op.operands,aR τ x=aR τ' x:=Ky (fun t ht=>zQ ht) h
theorem uG.wanted {o:Oper} {τ τ':Env} (h:uG ops o τ τ'):eQ ops o τ=eQ ops o τ':=by
 unfold eQ
 split
 ·rfl
 ·rename_i j want hg
  split
  ·rfl
  ·rename_i t hd
   rw [h t (Gj hg hd)]
theorem uA {o:Oper} {s s':AS} {next next':AS→Prop} {pan pan':AV→AS→Prop} (hh:s'.h=s.h∧s'.n=s.n∧s'.ds=s.ds∧s'.rd=s.rd) (hs:uG ops o s.τ s'.τ)
  (hn:∀ v h' n' ds',next ⟨aPut s.τ o.dst v,h',n',ds',s.rd⟩→next' ⟨aPut s'.τ o.dst v,h',n',ds',s.rd⟩)
  (hp:∀ v h' n' ds',pan v ⟨s.τ,h',n',ds',s.rd⟩→pan' v ⟨s'.τ,h',n',ds',s.rd⟩) (ha:amOp P o s next pan):amOp P o s' next' pan':=by
 obtain ⟨τ,h,n,ds,rd⟩:=s
 obtain ⟨τ',h2,n2,ds2,rd2⟩:=s'
 simp only at hh hs hn hp
 obtain ⟨rfl,rfl,rfl,rfl⟩:=hh
 have st:oq P o ⟨τ,h2,n2,ds2,rd2⟩ next→oq P o ⟨τ',h2,n2,ds2,rd2⟩ next':=by
  intro hp h0
  have hp:=hp h0
  simp only at hp ⊢
  rw [← Fs o.op hs.eval]
  split at hp
  ·exact hn _ _ _ _ hp
  ·exact hp.elim
 unfold amOp at ha ⊢
 split at ha
 ·rename_i c hop
  split at ha
  ·exact ha.elim
  ·rename_i b hnr hc
   rcases ha with ha|ha
   ·exact .inl (st ha)
   ·refine .inr ?_
    have he:=hs.eval
    rw [hop] at he
    unfold kI at ha ⊢
    split at ha
    ·rename_i tS tX q x hc hts hxs
     have h1:aR τ q=aR τ' q:=he q (by simp [Op.operands,Call.operands];exact .inr (by rw [← Array.mem_toList_iff,hxs];simp))
     have h2:aR τ x=aR τ' x:=he x (by simp [Op.operands,Call.operands];exact .inr (by rw [← Array.mem_toList_iff,hxs];simp))
     simp only at ha ⊢
     rw [← h1,← h2]
     intro hfr
     have ha:=ha hfr
     split at ha
     ·exact hn _ _ _ _ ha
     ·exact ha.elim
    ·exact ha.elim
  ·rename_i f hc
   have he:=hs.eval
   rw [hop] at he
   have hf:aR τ f=aR τ' f:=he f (by simp [Op.operands,Call.operands,hc])
   have hargs:c.args.toList.map (aR τ)=c.args.toList.map (aR τ'):=List.map_congr_left fun q hq=>he q (by simp [Op.operands,Call.operands];exact .inr (by simpa using hq))
   simp only at ha ⊢
   rw [← hf,← hargs]
   exact Bt ha fun out h' n' hq=>by
    cases out with
    |ret v=>exact hn _ _ _ _ hq
    |panic v=>exact hp _ _ _ _ hq
  ·exact ha.elim
 ·rename_i x hop
  have he:=hs.eval
  rw [hop] at he
  simp only at ha ⊢
  rw [← he x (by simp [Op.operands])]
  unfold Fy at ha ⊢
  split at ha
  ·exact hp _ _ _ _ ha
  ·exact ha.elim
 ·rename_i c hop
  have he:=hs.eval
  rw [hop] at he
  split at ha
  ·rename_i f hc
   have hf:aR τ f=aR τ' f:=he f (by simp [Op.operands,Call.operands,hc])
   have hargs:c.args.toList.map (aR τ)=c.args.toList.map (aR τ'):=List.map_congr_left fun q hq=>he q (by simp [Op.operands,Call.operands];exact .inr (by simpa using hq))
   simp only at ha ⊢
   rw [← hf,← hargs]
   exact ⟨ha.1,ha.2.1,hn _ _ _ _ ha.2.2⟩
  ·exact ha.elim
 ·rename_i x hop
  have he:=hs.eval
  rw [hop] at he
  simp only at ha ⊢
  rw [← he x (by simp [Op.operands])]
  exact Bq ha fun v h' hk=>hn _ _ _ _ hk
 ·rename_i h1 h2 h3 h4
  exact st ha
theorem zl {o:Oper} {s:AS} {next next':AS→Prop} {pan:AV→AS→Prop} (hn:∀ s,next s→next' s) (hs:amOp P o s next pan):amOp P o s next' pan :=
 uA (ops:=#[]) ⟨rfl,rfl,rfl,rfl⟩ (fun _ _=>rfl) (fun v h' n' ds' hk=>hn _ hk) (fun _ _ _ _ h=>h) hs
def iY (P:Program) (ops:Array Oper) (i:Nat) (next:AS→Prop) (pan:AV→AS→Prop) (s:AS):Prop :=
 match ops[i]? with
 |Option.none=>next s
 |some o=>match eQ ops o s.τ with
  |some true=>amOp P o s next pan
  |some false=>next { s with τ:=aPut s.τ o.dst (.tuple []) }
  |Option.none=>False
theorem kM {i:Nat} {s:AS} {next next':AS→Prop} {pan:AV→AS→Prop} (hn:∀ s,next s→next' s) (hs:iY P ops i next pan s):iY P ops i next' pan s:=by
 unfold iY at hs ⊢
 split at hs
 ·exact hn _ hs
 ·split at hs
  ·exact zl hn hs
  ·exact hn _ hs
  ·exact hs.elim
def KQ (P:Program) (ops:Array Oper) (K:KS):Nat→Array Bool→AS→Prop
 |0,listed,s=>Region.ready .any ops listed=[]∧K .normal s
 |fuel+1,listed,s=>(Region.ready .any ops listed=[]→K .normal s) ∧
  ∀ i ∈ Region.ready .any ops listed,iY P ops i (KQ P ops K fuel (listed.setIfInBounds i true)) (panK ops K) s
theorem zm {F:Fence} {m:Nat} {nt:Nat} {G0:Gh} {W0:World} {Q:Exit→Act→World→Prop} {Kn:Act→World→Prop} {next:AS→Prop} {pan:AV→AS→Prop} (hF:nZ F) (hd:∀ (i:Nat) (o:Oper),ops[i]?=some o→pq nt o=true)
  {s:AS} {a:Act} (ag:Agree P nt F G0 W0 G W s a) {i:Nat} (hn:∀ G' W' s' a',Agree P nt F G0 W0 G' W' s' a'→next s'→Kn a' W')
  (hp:∀ G' W' s' v v',Agree P nt F G0 W0 G' W' s' a→Rel G' W' v v'→pan v s'→Q (.panic [{ v:=v',recovered:=false }]) a W') (hs:iY P ops i next pan s):wpOpIn F m P ops Q i Kn a W:=by
 unfold iY at hs
 unfold wpOpIn
 split at hs
 ·rename_i ho;rw [ho];exact hn _ _ _ _ ag hs
 ·rename_i o ho
  rw [ho]
  simp only
  have hdo:=hd i o ho
  split at hs
  ·rename_i hw
   rw [if_pos (kH ag.tmps hw)]
   exact Bl hF ag hdo hn hp hs
  ·rename_i hw
   rw [if_neg (by rw [kH ag.tmps hw];simp)]
   exact ⟨fZ hF,hn _ _ _ _ (ag.skip hdo) hs⟩
  ·exact hs.elim
theorem Ha {F:Fence} {m:Nat} {nt:Nat} {G0:Gh} {W0:World} {K:KS} {Q:Exit→Act→World→Prop} (hF:nZ F) (hQ:∀ e a W,Post P nt F G0 W0 K e a W→Q e a W) (hd:∀ (i:Nat) (o:Oper),ops[i]?=some o→pq nt o=true):∀ (fuel:Nat) (listed:Array Bool) {G:Gh} {W:World} {s:AS} {a:Act},
  Agree P nt F G0 W0 G W s a→KQ P ops K fuel listed s→wpAnyIn F m P .any ops Q fuel listed a W:=by
 intro fuel
 induction fuel with
 |zero =>
  intro listed G W s a ag hs
  exact ⟨hs.1,hQ _ _ _ ⟨G,s,ag,hs.2⟩⟩
 |succ fuel ih =>
  intro listed G W s a ag hs
  refine ⟨fun h0=>hQ _ _ _ ⟨G,s,ag,hs.1 h0⟩,fun i hi=>?_⟩
  exact zm hF hd ag (fun G' W' s' a' ag' hn=>ih _ ag' hn) (fun G' W' s' v v' ag' hv hp=>hQ _ _ _ (DY ag' hv hp)) (hs.2 i hi)
abbrev Pend:=List (Nat × (ai→Prop))
def waits (ops:Array Oper) (j k:Nat):Bool:=match ops[j]? with
 |some o=>o.after.any fun e=>Region.binds .any e&&e.on==k
 |Option.none=>false
def ST (ops:Array Oper) (T:Pend) (listed:Array Bool) (h:ai):Prop :=
 ∀ q ∈ T,(∀ j,listed.getD j false=true→(∀ q' ∈ T,q'.1≠j)→waits ops j q.1=false)→q.2 h
def amT (P:Program) (ops:Array Oper) (K:KS) (T:Pend):Nat→Array Bool→AS→Prop
 |0,listed,s=>Region.ready .any ops listed=[]∧K .normal s
 |fuel+1,listed,s=>(Region.ready .any ops listed=[]→K .normal s) ∧
  ∀ i ∈ Region.ready .any ops listed,iY P ops i (fun s'=>ST ops T (listed.setIfInBounds i true) s'.h∧amT P ops K T fuel (listed.setIfInBounds i true) s') (panK ops K) s
theorem Oz {K:KS} {T:Pend}:∀ (fuel:Nat) (listed:Array Bool) (s:AS),amT P ops K T fuel listed s→KQ P ops K fuel listed s
 |0,_,_,hs=>hs
 |fuel+1,_,_,hs=>⟨hs.1,fun i hi=>kM (fun s' hk=>Oz fuel _ s' hk.2) (hs.2 i hi)⟩
theorem ST.less {T:Pend} {q:Nat × (ai→Prop)} {listed:Array Bool} (hs:ST ops (q::T) listed h):ST ops T listed h:=by
 intro p hp hno
 refine hs p (List.mem_cons_of_mem _ hp) fun j hj hnT=>?_
 exact hno j hj fun q' hq'=>hnT q' (List.mem_cons_of_mem _ hq')
theorem CW {K:KS} {T:Pend} {q:Nat × (ai→Prop)}:∀ (fuel:Nat) (listed:Array Bool) (s:AS),amT P ops K (q::T) fuel listed s→amT P ops K T fuel listed s
 |0,_,_,hs=>hs
 |fuel+1,_,_,hs=>⟨hs.1,fun i hi=>kM (fun s' hk=>⟨hk.1.less,CW fuel _ s' hk.2⟩) (hs.2 i hi)⟩
def oK:Op→Bool
 |.call c=>match c.callee with|.builtin .recover=>false|.builtin b=>!(bN (.call c))|_=>false
 |.panic _=>false
 |.defer _=>false
 |.next _ _=>false
 |op=>!(bN op)
def vN (P:Program) (ops:Array Oper) (o:Oper) (Y:ai→Prop) (v:AV) (τ:Env):Prop :=
 (eQ ops o τ=some true∧oK o.op=true∧∀ h p,Y h→aop P o.op (aR τ) h p=some (v,h))∨(eQ ops o τ=some false∧v=.tuple [])
theorem xU {op:Op} (hq:oK op=true):bN op=false:=by
 unfold oK at hq
 split at hq
 ·rename_i c
  split at hq
  ·simp at hq
  ·simpa using hq
  ·simp at hq
 ·simp at hq
 ·simp at hq
 ·simp at hq
 ·simpa using hq
theorem JP {o:Oper} {s:AS} {next:AS→Prop} {pan:AV→AS→Prop} (hq:oK o.op=true) (hs:oq P o s next):amOp P o s next pan:=by
 unfold amOp
 unfold oK at hq
 split
 ·rename_i c hop
  rw [hop] at hq
  simp only at hq
  split
  ·rename_i hc;rw [hc] at hq;simp at hq
  ·exact .inl hs
  ·rename_i f hc;rw [hc] at hq;simp at hq
  ·rename_i a b hc;rw [hc] at hq;simp at hq
 ·rename_i x hop;rw [hop] at hq;simp at hq
 ·rename_i x hop;rw [hop] at hq;simp at hq
 ·rename_i x hop;rw [hop] at hq;simp at hq
 ·exact hs
theorem vN.op {i:Nat} {o:Oper} {Y:ai→Prop} {v:AV} {s:AS} (ho:ops[i]?=some o) (hy:vN P ops o Y v s.τ) (hY:Y s.h) {next:AS→Prop} {pan:AV→AS→Prop} (hn:next { s with τ:=aPut s.τ o.dst v }):iY P ops i next pan s:=by
 unfold iY
 rw [ho]
 simp only
 rcases hy with ⟨hw,hq,hv⟩|⟨hw,rfl⟩
 ·rw [hw]
  refine JP hq fun _=>?_
  rw [hv s.h _ hY]
  simp only [xU hq,cond_false,Nat.add_zero]
  exact hn
 ·rw [hw];exact hn
theorem jO {τ:Env} {dst:Option Nat} {v:AV} {t:Nat} (h:∀ d,dst=some d→t≠d):aPut τ dst v t=τ t:=by
 cases dst with
 |none=>rfl
 |some d =>
  have:=h d rfl
  have hb:(t==d)=false:=by simpa using this
  simp only [aPut,eupd,hb,cond_false]
theorem Fx {τ:Env} {x y:Option Nat} {v u:AV} (h:∀ d,x=some d→y≠some d):aPut (aPut τ x v) y u=aPut (aPut τ y u) x v:=by
 cases x with
 |none=>rfl
 |some a =>
  cases y with
  |none=>rfl
  |some b =>
   have hab:a≠b:=fun e=>h a rfl (by rw [e])
   funext t
   simp only [aPut,eupd]
   by_cases h1:t=a
   ·subst h1
    have:(t==b)=false:=by simpa using hab
    simp [this]
   ·have:(t==a)=false:=by simpa using h1
    simp [this]
theorem Gf {o:Oper} (ho:o ∈ ops.toList) (τ:Env) (v:AV):jF ops (aPut τ o.dst v)=jF ops τ:=by
 funext t
 unfold jF
 cases hc:ops.toList.any (fun o=>o.dst==some t) with
 |true=>rfl
 |false =>
  simp only [cond_false]
  refine jO fun d hd e=>?_
  subst e
  rw [List.any_eq_false] at hc
  exact hc o ho (by rw [hd];simp)
theorem OB {j:Nat} {oi oj:Oper} {Y:ai→Prop} {v:AV} {s:AS} (hi:oi ∈ ops.toList) (hj:ops[j]?=some oj) (hap:oi.apart ops oj=true) (hy:vN P ops oi Y v s.τ) {N:AS→Prop} {K:KS} (hs:iY P ops j N (panK ops K) { s with τ:=aPut s.τ oi.dst v }) :
  iY P ops j (fun s'=>vN P ops oi Y v s'.τ∧N { s' with τ:=aPut s'.τ oi.dst v }) (panK ops K) s:=by
 obtain ⟨h1,h2,h3⟩:=Oper.apart_spec hap
 have same:uG ops oj (aPut s.τ oi.dst v) s.τ:=fun t ht=>jO fun d hd e=>h1 d hd (e ▸ ht)
 have keep:∀ u,vN P ops oi Y v (aPut s.τ oj.dst u):=by
  intro u
  have s2:uG ops oi (aPut s.τ oj.dst u) s.τ:=fun t ht=>jO fun d hd e=>h3 d hd (e ▸ ht)
  rcases hy with ⟨hw,hq,hv⟩|⟨hw,rfl⟩
  ·exact .inl ⟨by rw [s2.wanted];exact hw,hq,fun h' p hY=>by rw [Fs oi.op s2.eval];exact hv h' p hY⟩
  ·exact .inr ⟨by rw [s2.wanted];exact hw,rfl⟩
 unfold iY at hs ⊢
 rw [hj] at hs ⊢
 simp only at hs ⊢
 rw [same.wanted] at hs
 split at hs
 ·rename_i hw
  refine uA (s:={ s with τ:=aPut s.τ oi.dst v }) ⟨rfl,rfl,rfl,rfl⟩ same (fun u h' n' ds' hk=>⟨keep u,?_⟩) (fun u h' n' ds' hk=>?_) hs
  ·simp only at hk ⊢
   rw [Fx h2] at hk
   exact hk
  ·unfold panK at hk ⊢
   simp only [Gf hi] at hk ⊢
   exact hk
 ·refine ⟨keep _,?_⟩
  rw [Fx h2] at hs
  exact hs
 ·exact hs.elim
def Closed (ops:Array Oper) (listed:Array Bool):Prop:=∀ j,listed.getD j false=true→∀ k,waits ops j k=true→listed.getD k false=true
theorem mI {listed:Array Bool} {j:Nat}:j ∈ Region.ready .any ops listed↔listed.getD j true=false∧∃ o,ops[j]?=some o∧∀ e ∈ o.after,Region.binds .any e=true→listed.getD e.on false=true:=mem_ready
theorem xR {listed:Array Bool} {j k:Nat} (hj:j ∈ Region.ready .any ops listed) (hw:waits ops j k=true):listed.getD k false=true:=by
 obtain ⟨_,o,ho,hall⟩:=mI.1 hj
 unfold waits at hw
 rw [ho] at hw
 simp only [Array.any_eq_true] at hw
 obtain ⟨n,hn,he⟩:=hw
 simp only [Bool.and_eq_true,beq_iff_eq] at he
 rw [← he.2]
 exact hall _ (Array.getElem_mem hn) he.1
theorem Closed.set {listed:Array Bool} {i:Nat} (hc:Closed ops listed) (hi:i ∈ Region.ready .any ops listed):Closed ops (listed.setIfInBounds i true):=by
 intro j hj k hw
 by_cases e:i=j
 ·subst e;exact getD_set_true (xR hi hw)
 ·rw [getD_set_ne false e] at hj
  exact getD_set_true (hc j hj k hw)
theorem kZ {listed:Array Bool} {i:Nat} (h:listed.getD i true=false):listed.getD i false=false∧i<listed.size:=by
 rcases Nat.lt_or_ge i listed.size with h'|h'
 ·simp [h'] at h ⊢;exact h
 ·simp [Array.getElem?_eq_none h'] at h
theorem oh {listed:Array Bool} {i j k:Nat} (hk:k≠i):((listed.setIfInBounds i true).setIfInBounds j true).getD k false=(listed.setIfInBounds j true).getD k false:=by
 by_cases hij:i=j
 ·subst hij;simp
 ·rw [Array.setIfInBounds_comm _ _ hij,getD_set_ne false (fun e=>hk e.symm)]
theorem Jr {i:Nat} {oi:Oper} {Y:ai→Prop} {v:AV} {K:KS} {T:Pend} (hi:ops[i]?=some oi) (hiT:∀ q ∈ T,q.1≠i):∀ (fuel:Nat) (listed:Array Bool) (s:AS),
  (∀ j oj,ops[j]?=some oj→j≠i→listed.getD j true=false→waits ops j i=false→oi.apart ops oj=true) →
  Closed ops listed→i ∈ Region.ready .any ops listed→vN P ops oi Y v s.τ→Y s.h→ST ops T listed s.h →
  amT P ops K ((i,Y)::T) fuel (listed.setIfInBounds i true) { s with τ:=aPut s.τ oi.dst v }→amT P ops K T (fuel+1) listed s:=by
 have stmono:∀ {listed:Array Bool} {h:ai} {j:Nat},ST ops T listed h→ST ops T (listed.setIfInBounds j true) h:=by
  intro listed h j hs q hq hno
  exact hs q hq fun k hk hnT=>hno k (getD_set_true hk) hnT
 intro fuel
 induction fuel with
 |zero =>
  intro listed s _ hcl hr hy hY hS H
  refine ⟨fun h0=>(by rw [h0] at hr;cases hr),fun j hj=>?_⟩
  by_cases hji:j=i
  ·subst hji;exact hy.op hi hY ⟨stmono hS,CW _ _ _ H⟩
  ·have:=ready_mono hj hji
   rw [H.1] at this
   cases this
 |succ fuel ih =>
  intro listed s hfree hcl hr hy hY hS H
  refine ⟨fun h0=>(by rw [h0] at hr;cases hr),fun j hj=>?_⟩
  by_cases hji:j=i
  ·subst hji;exact hy.op hi hY ⟨stmono hS,CW _ _ _ H⟩
  ·have h1:=H.2 j (ready_mono hj hji)
   obtain ⟨hjun,oj,hoj,hall⟩:=mI.1 hj
   have hiun:=(mI.1 hr).1
   have hnw:waits ops j i=false:=by
    cases hb:waits ops j i with
    |false=>rfl
    |true=>have:=xR hj hb;rw [(kZ hiun).1] at this;cases this
   have h2:=OB (Y:=Y) (by simpa using Array.mem_of_getElem? hi) hoj (hfree j oj hoj hji hjun hnw) hy h1
   refine kM (fun s' h3=>?_) h2
   obtain ⟨hy',hST,hrest⟩:=h3
   have hcl':=hcl.set hj
   have hfree':∀ k ok,ops[k]?=some ok→k≠i→(listed.setIfInBounds j true).getD k true=false→waits ops k i=false→oi.apart ops ok=true:=fun k ok hk hki hun hno=>by
    refine hfree k ok hk hki ?_ hno
    by_cases hjk:j=k
    ·subst hjk;exact hjun
    ·rw [getD_set_ne true hjk] at hun;exact hun
   have hY':Y s'.h:=by
    refine hST (i,Y) (by simp) fun k hk hnT=>?_
    have hki:k≠i:=fun e=>hnT (i,Y) (by simp) e.symm
    rw [oh hki] at hk
    cases hb:waits ops k i with
    |false=>rfl
    |true =>
     have:=hcl' k hk i hb
     rw [getD_set_ne false hji,(kZ hiun).1] at this
     cases this
   have hST':ST ops T (listed.setIfInBounds j true) s'.h:=by
    intro q hq hno
    refine hST q (List.mem_cons_of_mem _ hq) fun k hk hnT=>?_
    have hki:k≠i:=fun e=>hnT (i,Y) (by simp) e.symm
    rw [oh hki] at hk
    exact hno k hk fun q' hq'=>hnT q' (List.mem_cons_of_mem _ hq')
   refine ⟨hST',ih (listed.setIfInBounds j true) s' hfree' hcl' (ready_mono hr (Ne.symm hji)) hy' hY' hST' ?_⟩
   rw [Array.setIfInBounds_comm _ _ hji]
   exact hrest
end
section
variable {P:Program} {G:Gh} {h:ai} {W:World} {ops:Array Oper}
def kw:Op→Nat
 |.move _|.assign _|.pick ..|.nilCheck _|.binOp ..|.unOp ..|.convert ..|.makeInterface ..|.makeFunc ..|.slice ..|.fieldAddr ..|.indexAddr ..|.extract ..|.build ..|.buildSlice ..|.field ..|.index ..|.typeAssert ..=>0
 |.load ..|.lookup ..|.entry _=>1
 |.call c=>match c.callee with
  |.builtin .len|.builtin .max|.builtin .min=>0
  |_=>2
 |_=>2
theorem Ao {op:Op} (hk:kw op<2):oK op=true:=by
 cases op <;> simp only [kw] at hk <;> first|rfl|(exact absurd hk (by decide))|skip
 rename_i c
 split at hk <;> rename_i hc <;> first|(simp only [oK,bN,hc];done)|(simp only [oK,bN,hc];rfl)|(exact absurd hk (by decide))
theorem Ch {x:Option AV} {v:AV} {h h1 h':ai} (hl:x.map (·,h)=some (v,h1)):x.map (·,h')=some (v,h'):=by
 cases x with
 |none=>simp at hl
 |some u=>simp only [Option.map_some,Option.some.injEq,Prod.mk.injEq] at hl ⊢;exact ⟨hl.1,trivial⟩
theorem CV {op:Op} {e:Operand→AV} {v:AV} {h1:ai} {p:Nat} (hk:kw op=0) (ha:aop P op e h p=some (v,h1)) (h':ai) (p':Nat):aop P op e h' p'=some (v,h'):=by
 cases op <;> simp only [kw,reduceCtorEq] at hk <;> first|(exact absurd hk (by decide))|skip
 case move x=>simp only [aop,Option.some.injEq,Prod.mk.injEq] at ha ⊢;exact ⟨ha.1,trivial⟩
 case assign x=>simp only [aop,Option.some.injEq,Prod.mk.injEq] at ha ⊢;exact ⟨ha.1,trivial⟩
 case pick c a b =>
  simp only [aop] at ha ⊢
  split at ha
  ·simp only [Option.some.injEq,Prod.mk.injEq] at ha ⊢;exact ⟨ha.1,trivial⟩
  ·simp at ha
 case makeFunc fn a b=>simp only [aop,Option.some.injEq,Prod.mk.injEq] at ha ⊢;exact ⟨ha.1,trivial⟩
 case unOp u t x=>cases u <;> simp only [aop,reduceCtorEq] at ha ⊢ <;> exact Ch ha
 case call c =>
  simp only [aop] at ha ⊢
  split at hk <;> rename_i hc <;> first|(exact absurd hk (by decide))|skip
  all_goals
   rw [hc] at ha ⊢
   simp only at ha ⊢
   unfold jX at ha ⊢
   split at ha <;> first|(simp at ha;done)|skip
   all_goals first|(rename_i hb _ _;exact absurd hb (by decide))|exact Ch ha|skip
 all_goals (simp only [aop] at ha ⊢;exact Ch ha)
theorem pz {op:Op} {e:Operand→AV} {v:AV} {h1:ai} {p:Nat} (hk:kw op=1) (ha:aop P op e h p=some (v,h1)) (p':Nat):aop P op e h p'=some (v,h):=by
 cases op <;> simp only [kw,reduceCtorEq] at hk <;> first|(exact absurd hk (by decide))|skip
 case call c=>split at hk <;> exact absurd hk (by decide)
 all_goals (simp only [aop] at ha ⊢;exact Ch ha)
inductive Plan where
 |done
 |take (i:Nat) (rest:Plan)
 |one (i:Nat) (st:List Nat) (rest:Plan)
 |two (i:Nat) (st:List Nat) (p:Plan) (j:Nat) (st':List Nat) (q:Plan)
def Plan.len:Plan→Nat
 |.done=>0
 |.take _ r=>r.len+1
 |.one _ _ r=>r.len+1
 |.two _ _ p _ _ q=>max p.len q.len+1
def yieldOf (P:Program) (o:Op) (τ:Env) (v:AV):ai→Prop:=fun h'=>kw o=0∨(kw o=1→∀ p,aop P o (aR τ) h' p=some (v,h'))
def z8 (T:Pend) (st:List Nat) (h:ai):Prop:=∀ q ∈ T,st.contains q.1=true→q.2 h
def amDr (P:Program) (ops:Array Oper) (K:KS):Plan→Pend→AS→Prop
 |.done,T,s=>K .normal s
 |.take i rest,T,s=>match ops[i]? with
  |some o=>match eQ ops o s.τ with
   |some true=>match aop P o.op (aR s.τ) s.h 0 with
    |some (v,_)=>amDr P ops K rest ((i,yieldOf P o.op s.τ v)::T) { s with τ:=aPut s.τ o.dst v }
    |Option.none=>False
   |some false=>amDr P ops K rest ((i,fun _=>True)::T) { s with τ:=aPut s.τ o.dst (.tuple []) }
   |Option.none=>False
  |Option.none=>False
 |.one i st rest,T,s=>iY P ops i (fun s'=>z8 T st s'.h∧amDr P ops K rest T s') (panK ops K) s
 |.two i st p j st' q,T,s=>iY P ops i (fun s'=>z8 T st s'.h∧amDr P ops K p T s') (panK ops K) s∧iY P ops j (fun s'=>z8 T st' s'.h∧amDr P ops K q T s') (panK ops K) s
def freeB (ops:Array Oper) (listed:Array Bool) (i:Nat):Bool :=
 (List.range ops.size).all fun j=>j==i||listed.getD j true||waits ops j i||(match ops[i]?,ops[j]? with|some oi,some oj=>oi.apart ops oj|_,_=>true)
def Nb (ops:Array Oper) (k:Nat):Bool:=match ops[k]? with|some o=>kw o.op==0|Option.none=>false
def stOk (ops:Array Oper) (T:List Nat) (listed:Array Bool) (st:List Nat):Bool :=
 T.all fun k=>Nb ops k||st.contains k||(List.range ops.size).any fun j=>listed.getD j false&&!(T.contains j)&&waits ops j k
def jy (ops:Array Oper):Plan→Array Bool→List Nat→Bool
 |.done,listed,_=>(Region.ready .any ops listed).isEmpty
 |.take i rest,listed,T=>(Region.ready .any ops listed).contains i&&freeB ops listed i&&(match ops[i]? with|some o=>decide (kw o.op<2)|Option.none=>false)&&!(T.contains i)&&jy ops rest (listed.setIfInBounds i true) (i::T)
 |.one i st rest,listed,T=>(Region.ready .any ops listed==[i])&&stOk ops T (listed.setIfInBounds i true) st&&jy ops rest (listed.setIfInBounds i true) T
 |.two i st p j st' q,listed,T=>(Region.ready .any ops listed==[i,j])&&stOk ops T (listed.setIfInBounds i true) st&&jy ops p (listed.setIfInBounds i true) T&&stOk ops T (listed.setIfInBounds j true) st'&&jy ops q (listed.setIfInBounds j true) T
def UB (ops:Array Oper) (T:Pend):Prop:=∀ q ∈ T,Nb ops q.1=true→∀ h,q.2 h
theorem uT {T:Pend} {listed:Array Bool} {st:List Nat} (h0:UB ops T) (hs:stOk ops (T.map (·.1)) listed st=true) (hst:z8 T st h):ST ops T listed h:=by
 intro q hq hno
 have:=List.all_eq_true.1 hs q.1 (List.mem_map_of_mem hq)
 simp only [Bool.or_eq_true] at this
 rcases this with (h1|h1)|h1
 ·exact h0 q hq h1 h
 ·exact hst q hq h1
 ·obtain ⟨j,_,hj⟩:=List.any_eq_true.1 h1
  simp only [Bool.and_eq_true,Bool.not_eq_eq_eq_not,Bool.not_true] at hj
  obtain ⟨⟨hl,hnT⟩,hw⟩:=hj
  have:=hno j hl (fun q' hq' e=>by
   have hc:(T.map (·.1)).contains j=true:=by simp;exact ⟨q'.2,by rw [← e];exact hq'⟩
   rw [hc] at hnT;cases hnT)
  rw [hw] at this;cases this
theorem KN {K:KS}:∀ (pl:Plan) (listed:Array Bool) (T:Pend) (s:AS) (fuel:Nat),pl.len≤fuel→jy ops pl listed (T.map (·.1))=true→Closed ops listed→UB ops T→ST ops T listed s.h→amDr P ops K pl T s→amT P ops K T fuel listed s:=by
 intro pl
 induction pl with
 |done =>
  intro listed T s fuel _ hp _ _ _ ha
  have hr:Region.ready .any ops listed=[]:=by simpa [jy] using hp
  cases fuel with
  |zero=>exact ⟨hr,ha⟩
  |succ fuel=>exact ⟨fun _=>ha,fun i hi=>by rw [hr] at hi;cases hi⟩
 |take i rest ih =>
  intro listed T s fuel hf hp hcl hF hST ha
  simp only [jy,Bool.and_eq_true] at hp
  obtain ⟨⟨⟨⟨hr,hfree⟩,hkind⟩,hnT⟩,hp⟩:=hp
  have hr:i ∈ Region.ready .any ops listed:=by simpa using hr
  simp only [Plan.len] at hf
  obtain ⟨fuel,rfl⟩:∃ m,fuel=m+1:=⟨fuel - 1,by omega⟩
  simp only [amDr] at ha
  split at ha
  ·rename_i o ho
   rw [ho] at hkind
   simp only [decide_eq_true_eq] at hkind
   have hiT:∀ q ∈ T,q.1≠i:=by
    intro q hq e
    have hc:(T.map (·.1)).contains i=true:=by simp;exact ⟨q.2,by rw [← e];exact hq⟩
    rw [hc] at hnT;cases hnT
   have hfr:∀ j oj,ops[j]?=some oj→j≠i→listed.getD j true=false→waits ops j i=false→o.apart ops oj=true:=by
    intro j oj hj hji hl hw
    have hjs:j<ops.size:=(Array.getElem?_eq_some_iff.1 hj).1
    have:=List.all_eq_true.1 hfree j (List.mem_range.2 hjs)
    rw [ho,hj,hl,hw] at this
    simpa [hji] using this
   have hST':∀ {Y:ai→Prop},Y s.h→ST ops ((i,Y)::T) (listed.setIfInBounds i true) s.h:=by
    intro Y hY q hq hno
    rcases List.mem_cons.1 hq with rfl|hq
    ·exact hY
    ·refine hST q hq fun j hj hnT'=>?_
     by_cases e:j=i
     ·subst e
      have:=(kZ (mI.1 hr).1).1
      rw [hj] at this;cases this
     ·exact hno j (getD_set_true hj) (fun q' hq'=>by
       rcases List.mem_cons.1 hq' with rfl|hq'
       ·exact fun e'=>e e'.symm
       ·exact hnT' q' hq')
   have hF':∀ {Y:ai→Prop},(Nb ops i=true→∀ h,Y h)→UB ops ((i,Y)::T):=by
    intro Y hY q hq
    rcases List.mem_cons.1 hq with rfl|hq
    ·exact hY
    ·exact hF q hq
   split at ha
   ·rename_i hw
    split at ha
    ·rename_i v h1 hop
     have hk0:Nb ops i=true→∀ h,yieldOf P o.op s.τ v h:=by
      intro hk h'
      unfold Nb at hk
      rw [ho] at hk
      exact .inl (by simpa using hk)
     have hY:yieldOf P o.op s.τ v s.h:=by
      by_cases h0:kw o.op=0
      ·exact .inl h0
      ·exact .inr fun hk1=>pz hk1 hop
     refine Jr (Y:=yieldOf P o.op s.τ v) (v:=v) ho hiT fuel listed s hfr hcl hr (.inl ⟨hw,Ao hkind,fun h' p hY'=>?_⟩) hY hST (ih _ _ _ _ (by omega) hp (hcl.set hr) (hF' hk0) (hST' hY) ha)
     by_cases h0:kw o.op=0
     ·exact CV h0 hop h' p
     ·exact (hY'.resolve_left h0) (by omega) p
    ·exact ha.elim
   ·rename_i hw
    exact Jr (Y:=fun _=>True) (v:=.tuple []) ho hiT fuel listed s hfr hcl hr (.inr ⟨hw,rfl⟩) trivial hST (ih _ _ _ _ (by omega) hp (hcl.set hr) (hF' fun _ _=>trivial) (hST' trivial) ha)
   ·exact ha.elim
  ·exact ha.elim
 |one i st rest ih =>
  intro listed T s fuel hf hp hcl hF hST ha
  simp only [jy,Bool.and_eq_true,beq_iff_eq] at hp
  obtain ⟨⟨hr,hst⟩,hp⟩:=hp
  simp only [Plan.len] at hf
  obtain ⟨fuel,rfl⟩:∃ m,fuel=m+1:=⟨fuel - 1,by omega⟩
  have hir:i ∈ Region.ready .any ops listed:=by rw [hr];simp
  refine ⟨(fun h0=>by rw [hr] at h0;cases h0),fun j hj=>?_⟩
  rw [hr] at hj
  obtain rfl:j=i:=by simpa using hj
  exact kM (fun s' hk=>⟨uT hF hst hk.1,ih _ _ _ _ (by omega) hp (hcl.set hir) hF (uT hF hst hk.1) hk.2⟩) ha
 |two i st p j st' q ihp ihq =>
  intro listed T s fuel hf hp hcl hF hST ha
  simp only [jy,Bool.and_eq_true,beq_iff_eq] at hp
  obtain ⟨⟨⟨⟨hr,hst⟩,hp⟩,hst'⟩,hq⟩:=hp
  simp only [Plan.len] at hf
  obtain ⟨fuel,rfl⟩:∃ m,fuel=m+1:=⟨fuel - 1,by omega⟩
  have hir:i ∈ Region.ready .any ops listed:=by rw [hr];simp
  have hjr:j ∈ Region.ready .any ops listed:=by rw [hr];simp
  refine ⟨(fun h0=>by rw [hr] at h0;cases h0),fun k hk=>?_⟩
  rw [hr] at hk
  rcases List.mem_cons.1 hk with rfl|hk
  ·exact kM (fun s' hk=>⟨uT hF hst hk.1,ihp _ _ _ _ (by omega) hp (hcl.set hir) hF (uT hF hst hk.1) hk.2⟩) ha.1
  ·obtain rfl:k=j:=by simpa using hk
   exact kM (fun s' hk=>⟨uT hF hst' hk.1,ihq _ _ _ _ (by omega) hq (hcl.set hjr) hF (uT hF hst' hk.1) hk.2⟩) ha.2
def RQ (P:Program) (ops:Array Oper) (K:KS) (s:AS):Prop :=
 ∃ pl:Plan,jy ops pl (Array.replicate ops.size false) []=true∧pl.len≤ops.size∧amDr P ops K pl [] s
theorem Bo {K:KS} {s:AS} (ha:RQ P ops K s):KQ P ops K ops.size (Array.replicate ops.size false) s:=by
 obtain ⟨pl,hp,hl,hd⟩:=ha
 refine Oz _ _ _ (KN pl _ [] s _ hl hp ?_ (fun q hq=>by cases hq) ?_ hd)
 ·intro j hj
  rw [Array.getD_eq_getD_getElem?] at hj
  rcases Nat.lt_or_ge j ops.size with h'|h'
  ·simp [h'] at hj
  ·simp [Array.getElem?_eq_none,h'] at hj
 ·intro q hq;cases hq
end
end Go.Proofs.YthkjmiejaoomcaaGreat.Am
