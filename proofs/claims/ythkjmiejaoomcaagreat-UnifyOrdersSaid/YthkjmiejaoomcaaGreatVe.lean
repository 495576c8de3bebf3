/- Part of the proof of a law of layer 5: own texts, joined. -/
import Derived.Test.YthkjmiejaoomcaaGreatVc
set_option linter.unusedVariables false
set_option linter.unusedSimpArgs false
set_option linter.unnecessarySimpa false
namespace Go.Proofs.YthkjmiejaoomcaaGreat.Am
open Go Go.RowKit
set_option linter.unusedVariables false
variable {P:Program}
theorem gT.framed {f:FuncId} {b:Bool} (k:gT P f [] (fun _=>Option.none) 0 fun o _ _=>o=.ret (.bool b)) (h:ai) (n:Nat):gT P f [] h n fun o h' n'=>o=.ret (.bool b)∧h'=h∧n'=n:=by
 refine ⟨k.1,fun F m G W vargs hF hro sim hn hr=>?_⟩
 let G2:Gh:=⟨0,G.obj,G.stable,fun b=>b<W.heap.size⟩
 have hr2:RelL G2 W [] vargs.toList:=by simpa only [RelL] using hr
 have sim2:Sim P G2 (fun _=>Option.none) W:={ dom:=fun i o h=>by simp at h,obj:=fun i o h=>by simp at h,inj:=fun i j a b h=>by simp at h,stab:=sim.stab,prt:=fun b hb=>hb }
 refine (k.2 F m G2 W vargs hF hro sim2 rfl hr2).mono fun e W' hq=>?_
 obtain ⟨o,h',G',rfl,sim',evo,rel⟩:=hq
 have hblk:∀ c,c<W.heap.size→W'.heap[c]?=W.heap[c]?:=fun c hc=>evo.keep.block c hc
 have eg:Evo G W G W':=by
  refine ⟨rfl,Nat.le_refl _,fun _ _=>rfl,fun b o v hs hc=>⟨hs,?_⟩,evo.keep.less fun c hc=>sim.prt c hc,fun _ _ _ h=>h⟩
  have hb:=hblk b (sim.stab b o hs)
  simp only [World.cell?] at hc ⊢
  rw [hb];exact hc
 refine ⟨.ret (.bool b),h,G,⟨rfl,rfl,hn⟩,?_,eg,?_⟩
 ·exact ⟨sim.dom,fun i o hi=>(sim.obj i o hi).kept eg (sim.dom i o hi) (hblk _ (sim.obj i o hi).lt) (fun _ h=>h),sim.inj,fun b o hb=>Nat.lt_of_lt_of_le (sim.stab b o hb) evo.keep.size,fun b hb=>Nat.lt_of_lt_of_le (sim.prt b hb) evo.keep.size⟩
 ·cases e with
  |returned v' =>
   have h1:Rel G' W' (.bool b) v':=rel
   show Rel G W (.bool b) v'
   simp only [Rel] at h1 ⊢
   exact h1
  |panicked ch=>exact rel.elim
  |outgrown=>exact rel.elim
end Go.Proofs.YthkjmiejaoomcaaGreat.Am
