/- Part of the proof of a law of layer 5: own texts, joined. -/
import Derived.Test.YthkjmiejaoomcaaGreatSd
import Derived.Test.YthkjmiejaoomcaaGreatSe
set_option linter.unusedVariables false
set_option linter.unusedSimpArgs false
set_option linter.unnecessarySimpa false
namespace Go.Proofs.YthkjmiejaoomcaaGreat.Am
open Go Go.RowKit Go.Proofs
set_option maxRecDepth 20000
theorem chk4:zLb 187 16=true:=by kernel_rfl
theorem z9j:Nat.beq Tryz.prog.funcs.toList.length 203=true:=by kernel_rfl
theorem zWx:Tryz.prog.funcs.toList.length=203:=zB0.1 z9j
theorem zH5 {a n g:Nat} (h:zLb a n=true) (h1:a≤g) (h2:g<a+n):chkG g=true:=by
 unfold zLb at h
 rw [zHt,List.all_eq_true] at h
 exact h g (List.mem_range'_1.2 ⟨h1,h2⟩)
theorem yMe:yA7 hn0:=by
 intro g fn c hf
 have hlt:g<203:=by
  obtain ⟨h1,_⟩:=zQg hf
  have:=(Array.getElem?_eq_some_iff.1 h1).1
  rw [← Array.length_toList,zWx] at this
  exact this
 have:chkG g=true:=by
  rcases Nat.lt_or_ge g 50 with h|h
  ·exact zH5 chk0 (by omega) (by omega)
  ·rcases Nat.lt_or_ge g 100 with h|h
   ·exact zH5 chk1 (by omega) (by omega)
   ·rcases Nat.lt_or_ge g 140 with h|h
    ·exact zH5 chk2 (by omega) (by omega)
    ·rcases Nat.lt_or_ge g 187 with h|h
     ·exact zH5 chk3 (by omega) (by omega)
     ·exact zH5 chk4 (by omega) (by omega)
 unfold chkG at this
 rw [hf] at this
 exact this
noncomputable def z6q:Out:=yAc hn0 100000 200 (.func (.func 13) [] []) [] .nil 0
def z7m (o:Out):Bool:=match o with
 |.val (.bool true) _ _=>true
 |_=>false
theorem yBy:z7m z6q=true:=by kernel_rfl
theorem z2x (h:zAd) (n:Nat):zEp Tryz.prog 13 [] h n fun o h' n'=>o=.ret (.bool true)∧h'=h∧n'=n:=by
 refine zEp.framed ?_ h n
 have hr:=yBy
 have hc:=z18 yMe 100000 200 (.func (.func 13) [] []) [] .nil 0
 have hx:∃ H m,z6q=.val (.bool true) H m:=by
  unfold z7m at hr
  split at hr
  ·rename_i H m he;exact ⟨H,m,he⟩
  ·cases hr
 obtain ⟨H,m,hx⟩:=hx
 have hs:yAc hn0 100000 200 (.func (.func 13) [] []) [] .nil 0=.val (.bool true) H m:=hx
 rw [hs] at hc
 rcases hc with ⟨_,_,_,hl⟩|hc
 ·cases hl
 ·have hc:zEp Tryz.prog 13 [] (hpT .nil) 0 (IsV (.val (.bool true) H m)):=hc
  have he:hpT (.nil:Tr XObj)=fun _=>Option.none:=by
   funext i
   unfold hpT
   rw [zD9];rfl
  rw [he] at hc
  refine hc.mono fun o h' n' hq=>?_
  cases o with
  |ret v=>obtain ⟨H',h1,_⟩:=hq;injection h1 with h1;rw [h1]
  |panic v=>obtain ⟨H',h1,_⟩:=hq;cases h1
end Go.Proofs.YthkjmiejaoomcaaGreat.Am
