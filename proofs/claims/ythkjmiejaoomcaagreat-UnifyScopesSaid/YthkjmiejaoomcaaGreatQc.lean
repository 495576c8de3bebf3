/- Part of the proof of a law of layer 5: own texts, joined. -/
import Derived.Test.YthkjmiejaoomcaaGreatQb
set_option linter.unusedVariables false
set_option linter.unusedSimpArgs false
set_option linter.unnecessarySimpa false
namespace Go.Proofs.YthkjmiejaoomcaaGreat.Am
open Go Go.RowKit Go.Proofs
set_option linter.unusedVariables false
structure Hints where
 own : Nat → Nat → Bool
 plan : Nat → Nat → Option (Plan × List Nat)
abbrev CallF := AV → List AV → Tr XObj → Nat → Out
abbrev RunF := Out → St → (St → Out) → (AV → St → Out) → Out
inductive PE where
 | free (i : Nat)
 | rd (i : Nat) (op : Op) (τ : Tr AV) (v : AV)
noncomputable section
def rPut (d : Option Nat) : AV → Tr AV → (Tr AV → Out) → Out := Option.rec (motive := fun _ => AV → Tr AV → (Tr AV → Out) → Out) (fun v τ k => k τ) (fun d v τ k => setK (some v) (bits d) τ k) d
def rX (d : Option Nat) (F : OpF) : RunF := fun err s k pan => St.rec (motive := fun _ => Out) (fun τ H n ds => F err τ H n fun v H n => rPut d v τ fun τ => k ⟨τ, H, n, ds⟩) s
def rSkip (d : Option Nat) : RunF := fun err s k pan => St.rec (motive := fun _ => Out) (fun τ H n ds => rPut d (.tuple []) τ fun τ => k ⟨τ, H, n, ds⟩) s
def rFail : RunF := fun err s k pan => err
def callEnd (d : Option Nat) (err : Out) (τ : Tr AV) (ds : List ADef) (k : St → Out) (pan : AV → St → Out) (o : Out) : Out :=
 Out.rec (motive := fun _ => Out) (fun f r i => .fail f r i) (fun _ => err) (fun _ _ => err) (fun _ => err) (fun _ _ => err) (fun v H n => rPut d v τ fun τ => k ⟨τ, H, n, ds⟩) (fun v H n => pan v ⟨τ, H, n, ds⟩) (fun _ _ _ _ => err) o
def rCall (call : CallF) (d : Option Nat) (f : Operand) (args : Array Operand) : RunF := fun err s k pan => St.rec (motive := fun _ => Out) (fun τ H n ds => callEnd d err τ ds k pan (call (ev f τ) (evL args.toList τ) H n)) s
def panA (v : AV) : Out → St → (AV → St → Out) → Out := match v with
 | .iface t x => fun err s pan => pan (.iface t x) s
 | _ => fun err s pan => err
def rPanic (x : Operand) : RunF := fun err s k pan => panA (ev x s.τ) err s pan
def defA (v : AV) : Out → (AV → Out) → Out := match v with
 | .func fn a b => fun err k => k (.func fn a b)
 | _ => fun err k => err
def rDefer (rd : Option Nat) (d : Option Nat) (f : Operand) (args : Array Operand) : RunF := fun err s k pan => St.rec (motive := fun _ => Out)
 (fun τ H n ds => Option.rec (motive := fun _ => Out) (defA (ev f τ) err fun v => fListV (evL args.toList τ) fun l => rPut d (.tuple []) τ fun τ => k ⟨τ, H, n, .fn v l :: ds⟩) (fun _ => err) rd) s
def rBuiltin (own : Bool) (d : Option Nat) (c : Call) (b : Builtin) : RunF := match b with
 | .recover => rFail
 | b => rX d (oBuiltin own b c)
def rCallee (call : CallF) (own : Bool) (d : Option Nat) (c : Call) (cl : Callee) : RunF := match cl with
 | .builtin b => rBuiltin own d c b
 | .value f => rCall call d f c.args
 | .invoke _ _ => rFail
def rDeferee (rd : Option Nat) (d : Option Nat) (c : Call) (cl : Callee) : RunF := match cl with
 | .value f => rDefer rd d f c.args
 | _ => rFail
def runOp (call : CallF) (own : Bool) (rd : Option Nat) (d : Option Nat) (op : Op) : RunF := match op with
 | .call c => rCallee call own d c c.callee
 | .panic x => rPanic x
 | .defer c => rDeferee rd d c c.callee
 | op => rX d (xop op)
def gSel (w : Bool) (v : AV) : RunF → RunF → RunF := match v with
 | .bool b => fun go skip => Bool.rec (Bool.rec go skip w) (Bool.rec skip go w) b
 | .tuple _ => fun go skip => skip
 | _ => fun go skip => rFail
def stepG (d : Option Nat) (g : GT) (run : RunF) : RunF := match g with
 | .go => run
 | .off => rSkip d
 | .at_ t w => fun err s k pan => gSel w (evT t s.τ) run (rSkip d) err s k pan
def maskT (l : List Oper) (τ : Tr AV) : Tr AV := List.rec (motive := fun _ => Tr AV) τ (fun o _ ih => Option.rec (motive := fun _ => Tr AV) ih (fun d => setP (some .any) (bits d) ih) o.dst) l
def panX (ops : Array Oper) : AV → St → Out := fun v s => St.rec (motive := fun _ => Out) (fun τ H n ds => .panic v ⟨maskT ops.toList τ, H, n, ds⟩) s
def dN (d : Option Nat) : Nat := Option.rec (motive := fun _ => Nat) 9999 (fun d => d) d
def seqX (call : CallF) (own : Bool) (fr : Fr) (id : Nat) (ops : Array Oper) (l : List CO) : St → Out :=
 List.rec (motive := fun _ => St → Out) (fun s => .norm s) (fun o _ ih s => CO.rec (motive := fun _ => Out) (fun d op g => stepG d g (runOp call own fr.rd d op) (.fail fr.f id (dN d)) s ih (panX ops)) o) l
def leq (f : AV → AV → Bool) : List AV → List AV → Bool
 | [], [] => true
 | a :: l, b :: m => Bool.rec false (leq f l m) (f a b)
 | _, _ => false
def avEq0 (a b : AV) : Bool := match a, b with
 | .any, .any => true
 | .someBool, .someBool => true
 | .yield i, .yield j => Nat.beq i j
 | .bool x, .bool y => Bool.rec (Bool.rec true false y) y x
 | .int k x, .int k' y => kEq k k' && iEq x y
 | .str x, .str y => strEq x y
 | .ptr i o, .ptr j p => Nat.beq i j && Nat.beq o p
 | .nilptr, .nilptr => true
 | .sl i o n, .sl j p m => Nat.beq i j && Nat.beq o p && Nat.beq n m
 | .map i, .map j => Nat.beq i j
 | .nilmap, .nilmap => true
 | .nilfunc, .nilfunc => true
 | .nilI, .nilI => true
 | _, _ => false
def tokEq (a b : Tok) : Bool := match a, b with
 | .none, .none => true
 | .full, .full => true
 | .nil, .nil => true
 | .id i, .id j => Nat.beq i j
 | _, _ => false
def avEq1 (f : AV → AV → Bool) (a b : AV) : Bool := match a, b with
 | .cptr l o, .cptr m p => Nat.beq o p && leq f l m
 | .list z l n t, .list y m k u => Nat.beq z y && Nat.beq n k && tokEq t u && leq f l m
 | .iface t v, .iface u w => Nat.beq t u && f v w
 | .agg l, .agg m => leq f l m
 | .tuple l, .tuple m => leq f l m
 | .func (.func g) l l', .func (.func g') m m' => Nat.beq g g' && leq f l m && leq f l' m'
 | a, b => avEq0 a b
def avEq (n : Nat) : AV → AV → Bool := Nat.rec (motive := fun _ => AV → AV → Bool) (fun _ _ => false) (fun _ ih => avEq1 ih) n
def peOk (st : List Nat) (H : Tr XObj) (q : PE) : Bool := match q with
 | .free _ => true
 | .rd i op τ v => !(st.contains i) || Option.rec (motive := fun _ => Bool) false (fun q => avEq 100 q.1 v) (aop Tryz.prog op (aEval (envT τ)) (hpT H) 0)
def staysX (st : List Nat) (T : List PE) (H : Tr XObj) : Bool := List.rec (motive := fun _ => Bool) true (fun _ _ _ => allB (peOk st H) T) st
def rTake (i : Nat) (d : Option Nat) (op : Op) (T : List PE) (k : List PE → St → Out) : RunF := fun err s _ pan => St.rec (motive := fun _ => Out)
 (fun τ H n ds => xop op err τ H n fun v _ _ => rPut d v τ fun τ' => Bool.rec (k (.rd i op τ v :: T) ⟨τ', H, n, ds⟩) (k (.free i :: T) ⟨τ', H, n, ds⟩) (Nat.beq (aKind op) 0)) s
def rTakeSkip (i : Nat) (d : Option Nat) (T : List PE) (k : List PE → St → Out) : RunF := fun err s _ pan => rSkip d err s (k (.free i :: T)) pan
def takeG (i : Nat) (d : Option Nat) (g : GT) (op : Op) (T : List PE) (k : List PE → St → Out) : RunF := match g with
 | .go => rTake i d op T k
 | .off => rTakeSkip i d T k
 | .at_ t w => fun err s k' pan => gSel w (evT t s.τ) (rTake i d op T k) (rTakeSkip i d T k) err s k' pan
def emptyN (l : List Nat) : Bool := match l with
 | [] => true
 | _ => false
def oneDone (j : Nat) (p : Plan) : Bool := match p with
 | .one j' st .done => Nat.beq j j' && emptyN st
 | _ => false
def storeCO (o : CO) : Option (TypeId × Operand × Operand) := match o with
 | ⟨Option.none, .store T a x, .go⟩ => some (T, a, x)
 | _ => Option.none
def ptrA (v : AV) : Option Nat := match v with
 | .ptr i _ => some i
 | _ => Option.none
def apartP (a b : AV) : Bool := match ptrA a, ptrA b with
 | some i, some j => !(Nat.beq i j)
 | _, _ => false
def twoS (err : Out) (p q : TypeId × Operand × Operand) (s : St) : Out := St.rec (motive := fun _ => Out) (fun τ H n ds =>
 Bool.rec err (oStore p.1 p.2.1 p.2.2 err τ H n fun _ H1 _ => oStore q.1 q.2.1 q.2.2 err τ H1 n fun _ H2 _ => .norm ⟨τ, H2, n, ds⟩) (apartP (ev p.2.1 τ) (ev q.2.1 τ))) s
def twoX (err : Out) (cl : List CO) (i : Nat) (st : List Nat) (p : Plan) (j : Nat) (st' : List Nat) (q : Plan) (s : St) : Out :=
 Option.rec (motive := fun _ => Out) err (fun c1 => Option.rec (motive := fun _ => Out) err (fun c2 => Bool.rec err (twoS err c1 c2 s) (oneDone j p && oneDone i q && emptyN st && emptyN st')) ((nthCO cl j).bind storeCO)) ((nthCO cl i).bind storeCO)
def drX (call : CallF) (own : Bool) (fr : Fr) (id : Nat) (ops : Array Oper) (cl : List CO) (pl : Plan) : List PE → St → Out :=
 Plan.rec (motive := fun _ => List PE → St → Out) (fun _ s => .norm s)
  (fun i _ ih T s => Option.rec (motive := fun _ => Out) (.fail fr.f id i) (fun o => CO.rec (motive := fun _ => Out) (fun d op g => takeG i d g op T ih (.fail fr.f id i) s (fun s => .fail fr.f id i) (panX ops)) o) (nthCO cl i))
  (fun i st _ ih T s => Option.rec (motive := fun _ => Out) (.fail fr.f id i) (fun o => CO.rec (motive := fun _ => Out) (fun d op g => stepG d g (runOp call own fr.rd d op) (.fail fr.f id i) s (fun s => Bool.rec (.fail fr.f id i) (ih T s) (staysX st T s.H)) (panX ops)) o) (nthCO cl i))
  (fun i st p j st' q _ _ _ s => twoX (.fail fr.f id i) cl i st p j st' q s) pl
def draChk (ops : Array Oper) (pl : Plan) (ord : List Nat) : Bool :=
 planOk (lateOps Tryz.prog ops) pl (Array.replicate ops.size false) [] && Nat.ble pl.len ops.size && ordOk (lateOps Tryz.prog ops) ord (Array.replicate ops.size false)
def lateCO (ops : Array Oper) : List CO := compL (lateOps Tryz.prog ops).toList (lateOps Tryz.prog ops).toList
def drawX (hn : Hints) (call : CallF) (fr : Fr) (id : Nat) (ops : Array Oper) : St → Out := fun s =>
 Option.rec (motive := fun _ => Out) (.fail fr.f id 8801) (fun q => drX call (hn.own fr.f id) fr id ops (lateCO ops) q.1 [] s) (hn.plan fr.f id)
def chkC (hn : Hints) (f : Nat) : Code → Bool
 | .region id ops draw => bif draw then (match hn.plan f id with | some q => draChk ops q.1 q.2 | Option.none => true) else true
 | .seq a b => chkC hn f a && chkC hn f b
 | .cond _ a b => chkC hn f a && chkC hn f b
 | .block _ a => chkC hn f a
 | .loop a => chkC hn f a
 | _ => true
def thenX (B : St → Out) (o : Out) : Out := Out.rec (motive := fun _ => Out) .fail B .exit .ret .panic .val .thr (fun _ _ x y => .alt x y) o
def xSeq (A B : St → Out) : St → Out := fun s => thenX B (A s)
def pickC (v : AV) (fr : Fr) : (St → Out) → (St → Out) → St → Out := match v with
 | .bool b => fun A B => Bool.rec B A b
 | _ => fun A B s => .fail fr.f 8803 0
def xCond (fr : Fr) (c : Operand) (A B : St → Out) : St → Out := fun s => pickC (ev c s.τ) fr A B s
def exitX (id : Nat) (o : Out) : Out := Out.rec (motive := fun _ => Out) .fail .norm (fun i s => Bool.rec (.exit i s) (.norm s) (Nat.beq i id)) .ret .panic .val .thr (fun _ _ x y => .alt x y) o
def joinVal {β : Type} (x y : AV) (k : AV → β) : β := Bool.rec (k .any) (k x) (avEq 100 x y)
def joinV (x y : Option AV) {β : Type} (k : Option AV → β) : β :=
 Option.rec (motive := fun _ => β) (Option.rec (motive := fun _ => β) (k Option.none) (fun _ => k (some .any)) y) (fun x => Option.rec (motive := fun _ => β) (k (some .any)) (fun y => joinVal x y fun v => k (some v)) y) x
def anyT (t : Tr AV) : Tr AV := Tr.rec (motive := fun _ => Tr AV) .nil (fun _ v _ l r => .node l (Option.rec (motive := fun _ => Option AV) Option.none (fun _ => some .any) v) r) t
def joinT {β : Type} (a : Tr AV) : Tr AV → (Tr AV → β) → β := Tr.rec (motive := fun _ => Tr AV → (Tr AV → β) → β)
 (fun b k => k (anyT b))
 (fun l v r ihl ihr b k => Tr.rec (motive := fun _ => β) (k (anyT (.node l v r))) (fun l' v' r' _ _ => ihl l' fun l => ihr r' fun r => joinV v v' fun v => k (.node l v r)) b) a
def esEq : List (AV × AV × Nat) → List (AV × AV × Nat) → Bool
 | [], [] => true
 | a :: l, b :: m => avEq 100 a.1 b.1 && avEq 100 a.2.1 b.2.1 && Nat.beq a.2.2 b.2.2 && esEq l m
 | _, _ => false
def xoEq (a b : XObj) : Bool := match a, b with
 | .o (.cells cs T), .o (.cells cs' T') => Nat.beq T T' && leq (avEq 100) cs cs'
 | .o (.front T), .o (.front T') => Nat.beq T T'
 | .o (.map es c), .o (.map es' c') => Nat.beq c c' && esEq es es'
 | .o .defs, .o .defs => true
 | _, _ => false
def joinObj {β : Type} (x y : XObj) (k : Option XObj → β) : β := Bool.rec (k Option.none) (k (some x)) (xoEq x y)
def joinO (x y : Option XObj) {β : Type} (k : Option XObj → β) : β :=
 Option.rec (motive := fun _ => β) (k Option.none) (fun x => Option.rec (motive := fun _ => β) (k Option.none) (fun y => joinObj x y k) y) x
def joinH {β : Type} (a : Tr XObj) : Tr XObj → (Tr XObj → β) → β := Tr.rec (motive := fun _ => Tr XObj → (Tr XObj → β) → β)
 (fun b k => k .nil)
 (fun l v r ihl ihr b k => Tr.rec (motive := fun _ => β) (k .nil) (fun l' v' r' _ _ => ihl l' fun l => ihr r' fun r => joinO v v' fun v => k (.node l v r)) b) a
def emptyD (l : List ADef) : Bool := match l with
 | [] => true
 | _ => false
def joinS (err : Out) (s t : St) : Out := Bool.rec err (joinT s.τ t.τ fun τ => joinH s.H t.H fun H => .norm ⟨τ, H, s.n, []⟩) (Nat.beq s.n t.n && emptyD s.ds && emptyD t.ds)
def normK (o : Out) : Out → (St → Out) → Out := match o with
 | .norm s => fun err k => k s
 | .fail f r i => fun err k => .fail f r i
 | _ => fun err k => err
def mergeX (err : Out) (o : Out) : Out := Out.rec (motive := fun _ => Out) .fail .norm .exit .ret .panic .val .thr (fun _ _ x y => normK x err fun s => normK y err fun t => joinS err s t) o
def xBlock (fr : Fr) (id : Nat) (A : St → Out) : St → Out := fun s => mergeX (.fail fr.f 8831 id) (exitX id (A s))
def xLoop (fuel : Nat) (fr : Fr) (A : St → Out) : St → Out := Nat.rec (motive := fun _ => St → Out) (fun _ => .fail fr.f 8804 0) (fun _ ih s => thenX ih (A s)) fuel
def stFree (st : LoopState) : Bool := match st with
 | .busy => false
 | _ => true
def jumpX (c : Option Code) : Out → St → Out := match c with
 | Option.none => fun err s => .norm s
 | some .ret => fun err s => .ret s
 | some (.exit i) => fun err s => .exit i s
 | _ => fun err s => err
def loopAt (o : Option XObj) : Out → (LoopState → Option Code → Nat → Tr AV → List Nat → Code → Code → Nat → Nat → Out) → Out := match o with
 | some (.loop st pend nt env ps asg bd d f) => fun err k => k st pend nt env ps asg bd d f
 | _ => fun err k => err
def rfEnd (err : Out) (τ : Tr AV) (ds : List ADef) (n0 : Nat) (o : Out) : Out :=
 Out.rec (motive := fun _ => Out) .fail (fun _ => err) (fun _ _ => err) (fun _ => err) (fun _ _ => err)
  (fun _ H n => loopAt (getP (bits (Nat.succ n0)) H) err fun st pend _ _ _ _ _ _ _ => Bool.rec err (setK Option.none (bits (Nat.succ n0)) H fun H => jumpX pend err ⟨τ, H, n, .coll n0 :: ds⟩) (stFree st))
  (fun v H n => .panic v ⟨τ, H, n, .coll n0 :: ds⟩) (fun _ _ _ _ => err) o
def funcA (v : AV) : Out → (AV → Out) → Out := match v with
 | .func (.func g) a b => fun err k => k (.func (.func g) a b)
 | _ => fun err k => err
def xRange (call : CallF) (fr : Fr) (g : Operand) (ps : Array Tmp) (asg bd : Code) : St → Out := fun s => St.rec (motive := fun _ => Out)
 (fun τ H n ds => Option.rec (motive := fun _ => Out)
  (funcA (ev g τ) (.fail fr.f 8805 0) fun v => setK (some (.o .defs)) (bits n) H fun H1 => fNat (Nat.succ n) fun n1 =>
   setK (some (.loop .ready Option.none fr.nt τ ps.toList asg bd n fr.f)) (bits n1) H1 fun H2 => fNat (Nat.succ n1) fun n2 =>
   rfEnd (.fail fr.f 8806 0) τ ds n (call v [.yield n1] H2 n2))
  (fun _ => .fail fr.f 8807 0) fr.rd) s
def exC (hn : Hints) (fuel : Nat) (call : CallF) (fr : Fr) (c : Code) : St → Out := Code.rec (motive := fun _ => St → Out)
 .norm
 (fun id ops draw => Bool.rec (seqX call (hn.own fr.f id) fr id ops (compL ops.toList ops.toList)) (drawX hn call fr id ops) draw)
 (fun _ _ A B => xSeq A B)
 (fun c _ _ A B => xCond fr c A B)
 (fun id _ A => xBlock fr id A)
 (fun _ A => xLoop fuel fr A)
 (fun g ps asg bd _ _ => xRange call fr g ps asg bd)
 (fun id s => .exit id s)
 (fun _ _ _ => .fail fr.f 8808 0)
 (fun _ s => .norm s)
 (fun _ _ => .fail fr.f 8809 0)
 .ret
 (fun _ _ => .fail fr.f 8810 0) c
def enterK (args : List AV) : Nat → Tr AV → (Tr AV → Out) → Out := List.rec (motive := fun _ => Nat → Tr AV → (Tr AV → Out) → Out) (fun _ τ k => k τ) (fun a _ ih i τ k => fV a fun a => setK (some a) (bits i) τ fun τ => ih (Nat.succ i) τ k) args
def zipK (ps : List Nat) : List AV → Tr AV → (Tr AV → Out) → Out := List.rec (motive := fun _ => List AV → Tr AV → (Tr AV → Out) → Out) (fun _ τ k => k τ)
 (fun p _ ih args τ k => List.rec (motive := fun _ => Out) (k τ) (fun a rest _ => fV a fun a => setK (some a) (bits p) τ fun τ => ih rest τ k) args) ps
def res1 (τ : Tr AV) (H : Tr XObj) (r : ResultVar) : Out → (AV → Out) → Out := match r with
 | .tmp t => fun err k => fV (evT t τ) k
 | .cell a t => fun err k => loadA t (evT a τ) err H fun v => fV v k
def resX (err : Out) (τ : Tr AV) (H : Tr XObj) (rs : List ResultVar) : (List AV → Out) → Out := List.rec (motive := fun _ => (List AV → Out) → Out) (fun k => k []) (fun r _ ih k => res1 τ H r err fun v => ih fun vs => k (v :: vs)) rs
def packK (l : List AV) (k : AV → Out) : Out := match l with
 | [v] => k v
 | l => k (.tuple l)
def fnAt (g : Nat) : Option (Func × Code) := match Tryz.prog.funcs.toList[g]? with
 | some fn => match fn.body with
  | some c => bif okCode fn.ntmps c && !(fn.name == "runtime.NumGoroutine") then some (fn, c) else Option.none
  | Option.none => Option.none
 | Option.none => Option.none
def defCode (c : Code) : Option (Oper × Code) := match c with
 | .seq (.region _ ops false) rest => match ops.toList with
  | [o] => bif isRecoverOp o then some (o, rest) else Option.none
  | _ => Option.none
 | _ => Option.none
def defEnd (err : Out) (rs : List ResultVar) (k : Tr XObj → Nat → Out) (o : Out) : Out :=
 Out.rec (motive := fun _ => Out) .fail
  (fun s => List.rec (motive := fun _ => Out) (resX err s.τ s.H rs fun _ => k s.H s.n) (fun _ _ _ => err) s.ds) (fun _ _ => err)
  (fun s => List.rec (motive := fun _ => Out) (resX err s.τ s.H rs fun _ => k s.H s.n) (fun _ _ _ => err) s.ds) (fun _ _ => err) (fun _ _ _ => err) (fun _ _ _ => err) (fun _ _ _ _ => err) o
def runDef (ex : Fr → Code → St → Out) (err : Out) (g : Nat) (args : List AV) (H : Tr XObj) (n : Nat) (pv : Option AV) (k : Tr XObj → Nat → Out) : Out :=
 Option.rec (motive := fun _ => Out) err (fun q => Option.rec (motive := fun _ => Out) err (fun oc => Bool.rec err
  (enterK args 0 .nil fun τ => rPut oc.1.dst (pv.getD .nilI) τ fun τ => defEnd err q.1.results.toList k (ex ⟨g, q.1.ntmps, Option.none⟩ oc.2 ⟨τ, H, n, []⟩))
  (Nat.ble (lenN args) q.1.ntmps)) (defCode q.2)) (fnAt g)
def defF (v : AV) : Out → (Nat → List AV → List AV → Out) → Out := match v with
 | .func (.func g) a b => fun err k => k g a b
 | _ => fun err k => err
def isDefs (o : Option XObj) : Bool := match o with
 | some (.o .defs) => true
 | _ => false
def leaveX (ex : Fr → Code → St → Out) (err : Out) (rs : List ResultVar) (τ : Tr AV) (ds : List ADef) : Option AV → Tr XObj → Nat → Out :=
 List.rec (motive := fun _ => Option AV → Tr XObj → Nat → Out)
  (fun pv H n => Option.rec (motive := fun _ => Out) (resX err τ H rs fun vs => packK vs fun v => .val v H n) (fun v => .thr v H n) pv)
  (fun d _ ih pv H n => ADef.rec (motive := fun _ => Out)
   (fun f args => defF f err fun g a b => runDef ex err g (a ++ args ++ b) H n pv fun H n => ih Option.none H n)
   (fun k => Bool.rec err (setK Option.none (bits k) H fun H => ih pv H n) (isDefs (getP (bits k) H))) d) ds
def bodyEnd (ex : Fr → Code → St → Out) (err : Out) (rs : List ResultVar) (o : Out) : Out :=
 Out.rec (motive := fun _ => Out) .fail (fun s => leaveX ex err rs s.τ s.ds Option.none s.H s.n) (fun _ _ => err) (fun s => leaveX ex err rs s.τ s.ds Option.none s.H s.n) (fun v s => leaveX ex err rs s.τ s.ds (some v) s.H s.n) (fun _ _ _ => err) (fun _ _ _ => err) (fun _ _ _ _ => err) o
def callG (ex : Fr → Code → St → Out) (g : Nat) (args : List AV) (H : Tr XObj) (n : Nat) : Out :=
 Option.rec (motive := fun _ => Out) (.fail g 8811 0) (fun q => Bool.rec (.fail g 8812 0)
  (enterK args 0 .nil fun τ => bodyEnd ex (.fail g 8813 0) q.1.results.toList (ex ⟨g, q.1.ntmps, Option.none⟩ q.2 ⟨τ, H, n, []⟩))
  (Nat.ble (lenN args) q.1.ntmps)) (fnAt g)
def sameSt (st st0 : LoopState) : Bool := match st, st0 with
 | .ready, .ready => true
 | .busy, .busy => true
 | _, _ => false
def setLoop (l : Nat) (st st' : LoopState) (pend' : Option Code) (err : Out) (H : Tr XObj) (k : Tr XObj → Out) : Out :=
 loopAt (getP (bits l) H) err fun st0 pend nt env ps asg bd d f => Option.rec (motive := fun _ => Out)
  (Bool.rec err (setK (some (.loop st' pend' nt env ps asg bd d f)) (bits l) H k) (sameSt st st0)) (fun _ => err) pend
def roundEnd (l : Nat) (err : Out) (o : Out) : Out :=
 Out.rec (motive := fun _ => Out) .fail
  (fun s => setLoop l .busy .ready Option.none err s.H fun H => .val (.bool true) H s.n)
  (fun i s => setLoop l .busy .done (some (.exit i)) err s.H fun H => .val (.bool false) H s.n)
  (fun s => setLoop l .busy .done (some .ret) err s.H fun H => .val (.bool false) H s.n) (fun _ _ => err) (fun _ _ _ => err) (fun _ _ _ => err) (fun _ _ _ _ => err) o
def roundX (hn : Hints) (ex : Fr → Code → St → Out) (l : Nat) (args : List AV) (H : Tr XObj) (n : Nat) : Out :=
 loopAt (getP (bits l) H) (.fail l 8814 0) fun st pend nt env ps asg bd d f => Option.rec (motive := fun _ => Out)
  (match st with
  | .ready => Bool.rec (.fail f 8815 0) (zipK ps args env fun τ => Out.rec (motive := fun _ => Out) .fail
    (fun s => setLoop l .ready .busy Option.none (.fail f 8816 0) s.H fun H => roundEnd l (.fail f 8817 0) (ex ⟨f, nt, some l⟩ bd ⟨s.τ, H, s.n, s.ds⟩))
    (fun _ _ => .fail f 8818 0) (fun _ => .fail f 8818 1) (fun _ _ => .fail f 8818 2) (fun _ _ _ => .fail f 8818 3) (fun _ _ _ => .fail f 8818 4) (fun _ _ _ _ => .fail f 8818 5)
    (ex ⟨f, nt, some l⟩ asg ⟨τ, H, n, []⟩)) (Nat.beq (lenN args) (lenN ps) && (chkC hn f asg && chkC hn f bd))
  | _ => .fail f 8819 0) (fun _ => .fail f 8820 0) pend
def callV (hn : Hints) (ex : Fr → Code → St → Out) (f : AV) : List AV → Tr XObj → Nat → Out := match f with
 | .func (.func g) first cap => fun args H n => callG ex g (first ++ args ++ cap) H n
 | .yield l => roundX hn ex l
 | _ => fun _ _ _ => .fail 0 8821 0
def callD (hn : Hints) (fuel : Nat) (depth : Nat) : CallF := Nat.rec (motive := fun _ => CallF) (fun _ _ _ _ => .fail 0 8822 0) (fun _ ih f => callV hn (exC hn fuel ih) f) depth
end
end Go.Proofs.YthkjmiejaoomcaaGreat.Am
namespace Go.Proofs.YthkjmiejaoomcaaGreat.Am
open Go Go.RowKit Go.Proofs
set_option maxRecDepth 20000
noncomputable section
def pl13 (r : Nat) : Option (Plan × List Nat) :=
 Bool.rec (
 Bool.rec (
 Bool.rec (
 Bool.rec (
 Bool.rec (
 Bool.rec (
 Bool.rec (
 Bool.rec (
 Bool.rec (
 Option.none) (some (.take 0 (.take 1 (.take 2 (.take 3 (.take 4 (.take 5 (.one 6 [5] (.take 7 (.one 8 [5] (.one 9 [] (.take 10 (.take 11 (.take 12 (.take 13 (.take 14 (.take 15 (.take 16 (.one 17 [15, 14, 13] (.one 18 [15, 14, 13] (.one 19 [15, 14] (.take 20 (.take 21 (.take 22 (.done))))))))))))))))))))))), [0, 1, 2, 3, 4, 5, 6, 7, 8, 9, 10, 11, 12, 13, 14, 15, 16, 17, 18, 19, 20, 21, 22])) (Nat.beq r 15)) (some (.take 0 (.take 1 (.take 2 (.take 3 (.one 4 [2] (.one 5 [] (.take 6 (.take 7 (.take 8 (.take 9 (.take 10 (.one 11 [9] (.one 12 [] (.take 13 (.take 14 (.take 15 (.take 16 (.take 17 (.take 18 (.take 19 (.take 20 (.take 21 (.take 22 (.done))))))))))))))))))))))), [0, 1, 2, 3, 4, 5, 6, 7, 8, 9, 10, 11, 12, 13, 14, 15, 16, 17, 18, 19, 20, 21, 22])) (Nat.beq r 14)) (some (.take 0 (.take 1 (.take 2 (.take 3 (.take 6 (.take 7 (.one 4 [6, 2, 1, 0] (.one 5 [6, 2, 1, 0] (.one 8 [6, 2, 1, 0] (.one 9 [6, 2, 1, 0] (.take 10 (.one 11 [6, 2, 1] (.take 12 (.take 13 (.take 14 (.take 15 (.take 16 (.take 17 (.take 18 (.done))))))))))))))))))), [0, 1, 2, 3, 6, 7, 4, 5, 8, 9, 10, 11, 12, 13, 14, 15, 16, 17, 18])) (Nat.beq r 10)) (some (.take 0 (.take 1 (.take 2 (.take 5 (.take 6 (.take 7 (.one 3 [6, 5, 1, 0] (.one 4 [6, 5, 1, 0] (.one 8 [6, 5, 1, 0] (.one 9 [6, 5, 1, 0] (.one 10 [6, 5, 1] (.take 11 (.take 12 (.take 13 (.take 14 (.one 15 [] (.one 16 [] (.take 17 (.take 18 (.done))))))))))))))))))), [0, 1, 2, 5, 6, 7, 3, 4, 8, 9, 10, 11, 12, 13, 14, 15, 16, 17, 18])) (Nat.beq r 9)) (some (.take 0 (.take 1 (.take 2 (.take 3 (.take 4 (.take 5 (.take 6 (.take 7 (.take 8 (.take 9 (.take 10 (.take 11 (.take 12 (.one 13 [11, 10] (.one 14 [11, 10] (.one 15 [11] (.take 16 (.take 17 (.take 18 (.take 19 (.take 20 (.take 21 (.take 22 (.take 23 (.take 24 (.take 25 (.take 26 (.take 27 (.take 28 (.take 29 (.take 30 (.take 31 (.take 32 (.take 33 (.done)))))))))))))))))))))))))))))))))), [0, 1, 2, 3, 4, 5, 6, 7, 8, 9, 10, 11, 12, 13, 14, 15, 16, 17, 18, 19, 20, 21, 22, 23, 24, 25, 26, 27, 28, 29, 30, 31, 32, 33])) (Nat.beq r 8)) (some (.take 0 (.take 1 (.take 2 (.take 5 (.take 6 (.one 3 [5, 1, 0] (.one 4 [5, 1, 0] (.one 7 [5, 1, 0] (.one 8 [5, 1, 0] (.one 9 [5, 1] (.take 10 (.take 11 (.take 12 (.take 13 (.one 14 [] (.one 15 [] (.take 16 (.take 17 (.done)))))))))))))))))), [0, 1, 2, 5, 6, 3, 4, 7, 8, 9, 10, 11, 12, 13, 14, 15, 16, 17])) (Nat.beq r 7)) (some (.take 0 (.take 1 (.take 2 (.take 5 (.take 6 (.one 3 [5, 1, 0] (.one 4 [5, 1, 0] (.one 7 [5, 1, 0] (.take 8 (.one 9 [5, 1, 0] (.one 10 [5, 1, 0] (.one 11 [5, 1] (.take 12 (.take 13 (.take 14 (.take 15 (.one 16 [] (.one 17 [] (.take 18 (.take 19 (.done)))))))))))))))))))), [0, 1, 2, 5, 6, 3, 4, 7, 8, 9, 10, 11, 12, 13, 14, 15, 16, 17, 18, 19])) (Nat.beq r 6)) (some (.take 0 (.take 1 (.take 2 (.take 3 (.one 4 [2, 1, 0] (.one 5 [2, 1, 0] (.one 6 [2, 1] (.take 7 (.take 8 (.take 9 (.one 10 [] (.one 11 [] (.take 12 (.done))))))))))))), [0, 1, 2, 3, 4, 5, 6, 7, 8, 9, 10, 11, 12])) (Nat.beq r 5)) (some (.take 0 (.take 1 (.take 2 (.take 3 (.take 6 (.take 7 (.one 4 [6, 2, 1, 0] (.one 5 [6, 2, 1, 0] (.one 8 [6, 2, 1, 0] (.one 9 [6, 2, 1, 0] (.one 10 [6, 2, 1] (.take 11 (.take 12 (.take 13 (.take 14 (.one 15 [] (.one 16 [] (.take 17 (.take 18 (.done))))))))))))))))))), [0, 1, 2, 3, 6, 7, 4, 5, 8, 9, 10, 11, 12, 13, 14, 15, 16, 17, 18])) (Nat.beq r 4)
def pl15 (r : Nat) : Option (Plan × List Nat) :=
 Bool.rec (
 Option.none) (some (.take 0 (.take 1 (.take 2 (.take 3 (.take 4 (.take 5 (.take 6 (.take 7 (.one 8 [] (.done))))))))), [0, 1, 2, 3, 4, 5, 6, 7, 8])) (Nat.beq r 13)
def pl31 (r : Nat) : Option (Plan × List Nat) :=
 Bool.rec (
 Bool.rec (
 Option.none) (some (.take 0 (.take 1 (.take 2 (.take 3 (.take 4 (.take 5 (.take 6 (.take 7 (.done)))))))), [0, 1, 2, 3, 4, 5, 6, 7])) (Nat.beq r 29)) (some (.take 0 (.take 1 (.take 2 (.take 3 (.one 4 [] (.take 5 (.two 6 [] (.one 7 [] (.done)) 7 [] (.one 6 [] (.done)))))))), [0, 1, 2, 3, 4, 5, 6, 7])) (Nat.beq r 22)
def pl43 (r : Nat) : Option (Plan × List Nat) :=
 Bool.rec (
 Option.none) (some (.take 0 (.take 1 (.take 2 (.take 3 (.take 4 (.take 5 (.take 6 (.take 7 (.take 8 (.take 9 (.one 10 [6, 1] (.take 11 (.done)))))))))))), [0, 1, 2, 3, 4, 5, 6, 7, 8, 9, 10, 11])) (Nat.beq r 6)
def pl58 (r : Nat) : Option (Plan × List Nat) :=
 Bool.rec (
 Option.none) (some (.take 0 (.take 1 (.take 2 (.take 3 (.take 4 (.take 5 (.take 7 (.take 8 (.one 6 [8] (.one 9 [] (.take 10 (.take 11 (.one 12 [] (.take 13 (.take 14 (.one 15 [] (.done)))))))))))))))), [0, 1, 2, 3, 4, 5, 7, 8, 6, 9, 10, 11, 12, 13, 14, 15])) (Nat.beq r 5)
def pl61 (r : Nat) : Option (Plan × List Nat) :=
 Bool.rec (
 Bool.rec (
 Option.none) (some (.take 0 (.take 1 (.take 2 (.take 3 (.take 4 (.take 5 (.take 6 (.take 7 (.take 8 (.take 9 (.take 10 (.take 11 (.take 12 (.one 13 [7, 2] (.done)))))))))))))), [0, 1, 2, 3, 4, 5, 6, 7, 8, 9, 10, 11, 12, 13])) (Nat.beq r 6)) (some (.take 0 (.take 1 (.take 3 (.take 4 (.one 2 [4] (.one 5 [] (.one 6 [] (.one 7 [] (.done)))))))), [0, 1, 3, 4, 2, 5, 6, 7])) (Nat.beq r 2)
def pl79 (r : Nat) : Option (Plan × List Nat) :=
 Bool.rec (
 Bool.rec (
 Option.none) (some (.take 0 (.take 1 (.take 2 (.take 3 (.take 4 (.take 5 (.take 6 (.take 7 (.take 8 (.take 9 (.take 10 (.take 11 (.take 12 (.take 13 (.take 14 (.take 15 (.take 16 (.take 17 (.take 18 (.take 19 (.one 20 [15, 13, 7, 5, 1] (.take 21 (.take 22 (.done))))))))))))))))))))))), [0, 1, 2, 3, 4, 5, 6, 7, 8, 9, 10, 11, 12, 13, 14, 15, 16, 17, 18, 19, 20, 21, 22])) (Nat.beq r 17)) (some (.take 0 (.take 1 (.take 2 (.take 3 (.take 4 (.take 5 (.take 6 (.take 7 (.take 8 (.take 9 (.take 10 (.take 11 (.take 12 (.take 13 (.take 14 (.take 15 (.take 16 (.one 17 [15, 12, 5, 1] (.take 18 (.take 19 (.done)))))))))))))))))))), [0, 1, 2, 3, 4, 5, 6, 7, 8, 9, 10, 11, 12, 13, 14, 15, 16, 17, 18, 19])) (Nat.beq r 15)
def pl80 (r : Nat) : Option (Plan × List Nat) :=
 Bool.rec (
 Option.none) (some (.take 0 (.take 1 (.take 2 (.take 4 (.take 5 (.one 3 [0] (.one 6 [] (.take 7 (.two 8 [] (.one 9 [] (.done)) 9 [] (.one 8 [] (.done)))))))))), [0, 1, 2, 4, 5, 3, 6, 7, 8, 9])) (Nat.beq r 3)
def pl81 (r : Nat) : Option (Plan × List Nat) :=
 Bool.rec (
 Bool.rec (
 Bool.rec (
 Bool.rec (
 Option.none) (some (.take 0 (.take 1 (.take 2 (.take 3 (.one 4 [1] (.take 5 (.one 6 [] (.take 7 (.one 8 [] (.done))))))))), [0, 1, 2, 3, 4, 5, 6, 7, 8])) (Nat.beq r 17)) (some (.take 0 (.take 1 (.take 2 (.take 3 (.take 4 (.take 5 (.take 6 (.take 7 (.one 8 [6, 3] (.take 9 (.one 10 [] (.done))))))))))), [0, 1, 2, 3, 4, 5, 6, 7, 8, 9, 10])) (Nat.beq r 11)) (some (.take 0 (.take 1 (.take 2 (.one 3 [1] (.take 4 (.one 5 [] (.done)))))), [0, 1, 2, 3, 4, 5])) (Nat.beq r 7)) (some (.take 0 (.take 1 (.take 2 (.take 3 (.take 4 (.take 5 (.take 6 (.take 7 (.take 8 (.take 9 (.one 10 [] (.one 11 [] (.take 12 (.done))))))))))))), [0, 1, 2, 3, 4, 5, 6, 7, 8, 9, 10, 11, 12])) (Nat.beq r 4)
def pl85 (r : Nat) : Option (Plan × List Nat) :=
 Bool.rec (
 Option.none) (some (.take 0 (.take 1 (.take 2 (.take 3 (.one 4 [1] (.take 5 (.one 6 [] (.done))))))), [0, 1, 2, 3, 4, 5, 6])) (Nat.beq r 5)
def pl105 (r : Nat) : Option (Plan × List Nat) :=
 Bool.rec (
 Option.none) (some (.take 0 (.take 1 (.take 2 (.take 3 (.one 4 [1] (.take 5 (.one 6 [] (.done))))))), [0, 1, 2, 3, 4, 5, 6])) (Nat.beq r 5)
def pl106 (r : Nat) : Option (Plan × List Nat) :=
 Bool.rec (
 Option.none) (some (.take 0 (.take 1 (.one 2 [1] (.one 3 [] (.done)))), [0, 1, 2, 3])) (Nat.beq r 10)
def pl109 (r : Nat) : Option (Plan × List Nat) :=
 Bool.rec (
 Option.none) (some (.take 0 (.take 1 (.take 2 (.take 3 (.take 4 (.take 5 (.take 6 (.take 7 (.take 8 (.take 9 (.one 10 [6, 1] (.done))))))))))), [0, 1, 2, 3, 4, 5, 6, 7, 8, 9, 10])) (Nat.beq r 5)
def pl118 (r : Nat) : Option (Plan × List Nat) :=
 Bool.rec (
 Option.none) (some (.take 0 (.take 1 (.take 2 (.take 3 (.one 4 [2] (.take 5 (.done)))))), [0, 1, 2, 3, 4, 5])) (Nat.beq r 7)
def pl119 (r : Nat) : Option (Plan × List Nat) :=
 Bool.rec (
 Option.none) (some (.take 0 (.take 1 (.take 2 (.take 3 (.take 4 (.take 5 (.take 6 (.take 7 (.take 8 (.take 9 (.take 10 (.take 11 (.take 12 (.take 13 (.take 14 (.take 15 (.take 16 (.take 17 (.take 18 (.take 19 (.take 20 (.take 21 (.take 22 (.take 23 (.take 24 (.done))))))))))))))))))))))))), [0, 1, 2, 3, 4, 5, 6, 7, 8, 9, 10, 11, 12, 13, 14, 15, 16, 17, 18, 19, 20, 21, 22, 23, 24])) (Nat.beq r 1)
def pl120 (r : Nat) : Option (Plan × List Nat) :=
 Bool.rec (
 Option.none) (some (.take 0 (.take 1 (.take 2 (.take 3 (.take 4 (.take 5 (.take 6 (.take 7 (.one 8 [4, 2] (.done))))))))), [0, 1, 2, 3, 4, 5, 6, 7, 8])) (Nat.beq r 7)
def pl123 (r : Nat) : Option (Plan × List Nat) :=
 Bool.rec (
 Bool.rec (
 Bool.rec (
 Option.none) (some (.take 0 (.take 1 (.take 2 (.take 3 (.take 4 (.take 5 (.one 6 [1] (.take 7 (.one 8 [] (.take 9 (.one 10 [] (.done))))))))))), [0, 1, 2, 3, 4, 5, 6, 7, 8, 9, 10])) (Nat.beq r 13)) (some (.take 0 (.take 1 (.take 2 (.take 3 (.take 4 (.take 5 (.take 6 (.take 7 (.take 8 (.take 9 (.take 10 (.take 11 (.take 12 (.one 13 [11, 6, 4] (.take 14 (.take 15 (.take 16 (.one 17 [] (.one 18 [] (.take 19 (.done)))))))))))))))))))), [0, 1, 2, 3, 4, 5, 6, 7, 8, 9, 10, 11, 12, 13, 14, 15, 16, 17, 18, 19])) (Nat.beq r 2)) (some (.take 0 (.take 1 (.take 2 (.take 3 (.take 4 (.take 5 (.take 6 (.take 7 (.take 8 (.take 9 (.take 10 (.take 11 (.take 12 (.take 13 (.take 14 (.done))))))))))))))), [0, 1, 2, 3, 4, 5, 6, 7, 8, 9, 10, 11, 12, 13, 14])) (Nat.beq r 1)
def pl127 (r : Nat) : Option (Plan × List Nat) :=
 Bool.rec (
 Bool.rec (
 Bool.rec (
 Bool.rec (
 Option.none) (some (.take 0 (.take 1 (.take 2 (.take 3 (.take 4 (.take 5 (.take 6 (.one 7 [] (.done)))))))), [0, 1, 2, 3, 4, 5, 6, 7])) (Nat.beq r 20)) (some (.take 0 (.take 1 (.take 2 (.take 3 (.take 4 (.take 5 (.take 8 (.take 9 (.one 6 [3] (.one 7 [3] (.one 10 [] (.take 11 (.take 13 (.take 14 (.two 12 [] (.one 15 [] (.done)) 15 [] (.one 12 [] (.done)))))))))))))))), [0, 1, 2, 3, 4, 5, 8, 9, 6, 7, 10, 11, 13, 14, 12, 15])) (Nat.beq r 19)) (some (.take 0 (.take 1 (.take 2 (.take 3 (.take 4 (.take 5 (.take 6 (.take 7 (.take 8 (.take 9 (.one 10 [] (.one 11 [] (.done)))))))))))), [0, 1, 2, 3, 4, 5, 6, 7, 8, 9, 10, 11])) (Nat.beq r 11)) (some (.take 0 (.take 1 (.take 2 (.take 3 (.take 4 (.take 5 (.take 6 (.take 7 (.take 8 (.take 9 (.take 10 (.take 11 (.one 12 [] (.one 13 [] (.done)))))))))))))), [0, 1, 2, 3, 4, 5, 6, 7, 8, 9, 10, 11, 12, 13])) (Nat.beq r 8)
def pl143 (r : Nat) : Option (Plan × List Nat) :=
 Bool.rec (
 Option.none) (some (.take 0 (.take 1 (.take 2 (.take 3 (.take 4 (.one 5 [1] (.take 6 (.one 7 [] (.take 8 (.one 9 [] (.done)))))))))), [0, 1, 2, 3, 4, 5, 6, 7, 8, 9])) (Nat.beq r 12)
def pl144 (r : Nat) : Option (Plan × List Nat) :=
 Bool.rec (
 Option.none) (some (.take 0 (.take 1 (.take 2 (.take 3 (.take 4 (.take 5 (.one 6 [2] (.one 7 [2] (.one 8 [] (.take 9 (.one 10 [] (.done))))))))))), [0, 1, 2, 3, 4, 5, 6, 7, 8, 9, 10])) (Nat.beq r 10)
def pl145 (r : Nat) : Option (Plan × List Nat) :=
 Bool.rec (
 Option.none) (some (.take 0 (.take 1 (.take 2 (.take 3 (.take 4 (.take 5 (.take 6 (.take 7 (.one 8 [1] (.take 9 (.one 10 [] (.take 11 (.one 12 [] (.done))))))))))))), [0, 1, 2, 3, 4, 5, 6, 7, 8, 9, 10, 11, 12])) (Nat.beq r 18)
def pl146 (r : Nat) : Option (Plan × List Nat) :=
 Bool.rec (
 Option.none) (some (.take 0 (.take 1 (.take 2 (.take 3 (.take 4 (.take 5 (.one 6 [] (.done))))))), [0, 1, 2, 3, 4, 5, 6])) (Nat.beq r 4)
def pl156 (r : Nat) : Option (Plan × List Nat) :=
 Bool.rec (
 Option.none) (some (.take 0 (.take 1 (.take 2 (.take 3 (.take 4 (.take 5 (.take 6 (.take 7 (.take 8 (.take 9 (.one 10 [6, 1] (.take 11 (.done)))))))))))), [0, 1, 2, 3, 4, 5, 6, 7, 8, 9, 10, 11])) (Nat.beq r 1)
def pl161 (r : Nat) : Option (Plan × List Nat) :=
 Bool.rec (
 Option.none) (some (.take 0 (.take 1 (.take 2 (.take 3 (.take 4 (.take 5 (.take 6 (.take 7 (.take 8 (.take 9 (.one 10 [7] (.take 11 (.take 12 (.take 13 (.one 14 [] (.done))))))))))))))), [0, 1, 2, 3, 4, 5, 6, 7, 8, 9, 10, 11, 12, 13, 14])) (Nat.beq r 3)
def pl162 (r : Nat) : Option (Plan × List Nat) :=
 Bool.rec (
 Bool.rec (
 Bool.rec (
 Option.none) (some (.take 0 (.take 1 (.take 2 (.take 3 (.take 4 (.take 5 (.take 6 (.take 7 (.take 9 (.take 10 (.one 8 [10, 4, 2] (.one 11 [4, 2] (.one 12 [4, 2] (.one 13 [4, 2] (.take 14 (.one 15 [] (.done)))))))))))))))), [0, 1, 2, 3, 4, 5, 6, 7, 9, 10, 8, 11, 12, 13, 14, 15])) (Nat.beq r 38)) (some (.take 0 (.take 1 (.take 2 (.take 4 (.take 5 (.take 6 (.one 3 [5] (.one 7 [5] (.take 8 (.take 9 (.done)))))))))), [0, 1, 2, 4, 5, 6, 3, 7, 8, 9])) (Nat.beq r 13)) (some (.take 0 (.take 1 (.take 2 (.take 4 (.take 5 (.take 6 (.one 3 [6] (.one 7 [] (.one 8 [] (.one 9 [] (.one 10 [] (.one 11 [] (.done)))))))))))), [0, 1, 2, 4, 5, 6, 3, 7, 8, 9, 10, 11])) (Nat.beq r 3)
def pl163 (r : Nat) : Option (Plan × List Nat) :=
 Bool.rec (
 Option.none) (some (.take 0 (.take 1 (.take 2 (.take 3 (.take 4 (.take 5 (.take 6 (.take 7 (.take 8 (.one 9 [5, 1] (.take 10 (.take 11 (.take 12 (.done))))))))))))), [0, 1, 2, 3, 4, 5, 6, 7, 8, 9, 10, 11, 12])) (Nat.beq r 5)
def pl167 (r : Nat) : Option (Plan × List Nat) :=
 Bool.rec (
 Option.none) (some (.take 0 (.take 1 (.take 2 (.take 3 (.take 4 (.take 5 (.take 6 (.take 7 (.take 8 (.take 9 (.take 10 (.take 11 (.take 12 (.one 13 [] (.take 14 (.take 15 (.take 16 (.done))))))))))))))))), [0, 1, 2, 3, 4, 5, 6, 7, 8, 9, 10, 11, 12, 13, 14, 15, 16])) (Nat.beq r 17)
def pl170 (r : Nat) : Option (Plan × List Nat) :=
 Bool.rec (
 Bool.rec (
 Option.none) (some (.take 0 (.take 1 (.take 2 (.take 3 (.take 4 (.take 5 (.take 6 (.take 7 (.take 8 (.take 9 (.take 10 (.take 11 (.take 12 (.take 13 (.take 14 (.one 15 [] (.take 16 (.one 17 [] (.done)))))))))))))))))), [0, 1, 2, 3, 4, 5, 6, 7, 8, 9, 10, 11, 12, 13, 14, 15, 16, 17])) (Nat.beq r 6)) (some (.take 0 (.take 1 (.take 2 (.take 3 (.take 4 (.take 5 (.take 6 (.take 7 (.take 8 (.take 9 (.take 10 (.take 11 (.take 12 (.take 13 (.one 14 [] (.take 15 (.take 16 (.done))))))))))))))))), [0, 1, 2, 3, 4, 5, 6, 7, 8, 9, 10, 11, 12, 13, 14, 15, 16])) (Nat.beq r 4)
def pl171 (r : Nat) : Option (Plan × List Nat) :=
 Bool.rec (
 Option.none) (some (.take 0 (.take 1 (.take 2 (.take 3 (.take 4 (.take 5 (.take 6 (.take 7 (.take 8 (.take 9 (.take 10 (.take 11 (.take 12 (.take 13 (.take 14 (.take 15 (.take 16 (.one 17 [] (.take 18 (.one 19 [] (.done)))))))))))))))))))), [0, 1, 2, 3, 4, 5, 6, 7, 8, 9, 10, 11, 12, 13, 14, 15, 16, 17, 18, 19])) (Nat.beq r 10)
def pl172 (r : Nat) : Option (Plan × List Nat) :=
 Bool.rec (
 Option.none) (some (.take 0 (.take 1 (.take 2 (.take 3 (.take 4 (.take 5 (.take 6 (.take 7 (.take 8 (.take 9 (.take 10 (.take 11 (.take 12 (.take 13 (.take 14 (.take 15 (.take 16 (.one 17 [] (.take 18 (.one 19 [] (.done)))))))))))))))))))), [0, 1, 2, 3, 4, 5, 6, 7, 8, 9, 10, 11, 12, 13, 14, 15, 16, 17, 18, 19])) (Nat.beq r 10)
def pl174 (r : Nat) : Option (Plan × List Nat) :=
 Bool.rec (
 Option.none) (some (.take 0 (.take 1 (.take 2 (.take 3 (.take 4 (.take 5 (.take 6 (.take 7 (.take 8 (.take 9 (.take 10 (.take 11 (.take 12 (.one 13 [] (.take 14 (.one 15 [] (.done)))))))))))))))), [0, 1, 2, 3, 4, 5, 6, 7, 8, 9, 10, 11, 12, 13, 14, 15])) (Nat.beq r 3)
def pl175 (r : Nat) : Option (Plan × List Nat) :=
 Bool.rec (
 Bool.rec (
 Bool.rec (
 Bool.rec (
 Bool.rec (
 Bool.rec (
 Option.none) (some (.take 0 (.take 1 (.take 2 (.take 3 (.take 4 (.take 5 (.take 6 (.take 7 (.take 8 (.take 9 (.take 10 (.take 11 (.take 12 (.take 13 (.take 14 (.one 15 [] (.take 16 (.one 17 [] (.done)))))))))))))))))), [0, 1, 2, 3, 4, 5, 6, 7, 8, 9, 10, 11, 12, 13, 14, 15, 16, 17])) (Nat.beq r 23)) (some (.take 0 (.take 1 (.take 2 (.take 3 (.take 4 (.take 5 (.take 6 (.take 7 (.take 8 (.take 9 (.one 10 [] (.take 11 (.take 12 (.done))))))))))))), [0, 1, 2, 3, 4, 5, 6, 7, 8, 9, 10, 11, 12])) (Nat.beq r 22)) (some (.take 0 (.take 1 (.take 2 (.take 3 (.take 4 (.take 5 (.take 6 (.take 7 (.take 8 (.take 9 (.take 10 (.take 11 (.take 12 (.take 13 (.take 14 (.one 15 [] (.take 16 (.one 17 [] (.done)))))))))))))))))), [0, 1, 2, 3, 4, 5, 6, 7, 8, 9, 10, 11, 12, 13, 14, 15, 16, 17])) (Nat.beq r 17)) (some (.take 0 (.take 1 (.take 2 (.take 3 (.take 4 (.take 5 (.take 6 (.take 7 (.take 8 (.take 9 (.one 10 [] (.take 11 (.take 12 (.done))))))))))))), [0, 1, 2, 3, 4, 5, 6, 7, 8, 9, 10, 11, 12])) (Nat.beq r 16)) (some (.take 0 (.take 1 (.take 2 (.take 3 (.take 4 (.take 5 (.take 6 (.take 7 (.take 8 (.take 9 (.take 10 (.take 11 (.take 12 (.take 13 (.take 14 (.one 15 [] (.take 16 (.one 17 [] (.done)))))))))))))))))), [0, 1, 2, 3, 4, 5, 6, 7, 8, 9, 10, 11, 12, 13, 14, 15, 16, 17])) (Nat.beq r 11)) (some (.take 0 (.take 1 (.take 2 (.take 3 (.take 4 (.take 5 (.take 6 (.take 7 (.take 8 (.take 9 (.take 10 (.take 11 (.take 12 (.take 13 (.one 14 [] (.take 15 (.take 16 (.take 17 (.done)))))))))))))))))), [0, 1, 2, 3, 4, 5, 6, 7, 8, 9, 10, 11, 12, 13, 14, 15, 16, 17])) (Nat.beq r 5)
def pl176 (r : Nat) : Option (Plan × List Nat) :=
 Bool.rec (
 Bool.rec (
 Bool.rec (
 Bool.rec (
 Option.none) (some (.take 0 (.take 1 (.take 2 (.take 3 (.take 4 (.take 5 (.take 6 (.take 7 (.take 8 (.take 9 (.take 10 (.take 11 (.take 12 (.one 13 [] (.take 14 (.one 15 [] (.done)))))))))))))))), [0, 1, 2, 3, 4, 5, 6, 7, 8, 9, 10, 11, 12, 13, 14, 15])) (Nat.beq r 8)) (some (.take 0 (.take 1 (.take 2 (.take 3 (.take 4 (.take 5 (.take 6 (.take 7 (.take 8 (.take 9 (.take 10 (.take 11 (.take 12 (.one 13 [] (.take 14 (.take 15 (.done)))))))))))))))), [0, 1, 2, 3, 4, 5, 6, 7, 8, 9, 10, 11, 12, 13, 14, 15])) (Nat.beq r 5)) (some (.take 0 (.take 1 (.take 2 (.take 3 (.take 4 (.take 5 (.take 6 (.take 7 (.take 8 (.take 9 (.take 10 (.take 11 (.take 12 (.one 13 [] (.take 14 (.take 15 (.take 16 (.done))))))))))))))))), [0, 1, 2, 3, 4, 5, 6, 7, 8, 9, 10, 11, 12, 13, 14, 15, 16])) (Nat.beq r 3)) (some (.take 0 (.take 1 (.take 2 (.take 3 (.take 4 (.take 5 (.take 6 (.take 7 (.take 8 (.take 9 (.take 10 (.take 11 (.take 12 (.one 13 [] (.take 14 (.one 15 [] (.done)))))))))))))))), [0, 1, 2, 3, 4, 5, 6, 7, 8, 9, 10, 11, 12, 13, 14, 15])) (Nat.beq r 1)
def pl177 (r : Nat) : Option (Plan × List Nat) :=
 Bool.rec (
 Bool.rec (
 Bool.rec (
 Bool.rec (
 Bool.rec (
 Bool.rec (
 Bool.rec (
 Bool.rec (
 Bool.rec (
 Option.none) (some (.take 0 (.take 1 (.take 2 (.take 3 (.take 4 (.take 5 (.take 6 (.take 7 (.take 8 (.take 9 (.take 10 (.take 11 (.take 12 (.one 13 [] (.take 14 (.one 15 [] (.done)))))))))))))))), [0, 1, 2, 3, 4, 5, 6, 7, 8, 9, 10, 11, 12, 13, 14, 15])) (Nat.beq r 21)) (some (.take 0 (.take 1 (.take 2 (.take 3 (.take 4 (.take 5 (.take 6 (.take 7 (.take 8 (.take 9 (.take 10 (.take 11 (.take 12 (.one 13 [] (.take 14 (.one 15 [] (.done)))))))))))))))), [0, 1, 2, 3, 4, 5, 6, 7, 8, 9, 10, 11, 12, 13, 14, 15])) (Nat.beq r 18)) (some (.take 0 (.take 1 (.take 2 (.take 3 (.take 4 (.take 5 (.take 6 (.take 7 (.take 8 (.take 9 (.take 10 (.take 11 (.take 12 (.one 13 [] (.take 14 (.take 15 (.take 16 (.done))))))))))))))))), [0, 1, 2, 3, 4, 5, 6, 7, 8, 9, 10, 11, 12, 13, 14, 15, 16])) (Nat.beq r 15)) (some (.take 0 (.take 1 (.take 2 (.take 3 (.take 4 (.take 5 (.take 6 (.take 7 (.take 8 (.take 9 (.take 10 (.take 11 (.take 12 (.one 13 [] (.take 14 (.take 15 (.done)))))))))))))))), [0, 1, 2, 3, 4, 5, 6, 7, 8, 9, 10, 11, 12, 13, 14, 15])) (Nat.beq r 13)) (some (.take 0 (.take 1 (.take 2 (.take 3 (.take 4 (.take 5 (.take 6 (.take 7 (.take 8 (.take 9 (.take 10 (.take 11 (.take 12 (.one 13 [] (.take 14 (.one 15 [] (.done)))))))))))))))), [0, 1, 2, 3, 4, 5, 6, 7, 8, 9, 10, 11, 12, 13, 14, 15])) (Nat.beq r 10)) (some (.take 0 (.take 1 (.take 2 (.take 3 (.take 4 (.take 5 (.take 6 (.take 7 (.take 8 (.take 9 (.take 10 (.take 11 (.take 12 (.one 13 [] (.take 14 (.one 15 [] (.done)))))))))))))))), [0, 1, 2, 3, 4, 5, 6, 7, 8, 9, 10, 11, 12, 13, 14, 15])) (Nat.beq r 8)) (some (.take 0 (.take 1 (.take 2 (.take 3 (.take 4 (.take 5 (.take 6 (.take 7 (.take 8 (.take 9 (.take 10 (.take 11 (.take 12 (.one 13 [] (.take 14 (.take 15 (.take 16 (.done))))))))))))))))), [0, 1, 2, 3, 4, 5, 6, 7, 8, 9, 10, 11, 12, 13, 14, 15, 16])) (Nat.beq r 5)) (some (.take 0 (.take 1 (.take 2 (.take 3 (.take 4 (.take 5 (.take 6 (.take 7 (.take 8 (.take 9 (.take 10 (.take 11 (.take 12 (.one 13 [] (.take 14 (.take 15 (.done)))))))))))))))), [0, 1, 2, 3, 4, 5, 6, 7, 8, 9, 10, 11, 12, 13, 14, 15])) (Nat.beq r 3)) (some (.take 0 (.take 1 (.take 2 (.take 3 (.take 4 (.take 5 (.take 6 (.take 7 (.take 8 (.take 9 (.take 10 (.take 11 (.take 12 (.one 13 [] (.take 14 (.one 15 [] (.done)))))))))))))))), [0, 1, 2, 3, 4, 5, 6, 7, 8, 9, 10, 11, 12, 13, 14, 15])) (Nat.beq r 1)
def pl181 (r : Nat) : Option (Plan × List Nat) :=
 Bool.rec (
 Bool.rec (
 Bool.rec (
 Option.none) (some (.take 0 (.take 1 (.take 2 (.take 3 (.take 4 (.take 5 (.take 6 (.take 7 (.take 8 (.take 9 (.take 10 (.take 11 (.take 12 (.take 13 (.take 14 (.take 15 (.take 16 (.take 17 (.take 18 (.take 19 (.take 20 (.one 21 [] (.take 22 (.one 23 [] (.done)))))))))))))))))))))))), [0, 1, 2, 3, 4, 5, 6, 7, 8, 9, 10, 11, 12, 13, 14, 15, 16, 17, 18, 19, 20, 21, 22, 23])) (Nat.beq r 6)) (some (.take 0 (.take 1 (.take 2 (.take 3 (.take 4 (.take 5 (.take 6 (.take 7 (.take 8 (.take 9 (.take 10 (.take 11 (.take 12 (.one 13 [] (.take 14 (.take 15 (.done)))))))))))))))), [0, 1, 2, 3, 4, 5, 6, 7, 8, 9, 10, 11, 12, 13, 14, 15])) (Nat.beq r 5)) (some (.take 0 (.take 1 (.take 2 (.take 3 (.take 4 (.take 5 (.take 6 (.take 7 (.take 8 (.take 9 (.take 10 (.take 11 (.take 12 (.take 13 (.take 14 (.take 15 (.take 16 (.take 17 (.take 18 (.one 19 [] (.take 20 (.take 21 (.done)))))))))))))))))))))), [0, 1, 2, 3, 4, 5, 6, 7, 8, 9, 10, 11, 12, 13, 14, 15, 16, 17, 18, 19, 20, 21])) (Nat.beq r 3)
def pl183 (r : Nat) : Option (Plan × List Nat) :=
 Bool.rec (
 Bool.rec (
 Bool.rec (
 Option.none) (some (.take 0 (.take 1 (.take 2 (.take 3 (.take 4 (.take 5 (.take 6 (.take 7 (.take 8 (.one 9 [] (.done)))))))))), [0, 1, 2, 3, 4, 5, 6, 7, 8, 9])) (Nat.beq r 3)) (some (.take 0 (.take 1 (.take 2 (.take 3 (.take 4 (.take 5 (.take 6 (.take 7 (.take 8 (.one 9 [] (.done)))))))))), [0, 1, 2, 3, 4, 5, 6, 7, 8, 9])) (Nat.beq r 2)) (some (.take 0 (.take 1 (.take 2 (.take 3 (.take 4 (.take 5 (.take 6 (.take 7 (.take 8 (.one 9 [] (.done)))))))))), [0, 1, 2, 3, 4, 5, 6, 7, 8, 9])) (Nat.beq r 1)
def pl186 (r : Nat) : Option (Plan × List Nat) :=
 Bool.rec (
 Option.none) (some (.take 0 (.take 1 (.take 2 (.take 3 (.take 4 (.take 5 (.take 6 (.take 7 (.take 8 (.one 9 [] (.take 10 (.done))))))))))), [0, 1, 2, 3, 4, 5, 6, 7, 8, 9, 10])) (Nat.beq r 1)
def qN : Nat → Option (Plan × List Nat) := fun _ => Option.none
def plL : List (Nat → Option (Plan × List Nat)) := [qN, qN, qN, qN, qN, qN, qN, qN, qN, qN, qN, qN, qN, pl13, qN, pl15, qN, qN, qN, qN, qN, qN, qN, qN, qN, qN, qN, qN, qN, qN, qN, pl31, qN, qN, qN, qN, qN, qN, qN, qN, qN, qN, qN, pl43, qN, qN, qN, qN, qN, qN, qN, qN, qN, qN, qN, qN, qN, qN, pl58, qN, qN, pl61, qN, qN, qN, qN, qN, qN, qN, qN, qN, qN, qN, qN, qN, qN, qN, qN, qN, pl79, pl80, pl81, qN, qN, qN, pl85, qN, qN, qN, qN, qN, qN, qN, qN, qN, qN, qN, qN, qN, qN, qN, qN, qN, qN, qN, pl105, pl106, qN, qN, pl109, qN, qN, qN, qN, qN, qN, qN, qN, pl118, pl119, pl120, qN, qN, pl123, qN, qN, qN, pl127, qN, qN, qN, qN, qN, qN, qN, qN, qN, qN, qN, qN, qN, qN, qN, pl143, pl144, pl145, pl146, qN, qN, qN, qN, qN, qN, qN, qN, qN, pl156, qN, qN, qN, qN, pl161, pl162, pl163, qN, qN, qN, pl167, qN, qN, pl170, pl171, pl172, qN, pl174, pl175, pl176, pl177, qN, qN, qN, pl181, qN, pl183, qN, qN, pl186]
def planT (f r : Nat) : Option (Plan × List Nat) := List.rec (motive := fun _ => Option (Plan × List Nat)) Option.none (fun g _ _ => g r) (xDrop f plL)
end
end Go.Proofs.YthkjmiejaoomcaaGreat.Am
namespace Go.Proofs.YthkjmiejaoomcaaGreat.Am
open Go Go.RowKit Go.Proofs
set_option linter.unusedVariables false
set_option linter.unusedSimpArgs false
set_option maxRecDepth 20000
noncomputable def toAS (rd : Option Nat) (s : St) : AS := ⟨envT s.τ, hpT s.H, s.n, s.ds, rd⟩
def Fails (o : Out) : Prop := ∃ f r i, Leaf (.fail f r i) o
def IsX (rd : Option Nat) (o : Out) : KS
 | .normal, s => ∃ t, Leaf (.norm t) o ∧ s = toAS rd t
 | .exit i, s => ∃ t, Leaf (.exit i t) o ∧ s = toAS rd t
 | .ret, s => ∃ t, Leaf (.ret t) o ∧ s = toAS rd t
 | .panic v, s => ∃ t, Leaf (.panic v t) o ∧ s = toAS rd t
theorem Fails.sub {a o : Out} (h : Sub a o) (hf : Fails a) : Fails o := let ⟨f, r, i, hl⟩ := hf; ⟨f, r, i, h _ hl⟩
theorem IsX.sub {rd : Option Nat} {a o : Out} (h : Sub a o) {e : AExit} {s : AS} (hx : IsX rd a e s) : IsX rd o e s := by
 cases e with
 | normal => obtain ⟨t, hl, hs⟩ := hx; exact ⟨t, h _ hl, hs⟩
 | exit i => obtain ⟨t, hl, hs⟩ := hx; exact ⟨t, h _ hl, hs⟩
 | ret => obtain ⟨t, hl, hs⟩ := hx; exact ⟨t, h _ hl, hs⟩
 | panic v => obtain ⟨t, hl, hs⟩ := hx; exact ⟨t, h _ hl, hs⟩
def IsV (o : Out) : AOut → AHeap → Nat → Prop
 | .ret v, h, n => ∃ H, o = .val v H n ∧ h = hpT H
 | .panic v, h, n => ∃ H, o = .thr v H n ∧ h = hpT H
def CallOK (call : CallF) : Prop := ∀ f args H n, Fails (call f args H n) ∨ aCall Tryz.prog f args (hpT H) n (IsV (call f args H n))
theorem fails_fail (f r i : Nat) : Fails (.fail f r i) := ⟨f, r, i, rfl⟩
noncomputable def putT (d : Option Nat) (v : AV) (τ : Tr AV) : Tr AV := match d with
 | Option.none => τ
 | some d => setP (some v) (bits d) τ
theorem rPut_eq (d : Option Nat) (v : AV) (τ : Tr AV) (k : Tr AV → Out) : rPut d v τ k = k (putT d v τ) := by
 cases d with
 | none => rfl
 | some d => exact setK_eq _ _ _ _
theorem envT_put (d : Option Nat) (v : AV) (τ : Tr AV) : envT (putT d v τ) = aPut (envT τ) d v := by
 cases d with
 | none => rfl
 | some d => exact envT_set τ d v
theorem rX_eq (d : Option Nat) (F : OpF) (err : Out) (s : St) (k : St → Out) (pan : AV → St → Out) : rX d F err s k pan = F err s.τ s.H s.n fun v H n => k ⟨putT d v s.τ, H, n, s.ds⟩ := by
 obtain ⟨τ, H, n, ds⟩ := s
 show (F err τ H n fun v H n => rPut d v τ fun τ => k ⟨τ, H, n, ds⟩) = _
 simp only [rPut_eq]
def NextAt (rd : Option Nat) (o : Out) (k : St → Out) : AS → Prop := fun s' => ∃ t, s' = toAS rd t ∧ Sub (k t) o
def PanAt (rd : Option Nat) (o : Out) (pan : AV → St → Out) : AV → AS → Prop := fun v s' => ∃ t, s' = toAS rd t ∧ Sub (pan v t) o
def RunOK (rd : Option Nat) (o : Oper) (R : RunF) : Prop := ∀ err s k pan, Fails err → Fails (R err s k pan) ∨ amOp Tryz.prog o (toAS rd s) (NextAt rd (R err s k pan) k) (PanAt rd (R err s k pan) pan)
theorem xs_xop (op : Op) (hn : ∀ x, op ≠ .next x false) : XS op (xop op) := by
 cases op <;> first
  | exact xs_move _ | exact xs_assign _ | exact xs_pick _ _ _ | exact xs_alloc _ | exact xs_box _ _ | exact xs_load _ _ | exact xs_store _ _ _
  | exact xs_fieldAddr _ _ _ | exact xs_indexAddr _ _ _ | exact xs_build _ _ | exact xs_buildSlice _ _ _ | exact xs_bin _ _ _ _ _ | exact xs_extract _ _
  | exact xs_makeFunc _ _ _ | exact xs_mapUpdate _ _ _ _ | exact xs_makeSlice _ _ _ | exact xs_slice _ _ _ _ _ | exact xs_range _ _ | skip
 all_goals try exact xs_via _
 case unOp op T x => cases op <;> first | exact xs_not _ _ | exact xs_via _
 case makeMap T r => cases r <;> first | exact xs_makeMap _ | exact xs_via _
 case next x b =>
  cases b with
  | true => exact xs_via _
  | false => exact absurd rfl (hn x)
theorem step_of {rd : Option Nat} {o : Oper} {F : OpF} {s : St} {k : St → Out} {pan : AV → St → Out} {err : Out} (hF : ∀ k', F err s.τ s.H s.n k' = err ∨ ∃ v H', aop Tryz.prog o.op (aEval (envT s.τ)) (hpT s.H) s.n = some (v, hpT H') ∧ F err s.τ s.H s.n k' = k' v H' (s.n + bif needsName o.op then 1 else 0)) (he : Fails err) :
  Fails (rX o.dst F err s k pan) ∨ aStep Tryz.prog o (toAS rd s) (NextAt rd (rX o.dst F err s k pan) k) := by
 rw [rX_eq]
 rcases hF (fun v H n => k ⟨putT o.dst v s.τ, H, n, s.ds⟩) with h | ⟨v, H', h1, h2⟩
 ·exact .inl (by rw [h]; exact he)
 ·refine .inr fun _ => ?_
  show (match aop Tryz.prog o.op (aEval (envT s.τ)) (hpT s.H) s.n with | some (v, h') => _ | Option.none => False)
  rw [h1]
  exact ⟨⟨putT o.dst v s.τ, H', _, s.ds⟩, by simp only [toAS, envT_put], Sub.of_eq h2⟩
theorem run_xop {rd : Option Nat} {o : Oper} (hq : ∀ x, o.op ≠ .next x false) (hcl : ∀ c, o.op ≠ .call c) (hp : ∀ x, o.op ≠ .panic x) (hd : ∀ c, o.op ≠ .defer c) : RunOK rd o (rX o.dst (xop o.op)) := by
 intro err s k pan he
 rcases step_of (rd := rd) (o := o) (k := k) (pan := pan) (fun k' => xs_xop o.op hq err s.τ s.H s.n k') he with h | h
 ·exact .inl h
 ·refine .inr ?_
  unfold amOp
  split
  ·rename_i hop; exact absurd hop (hcl _)
  ·rename_i hop; exact absurd hop (hp _)
  ·rename_i hop; exact absurd hop (hd _)
  ·rename_i hop; exact absurd hop (hq _)
  ·exact h
theorem run_next' {rd : Option Nat} {o : Oper} {x : Operand} (hop : o.op = .next x false) : RunOK rd o (rX o.dst (oNext x)) := by
 intro err s k pan he
 rw [rX_eq]
 rcases xs_next x err s.τ s.H s.n (fun v H n => k ⟨putT o.dst v s.τ, H, n, s.ds⟩) with h | h
 ·exact .inl (by rw [h]; exact he)
 ·refine .inr ?_
  unfold amOp
  rw [hop]
  exact h _ fun v H' hs => ⟨⟨putT o.dst v s.τ, H', s.n, s.ds⟩, by simp only [toAS, envT_put], hs⟩
theorem run_fail {rd : Option Nat} {o : Oper} : RunOK rd o rFail := fun err s k pan he => .inl he
theorem run_builtin {rd : Option Nat} {o : Oper} {own : Bool} {c : Call} {b : Builtin} (hop : o.op = .call c) (hc : c.callee = .builtin b) : RunOK rd o (rBuiltin own o.dst c b) := by
 have key : b ≠ .recover → RunOK rd o (rX o.dst (oBuiltin own b c)) := by
  intro hb err s k pan he
  rw [rX_eq]
  rcases xs_builtin own b c hc err s.τ s.H s.n (fun v H n => k ⟨putT o.dst v s.τ, H, n, s.ds⟩) with h | ⟨v, H', h1, h2⟩
  ·exact .inl (by rw [h]; exact he)
  ·refine .inr ?_
   have fin : ∀ m, (m = s.n + bif needsName (.call c) then 1 else 0) → NextAt rd (oBuiltin own b c err s.τ s.H s.n fun v H n => k ⟨putT o.dst v s.τ, H, n, s.ds⟩) k ⟨aPut (envT s.τ) o.dst v, hpT H', m, s.ds, rd⟩ := by
    intro m hm
    subst hm
    exact ⟨⟨putT o.dst v s.τ, H', _, s.ds⟩, by simp only [toAS, envT_put], Sub.of_eq h2⟩
   have goal : aStep Tryz.prog o (toAS rd s) (NextAt rd (oBuiltin own b c err s.τ s.H s.n fun v H n => k ⟨putT o.dst v s.τ, H, n, s.ds⟩) k) ∨ aOwnStep Tryz.prog c o.dst (toAS rd s) (NextAt rd (oBuiltin own b c err s.τ s.H s.n fun v H n => k ⟨putT o.dst v s.τ, H, n, s.ds⟩) k) := by
    rcases h1 with h1 | ⟨tS, tX, q, x, hb', hts, hxs, h1⟩
    ·refine .inl fun _ => ?_
     show (match aop Tryz.prog o.op (aEval (envT s.τ)) (hpT s.H) s.n with | some (v, h') => _ | Option.none => False)
     have : aop Tryz.prog o.op (aEval (envT s.τ)) (hpT s.H) s.n = some (v, hpT H') := by rw [hop]; simp only [aop, hc]; exact h1
     rw [this]
     exact fin _ (by rw [hop]; rfl)
    ·refine .inr ?_
     subst hb'
     unfold aOwnStep
     rw [hc, hts, hxs]
     intro _
     show (match aOwn Tryz.prog tS tX (aEval (envT s.τ) q) (unSl Tryz.prog (hpT s.H) (aEval (envT s.τ) x)) (hpT s.H) s.n with | some (v, h') => _ | Option.none => False)
     rw [h1]
     exact fin _ (by simp only [needsName, hc, cond_true]; rfl)
   unfold amOp
   rw [hop]
   simp only
   split
   ·rename_i hc'; rw [hc] at hc'; injection hc' with hc'; exact absurd hc' hb
   ·exact goal
   ·rename_i hc'; rw [hc] at hc'; cases hc'
   ·rename_i hc'; rw [hc] at hc'; cases hc'
 cases b <;> first | exact run_fail | exact key (by intro h; cases h)
theorem run_call {rd : Option Nat} {o : Oper} {c : Call} {f : Operand} {call : CallF} (hcall : CallOK call) (hop : o.op = .call c) (hc : c.callee = .value f) : RunOK rd o (rCall call o.dst f c.args) := by
 intro err s k pan he
 obtain ⟨τ, H, n, ds⟩ := s
 show Fails (callEnd o.dst err τ ds k pan (call (ev f τ) (evL c.args.toList τ) H n)) ∨ amOp Tryz.prog o _ (NextAt rd (callEnd o.dst err τ ds k pan (call (ev f τ) (evL c.args.toList τ) H n)) k) (PanAt rd (callEnd o.dst err τ ds k pan (call (ev f τ) (evL c.args.toList τ) H n)) pan)
 have hk := hcall (ev f τ) (evL c.args.toList τ) H n
 generalize call (ev f τ) (evL c.args.toList τ) H n = out at hk ⊢
 rcases hk with hk | hk
 ·refine .inl ?_
  cases out with
  | fail a b i => exact fails_fail _ _ _
  | val v H n => obtain ⟨_, _, _, h⟩ := hk; cases h
  | thr v H n => obtain ⟨_, _, _, h⟩ := hk; cases h
  | _ => exact he
 have hok : ∀ {o'}, o' = callEnd o.dst err τ ds k pan out → Fails o' ∨ amOp Tryz.prog o (toAS rd ⟨τ, H, n, ds⟩) (NextAt rd o' k) (PanAt rd o' pan) := by
  intro o' ho'
  refine .inr ?_
  unfold amOp
  rw [hop]
  simp only
  split
  ·rename_i hc'; rw [hc] at hc'; cases hc'
  ·rename_i hc'; rw [hc] at hc'; cases hc'
  ·rename_i f' hc'
   rw [hc] at hc'
   injection hc' with hc'
   subst hc'
   rw [ev_eq, evL_eq] at hk
   refine aCall_mono hk fun ao h' n' hq => ?_
   cases ao with
   | ret v =>
    obtain ⟨H', rfl, rfl⟩ := hq
    refine ⟨⟨putT o.dst v τ, H', n', ds⟩, by simp only [toAS, envT_put], ?_⟩
    rw [ho']
    refine Sub.of_eq ?_
    show rPut o.dst v τ (fun τ => k ⟨τ, H', n', ds⟩) = _
    rw [rPut_eq]
   | panic v =>
    obtain ⟨H', rfl, rfl⟩ := hq
    exact ⟨⟨τ, H', n', ds⟩, rfl, Sub.of_eq ho'⟩
  ·rename_i hc'; rw [hc] at hc'; cases hc'
 exact hok rfl
theorem run_panic {rd : Option Nat} {o : Oper} {x : Operand} (hop : o.op = .panic x) : RunOK rd o (rPanic x) := by
 intro err s k pan he
 unfold rPanic
 rw [ev_eq]
 have key : ∀ v, v = aEval (envT s.τ) x → Fails (panA v err s pan) ∨ amOp Tryz.prog o (toAS rd s) (NextAt rd (panA v err s pan) k) (PanAt rd (panA v err s pan) pan) := by
  intro v hv
  cases v with
  | iface t y =>
   refine .inr ?_
   unfold amOp
   rw [hop]
   show aPanic (aEval (envT s.τ) x) (hpT s.H) _
   rw [← hv]
   exact ⟨s, rfl, Sub.refl _⟩
  | _ => exact .inl he
 exact key _ rfl
theorem run_defer {rd : Option Nat} {o : Oper} {c : Call} {f : Operand} (hop : o.op = .defer c) (hc : c.callee = .value f) : RunOK rd o (rDefer rd o.dst f c.args) := by
 intro err s k pan he
 obtain ⟨τ, H, n, ds⟩ := s
 cases rd with
 | some l => exact .inl he
 | none =>
  show Fails (defA (ev f τ) err fun v => fListV (evL c.args.toList τ) fun l => rPut o.dst (.tuple []) τ fun τ => k ⟨τ, H, n, .fn v l :: ds⟩) ∨ amOp Tryz.prog o _ (NextAt Option.none (defA (ev f τ) err fun v => fListV (evL c.args.toList τ) fun l => rPut o.dst (.tuple []) τ fun τ => k ⟨τ, H, n, .fn v l :: ds⟩) k) _
  simp only [fListV_eq, rPut_eq]
  rw [ev_eq, evL_eq]
  have key : ∀ v, v = aEval (envT τ) f → Fails (defA v err fun v => k ⟨putT o.dst (.tuple []) τ, H, n, .fn v (c.args.toList.map (aEval (envT τ))) :: ds⟩) ∨ amOp Tryz.prog o (toAS Option.none ⟨τ, H, n, ds⟩) (NextAt Option.none (defA v err fun v => k ⟨putT o.dst (.tuple []) τ, H, n, .fn v (c.args.toList.map (aEval (envT τ))) :: ds⟩) k)
    (PanAt Option.none (rDefer Option.none o.dst f c.args err ⟨τ, H, n, ds⟩ k pan) pan) := by
   intro v hv
   cases v with
   | func fn a b =>
    refine .inr ?_
    unfold amOp
    rw [hop]
    simp only
    rw [hc]
    refine ⟨rfl, ⟨fn, a, b, hv.symm⟩, ⟨⟨putT o.dst (.tuple []) τ, H, n, .fn (.func fn a b) (c.args.toList.map (aEval (envT τ))) :: ds⟩, ?_, Sub.refl _⟩⟩
    simp only [toAS, envT_put, ← hv]
   | _ => exact .inl he
  exact key _ rfl
theorem runOp_ok {call : CallF} (hcall : CallOK call) (own : Bool) (rd : Option Nat) (o : Oper) : RunOK rd o (runOp call own rd o.dst o.op) := by
 obtain ⟨d, op, ty, ps, af, g⟩ := o
 cases op
 case call c =>
  show RunOK rd _ (rCallee call own d c c.callee)
  cases hc : c.callee with
  | builtin b => exact run_builtin (o := ⟨d, .call c, ty, ps, af, g⟩) rfl hc
  | value f => exact run_call (o := ⟨d, .call c, ty, ps, af, g⟩) hcall rfl hc
  | invoke a b => exact run_fail
 case panic x => exact run_panic rfl
 case defer c =>
  show RunOK rd _ (rDeferee rd d c c.callee)
  cases hc : c.callee with
  | value f => exact run_defer (o := ⟨d, .defer c, ty, ps, af, g⟩) rfl hc
  | builtin b => exact run_fail
  | invoke a b => exact run_fail
 case next x b =>
  cases b with
  | false => exact run_next' (o := ⟨d, .next x false, ty, ps, af, g⟩) rfl
  | true => exact run_xop (by intro x h; cases h) (by intro c h; cases h) (by intro x h; cases h) (by intro c h; cases h)
 all_goals exact run_xop (by intro x h; cases h) (by intro c h; cases h) (by intro x h; cases h) (by intro c h; cases h)
theorem rSkip_eq (d : Option Nat) (err : Out) (s : St) (k : St → Out) (pan : AV → St → Out) : rSkip d err s k pan = k ⟨putT d (.tuple []) s.τ, s.H, s.n, s.ds⟩ := by
 obtain ⟨τ, H, n, ds⟩ := s
 exact rPut_eq _ _ _ _
theorem gSel_cases (w : Bool) (v : AV) (go skip : RunF) (err : Out) (s : St) (k : St → Out) (pan : AV → St → Out) :
  (gSel w v go skip err s k pan = err) ∨ ((match v with | .bool b => some (b == w) | .tuple _ => some false | _ => Option.none) = some true ∧ gSel w v go skip = go) ∨ ((match v with | .bool b => some (b == w) | .tuple _ => some false | _ => Option.none) = some false ∧ gSel w v go skip = skip) := by
 cases v with
 | bool b => cases b <;> cases w <;> first | exact .inr (.inl ⟨rfl, rfl⟩) | exact .inr (.inr ⟨rfl, rfl⟩)
 | tuple l => exact .inr (.inr ⟨rfl, rfl⟩)
 | _ => exact .inl rfl
theorem guard_cases (d : Option Nat) (g : GT) (run skip : RunF) (err : Out) (s : St) (k : St → Out) (pan : AV → St → Out) (G : RunF) (hG : G = match g with | .go => run | .off => skip | .at_ t w => fun err s k pan => gSel w (evT t s.τ) run skip err s k pan) :
  G err s k pan = err ∨ (gWanted g (envT s.τ) = some true ∧ G err s k pan = run err s k pan) ∨ (gWanted g (envT s.τ) = some false ∧ G err s k pan = skip err s k pan) := by
 subst hG
 cases g with
 | go => exact .inr (.inl ⟨rfl, rfl⟩)
 | off => exact .inr (.inr ⟨rfl, rfl⟩)
 | at_ t w =>
  rcases gSel_cases w (evT t s.τ) run skip err s k pan with h | ⟨h1, h2⟩ | ⟨h1, h2⟩
  ·exact .inl h
  ·exact .inr (.inl ⟨h1, by simp only [h2]⟩)
  ·exact .inr (.inr ⟨h1, by simp only [h2]⟩)
theorem envT_mask (τ : Tr AV) : ∀ l : List Oper, envT (maskT l τ) = fun t => bif l.any (fun o => o.dst == some t) then .any else envT τ t
 | [] => rfl
 | o :: l => by
  have ih := envT_mask τ l
  funext t
  rw [List.any_cons]
  cases hd : o.dst with
  | none =>
   have : maskT (o :: l) τ = maskT l τ := by show Option.rec (motive := fun _ => Tr AV) _ _ o.dst = _; rw [hd]; rfl
   rw [this, ih]
   simp
  | some d =>
   have : maskT (o :: l) τ = setP (some .any) (bits d) (maskT l τ) := by show Option.rec (motive := fun _ => Tr AV) _ _ o.dst = _; rw [hd]; rfl
   rw [this, envT_set, ih]
   simp only [eupd]
   by_cases e : t = d
   ·subst e; simp
   ·have h1 : (t == d) = false := by simpa using e
    have h2 : (some d == some t) = false := by simpa using fun h : d = t => e h.symm
    rw [h1, h2]; simp
theorem panX_ok {rd : Option Nat} {ops : Array Oper} {v : AV} {s : AS} {o : Out} {K : KS} (hK : ∀ e s', IsX rd o e s' → K e s') (h : PanAt rd o (panX ops) v s) : panK ops K v s := by
 obtain ⟨⟨τ, H, n, ds⟩, rfl, ho⟩ := h
 exact hK _ _ ⟨⟨maskT ops.toList τ, H, n, ds⟩, ho _ rfl, by simp only [toAS, envT_mask]; rfl⟩
theorem seqX_ok {call : CallF} (hcall : CallOK call) (own : Bool) (fr : Fr) (id : Nat) (ops : Array Oper) : ∀ (l : List Oper) (s : St) (K : KS),
  ¬ Fails (seqX call own fr id ops (compL ops.toList l) s) → (∀ e s', IsX fr.rd (seqX call own fr id ops (compL ops.toList l) s) e s' → K e s') → amSeq Tryz.prog ops l K (toAS fr.rd s) := by
 intro l
 induction l with
 | nil => intro s K hf hK; exact hK .normal _ ⟨s, rfl, rfl⟩
 | cons o l ih =>
  intro s K hf hK
  have he : Fails (.fail fr.f id (dN o.dst)) := fails_fail _ _ _
  have hx : seqX call own fr id ops (compL ops.toList (o :: l)) s = stepG o.dst (gtOf ops.toList o.guard) (runOp call own fr.rd o.dst o.op) (.fail fr.f id (dN o.dst)) s (seqX call own fr id ops (compL ops.toList l)) (panX ops) := rfl
  have hg := guard_cases o.dst (gtOf ops.toList o.guard) (runOp call own fr.rd o.dst o.op) (rSkip o.dst) (.fail fr.f id (dN o.dst)) s (seqX call own fr id ops (compL ops.toList l)) (panX ops) (stepG o.dst (gtOf ops.toList o.guard) (runOp call own fr.rd o.dst o.op)) (by cases gtOf ops.toList o.guard <;> rfl)
  rw [← hx] at hg
  rcases hg with h | ⟨hw, h⟩ | ⟨hw, h⟩
  ·exact absurd (h ▸ he) hf
  ·rcases runOp_ok hcall own fr.rd o _ s (seqX call own fr id ops (compL ops.toList l)) (panX ops) he with h2 | h2
   ·exact absurd (h ▸ h2) hf
   ·rw [← h] at h2
    simp only [amSeq]
    rw [gWanted_eq]
    show match gWanted (gtOf ops.toList o.guard) (envT s.τ) with | some true => _ | some false => _ | Option.none => _
    rw [hw]
    refine amOp_env (ops := #[]) (s := toAS fr.rd s) ⟨rfl, rfl, rfl, rfl⟩ (fun _ _ => rfl) (fun v h' n' ds' hk => ?_) (fun v h' n' ds' hk => panX_ok hK hk) h2
    obtain ⟨t, ht, ho⟩ := hk
    show amSeq Tryz.prog ops l _ _
    rw [ht]
    exact ih t K (fun h3 => hf (h3.sub ho)) fun e s' hx => hK e s' (hx.sub ho)
  ·rw [rSkip_eq] at h
   simp only [amSeq]
   rw [gWanted_eq]
   show match gWanted (gtOf ops.toList o.guard) (envT s.τ) with | some true => _ | some false => _ | Option.none => _
   rw [hw]
   have : toAS fr.rd ⟨putT o.dst (.tuple []) s.τ, s.H, s.n, s.ds⟩ = { toAS fr.rd s with τ := aPut (toAS fr.rd s).τ o.dst (.tuple []) } := by simp only [toAS, envT_put]
   rw [← this]
   exact ih _ K (fun h3 => hf (h ▸ h3)) fun e s' hx => hK e s' (h ▸ hx)
end Go.Proofs.YthkjmiejaoomcaaGreat.Am
namespace Go.Proofs.YthkjmiejaoomcaaGreat.Am
open Go Go.RowKit Go.Proofs
set_option linter.unusedVariables false
set_option linter.unusedSimpArgs false
set_option maxRecDepth 20000
theorem leq_sound {f : AV → AV → Bool} (hf : ∀ a b, f a b = true → a = b) : ∀ (l m : List AV), leq f l m = true → l = m
 | [], [], _ => rfl
 | [], b :: m, h => by cases h
 | a :: l, [], h => by cases h
 | a :: l, b :: m, h => by
  simp only [leq] at h
  rw [brec] at h
  split at h
  ·rename_i h1
   rw [hf a b h1, leq_sound hf l m h]
  ·cases h
theorem avEq0_sound (a b : AV) (h : avEq0 a b = true) : a = b := by
 unfold avEq0 at h
 split at h
 ·rfl
 ·rfl
 ·rw [beq_iff.1 h]
 ·rename_i x y; cases x <;> cases y <;> first | rfl | cases h
 ·rw [Bool.and_eq_true, kEq_eq, iEq_eq] at h
  rw [h.1, eq_of_beq h.2]
 ·rename_i x y
  rw [strEq_eq] at h
  have := eq_of_beq h
  rw [ba_toList, ba_toList] at this
  have h2 : x = y := by
   obtain ⟨⟨x⟩⟩ := x
   obtain ⟨⟨y⟩⟩ := y
   simp only at this
   rw [this]
  rw [h2]
 ·simp only [Bool.and_eq_true, beq_iff] at h; rw [h.1, h.2]
 ·rfl
 ·simp only [Bool.and_eq_true, beq_iff] at h; rw [h.1.1, h.1.2, h.2]
 ·simp only [beq_iff] at h; rw [h]
 ·rfl
 ·rfl
 ·rfl
 ·cases h
theorem tokEq_sound (a b : Tok) (h : tokEq a b = true) : a = b := by
 unfold tokEq at h
 split at h
 ·rfl
 ·rfl
 ·rfl
 ·rw [beq_iff.1 h]
 ·cases h
theorem avEq1_sound {f : AV → AV → Bool} (hf : ∀ a b, f a b = true → a = b) (a b : AV) (h : avEq1 f a b = true) : a = b := by
 unfold avEq1 at h
 split at h
 ·simp only [Bool.and_eq_true, beq_iff] at h; rw [h.1, leq_sound hf _ _ h.2]
 ·simp only [Bool.and_eq_true, beq_iff] at h; rw [h.1.1.1, h.1.1.2, tokEq_sound _ _ h.1.2, leq_sound hf _ _ h.2]
 ·simp only [Bool.and_eq_true, beq_iff] at h; rw [h.1, hf _ _ h.2]
 ·rw [leq_sound hf _ _ h]
 ·rw [leq_sound hf _ _ h]
 ·simp only [Bool.and_eq_true, beq_iff] at h; rw [h.1.1, leq_sound hf _ _ h.1.2, leq_sound hf _ _ h.2]
 ·exact avEq0_sound _ _ h
theorem avEq_sound : ∀ (n : Nat) (a b : AV), avEq n a b = true → a = b
 | 0, a, b, h => by cases h
 | n + 1, a, b, h => avEq1_sound (avEq_sound n) a b h
def RelPE : List PE → Pend → Prop
 | [], T => T = []
 | .free i :: T, U => ∃ Y U', U = (i, Y) :: U' ∧ (∀ h, Y h) ∧ RelPE T U'
 | .rd i op τ v :: T, U => ∃ U', U = (i, yieldOf Tryz.prog op (envT τ) v) :: U' ∧ RelPE T U'
theorem stays_of {st : List Nat} {H : Tr XObj} : ∀ {T : List PE} {U : Pend}, RelPE T U → allB (peOk st H) T = true → Stays U st (hpT H)
 | [], U, hr, _ => by
  intro q hq
  have : U = [] := hr
  subst this
  cases hq
 | .free i :: T, U, hr, ha => by
  obtain ⟨Y, U', rfl, hY, hr⟩ := hr
  rw [allB_eq, List.all_cons, Bool.and_eq_true] at ha
  intro q hq hc
  rcases List.mem_cons.1 hq with rfl | hq
  ·exact hY _
  ·exact stays_of hr (by rw [allB_eq]; exact ha.2) q hq hc
 | .rd i op τ v :: T, U, hr, ha => by
  obtain ⟨U', rfl, hr⟩ := hr
  rw [allB_eq, List.all_cons, Bool.and_eq_true] at ha
  intro q hq hc
  rcases List.mem_cons.1 hq with rfl | hq
  ·refine .inr fun hk p => ?_
   have h1 := ha.1
   simp only [peOk] at h1
   have hc' : st.contains i = true := hc
   rw [hc'] at h1
   simp only [Bool.not_true, Bool.false_or] at h1
   rw [orec] at h1
   cases hx : aop Tryz.prog op (aEval (envT τ)) (hpT H) 0 with
   | none => rw [hx] at h1; cases h1
   | some r =>
    rw [hx] at h1
    obtain ⟨u, h'⟩ := r
    have := avEq_sound 100 u v h1
    subst this
    exact aop_reads hk hx p
  ·exact stays_of hr (by rw [allB_eq]; exact ha.2) q hq hc
theorem staysX_ok {st : List Nat} {H : Tr XObj} {T : List PE} {U : Pend} (hr : RelPE T U) (h : staysX st T H = true) : Stays U st (hpT H) := by
 cases st with
 | nil => intro q hq hc; simp at hc
 | cons a st => exact stays_of hr h
theorem nthCO_some {ops : Array Oper} {i : Nat} {co : CO} (h : nthCO (lateCO ops) i = some co) : ∃ o, (lateOps Tryz.prog ops)[i]? = some o ∧ co = ⟨o.dst, o.op, gtOf (lateOps Tryz.prog ops).toList o.guard⟩ := by
 unfold lateCO at h
 rw [nthCO_comp] at h
 cases ho : (lateOps Tryz.prog ops).toList[i]? with
 | none => rw [ho] at h; cases h
 | some o =>
  rw [ho] at h
  simp only [Option.map_some, Option.some.injEq] at h
  exact ⟨o, by simpa using ho, h.symm⟩
theorem emptyN_iff {l : List Nat} (h : emptyN l = true) : l = [] := by cases l with | nil => rfl | cons => cases h
theorem oneDone_iff {j : Nat} {p : Plan} (h : oneDone j p = true) : p = .one j [] .done := by
 unfold oneDone at h
 split at h
 ·simp only [Bool.and_eq_true, beq_iff] at h
  rw [h.1, emptyN_iff h.2]
 ·cases h
theorem storeCO_some {co : CO} {T : TypeId} {a x : Operand} (h : storeCO co = some (T, a, x)) : co = ⟨Option.none, .store T a x, .go⟩ := by
 unfold storeCO at h
 split at h
 ·simp only [Option.some.injEq, Prod.mk.injEq] at h
  obtain ⟨rfl, rfl, rfl⟩ := h; rfl
 ·cases h
theorem apartP_some {a b : AV} (h : apartP a b = true) : ∃ i o j p, a = .ptr i o ∧ b = .ptr j p ∧ i ≠ j := by
 have pt : ∀ {v : AV} {i : Nat}, ptrA v = some i → ∃ o, v = .ptr i o := by
  intro v i hv
  unfold ptrA at hv
  split at hv
  ·injection hv with hv; subst hv; exact ⟨_, rfl⟩
  ·cases hv
 unfold apartP at h
 split at h
 ·rename_i i j h1 h2
  obtain ⟨o, h1⟩ := pt h1
  obtain ⟨p, h2⟩ := pt h2
  refine ⟨i, o, j, p, h1, h2, fun e => ?_⟩
  subst e
  have : Nat.beq i i = true := Nat.beq_refl i
  rw [this] at h; cases h
 ·cases h
theorem store_apart {P : Program} {T1 T2 : TypeId} {i o j p : Nat} {x y : AV} {h h1 h12 : AHeap} (hij : i ≠ j) (e1 : aStore P T1 (.ptr i o) x h = some h1) (e2 : aStore P T2 (.ptr j p) y h1 = some h12) :
  ∃ h2, aStore P T2 (.ptr j p) y h = some h2 ∧ aStore P T1 (.ptr i o) x h2 = some h12 := by
 unfold aStore at e1 e2 ⊢
 cases hz1 : tsz P T1 with
 | none => rw [hz1] at e1; cases e1
 | some z1 =>
  cases hz2 : tsz P T2 with
  | none => rw [hz2] at e2; cases e2
  | some z2 =>
   rw [hz1] at e1
   rw [hz2] at e2
   simp only at e1 e2 ⊢
   cases hi : h i with
   | none => rw [hi] at e1; cases e1
   | some oi =>
    rw [hi] at e1
    cases oi with
    | cells cs T =>
     simp only at e1
     split at e1
     ·rename_i c1
      injection e1 with e1
      subst e1
      rw [upd_other _ _ (fun e => hij e.symm)] at e2
      cases hj : h j with
      | none => rw [hj] at e2; cases e2
      | some oj =>
       rw [hj] at e2
       cases oj with
       | cells cs2 T' =>
        simp only at e2
        split at e2
        ·rename_i c2
         injection e2 with e2
         refine ⟨upd h j (some (.cells (aSplice cs2 p y.cells) T')), by simp only [if_pos c2], ?_⟩
         rw [upd_other _ _ hij, hi]
         simp only [if_pos c1]
         rw [← e2]
         congr 1
         funext k
         by_cases hk : k = i
         ·subst hk; rw [upd_same, upd_other _ _ hij, upd_same]
         ·by_cases hk2 : k = j
          ·subst hk2; rw [upd_other _ _ hk, upd_same, upd_same]
          ·rw [upd_other _ _ hk, upd_other _ _ hk2, upd_other _ _ hk2, upd_other _ _ hk]
        ·cases e2
       | _ => cases e2
     ·cases e1
    | _ => cases e1
theorem store_one {ops : Array Oper} {i : Nat} {oi : Oper} {T : TypeId} {a x : Operand} {g : GT} (hi : ops[i]? = some oi) (hco : (⟨oi.dst, oi.op, gtOf ops.toList oi.guard⟩ : CO) = ⟨Option.none, .store T a x, .go⟩) {s : AS} {h' : AHeap} (hs : aStore Tryz.prog T (aEval s.τ a) (aEval s.τ x) s.h = some h') {next : AS → Prop} {pan : AV → AS → Prop} (hn : next { s with h := h' }) :
  amOpI Tryz.prog ops i next pan s := by
 simp only [CO.mk.injEq] at hco
 obtain ⟨hd, hop, hg⟩ := hco
 unfold amOpI
 rw [hi]
 simp only
 rw [gWanted_eq, hg]
 show amOp Tryz.prog oi s next pan
 unfold amOp
 rw [hop]
 intro _
 rw [hop]
 simp only [aop, hs, Option.map_some, needsName, cond_false, Nat.add_zero, hd]
 exact hn
theorem drX_ok {call : CallF} (hcall : CallOK call) (own : Bool) (fr : Fr) (id : Nat) (ops : Array Oper) : ∀ (pl : Plan) (listed : Array Bool) (Tn : List Nat) (T : List PE) (U : Pend) (s : St) (K : KS), planOk (lateOps Tryz.prog ops) pl listed Tn = true → RelPE T U →
  ¬ Fails (drX call own fr id ops (lateCO ops) pl T s) → (∀ e s', IsX fr.rd (drX call own fr id ops (lateCO ops) pl T s) e s' → K e s') → amDr Tryz.prog (lateOps Tryz.prog ops) K pl U (toAS fr.rd s) := by
 intro pl
 have pan : ∀ {rd o v s} {K : KS}, (∀ e s', IsX rd o e s' → K e s') → PanAt rd o (panX ops) v s → panK (lateOps Tryz.prog ops) K v s := by
  intro rd o v s K hK h
  have := panX_ok hK h
  unfold panK at this ⊢
  rw [maskOps_late]; exact this
 induction pl with
 | done => intro listed Tn T U s K hp hr hf hK; exact hK .normal _ ⟨s, rfl, rfl⟩
 | take i rest ih =>
  intro listed Tn T U s K hp hr hf hK
  simp only [planOk, Bool.and_eq_true] at hp
  obtain ⟨⟨⟨⟨_, _⟩, hkind⟩, _⟩, hp⟩ := hp
  have he : Fails (.fail fr.f id i) := fails_fail _ _ _
  cases hco : nthCO (lateCO ops) i with
  | none =>
   refine absurd ?_ hf
   show Fails (Option.rec (motive := fun _ => Out) _ _ (nthCO (lateCO ops) i))
   rw [hco]; exact he
  | some co =>
   obtain ⟨o, ho, rfl⟩ := nthCO_some hco
   rw [ho] at hkind
   simp only [decide_eq_true_eq] at hkind
   have hx : drX call own fr id ops (lateCO ops) (.take i rest) T s = takeG i o.dst (gtOf (lateOps Tryz.prog ops).toList o.guard) o.op T (drX call own fr id ops (lateCO ops) rest) (.fail fr.f id i) s (fun s => .fail fr.f id i) (panX ops) := by
    show (Option.rec (motive := fun _ => Out) _ _ (nthCO (lateCO ops) i)) = _
    rw [hco]
    rfl
   have hg := guard_cases o.dst (gtOf (lateOps Tryz.prog ops).toList o.guard) (rTake i o.dst o.op T (drX call own fr id ops (lateCO ops) rest)) (rTakeSkip i o.dst T (drX call own fr id ops (lateCO ops) rest)) (.fail fr.f id i) s (fun s => .fail fr.f id i) (panX ops)
    (takeG i o.dst (gtOf (lateOps Tryz.prog ops).toList o.guard) o.op T (drX call own fr id ops (lateCO ops) rest)) (by cases gtOf (lateOps Tryz.prog ops).toList o.guard <;> rfl)
   rw [← hx] at hg
   rcases hg with h | ⟨hw, h⟩ | ⟨hw, h⟩
   ·exact absurd (by rw [h]; exact he) hf
   ·obtain ⟨τ, H, n, ds⟩ := s
    have hne : ∀ x, o.op ≠ .next x false := fun x hx => by rw [hx] at hkind; simp only [aKind] at hkind; omega
    have h' : drX call own fr id ops (lateCO ops) (.take i rest) T ⟨τ, H, n, ds⟩ = xop o.op (.fail fr.f id i) τ H n fun v _ _ => Bool.rec (drX call own fr id ops (lateCO ops) rest (.rd i o.op τ v :: T) ⟨putT o.dst v τ, H, n, ds⟩) (drX call own fr id ops (lateCO ops) rest (.free i :: T) ⟨putT o.dst v τ, H, n, ds⟩) (Nat.beq (aKind o.op) 0) := by
     rw [h]
     show (xop o.op (.fail fr.f id i) τ H n fun v _ _ => rPut o.dst v τ fun τ' => _) = _
     simp only [rPut_eq]
    rcases xs_xop o.op hne (.fail fr.f id i) τ H n (fun v _ _ => Bool.rec (drX call own fr id ops (lateCO ops) rest (.rd i o.op τ v :: T) ⟨putT o.dst v τ, H, n, ds⟩) (drX call own fr id ops (lateCO ops) rest (.free i :: T) ⟨putT o.dst v τ, H, n, ds⟩) (Nat.beq (aKind o.op) 0)) with h1 | ⟨v, H', h1, h2⟩
    ·exact absurd (by rw [h', h1]; exact he) hf
    have hop0 : aop Tryz.prog o.op (aEval (envT τ)) (hpT H) 0 = some (v, hpT H) := by
     by_cases h0 : aKind o.op = 0
     ·exact aop_free h0 h1 _ _
     ·exact aop_reads (by omega) h1 0
    have key : ∀ (T' : List PE), RelPE T' ((i, yieldOf Tryz.prog o.op (envT τ) v) :: U) → drX call own fr id ops (lateCO ops) (.take i rest) T ⟨τ, H, n, ds⟩ = drX call own fr id ops (lateCO ops) rest T' ⟨putT o.dst v τ, H, n, ds⟩ → amDr Tryz.prog (lateOps Tryz.prog ops) K (.take i rest) U (toAS fr.rd ⟨τ, H, n, ds⟩) := by
     intro T' hT' he'
     have h3 := ih _ _ T' _ ⟨putT o.dst v τ, H, n, ds⟩ K hp hT' (he' ▸ hf) (fun e s' hh => hK e s' (he' ▸ hh))
     simp only [amDr, ho]
     rw [gWanted_eq]
     show match gWanted (gtOf (lateOps Tryz.prog ops).toList o.guard) (envT τ) with | some true => _ | some false => _ | Option.none => _
     rw [hw]
     show match aop Tryz.prog o.op (aEval (envT τ)) (hpT H) 0 with | some (v, _) => _ | Option.none => _
     rw [hop0]
     have : toAS fr.rd ⟨putT o.dst v τ, H, n, ds⟩ = { toAS fr.rd ⟨τ, H, n, ds⟩ with τ := aPut (envT τ) o.dst v } := by simp only [toAS, envT_put]
     rw [this] at h3
     exact h3
    rw [h2, brec] at h'
    split at h'
    ·rename_i h0
     rw [beq_iff] at h0
     exact key (.free i :: T) ⟨_, _, rfl, fun h => .inl h0, hr⟩ h'
    ·exact key (.rd i o.op τ v :: T) ⟨_, rfl, hr⟩ h'
   ·have h' : drX call own fr id ops (lateCO ops) (.take i rest) T s = drX call own fr id ops (lateCO ops) rest (.free i :: T) ⟨putT o.dst (.tuple []) s.τ, s.H, s.n, s.ds⟩ := by
     rw [h]
     exact rSkip_eq _ _ _ _ _
    have h3 := ih _ _ (.free i :: T) ((i, fun _ => True) :: U) ⟨putT o.dst (.tuple []) s.τ, s.H, s.n, s.ds⟩ K hp ⟨_, _, rfl, fun _ => trivial, hr⟩ (h' ▸ hf) (fun e s' hh => hK e s' (h' ▸ hh))
    simp only [amDr, ho]
    rw [gWanted_eq]
    show match gWanted (gtOf (lateOps Tryz.prog ops).toList o.guard) (envT s.τ) with | some true => _ | some false => _ | Option.none => _
    rw [hw]
    have : toAS fr.rd ⟨putT o.dst (.tuple []) s.τ, s.H, s.n, s.ds⟩ = { toAS fr.rd s with τ := aPut (envT s.τ) o.dst (.tuple []) } := by simp only [toAS, envT_put]
    rw [this] at h3
    exact h3
 | one i st rest ih =>
  intro listed Tn T U s K hp hr hf hK
  simp only [planOk, Bool.and_eq_true] at hp
  obtain ⟨⟨_, _⟩, hp⟩ := hp
  have he : Fails (.fail fr.f id i) := fails_fail _ _ _
  cases hco : nthCO (lateCO ops) i with
  | none =>
   refine absurd ?_ hf
   show Fails (Option.rec (motive := fun _ => Out) _ _ (nthCO (lateCO ops) i))
   rw [hco]; exact he
  | some co =>
   obtain ⟨o, ho, rfl⟩ := nthCO_some hco
   let k : St → Out := fun s => Bool.rec (.fail fr.f id i) (drX call own fr id ops (lateCO ops) rest T s) (staysX st T s.H)
   have hx : drX call own fr id ops (lateCO ops) (.one i st rest) T s = stepG o.dst (gtOf (lateOps Tryz.prog ops).toList o.guard) (runOp call own fr.rd o.dst o.op) (.fail fr.f id i) s k (panX ops) := by
    show (Option.rec (motive := fun _ => Out) _ _ (nthCO (lateCO ops) i)) = _
    rw [hco]
    rfl
   have hg := guard_cases o.dst (gtOf (lateOps Tryz.prog ops).toList o.guard) (runOp call own fr.rd o.dst o.op) (rSkip o.dst) (.fail fr.f id i) s k (panX ops) (stepG o.dst (gtOf (lateOps Tryz.prog ops).toList o.guard) (runOp call own fr.rd o.dst o.op)) (by cases gtOf (lateOps Tryz.prog ops).toList o.guard <;> rfl)
   rw [← hx] at hg
   have hk : ∀ t, Sub (k t) (drX call own fr id ops (lateCO ops) (.one i st rest) T s) → Stays U st (hpT t.H) ∧ amDr Tryz.prog (lateOps Tryz.prog ops) K rest U (toAS fr.rd t) := by
    intro t ht
    have hkt : k t = if staysX st T t.H = true then drX call own fr id ops (lateCO ops) rest T t else .fail fr.f id i := brec _ _ _
    rw [hkt] at ht
    split at ht
    ·rename_i hs
     exact ⟨staysX_ok hr hs, ih _ _ T U t K hp hr (fun h3 => hf (h3.sub ht)) fun e s' hh => hK e s' (hh.sub ht)⟩
    ·exact absurd (he.sub ht) hf
   simp only [amDr]
   unfold amOpI
   rw [ho]
   simp only
   rw [gWanted_eq]
   show match gWanted (gtOf (lateOps Tryz.prog ops).toList o.guard) (envT s.τ) with | some true => _ | some false => _ | Option.none => _
   rcases hg with h | ⟨hw, h⟩ | ⟨hw, h⟩
   ·exact absurd (h ▸ he) hf
   ·rw [hw]
    rcases runOp_ok hcall own fr.rd o _ s k (panX ops) he with h2 | h2
    ·exact absurd (h ▸ h2) hf
    ·rw [← h] at h2
     refine amOp_env (ops := #[]) (s := toAS fr.rd s) ⟨rfl, rfl, rfl, rfl⟩ (fun _ _ => rfl) (fun v h' n' ds' hk' => ?_) (fun v h' n' ds' hk => pan hK hk) h2
     obtain ⟨t, ht, ho'⟩ := hk'
     obtain ⟨h3, h4⟩ := hk t ho'
     show Stays U st _ ∧ amDr Tryz.prog _ _ rest U _
     rw [ht]
     exact ⟨h3, h4⟩
   ·rw [hw]
    rw [rSkip_eq] at h
    obtain ⟨h3, h4⟩ := hk _ (Sub.of_eq h)
    have : toAS fr.rd ⟨putT o.dst (.tuple []) s.τ, s.H, s.n, s.ds⟩ = { toAS fr.rd s with τ := aPut (envT s.τ) o.dst (.tuple []) } := by simp only [toAS, envT_put]
    rw [this] at h4
    exact ⟨h3, h4⟩
 | two i st p j st' q ihp ihq =>
  intro listed Tn T U s K hp hr hf hK
  obtain ⟨τ, H, n, ds⟩ := s
  have he : Fails (.fail fr.f id i) := fails_fail _ _ _
  have hx : drX call own fr id ops (lateCO ops) (.two i st p j st' q) T ⟨τ, H, n, ds⟩ = twoX (.fail fr.f id i) (lateCO ops) i st p j st' q ⟨τ, H, n, ds⟩ := rfl
  generalize drX call own fr id ops (lateCO ops) (.two i st p j st' q) T ⟨τ, H, n, ds⟩ = out at hx hf hK ⊢
  unfold twoX at hx
  rw [orec] at hx
  cases hc1 : (nthCO (lateCO ops) i).bind storeCO with
  | none => rw [hc1] at hx; exact absurd (hx ▸ he) hf
  | some c1 =>
   rw [hc1] at hx
   simp only at hx
   rw [orec] at hx
   cases hc2 : (nthCO (lateCO ops) j).bind storeCO with
   | none => rw [hc2] at hx; exact absurd (hx ▸ he) hf
   | some c2 =>
    rw [hc2] at hx
    simp only at hx
    rw [brec] at hx
    split at hx
    ·rename_i hchk
     simp only [Bool.and_eq_true] at hchk
     obtain ⟨⟨⟨g1, g2⟩, g3⟩, g4⟩ := hchk
     obtain rfl := oneDone_iff g1
     obtain rfl := oneDone_iff g2
     obtain rfl := emptyN_iff g3
     obtain rfl := emptyN_iff g4
     obtain ⟨T1, a1, x1⟩ := c1
     obtain ⟨T2, a2, x2⟩ := c2
     obtain ⟨co1, hn1, hs1⟩ := Option.bind_eq_some_iff.1 hc1
     obtain ⟨co2, hn2, hs2⟩ := Option.bind_eq_some_iff.1 hc2
     have hs1 := storeCO_some hs1
     have hs2 := storeCO_some hs2
     obtain ⟨o1, ho1, rfl⟩ := nthCO_some hn1
     obtain ⟨o2, ho2, rfl⟩ := nthCO_some hn2
     have hx2 : out = Bool.rec (.fail fr.f id i) (oStore T1 a1 x1 (.fail fr.f id i) τ H n fun _ H1 _ => oStore T2 a2 x2 (.fail fr.f id i) τ H1 n fun _ H2 _ => .norm ⟨τ, H2, n, ds⟩) (apartP (ev a1 τ) (ev a2 τ)) := hx
     rw [brec] at hx2
     split at hx2
     ·rename_i hap
      rw [ev_eq, ev_eq] at hap
      obtain ⟨k1, p1, k2, p2, ha1, ha2, hne⟩ := apartP_some hap
      rcases xs_store T1 a1 x1 (.fail fr.f id i) τ H n (fun _ H1 _ => oStore T2 a2 x2 (.fail fr.f id i) τ H1 n fun _ H2 _ => .norm ⟨τ, H2, n, ds⟩) with h1 | ⟨v1, H1, h1, h2⟩
      ·rw [h1] at hx2; exact absurd (hx2 ▸ he) hf
      ·rw [h2] at hx2
       rcases xs_store T2 a2 x2 (.fail fr.f id i) τ H1 n (fun _ H2 _ => .norm ⟨τ, H2, n, ds⟩) with h3 | ⟨v2, H2, h3, h4⟩
       ·rw [h3] at hx2; exact absurd (hx2 ▸ he) hf
       ·rw [h4] at hx2
        have st : ∀ {T : TypeId} {a x : Operand} {h h' : AHeap} {m : Nat} {v : AV}, aop Tryz.prog (.store T a x) (aEval (envT τ)) h m = some (v, h') → aStore Tryz.prog T (aEval (envT τ) a) (aEval (envT τ) x) h = some h' := by
         intro T a x h h' m v hh
         simp only [aop] at hh
         cases hq : aStore Tryz.prog T (aEval (envT τ) a) (aEval (envT τ) x) h with
         | none => rw [hq] at hh; cases hh
         | some r => rw [hq] at hh; simp only [Option.map_some, Option.some.injEq, Prod.mk.injEq] at hh; rw [hh.2]
        have e1 := st h1
        have e2 := st h3
        rw [ha1] at e1
        rw [ha2] at e2
        obtain ⟨hh2, e3, e4⟩ := store_apart hne e1 e2
        rw [← ha1] at e1 e4
        rw [← ha2] at e2 e3
        have fin : K .normal ⟨envT τ, hpT H2, n, ds, fr.rd⟩ := hK .normal _ ⟨⟨τ, H2, n, ds⟩, by rw [hx2]; rfl, rfl⟩
        have em : ∀ {h : AHeap}, Stays U [] h := fun {h} q hq hc => by simp at hc
        simp only [amDr]
        refine ⟨store_one (g := .go) ho1 hs1 (s := toAS fr.rd ⟨τ, H, n, ds⟩) e1 ⟨em, store_one (g := .go) ho2 hs2 (s := ⟨envT τ, hpT H1, n, ds, fr.rd⟩) e2 ⟨em, fin⟩⟩,
         store_one (g := .go) ho2 hs2 (s := toAS fr.rd ⟨τ, H, n, ds⟩) e3 ⟨em, store_one (g := .go) ho1 hs1 (s := ⟨envT τ, hh2, n, ds, fr.rd⟩) e4 ⟨em, fin⟩⟩⟩
     ·exact absurd (hx2 ▸ he) hf
    ·exact absurd (hx ▸ he) hf
theorem drawX_ok {hn : Hints} {call : CallF} (hcall : CallOK call) (fr : Fr) (id : Nat) (ops : Array Oper) (hc : chkC hn fr.f (.region id ops true) = true) (s : St) : Fails (drawX hn call fr id ops s) ∨ NSem Tryz.prog fr.nt (.region id ops true) (IsX fr.rd (drawX hn call fr id ops s)) (toAS fr.rd s) := by
 have hx : drawX hn call fr id ops s = Option.rec (motive := fun _ => Out) (.fail fr.f id 8801) (fun q => drX call (hn.own fr.f id) fr id ops (lateCO ops) q.1 [] s) (hn.plan fr.f id) := rfl
 rw [orec] at hx
 simp only [chkC, cond_true] at hc
 cases hp : hn.plan fr.f id with
 | none => rw [hp] at hx; exact .inl (hx ▸ fails_fail _ _ _)
 | some q =>
  rw [hp] at hx hc
  simp only at hx hc
  simp only [draChk, Bool.and_eq_true, ble_iff] at hc
  obtain ⟨⟨h1, h2⟩, h3⟩ := hc
  rw [hx]
  by_cases hf : Fails (drX call (hn.own fr.f id) fr id ops (lateCO ops) q.1 [] s)
  ·exact .inl hf
  ·exact .inr (NSem.late follows_mixed ⟨q.1, q.2, h1, h2, h3, drX_ok hcall (hn.own fr.f id) fr id ops q.1 _ [] [] [] s _ h1 rfl hf fun _ _ h => h⟩)
end Go.Proofs.YthkjmiejaoomcaaGreat.Am
namespace Go.Proofs.YthkjmiejaoomcaaGreat.Am
open Go Go.RowKit Go.Proofs
set_option linter.unusedVariables false
set_option linter.unusedSimpArgs false
set_option maxRecDepth 20000
theorem loopAt_some (o : Option XObj) (err : Out) (k : LoopState → Option Code → Nat → Tr AV → List Nat → Code → Code → Nat → Nat → Out) : loopAt o err k = err ∨ ∃ st pend nt env ps asg bd d f, o = some (.loop st pend nt env ps asg bd d f) ∧ loopAt o err k = k st pend nt env ps asg bd d f := by
 cases o with
 | none => exact .inl rfl
 | some x =>
  cases x with
  | o a => exact .inl rfl
  | loop st pend nt env ps asg bd d f => exact .inr ⟨st, pend, nt, env, ps, asg, bd, d, f, rfl, rfl⟩
theorem hpT_loop {H : Tr XObj} {l : Nat} {st : LoopState} {pend : Option Code} {nt : Nat} {env : Tr AV} {ps : List Nat} {asg bd : Code} {d f : Nat} (h : getP (bits l) H = some (.loop st pend nt env ps asg bd d f)) : hpT H l = some (.loop st pend nt (envT env) ps asg bd d) := by
 unfold hpT; rw [h]; rfl
theorem funcA_cases (v : AV) (err : Out) (k : AV → Out) : funcA v err k = err ∨ ∃ g a b, v = .func (.func g) a b ∧ funcA v err k = k v := by
 cases v with
 | func fn a b => cases fn with
  | func g => exact .inr ⟨g, a, b, rfl, rfl⟩
  | _ => exact .inl rfl
 | _ => exact .inl rfl
theorem leaf_map {F : Out → Out} (hF : ∀ a b, F (.alt a b) = .alt (F a) (F b)) : ∀ (o x : Out), Leaf x o → Sub (F x) (F o) := by
 intro o
 induction o with
 | alt a b iha ihb =>
  intro x h
  rw [hF]
  rcases h with h | h
  ·exact fun y hy => .inl (iha x h y hy)
  ·exact fun y hy => .inr (ihb x h y hy)
 | _ => intro x h; have h : x = _ := h; subst h; exact Sub.refl _
theorem then_sub {B : St → Out} {o x : Out} (h : Leaf x o) : Sub (thenX B x) (thenX B o) := leaf_map (F := thenX B) (fun _ _ => rfl) o x h
theorem exit_sub {id : Nat} {o x : Out} (h : Leaf x o) : Sub (exitX id x) (exitX id o) := leaf_map (F := exitX id) (fun _ _ => rfl) o x h
theorem LeAV.any (a : AV) : LeAV a .any := fun _ _ _ _ => by simp [Rel]
theorem LeAV.trans {a b c : AV} (h1 : LeAV a b) (h2 : LeAV b c) : LeAV a c := fun G W v h => h2 G W v (h1 G W v h)
def LeS (t u : St) : Prop := (∀ i, LeAV (envT t.τ i) (envT u.τ i)) ∧ HLess (hpT t.H) (hpT u.H) ∧ u.n = t.n ∧ u.ds = t.ds
theorem LeS.trans {a b c : St} (h1 : LeS a b) (h2 : LeS b c) : LeS a c := ⟨fun i => (h1.1 i).trans (h2.1 i), fun i o h => h1.2.1 i o (h2.2.1 i o h), h2.2.2.1.trans h1.2.2.1, h2.2.2.2.trans h1.2.2.2⟩
theorem getP_any : ∀ (p : List Bool) (t : Tr AV), getP p (anyT t) = (getP p t).map fun _ => .any
 | [], .nil => rfl
 | [], .node l v r => by cases v <;> rfl
 | b :: p, .nil => rfl
 | b :: p, .node l v r => by
  cases b
  ·exact getP_any p l
  ·exact getP_any p r
noncomputable def jv (x y : Option AV) : Option AV := joinV x y id
theorem joinV_eq (x y : Option AV) {β : Type} (k : Option AV → β) : joinV x y k = k (jv x y) := by
 cases x with
 | none => cases y <;> rfl
 | some x => cases y with
  | none => rfl
  | some y =>
   show Bool.rec (k (some .any)) (k (some x)) (avEq 100 x y) = k (Bool.rec (some .any) (some x) (avEq 100 x y))
   cases avEq 100 x y <;> rfl
noncomputable def jT (a b : Tr AV) : Tr AV := joinT a b id
theorem joinT_eq : ∀ (a b : Tr AV) {β : Type} (k : Tr AV → β), joinT a b k = k (jT a b)
 | .nil, b, β, k => rfl
 | .node l v r, .nil, β, k => rfl
 | .node l v r, .node l' v' r', β, k => by
  show joinT l l' (fun l => joinT r r' fun r => joinV v v' fun v => k (.node l v r)) = k (joinT l l' fun l => joinT r r' fun r => joinV v v' fun v => id (Tr.node l v r))
  rw [joinT_eq l l', joinT_eq r r', joinV_eq, joinT_eq l l', joinT_eq r r', joinV_eq]
  rfl
theorem jT_node (l r l' r' : Tr AV) (v v' : Option AV) : jT (.node l v r) (.node l' v' r') = .node (jT l l') (jv v v') (jT r r') := by
 show joinT l l' (fun l => joinT r r' fun r => joinV v v' fun v => id (Tr.node l v r)) = _
 rw [joinT_eq l l', joinT_eq r r', joinV_eq]
 rfl
def LeO (x z : Option AV) : Prop := LeAV (x.getD (.tuple [])) (z.getD (.tuple []))
theorem LeO.refl (x : Option AV) : LeO x x := LeAV.refl _
theorem LeO.anyO (y : Option AV) : LeO Option.none (y.map fun _ => .any) ∧ LeO y (y.map fun _ => .any) := by
 cases y with
 | none => exact ⟨LeAV.refl _, LeAV.refl _⟩
 | some y => exact ⟨LeAV.any _, LeAV.any _⟩
theorem jv_le (x y : Option AV) : LeO x (jv x y) ∧ LeO y (jv x y) := by
 cases x with
 | none => cases y with
  | none => exact ⟨LeO.refl _, LeO.refl _⟩
  | some y => exact ⟨LeAV.any _, LeAV.any _⟩
 | some x => cases y with
  | none => exact ⟨LeAV.any _, LeAV.any _⟩
  | some y =>
   have : jv (some x) (some y) = (match avEq 100 x y with | true => some x | false => some .any) := by
    show (joinVal x y fun v => id (some v)) = _
    unfold joinVal
    cases avEq 100 x y <;> rfl
   rw [this]
   cases h : avEq 100 x y with
   | false => exact ⟨LeAV.any _, LeAV.any _⟩
   | true => have := avEq_sound 100 x y h; subst this; exact ⟨LeO.refl _, LeO.refl _⟩
theorem jT_le : ∀ (p : List Bool) (a b : Tr AV), LeO (getP p a) (getP p (jT a b)) ∧ LeO (getP p b) (getP p (jT a b))
 | p, .nil, b => by
  show LeO (getP p .nil) (getP p (anyT b)) ∧ LeO (getP p b) (getP p (anyT b))
  rw [getP_any, getP_nil]
  exact LeO.anyO _
 | p, .node l v r, .nil => by
  show LeO (getP p (.node l v r)) (getP p (anyT (.node l v r))) ∧ LeO (getP p .nil) (getP p (anyT (.node l v r)))
  rw [getP_any, getP_nil]
  exact (LeO.anyO _).symm
 | [], .node l v r, .node l' v' r' => by rw [jT_node]; exact jv_le v v'
 | b :: p, .node l v r, .node l' v' r' => by
  rw [jT_node]
  cases b
  ·exact jT_le p l l'
  ·exact jT_le p r r'
theorem envT_getD (τ : Tr AV) (i : Nat) : envT τ i = (getP (bits i) τ).getD (.tuple []) := by
 show Option.rec (motive := fun _ => AV) _ _ (getP (bits i) τ) = _
 cases getP (bits i) τ <;> rfl
noncomputable def jo (x y : Option XObj) : Option XObj := joinO x y id
theorem joinO_eq (x y : Option XObj) {β : Type} (k : Option XObj → β) : joinO x y k = k (jo x y) := by
 cases x with
 | none => rfl
 | some x => cases y with
  | none => rfl
  | some y =>
   show Bool.rec (k Option.none) (k (some x)) (xoEq x y) = k (Bool.rec Option.none (some x) (xoEq x y))
   cases xoEq x y <;> rfl
noncomputable def jH (a b : Tr XObj) : Tr XObj := joinH a b id
theorem joinH_eq : ∀ (a b : Tr XObj) {β : Type} (k : Tr XObj → β), joinH a b k = k (jH a b)
 | .nil, b, β, k => rfl
 | .node l v r, .nil, β, k => rfl
 | .node l v r, .node l' v' r', β, k => by
  show joinH l l' (fun l => joinH r r' fun r => joinO v v' fun v => k (.node l v r)) = k (joinH l l' fun l => joinH r r' fun r => joinO v v' fun v => id (Tr.node l v r))
  rw [joinH_eq l l', joinH_eq r r', joinO_eq, joinH_eq l l', joinH_eq r r', joinO_eq]
  rfl
theorem jH_node (l r l' r' : Tr XObj) (v v' : Option XObj) : jH (.node l v r) (.node l' v' r') = .node (jH l l') (jo v v') (jH r r') := by
 show joinH l l' (fun l => joinH r r' fun r => joinO v v' fun v => id (Tr.node l v r)) = _
 rw [joinH_eq l l', joinH_eq r r', joinO_eq]
 rfl
theorem esEq_sound : ∀ (l m : List (AV × AV × Nat)), esEq l m = true → l = m
 | [], [], _ => rfl
 | [], b :: m, h => by cases h
 | a :: l, [], h => by cases h
 | a :: l, b :: m, h => by
  simp only [esEq, Bool.and_eq_true, beq_iff] at h
  obtain ⟨a1, a2, a3⟩ := a
  obtain ⟨b1, b2, b3⟩ := b
  obtain ⟨⟨⟨h1, h2⟩, h3⟩, h4⟩ := h
  have h1 : a1 = b1 := avEq_sound _ _ _ h1
  have h2 : a2 = b2 := avEq_sound _ _ _ h2
  have h3 : a3 = b3 := h3
  rw [h1, h2, h3, esEq_sound l m h4]
theorem xoEq_sound (a b : XObj) (h : xoEq a b = true) : a = b := by
 unfold xoEq at h
 split at h
 ·simp only [Bool.and_eq_true, beq_iff] at h
  rw [h.1, leq_sound (avEq_sound 100) _ _ h.2]
 ·rw [beq_iff.1 h]
 ·simp only [Bool.and_eq_true, beq_iff] at h
  rw [h.1, esEq_sound _ _ h.2]
 ·rfl
 ·cases h
theorem jo_some {x y : Option XObj} {z : XObj} (h : jo x y = some z) : x = some z ∧ y = some z := by
 cases x with
 | none => cases h
 | some x => cases y with
  | none => cases h
  | some y =>
   have : jo (some x) (some y) = (match xoEq x y with | true => some x | false => Option.none) := by
    show joinObj x y id = _
    unfold joinObj
    cases xoEq x y <;> rfl
   rw [this] at h
   cases he : xoEq x y with
   | false => rw [he] at h; cases h
   | true =>
    rw [he] at h
    have := xoEq_sound x y he
    subst this
    exact ⟨h, h⟩
theorem jH_some : ∀ (p : List Bool) (a b : Tr XObj) (z : XObj), getP p (jH a b) = some z → getP p a = some z ∧ getP p b = some z
 | p, .nil, b, z, h => by
  have : getP p (Tr.nil : Tr XObj) = some z := h
  rw [getP_nil] at this; cases this
 | p, .node l v r, .nil, z, h => by
  have : getP p (Tr.nil : Tr XObj) = some z := h
  rw [getP_nil] at this; cases this
 | [], .node l v r, .node l' v' r', z, h => by rw [jH_node] at h; exact jo_some h
 | b :: p, .node l v r, .node l' v' r', z, h => by
  rw [jH_node] at h
  cases b
  ·exact jH_some p l l' z h
  ·exact jH_some p r r' z h
theorem hpT_some {H : Tr XObj} {i : Nat} {o : AObj} (h : hpT H i = some o) : ∃ x, getP (bits i) H = some x ∧ o = x.toO := by
 unfold hpT at h
 cases hg : getP (bits i) H with
 | none => rw [hg] at h; cases h
 | some x => rw [hg] at h; simp only [Option.map_some, Option.some.injEq] at h; exact ⟨x, rfl, h.symm⟩
theorem joinS_ok {err : Out} {s t : St} : joinS err s t = err ∨ ∃ u, joinS err s t = .norm u ∧ LeS s u ∧ LeS t u := by
 have hx : joinS err s t = Bool.rec err (joinT s.τ t.τ fun τ => joinH s.H t.H fun H => .norm ⟨τ, H, s.n, []⟩) (Nat.beq s.n t.n && emptyD s.ds && emptyD t.ds) := rfl
 rw [brec, joinT_eq, joinH_eq] at hx
 split at hx
 ·rename_i hc
  simp only [Bool.and_eq_true, beq_iff] at hc
  have em : ∀ {l : List ADef}, emptyD l = true → l = [] := by
   intro l h
   cases l with
   | nil => rfl
   | cons => cases h
  have hp : ∀ {i : Nat} {o : AObj}, hpT (jH s.H t.H) i = some o → hpT s.H i = some o ∧ hpT t.H i = some o := by
   intro i o h
   obtain ⟨x, hx, rfl⟩ := hpT_some h
   obtain ⟨h1, h2⟩ := jH_some _ _ _ _ hx
   exact ⟨by unfold hpT; rw [h1]; rfl, by unfold hpT; rw [h2]; rfl⟩
  refine .inr ⟨_, hx, ⟨fun i => ?_, fun i o h => (hp h).1, rfl, (em hc.1.2).symm⟩, ⟨fun i => ?_, fun i o h => (hp h).2, hc.1.1, (em hc.2).symm⟩⟩
  ·rw [envT_getD, envT_getD]; exact (jT_le (bits i) s.τ t.τ).1
  ·rw [envT_getD, envT_getD]; exact (jT_le (bits i) s.τ t.τ).2
 ·exact .inl hx
theorem normK_cases (o err : Out) (he : Fails err) (k : St → Out) : Fails (normK o err k) ∨ ∃ s, o = .norm s ∧ normK o err k = k s := by
 cases o with
 | norm s => exact .inr ⟨s, rfl, rfl⟩
 | fail f r i => exact .inl (fails_fail _ _ _)
 | _ => exact .inl he
theorem merge_ok {err : Out} (he : Fails err) : ∀ (o x : Out), ¬ Fails (mergeX err o) → Leaf x o → Leaf x (mergeX err o) ∨ ∃ t u, x = .norm t ∧ LeS t u ∧ Leaf (.norm u) (mergeX err o) := by
 intro o
 induction o with
 | alt a b iha ihb =>
  intro x hf h
  have hx : mergeX err (.alt a b) = normK (mergeX err a) err fun s => normK (mergeX err b) err fun t => joinS err s t := rfl
  rcases normK_cases (mergeX err a) err he (fun s => normK (mergeX err b) err fun t => joinS err s t) with h1 | ⟨s, h1, h2⟩
  ·exact absurd (hx ▸ h1) hf
  rcases normK_cases (mergeX err b) err he (fun t => joinS err s t) with h3 | ⟨t, h3, h4⟩
  ·exact absurd (by rw [hx, h2]; exact h3) hf
  rw [h2, h4] at hx
  rcases joinS_ok (err := err) (s := s) (t := t) with h5 | ⟨u, h5, l1, l2⟩
  ·exact absurd (by rw [hx, h5]; exact he) hf
  rw [h5] at hx
  have nf : ∀ {v : St}, ¬ Fails (.norm v) := by
   intro v hv; obtain ⟨_, _, _, hl⟩ := hv; cases hl
  refine .inr ?_
  rw [hx]
  rcases h with h | h
  ·rcases iha x (by rw [h1]; exact nf) h with h6 | ⟨t', u', rfl, l3, h6⟩
   ·rw [h1] at h6
    exact ⟨s, u, h6, l1, rfl⟩
   ·rw [h1] at h6
    have h6 : Out.norm u' = .norm s := h6
    injection h6 with h6
    subst h6
    exact ⟨t', u, rfl, l3.trans l1, rfl⟩
  ·rcases ihb x (by rw [h3]; exact nf) h with h6 | ⟨t', u', rfl, l3, h6⟩
   ·rw [h3] at h6
    exact ⟨t, u, h6, l2, rfl⟩
   ·rw [h3] at h6
    have h6 : Out.norm u' = .norm t := h6
    injection h6 with h6
    subst h6
    exact ⟨t', u, rfl, l3.trans l2, rfl⟩
 | _ => intro x hf h; exact .inl h
def LeA (s u : AS) : Prop := (∀ i, LeAV (s.τ i) (u.τ i)) ∧ HLess s.h u.h ∧ u.n = s.n ∧ u.ds = s.ds ∧ u.rd = s.rd
theorem LeA.refl (s : AS) : LeA s s := ⟨fun i => LeAV.refl _, HLess.refl _, rfl, rfl, rfl⟩
theorem LeS.toA {rd : Option Nat} {t u : St} (h : LeS t u) : LeA (toAS rd t) (toAS rd u) := ⟨h.1, h.2.1, h.2.2.1, h.2.2.2, rfl⟩
theorem Agree.le {P : Program} {nt : Nat} {F : Fence} {G0 G : Gh} {W0 W : World} {s u : AS} {a : Act} (ag : Agree P nt F G0 W0 G W s a) (h : LeA s u) : Agree P nt F G0 W0 G W u a := by
 obtain ⟨h1, h2, h3, h4, h5⟩ := h
 exact ⟨ag.sim.less h2, by rw [h3]; exact ag.num, ag.evo, ⟨ag.tmps.size, fun t => h1 t G W _ (ag.tmps.get t)⟩, by rw [h4]; exact ag.defers, by rw [h5]; exact ag.rd⟩
theorem NSem.post {P : Program} {nt : Nat} {c : Code} {K K' : KS} {s : AS} (hk : ∀ e s, K e s → ∃ u, LeA s u ∧ K' e u) (hc : NSem P nt c K s) : NSem P nt c K' s := by
 refine ⟨fun {F m G0 W0 G W a} hF hok ag => wpIn_mono (hc.run hF hok ag) fun e a' w' hq => ?_⟩
 cases e with
 | normal => obtain ⟨G', s', ag', hq⟩ := hq; obtain ⟨u, hu, hq⟩ := hk _ _ hq; exact ⟨G', u, ag'.le hu, hq⟩
 | exit i => obtain ⟨G', s', ag', hq⟩ := hq; obtain ⟨u, hu, hq⟩ := hk _ _ hq; exact ⟨G', u, ag'.le hu, hq⟩
 | ret => obtain ⟨G', s', ag', hq⟩ := hq; obtain ⟨u, hu, hq⟩ := hk _ _ hq; exact ⟨G', u, ag'.le hu, hq⟩
 | panic ch => obtain ⟨G', s', v, v', ag', h2, h3, hq⟩ := hq; obtain ⟨u, hu, hq⟩ := hk _ _ hq; exact ⟨G', u, v, v', ag'.le hu, h2, h3, hq⟩
 | goto l => exact hq
 | outgrown => exact hq
section
variable {hn : Hints} {call : CallF} {fuel : Nat} {fr : Fr}
def CodeOK (fr : Fr) (c : Code) (A : St → Out) : Prop := ∀ s, Fails (A s) ∨ NSem Tryz.prog fr.nt c (IsX fr.rd (A s)) (toAS fr.rd s)
theorem seq_ok {a b : Code} {A B : St → Out} (ha : CodeOK fr a A) (hb : CodeOK fr b B) : CodeOK fr (.seq a b) (xSeq A B) := by
 intro s
 have hx : xSeq A B s = thenX B (A s) := rfl
 rcases ha s with ⟨f, r, i, h⟩ | h
 ·exact .inl (by rw [hx]; exact (fails_fail f r i).sub (then_sub (B := B) h))
 ·by_cases hf : Fails (xSeq A B s)
  ·exact .inl hf
  refine .inr (NSem.seq (h.mono fun e s' hk => ?_))
  cases e with
  | normal =>
   obtain ⟨t, ht, rfl⟩ := hk
   have hx' : Sub (B t) (xSeq A B s) := by rw [hx]; exact then_sub (B := B) ht
   rcases hb t with h2 | h2
   ·exact absurd (h2.sub hx') hf
   ·exact h2.mono fun e s' hh => hh.sub hx'
  | exit i => obtain ⟨t, ht, rfl⟩ := hk; exact ⟨t, by rw [hx]; exact then_sub (B := B) ht _ rfl, rfl⟩
  | ret => obtain ⟨t, ht, rfl⟩ := hk; exact ⟨t, by rw [hx]; exact then_sub (B := B) ht _ rfl, rfl⟩
  | panic v => obtain ⟨t, ht, rfl⟩ := hk; exact ⟨t, by rw [hx]; exact then_sub (B := B) ht _ rfl, rfl⟩
theorem cond_ok {c : Operand} {a b : Code} {A B : St → Out} (ha : CodeOK fr a A) (hb : CodeOK fr b B) : CodeOK fr (.cond c a b) (xCond fr c A B) := by
 intro s
 have hx : xCond fr c A B s = pickC (aEval (envT s.τ) c) fr A B s := by unfold xCond; rw [ev_eq]
 have key : ∀ v, aEval (envT s.τ) c = v → Fails (pickC v fr A B s) ∨ NSem Tryz.prog fr.nt (.cond c a b) (IsX fr.rd (pickC v fr A B s)) (toAS fr.rd s) := by
  intro v hv
  cases v with
  | bool t =>
   cases t with
   | true =>
    rcases ha s with h | h
    ·exact .inl h
    ·exact .inr (NSem.cond (t := true) hv (fun _ => h) (fun h => by cases h))
   | false =>
    rcases hb s with h | h
    ·exact .inl h
    ·exact .inr (NSem.cond (t := false) hv (fun h => by cases h) (fun _ => h))
  | _ => exact .inl (fails_fail _ _ _)
 rw [hx]
 exact key _ rfl
theorem block_ok {id : Nat} {a : Code} {A : St → Out} (ha : CodeOK fr a A) : CodeOK fr (.block id a) (xBlock fr id A) := by
 intro s
 have hx : xBlock fr id A s = mergeX (.fail fr.f 8831 id) (exitX id (A s)) := rfl
 have he : Fails (.fail fr.f 8831 id) := fails_fail _ _ _
 by_cases hf : Fails (xBlock fr id A s)
 ·exact .inl hf
 have mg : ∀ {x : Out}, Leaf x (exitX id (A s)) → Leaf x (xBlock fr id A s) ∨ ∃ t u, x = .norm t ∧ LeS t u ∧ Leaf (.norm u) (xBlock fr id A s) := by
  intro x h
  rw [hx] at hf ⊢
  exact merge_ok he _ x hf h
 have mgn : ∀ {t : St}, Leaf (.norm t) (exitX id (A s)) → ∃ u, LeA (toAS fr.rd t) u ∧ IsX fr.rd (xBlock fr id A s) .normal u := by
  intro t h
  rcases mg h with h | ⟨t', u, h1, h2, h3⟩
  ·exact ⟨_, LeA.refl _, t, h, rfl⟩
  ·injection h1 with h1
   subst h1
   exact ⟨_, h2.toA, u, h3, rfl⟩
 rcases ha s with ⟨f, r, i, h⟩ | h
 ·refine .inl ?_
  rcases mg (exit_sub (id := id) h _ rfl) with h | ⟨_, _, h1, _⟩
  ·exact ⟨f, r, i, h⟩
  ·cases h1
 ·refine .inr (NSem.block (NSem.post (fun e s' hk => ?_) h))
  cases e with
  | normal => obtain ⟨t, ht, rfl⟩ := hk; exact mgn (exit_sub (id := id) ht _ rfl)
  | exit i =>
   obtain ⟨t, ht, rfl⟩ := hk
   have hs := exit_sub (id := id) ht
   have hs' : exitX id (.exit i t) = Bool.rec (.exit i t) (.norm t) (Nat.beq i id) := rfl
   rw [hs'] at hs
   simp only [blockKN]
   cases hb : Nat.beq i id with
   | true => rw [hb] at hs; exact mgn (hs _ rfl)
   | false =>
    rw [hb] at hs
    rcases mg (hs _ rfl) with h | ⟨_, _, h1, _⟩
    ·exact ⟨_, LeA.refl _, t, h, rfl⟩
    ·cases h1
  | ret =>
   obtain ⟨t, ht, rfl⟩ := hk
   rcases mg (exit_sub (id := id) ht _ rfl) with h | ⟨_, _, h1, _⟩
   ·exact ⟨_, LeA.refl _, t, h, rfl⟩
   ·cases h1
  | panic v =>
   obtain ⟨t, ht, rfl⟩ := hk
   rcases mg (exit_sub (id := id) ht _ rfl) with h | ⟨_, _, h1, _⟩
   ·exact ⟨_, LeA.refl _, t, h, rfl⟩
   ·cases h1
theorem loop_ok {a : Code} {A : St → Out} (ha : CodeOK fr a A) : CodeOK fr (.loop a) (xLoop fuel fr A) := by
 intro s
 by_cases hf : Fails (xLoop fuel fr A s)
 ·exact .inl hf
 refine .inr ?_
 generalize ho : xLoop fuel fr A s = out at hf ⊢
 refine NSem.loop (fun k s' => ∃ t, s' = toAS fr.rd t ∧ Sub (xLoop k fr A t) out) fuel ⟨s, rfl, Sub.of_eq ho.symm⟩ fun k s' hI => ?_
 obtain ⟨t, rfl, ht⟩ := hI
 cases k with
 | zero => exact absurd ((fails_fail _ _ _).sub ht) hf
 | succ k =>
  have hx : Sub (thenX (xLoop k fr A) (A t)) out := ht
  rcases ha t with ⟨f, r, i, h⟩ | h
  ·exact absurd (((fails_fail f r i).sub (then_sub (B := xLoop k fr A) h)).sub hx) hf
  ·refine h.mono fun e s2 hk => ?_
   cases e with
   | normal => obtain ⟨t', ht', rfl⟩ := hk; exact ⟨k, Nat.lt_succ_self k, t', rfl, (then_sub (B := xLoop k fr A) ht').trans hx⟩
   | exit i => obtain ⟨t', ht', rfl⟩ := hk; exact ⟨t', hx _ (then_sub (B := xLoop k fr A) ht' _ rfl), rfl⟩
   | ret => obtain ⟨t', ht', rfl⟩ := hk; exact ⟨t', hx _ (then_sub (B := xLoop k fr A) ht' _ rfl), rfl⟩
   | panic v => obtain ⟨t', ht', rfl⟩ := hk; exact ⟨t', hx _ (then_sub (B := xLoop k fr A) ht' _ rfl), rfl⟩
theorem range_ok (hcall : CallOK call) {g : Operand} {ps : Array Tmp} {asg bd : Code} : CodeOK fr (.rangeFunc g ps asg bd) (xRange call fr g ps asg bd) := by
 intro s
 obtain ⟨τ, H, n, ds⟩ := s
 obtain ⟨f, nt, rd⟩ := fr
 by_cases hf : Fails (xRange call ⟨f, nt, rd⟩ g ps asg bd ⟨τ, H, n, ds⟩)
 ·exact .inl hf
 refine .inr ?_
 cases rd with
 | some l => exact absurd (fails_fail _ _ _) hf
 | none =>
  have hx : xRange call ⟨f, nt, Option.none⟩ g ps asg bd ⟨τ, H, n, ds⟩ = funcA (ev g τ) (.fail f 8805 0) fun v => setK (some (.o .defs)) (bits n) H fun H1 => fNat (Nat.succ n) fun n1 =>
   setK (some (.loop .ready Option.none nt τ ps.toList asg bd n f)) (bits n1) H1 fun H2 => fNat (Nat.succ n1) fun n2 =>
   rfEnd (.fail f 8806 0) τ ds n (call v [.yield n1] H2 n2) := rfl
  generalize xRange call ⟨f, nt, Option.none⟩ g ps asg bd ⟨τ, H, n, ds⟩ = out at hx hf ⊢
  simp only [setK_eq, fNat_eq] at hx
  rw [ev_eq] at hx
  rcases funcA_cases (aEval (envT τ) g) (.fail f 8805 0) (fun v => rfEnd (.fail f 8806 0) τ ds n (call v [.yield (n + 1)] (setP (some (.loop .ready Option.none nt τ ps.toList asg bd n f)) (bits (n + 1)) (setP (some (.o .defs)) (bits n) H)) (n + 1 + 1))) with h | ⟨g', a, b, hv, h⟩
  ·exact absurd (by rw [hx, h]; exact fails_fail _ _ _) hf
  ·rw [h] at hx
   have hk := hcall (aEval (envT τ) g) [.yield (n + 1)] (setP (some (.loop .ready Option.none nt τ ps.toList asg bd n f)) (bits (n + 1)) (setP (some (.o .defs)) (bits n) H)) (n + 1 + 1)
   generalize call (aEval (envT τ) g) [.yield (n + 1)] (setP (some (.loop .ready Option.none nt τ ps.toList asg bd n f)) (bits (n + 1)) (setP (some (.o .defs)) (bits n) H)) (n + 1 + 1) = co at hk hx
   rcases hk with hk | hk
   ·refine absurd ?_ hf
    rw [hx]
    cases co with
    | val v H n => obtain ⟨_, _, _, h⟩ := hk; cases h
    | thr v H n => obtain ⟨_, _, _, h⟩ := hk; cases h
    | _ => exact fails_fail _ _ _
   ·rw [hv] at hk
    have hk : NCalls Tryz.prog g' (a ++ [.yield (n + 1)] ++ b) (hpT (setP (some (.loop .ready Option.none nt τ ps.toList asg bd n f)) (bits (n + 1)) (setP (some (.o .defs)) (bits n) H))) (n + 1 + 1) (IsV co) := hk
    rw [hpT_set, hpT_set] at hk
    refine NSem.rangeFunc (s := toAS Option.none ⟨τ, H, n, ds⟩) rfl hv (hk.mono fun ao h' n' hq => ?_)
    cases ao with
    | ret v =>
     obtain ⟨H', rfl, rfl⟩ := hq
     have hx : out = loopAt (getP (bits (Nat.succ n)) H') (.fail f 8806 0) fun st pend _ _ _ _ _ _ _ => Bool.rec (.fail f 8806 0) (setK Option.none (bits (Nat.succ n)) H' fun H => jumpX pend (.fail f 8806 0) ⟨τ, H, n', .coll n :: ds⟩) (stFree st) := hx
     rcases loopAt_some (getP (bits (Nat.succ n)) H') (.fail f 8806 0) (fun st pend _ _ _ _ _ _ _ => Bool.rec (.fail f 8806 0) (setK Option.none (bits (Nat.succ n)) H' fun H => jumpX pend (.fail f 8806 0) ⟨τ, H, n', .coll n :: ds⟩) (stFree st)) with h1 | ⟨st, pend, nt', env, ps', asg', bd', d, f', h1, h2⟩
     ·exact absurd (by rw [hx, h1]; exact fails_fail _ _ _) hf
     ·rw [h2, setK_eq, brec] at hx
      split at hx
      ·rename_i hst
       refine ⟨st, pend, nt', envT env, ps', asg', bd', d, hpT_loop h1, ?_, ?_⟩
       ·intro e; subst e; cases hst
       ·have e1 : toAS Option.none ⟨τ, setP Option.none (bits (Nat.succ n)) H', n', .coll n :: ds⟩ = { toAS Option.none ⟨τ, H, n, ds⟩ with h := upd (hpT H') (n + 1) Option.none, n := n', ds := .coll n :: ds } := by simp only [toAS, hpT_kill]
        cases pend with
        | none => exact ⟨⟨τ, setP Option.none (bits (Nat.succ n)) H', n', .coll n :: ds⟩, by rw [hx]; rfl, e1.symm⟩
        | some c =>
         cases c with
         | ret => exact ⟨rfl, NSem.ret ⟨⟨τ, setP Option.none (bits (Nat.succ n)) H', n', .coll n :: ds⟩, by rw [hx]; rfl, e1.symm⟩⟩
         | exit i => exact ⟨rfl, NSem.exit ⟨⟨τ, setP Option.none (bits (Nat.succ n)) H', n', .coll n :: ds⟩, by rw [hx]; rfl, e1.symm⟩⟩
         | _ => exact absurd (by rw [hx]; exact fails_fail _ _ _) hf
      ·exact absurd (by rw [hx]; exact fails_fail _ _ _) hf
    | panic v =>
     obtain ⟨H', rfl, rfl⟩ := hq
     exact ⟨⟨τ, H', n', .coll n :: ds⟩, by rw [hx]; rfl, rfl⟩
theorem exC_ok (hcall : CallOK call) : ∀ c : Code, chkC hn fr.f c = true → CodeOK fr c (exC hn fuel call fr c) := by
 intro c
 induction c with
 | skip => intro _ s; exact .inr (NSem.skip ⟨s, rfl, rfl⟩)
 | region id ops draw =>
  cases draw with
  | false =>
   intro _ s
   by_cases hf : Fails (seqX call (hn.own fr.f id) fr id ops (compL ops.toList ops.toList) s)
   ·exact .inl hf
   ·exact .inr (NSem.region (seqX_ok hcall (hn.own fr.f id) fr id ops ops.toList s _ hf fun _ _ h => h))
  | true => exact fun hc s => drawX_ok hcall fr id ops hc s
 | seq a b iha ihb => intro hc; simp only [chkC, Bool.and_eq_true] at hc; exact seq_ok (iha hc.1) (ihb hc.2)
 | cond c a b iha ihb => intro hc; simp only [chkC, Bool.and_eq_true] at hc; exact cond_ok (iha hc.1) (ihb hc.2)
 | block id a ih => intro hc; exact block_ok (ih hc)
 | loop a ih => intro hc; exact loop_ok (ih hc)
 | rangeFunc g ps asg bd _ _ => intro _; exact range_ok hcall
 | exit id => intro _ s; exact .inr (NSem.exit ⟨s, rfl, rfl⟩)
 | scope a _ => intro _ s; exact .inl (fails_fail _ _ _)
 | label l => intro _ s; exact .inr (NSem.label ⟨s, rfl, rfl⟩)
 | goto l => intro _ s; exact .inl (fails_fail _ _ _)
 | ret => intro _ s; exact .inr (NSem.ret ⟨s, rfl, rfl⟩)
 | refuse w => intro _ s; exact .inl (fails_fail _ _ _)
end
def ChkAll (hn : Hints) : Prop := ∀ g fn c, fnAt g = some (fn, c) → chkC hn g c = true
theorem flat_leaf {o x : Out} (h : Leaf x o) (hn : ∀ a b, o ≠ .alt a b) : o = x := by
 cases o with
 | alt a b => exact absurd rfl (hn a b)
 | _ => exact Eq.symm h
def ExOK (hn : Hints) (ex : Fr → Code → St → Out) : Prop := ∀ fr c, chkC hn fr.f c = true → CodeOK fr c (ex fr c)
noncomputable def enterT : List AV → Nat → Tr AV → Tr AV
 | [], _, τ => τ
 | a :: l, i, τ => enterT l (i + 1) (setP (some a) (bits i) τ)
theorem enterK_eq : ∀ (l : List AV) (i : Nat) (τ : Tr AV) (k : Tr AV → Out), enterK l i τ k = k (enterT l i τ)
 | [], i, τ, k => rfl
 | a :: l, i, τ, k => by
  show (fV a fun a => setK (some a) (bits i) τ fun τ => enterK l (Nat.succ i) τ k) = _
  rw [fV_eq, setK_eq, enterK_eq l]
  rfl
theorem envT_enter : ∀ (l : List AV) (i : Nat) (τ : Tr AV) (t : Nat), envT (enterT l i τ) t = if t < i then envT τ t else (l[t - i]?).getD (envT τ t)
 | [], i, τ, t => by simp [enterT]
 | a :: l, i, τ, t => by
  rw [enterT, envT_enter l, envT_set]
  simp only [eupd]
  by_cases h1 : t < i
  ·have h2 : (t == i) = false := by simpa using (by omega : t ≠ i)
   rw [if_pos (by omega), if_pos h1, h2]; rfl
  ·rw [if_neg h1]
   by_cases h3 : t = i
   ·subst h3
    rw [if_pos (by omega)]
    simp
   ·have h2 : (t == i) = false := by simpa using h3
    rw [if_neg (by omega), h2]
    rw [show t - i = (t - (i + 1)) + 1 by omega, List.getElem?_cons_succ]; rfl
theorem envT_args (l : List AV) : envT (enterT l 0 .nil) = argEnv l := by
 funext t
 rw [envT_enter]
 have : envT (Tr.nil : Tr AV) t = .tuple [] := by
  show Option.rec (motive := fun _ => AV) _ _ (getP (bits t) Tr.nil) = _
  rw [getP_nil]
 rw [this, if_neg (by omega), Nat.sub_zero, argEnv, List.getD_eq_getElem?_getD]
noncomputable def zipT : List Nat → List AV → Tr AV → Tr AV
 | p :: ps, a :: l, τ => zipT ps l (setP (some a) (bits p) τ)
 | _, _, τ => τ
theorem zipK_eq : ∀ (ps : List Nat) (l : List AV) (τ : Tr AV) (k : Tr AV → Out), zipK ps l τ k = k (zipT ps l τ)
 | [], l, τ, k => by cases l <;> rfl
 | p :: ps, [], τ, k => rfl
 | p :: ps, a :: l, τ, k => by
  show (fV a fun a => setK (some a) (bits p) τ fun τ => zipK ps l τ k) = _
  rw [fV_eq, setK_eq, zipK_eq ps l]
  rfl
theorem envT_zip : ∀ (ps : List Nat) (l : List AV) (τ : Tr AV), envT (zipT ps l τ) = zipPut (envT τ) ps l
 | [], l, τ => by cases l <;> rfl
 | p :: ps, [], τ => rfl
 | p :: ps, a :: l, τ => by rw [zipT, envT_zip ps l, envT_set]; rfl
theorem res1_eq (τ : Tr AV) (H : Tr XObj) (r : ResultVar) (err : Out) (k : AV → Out) : res1 τ H r err k = match aRes1 Tryz.prog (envT τ) (hpT H) r with | some v => k v | Option.none => err := by
 cases r with
 | tmp t => exact fV_eq _ _
 | cell a t =>
  show loadA t (evT a τ) err H (fun v => fV v k) = _
  rw [loadA_eq]
  simp only [fV_eq]
  rfl
theorem resX_eq (err : Out) (τ : Tr AV) (H : Tr XObj) : ∀ (rs : List ResultVar) (k : List AV → Out), resX err τ H rs k = match aResL Tryz.prog (envT τ) (hpT H) rs with | some vs => k vs | Option.none => err
 | [], k => rfl
 | r :: rs, k => by
  show res1 τ H r err (fun v => resX err τ H rs fun vs => k (v :: vs)) = _
  rw [res1_eq]
  simp only [aResL]
  cases aRes1 Tryz.prog (envT τ) (hpT H) r with
  | none => rfl
  | some v =>
   simp only
   rw [resX_eq err τ H rs]
   cases aResL Tryz.prog (envT τ) (hpT H) rs <;> rfl
theorem packK_eq (l : List AV) (k : AV → Out) : packK l k = k (aPack l) := by
 cases l with
 | nil => rfl
 | cons a l => cases l <;> rfl
theorem fnAt_some {g : Nat} {fn : Func} {c : Code} (h : fnAt g = some (fn, c)) : Tryz.prog.funcs[g]? = some fn ∧ fn.body = some c ∧ okCode fn.ntmps c = true ∧ enters Tryz.prog g := by
 unfold fnAt at h
 split at h
 ·rename_i fn' hf
  split at h
  ·rename_i c' hb
   cases hc : (okCode fn'.ntmps c' && !(fn'.name == "runtime.NumGoroutine")) with
   | false => rw [hc] at h; cases h
   | true =>
    rw [hc] at h
    simp only [cond_true, Option.some.injEq, Prod.mk.injEq] at h
    obtain ⟨rfl, rfl⟩ := h
    simp only [Bool.and_eq_true, Bool.not_eq_eq_eq_not, Bool.not_true] at hc
    have hf' : Tryz.prog.funcs[g]? = some fn' := by simpa using hf
    exact ⟨hf', hb, hc.1, enters_of hf' hc.2 (by rw [hb]; rfl)⟩
  ·cases h
 ·cases h
theorem defCode_some {c : Code} {o : Oper} {rest : Code} (h : defCode c = some (o, rest)) : ∃ id, c = .seq (.region id #[o] false) rest ∧ isRecoverOp o = true := by
 unfold defCode at h
 split at h
 ·rename_i id ops rest'
  split at h
  ·rename_i o' ho
   cases hr : isRecoverOp o' with
   | false => rw [hr] at h; cases h
   | true =>
    rw [hr] at h
    simp only [cond_true, Option.some.injEq, Prod.mk.injEq] at h
    obtain ⟨rfl, rfl⟩ := h
    have : ops = #[o'] := by rw [← Array.toList_inj]; simpa using ho
    subst this
    exact ⟨id, rfl, hr⟩
  ·cases h
 ·cases h
section
variable {hn : Hints} {ex : Fr → Code → St → Out} (hall : ChkAll hn) (hex : ExOK hn ex)
include hall hex
theorem runDef_ok {err : Out} (he : Fails err) (g : Nat) (args : List AV) (H : Tr XObj) (n : Nat) (pv : Option AV) (k : Tr XObj → Nat → Out) :
  Fails (runDef ex err g args H n pv k) ∨ (enters Tryz.prog g ∧ NDef Tryz.prog g args (hpT H) n pv fun h' n' => ∃ H', h' = hpT H' ∧ runDef ex err g args H n pv k = k H' n') := by
 have hx : runDef ex err g args H n pv k = Option.rec (motive := fun _ => Out) err (fun q => Option.rec (motive := fun _ => Out) err (fun oc => Bool.rec err
  (enterK args 0 .nil fun τ => rPut oc.1.dst (pv.getD .nilI) τ fun τ => defEnd err q.1.results.toList k (ex ⟨g, q.1.ntmps, Option.none⟩ oc.2 ⟨τ, H, n, []⟩))
  (Nat.ble (lenN args) q.1.ntmps)) (defCode q.2)) (fnAt g) := rfl
 generalize runDef ex err g args H n pv k = out at hx ⊢
 rw [orec] at hx
 cases hfn : fnAt g with
 | none => rw [hfn] at hx; exact .inl (hx ▸ he)
 | some q =>
  obtain ⟨fn, c⟩ := q
  obtain ⟨hf, hb, hok, hent⟩ := fnAt_some hfn
  have hchk := hall _ _ _ hfn
  rw [hfn] at hx
  simp only at hx
  rw [orec] at hx
  cases hdc : defCode c with
  | none => rw [hdc] at hx; exact .inl (hx ▸ he)
  | some oc =>
   obtain ⟨o, rest⟩ := oc
   obtain ⟨id, rfl, hro⟩ := defCode_some hdc
   rw [hdc] at hx
   simp only at hx
   rw [brec] at hx
   split at hx
   ·rename_i hlen
    rw [ble_iff, lenN_eq] at hlen
    rw [enterK_eq, rPut_eq] at hx
    by_cases hf2 : Fails out
    ·exact .inl hf2
    refine .inr ⟨hent, NDef.of_sem hf hb hro hok hlen ?_⟩
    have hna : ∀ a b, ex ⟨g, fn.ntmps, Option.none⟩ rest ⟨putT o.dst (pv.getD .nilI) (enterT args 0 .nil), H, n, []⟩ ≠ .alt a b := fun a b h => hf2 (by rw [hx, h]; exact he)
    rcases hex ⟨g, fn.ntmps, Option.none⟩ rest (by simp only [chkC, Bool.and_eq_true] at hchk; exact hchk.2) ⟨putT o.dst (pv.getD .nilI) (enterT args 0 .nil), H, n, []⟩ with h | h
    ·obtain ⟨x, y, z, h⟩ := h
     have h := flat_leaf h hna
     exact absurd (by rw [hx, h]; exact fails_fail _ _ _) hf2
    ·have e1 : toAS Option.none ⟨putT o.dst (pv.getD .nilI) (enterT args 0 .nil), H, n, []⟩ = ⟨aPut (argEnv args) o.dst (pv.getD .nilI), hpT H, n, [], Option.none⟩ := by simp only [toAS, envT_put, envT_args]
     have h := h
     rw [e1] at h
     refine h.mono fun e s' hk => ?_
     have fin : ∀ t : St, out = List.rec (motive := fun _ => Out) (resX err t.τ t.H fn.results.toList fun _ => k t.H t.n) (fun _ _ _ => err) t.ds →
       t.ds = [] ∧ (∃ vs, aResL Tryz.prog (envT t.τ) (hpT t.H) fn.results.toList = some vs) ∧ ∃ H', hpT t.H = hpT H' ∧ out = k H' t.n := by
      intro t ht
      obtain ⟨τ', H', n', ds'⟩ := t
      cases ds' with
      | cons d ds' => exact absurd (by rw [ht]; exact he) hf2
      | nil =>
       have ht : out = resX err τ' H' fn.results.toList fun _ => k H' n' := ht
       rw [resX_eq] at ht
       cases hr : aResL Tryz.prog (envT τ') (hpT H') fn.results.toList with
       | none => rw [hr] at ht; exact absurd (by rw [ht]; exact he) hf2
       | some vs => rw [hr] at ht; exact ⟨rfl, ⟨vs, rfl⟩, H', rfl, ht⟩
     cases e with
     | normal => obtain ⟨t, ht, rfl⟩ := hk; have ht := flat_leaf ht hna; exact fin t (by rw [hx, ht]; rfl)
     | ret => obtain ⟨t, ht, rfl⟩ := hk; have ht := flat_leaf ht hna; exact fin t (by rw [hx, ht]; rfl)
     | exit i => obtain ⟨t, ht, rfl⟩ := hk; have ht := flat_leaf ht hna; exact absurd (by rw [hx, ht]; exact he) hf2
     | panic v => obtain ⟨t, ht, rfl⟩ := hk; have ht := flat_leaf ht hna; exact absurd (by rw [hx, ht]; exact he) hf2
   ·exact .inl (hx ▸ he)
theorem leaveX_ok {err : Out} (he : Fails err) (fn : Func) (τ : Tr AV) : ∀ (ds : List ADef) (pv : Option AV) (H : Tr XObj) (n : Nat) (ds0 : List ADef),
  Fails (leaveX ex err fn.results.toList τ ds pv H n) ∨ leaveN Tryz.prog fn (IsV (leaveX ex err fn.results.toList τ ds pv H n)) ds pv ⟨envT τ, hpT H, n, ds0, Option.none⟩ := by
 intro ds
 induction ds with
 | nil =>
  intro pv H n ds0
  cases pv with
  | none =>
   have hx : leaveX ex err fn.results.toList τ [] Option.none H n = resX err τ H fn.results.toList fun vs => packK vs fun v => .val v H n := rfl
   rw [hx, resX_eq]
   cases hr : aResL Tryz.prog (envT τ) (hpT H) fn.results.toList with
   | none => exact .inl he
   | some vs =>
    refine .inr ⟨vs, hr, EndV.of ?_⟩
    simp only [packK_eq]
    exact ⟨H, rfl, rfl⟩
  | some v => exact .inr (EndV.of ⟨H, rfl, rfl⟩)
 | cons d ds ih =>
  intro pv H n ds0
  cases d with
  | coll k =>
   have hx : leaveX ex err fn.results.toList τ (.coll k :: ds) pv H n = Bool.rec err (setK Option.none (bits k) H fun H => leaveX ex err fn.results.toList τ ds pv H n) (isDefs (getP (bits k) H)) := rfl
   rw [hx, brec, setK_eq]
   split
   ·rename_i hd
    rcases ih pv (setP Option.none (bits k) H) n ds0 with h | h
    ·exact .inl h
    ·refine .inr ⟨?_, ?_⟩
     ·unfold isDefs at hd
      split at hd
      ·rename_i hg; show hpT H k = _; unfold hpT; rw [hg]; rfl
      ·cases hd
     ·rw [hpT_kill] at h; exact h
   ·exact .inl he
  | fn f args =>
   have hx : leaveX ex err fn.results.toList τ (.fn f args :: ds) pv H n = defF f err fun g a b => runDef ex err g (a ++ args ++ b) H n pv fun H n => leaveX ex err fn.results.toList τ ds Option.none H n := rfl
   rw [hx]
   cases f with
   | func fv a b =>
    cases fv with
    | func g =>
     show Fails (runDef ex err g (a ++ args ++ b) H n pv fun H n => leaveX ex err fn.results.toList τ ds Option.none H n) ∨ leaveN Tryz.prog fn (IsV (runDef ex err g (a ++ args ++ b) H n pv fun H n => leaveX ex err fn.results.toList τ ds Option.none H n)) _ pv _
     rcases runDef_ok hall hex he g (a ++ args ++ b) H n pv (fun H n => leaveX ex err fn.results.toList τ ds Option.none H n) with h | ⟨h1, h2⟩
     ·exact .inl h
     ·by_cases hf : Fails (runDef ex err g (a ++ args ++ b) H n pv fun H n => leaveX ex err fn.results.toList τ ds Option.none H n)
      ·exact .inl hf
      refine .inr ⟨g, a, b, rfl, h1, ?_⟩
      intro F m G W vargs u hF hr sim hn rl rm
      refine (h2 F m G W vargs u hF hr sim hn rl rm).mono fun e u' W' hq => ?_
      obtain ⟨rv, h', G', e1, ⟨H', rfl, hk⟩, rest⟩ := hq
      refine ⟨rv, _, G', e1, ?_, rest⟩
      rcases ih Option.none H' G'.n ds0 with h3 | h3
      ·exact absurd (hk ▸ h3) hf
      ·rw [hk]; exact h3
    | _ => exact .inl he
   | _ => exact .inl he
theorem callG_ok (g : Nat) (args : List AV) (H : Tr XObj) (n : Nat) : Fails (callG ex g args H n) ∨ NCalls Tryz.prog g args (hpT H) n (IsV (callG ex g args H n)) := by
 have hx : callG ex g args H n = Option.rec (motive := fun _ => Out) (.fail g 8811 0) (fun q => Bool.rec (.fail g 8812 0)
  (enterK args 0 .nil fun τ => bodyEnd ex (.fail g 8813 0) q.1.results.toList (ex ⟨g, q.1.ntmps, Option.none⟩ q.2 ⟨τ, H, n, []⟩))
  (Nat.ble (lenN args) q.1.ntmps)) (fnAt g) := rfl
 generalize callG ex g args H n = out at hx ⊢
 rw [orec] at hx
 cases hfn : fnAt g with
 | none => rw [hfn] at hx; exact .inl (hx ▸ fails_fail _ _ _)
 | some q =>
  obtain ⟨fn, c⟩ := q
  obtain ⟨hf, hb, hok, hent⟩ := fnAt_some hfn
  have hchk := hall _ _ _ hfn
  rw [hfn] at hx
  simp only at hx
  rw [brec] at hx
  split at hx
  ·rename_i hlen
   rw [ble_iff, lenN_eq] at hlen
   rw [enterK_eq] at hx
   by_cases hf2 : Fails out
   ·exact .inl hf2
   have he : Fails (.fail g 8813 0) := fails_fail _ _ _
   refine .inr (NCalls.of_semM hf hb hok hlen hent ?_)
   have hna : ∀ a b, ex ⟨g, fn.ntmps, Option.none⟩ c ⟨enterT args 0 .nil, H, n, []⟩ ≠ .alt a b := fun a b h => hf2 (by rw [hx, h]; exact he)
   rcases hex ⟨g, fn.ntmps, Option.none⟩ c hchk ⟨enterT args 0 .nil, H, n, []⟩ with h | h
   ·obtain ⟨x, y, z, h⟩ := h
    have h := flat_leaf h hna
    exact absurd (by rw [hx, h]; exact fails_fail _ _ _) hf2
   ·have e1 : toAS Option.none ⟨enterT args 0 .nil, H, n, []⟩ = ⟨argEnv args, hpT H, n, [], Option.none⟩ := by simp only [toAS, envT_args]
    have h := h
    rw [e1] at h
    refine h.mono fun e s' hk => ?_
    have fin : ∀ (t : St) (pv : Option AV), out = leaveX ex (.fail g 8813 0) fn.results.toList t.τ t.ds pv t.H t.n → leaveN Tryz.prog fn (IsV out) t.ds pv (toAS Option.none t) := by
     intro t pv ht
     rcases leaveX_ok hall hex he fn t.τ t.ds pv t.H t.n t.ds with h3 | h3
     ·exact absurd (ht ▸ h3) hf2
     ·rw [ht]; exact h3
    cases e with
    | normal => obtain ⟨t, ht, rfl⟩ := hk; have ht := flat_leaf ht hna; exact fin t Option.none (by rw [hx, ht]; rfl)
    | ret => obtain ⟨t, ht, rfl⟩ := hk; have ht := flat_leaf ht hna; exact fin t Option.none (by rw [hx, ht]; rfl)
    | exit i => obtain ⟨t, ht, rfl⟩ := hk; have ht := flat_leaf ht hna; exact absurd (by rw [hx, ht]; exact he) hf2
    | panic v => obtain ⟨t, ht, rfl⟩ := hk; have ht := flat_leaf ht hna; exact fin t (some v) (by rw [hx, ht]; rfl)
  ·exact .inl (hx ▸ fails_fail _ _ _)
omit hall hex in
theorem setLoop_eq (l : Nat) (st st' : LoopState) (hst : st = .ready ∨ st = .busy) (pend' : Option Code) (err : Out) (H : Tr XObj) (k : Tr XObj → Out) :
  setLoop l st st' pend' err H k = err ∨ ∃ nt env ps asg bd d H', hpT H l = some (.loop st Option.none nt env ps asg bd d) ∧ hpT H' = upd (hpT H) l (some (.loop st' pend' nt env ps asg bd d)) ∧ setLoop l st st' pend' err H k = k H' := by
 unfold setLoop
 rcases loopAt_some (getP (bits l) H) err (fun st0 pend nt env ps asg bd d f => Option.rec (motive := fun _ => Out)
  (Bool.rec err (setK (some (.loop st' pend' nt env ps asg bd d f)) (bits l) H k) (sameSt st st0)) (fun _ => err) pend) with h | ⟨st0, pend, nt, env, ps, asg, bd, d, f, h1, h2⟩
 ·exact .inl h
 ·rw [h2]
  cases pend with
  | some c => exact .inl rfl
  | none =>
   simp only [setK_eq]
   by_cases e : st0 = st
   ·subst e
    refine .inr ⟨nt, envT env, ps, asg, bd, d, _, hpT_loop h1, hpT_set H l (.loop st' pend' nt env ps asg bd d f), ?_⟩
    rcases hst with rfl | rfl <;> rfl
   ·refine .inl ?_
    rcases hst with rfl | rfl <;> cases st0 <;> first | rfl | exact absurd rfl e
omit hall in
theorem roundX_ok (l : Nat) (args : List AV) (H : Tr XObj) (n : Nat) : Fails (roundX hn ex l args H n) ∨ NRound Tryz.prog l args (hpT H) n (IsV (roundX hn ex l args H n)) := by
 by_cases hf : Fails (roundX hn ex l args H n)
 ·exact .inl hf
 refine .inr ?_
 have hx : roundX hn ex l args H n = loopAt (getP (bits l) H) (.fail l 8814 0) fun st pend nt env ps asg bd d f => Option.rec (motive := fun _ => Out)
  (match st with
  | .ready => Bool.rec (.fail f 8815 0) (zipK ps args env fun τ => Out.rec (motive := fun _ => Out) .fail
    (fun s => setLoop l .ready .busy Option.none (.fail f 8816 0) s.H fun H => roundEnd l (.fail f 8817 0) (ex ⟨f, nt, some l⟩ bd ⟨s.τ, H, s.n, s.ds⟩))
    (fun _ _ => .fail f 8818 0) (fun _ => .fail f 8818 1) (fun _ _ => .fail f 8818 2) (fun _ _ _ => .fail f 8818 3) (fun _ _ _ => .fail f 8818 4) (fun _ _ _ _ => .fail f 8818 5)
    (ex ⟨f, nt, some l⟩ asg ⟨τ, H, n, []⟩)) (Nat.beq (lenN args) (lenN ps) && (chkC hn f asg && chkC hn f bd))
  | _ => .fail f 8819 0) (fun _ => .fail f 8820 0) pend := rfl
 generalize roundX hn ex l args H n = out at hx hf ⊢
 rcases loopAt_some (getP (bits l) H) (.fail l 8814 0) (fun st pend nt env ps asg bd d f => Option.rec (motive := fun _ => Out)
  (match st with
  | .ready => Bool.rec (.fail f 8815 0) (zipK ps args env fun τ => Out.rec (motive := fun _ => Out) .fail
    (fun s => setLoop l .ready .busy Option.none (.fail f 8816 0) s.H fun H => roundEnd l (.fail f 8817 0) (ex ⟨f, nt, some l⟩ bd ⟨s.τ, H, s.n, s.ds⟩))
    (fun _ _ => .fail f 8818 0) (fun _ => .fail f 8818 1) (fun _ _ => .fail f 8818 2) (fun _ _ _ => .fail f 8818 3) (fun _ _ _ => .fail f 8818 4) (fun _ _ _ _ => .fail f 8818 5)
    (ex ⟨f, nt, some l⟩ asg ⟨τ, H, n, []⟩)) (Nat.beq (lenN args) (lenN ps) && (chkC hn f asg && chkC hn f bd))
  | _ => .fail f 8819 0) (fun _ => .fail f 8820 0) pend) with h | ⟨st, pend, nt, env, ps, asg, bd, d, f, h1, h2⟩
 ·exact absurd (by rw [hx, h]; exact fails_fail _ _ _) hf
 rw [h2] at hx
 cases pend with
 | some c => exact absurd (by rw [hx]; exact fails_fail _ _ _) hf
 | none =>
  cases st with
  | ready =>
   simp only at hx
   rw [brec] at hx
   split at hx
   ·rename_i hlen
    simp only [Bool.and_eq_true, beq_iff, lenN_eq] at hlen
    obtain ⟨hlen, hca, hcb⟩ := hlen
    rw [zipK_eq] at hx
    refine NRound.of_sem (hpT_loop h1) hlen ?_
    have hna : ∀ a b, ex ⟨f, nt, some l⟩ asg ⟨zipT ps args env, H, n, []⟩ ≠ .alt a b := fun a b h => hf (by rw [hx, h]; exact fails_fail _ _ _)
    rcases hex ⟨f, nt, some l⟩ asg hca ⟨zipT ps args env, H, n, []⟩ with h | h
    ·obtain ⟨x, y, z, h⟩ := h
     have h := flat_leaf h hna
     exact absurd (by rw [hx, h]; exact fails_fail _ _ _) hf
    ·have e1 : toAS (some l) ⟨zipT ps args env, H, n, []⟩ = ⟨zipPut (envT env) ps args, hpT H, n, [], some l⟩ := by simp only [toAS, envT_zip]
     have h := h
     rw [e1] at h
     refine h.mono fun e s' hk => ?_
     cases e with
     | normal =>
      obtain ⟨t, ht, rfl⟩ := hk
      have ht := flat_leaf ht hna
      have hx : out = setLoop l .ready .busy Option.none (.fail f 8816 0) t.H fun H => roundEnd l (.fail f 8817 0) (ex ⟨f, nt, some l⟩ bd ⟨t.τ, H, t.n, t.ds⟩) := by rw [hx, ht]
      rcases setLoop_eq l .ready .busy (.inl rfl) Option.none (.fail f 8816 0) t.H (fun H => roundEnd l (.fail f 8817 0) (ex ⟨f, nt, some l⟩ bd ⟨t.τ, H, t.n, t.ds⟩)) with h3 | ⟨nt', env', ps', asg', bd', d', H', h3, h4, h5⟩
      ·exact absurd (by rw [hx, h3]; exact fails_fail _ _ _) hf
      ·rw [h5] at hx
       refine ⟨nt', env', ps', asg', bd', d', h3, ?_⟩
       have e2 : toAS (some l) ⟨t.τ, H', t.n, t.ds⟩ = { toAS (some l) t with h := upd (toAS (some l) t).h l (some (.loop .busy Option.none nt' env' ps' asg' bd' d')) } := by simp only [toAS, h4]
       have hna2 : ∀ a b, ex ⟨f, nt, some l⟩ bd ⟨t.τ, H', t.n, t.ds⟩ ≠ .alt a b := fun a b h => hf (by rw [hx, h]; exact fails_fail _ _ _)
       rcases hex ⟨f, nt, some l⟩ bd hcb ⟨t.τ, H', t.n, t.ds⟩ with h6 | h6
       ·obtain ⟨x, y, z, h6⟩ := h6
        have h6 := flat_leaf h6 hna2
        exact absurd (by rw [hx, h6]; exact fails_fail _ _ _) hf
       ·have h6 := h6
        rw [e2] at h6
        refine h6.mono fun e s2 hk => ?_
        have fin : ∀ (t2 : St) (st' : LoopState) (pend' : Option Code) (b : Bool), out = (setLoop l .busy st' pend' (.fail f 8817 0) t2.H fun H => .val (.bool b) H t2.n) →
          ∃ nt env ps asg bd d, hpT t2.H l = some (.loop .busy Option.none nt env ps asg bd d) ∧ IsV out (.ret (.bool b)) (upd (hpT t2.H) l (some (.loop st' pend' nt env ps asg bd d))) t2.n := by
         intro t2 st' pend' b ht2
         rcases setLoop_eq l .busy st' (.inr rfl) pend' (.fail f 8817 0) t2.H (fun H => .val (.bool b) H t2.n) with h7 | ⟨nt', env', ps', asg', bd', d', H', h7, h8, h9⟩
         ·exact absurd (by rw [ht2, h7]; exact fails_fail _ _ _) hf
         ·exact ⟨nt', env', ps', asg', bd', d', h7, H', by rw [ht2, h9], h8.symm⟩
        cases e with
        | normal => obtain ⟨t2, ht2, rfl⟩ := hk; have ht2 := flat_leaf ht2 hna2; exact fin t2 .ready Option.none true (by rw [hx, ht2]; rfl)
        | ret => obtain ⟨t2, ht2, rfl⟩ := hk; have ht2 := flat_leaf ht2 hna2; exact fin t2 .done (some .ret) false (by rw [hx, ht2]; rfl)
        | exit i => obtain ⟨t2, ht2, rfl⟩ := hk; have ht2 := flat_leaf ht2 hna2; exact fin t2 .done (some (.exit i)) false (by rw [hx, ht2]; rfl)
        | panic v => obtain ⟨t2, ht2, rfl⟩ := hk; have ht2 := flat_leaf ht2 hna2; exact absurd (by rw [hx, ht2]; exact fails_fail _ _ _) hf
     | exit i => obtain ⟨t, ht, rfl⟩ := hk; have ht := flat_leaf ht hna; exact absurd (by rw [hx, ht]; exact fails_fail _ _ _) hf
     | ret => obtain ⟨t, ht, rfl⟩ := hk; have ht := flat_leaf ht hna; exact absurd (by rw [hx, ht]; exact fails_fail _ _ _) hf
     | panic v => obtain ⟨t, ht, rfl⟩ := hk; have ht := flat_leaf ht hna; exact absurd (by rw [hx, ht]; exact fails_fail _ _ _) hf
   ·exact absurd (by rw [hx]; exact fails_fail _ _ _) hf
  | _ => exact absurd (by rw [hx]; exact fails_fail _ _ _) hf
theorem callV_ok : CallOK (callV hn ex) := by
 intro f args H n
 cases f with
 | func fn a b =>
  cases fn with
  | func g => exact callG_ok hall hex g (a ++ args ++ b) H n
  | _ => exact .inl (fails_fail _ _ _)
 | yield l => exact roundX_ok hex l args H n
 | _ => exact .inl (fails_fail _ _ _)
end
theorem callD_ok {hn : Hints} (hall : ChkAll hn) (fuel : Nat) : ∀ depth, CallOK (callD hn fuel depth)
 | 0 => fun _ _ _ _ => .inl (fails_fail _ _ _)
 | d + 1 => by
  have : callD hn fuel (d + 1) = fun f => callV hn (exC hn fuel (callD hn fuel d)) f := rfl
  rw [this]
  exact callV_ok hall fun fr c hc => exC_ok (callD_ok hall fuel d) c hc
end Go.Proofs.YthkjmiejaoomcaaGreat.Am
