import Derived.Test.YtmgpnomphfeoiaaGreatDoorAmDef
set_option linter.all false
namespace Go.AM
noncomputable section
/-! ### the machine with its code turned into functions -/
abbrev Cmd := Caller → St → Option CRes
def cFail : Cmd := fun _ _ => none
def cVal (x : Option Value) (k : Value → Cmd) : Cmd := fun c σ => match x with | some v => k v c σ | none => none
def cRd (f : St → Option Value) (k : Value → Cmd) : Cmd := fun c σ => match f σ with | some v => k v c σ | none => none
def cUpd (f : St → Option St) (k : Value → Cmd) : Cmd := fun c σ => match f σ with | some σ' => k undefV c σ' | none => none
def cWri (f : St → Option (Value × St)) (k : Value → Cmd) : Cmd := fun c σ => match f σ with | some (v, σ') => k v c σ' | none => none
def cNew (x : Option (Mk × Body)) (k : Value → Cmd) : Cmd := fun c σ => match x with | some (mk, b) => k (mk.val σ.next) c (σ.push b mk.tag) | none => none
def cCall (X : Prims) (f : FuncId) (args : List Value) (k : Value → Cmd) : Cmd := fun c σ => match X.ext f args with
  | some v => k v c σ
  | none => match c f args σ with
    | some (.ret v σ') => k v c σ'
    | some (.panic v σ') => some (.panic v σ')
    | none => none
def cEnter (X : Prims) (g : Value) (args : List Value) (k : Value → Cmd) : Cmd := fun c σ => match g with
  | .func (.func f) first captured => cCall X f (first.toList ++ args ++ captured.toList) k c σ
  | _ => none
def cOut (f : St → Option Out) (k : Value → Cmd) : Cmd := fun c σ => match f σ with
  | some (.val v) => k v c σ
  | some (.new mk b) => k (mk.val σ.next) c (σ.push b mk.tag)
  | some (.upd v σ') => k v c σ'
  | _ => none
def cPanic (v : Value) : Cmd := fun _ σ => match v with
  | .iface t y => some (.panic (.iface t y) σ)
  | _ => none
def cCond (v : Value) (x y : Cmd) : Cmd := fun c σ => match v with
  | .bool b => bif b then x c σ else y c σ
  | _ => none
def cGuard (g : Value) (want : Bool) (b : (Value → Cmd) → Cmd) (k : Value → Cmd) : Cmd := fun c σ => match g with
  | .bool x => bif x == want then b k c σ else k undefV c σ
  | _ => k undefV c σ
def cJoin (b : (List Value → Cmd) → Cmd) (j : List Value → Cmd) : Cmd := b j
def loopF : Nat → ((List Value → Cmd) → List Value → Cmd) → List Value → Cmd
  | 0, _, _ => cFail
  | n + 1, b, vs => b (loopF n b) vs
def cLoop (vs : List Value) (b : (List Value → Cmd) → List Value → Cmd) : Cmd := loopF 1048576 b vs
def cArg (l : List Value) (k : Value → List Value → Cmd) : Cmd := fun c σ => match l with | v :: l' => k v l' c σ | [] => none
def cNil (l : List Value) (k : Cmd) : Cmd := fun c σ => match l with | [] => k c σ | _ :: _ => none
def cDone (v : Value) : Cmd := fun _ σ => some (.ret v σ)
/-- Results that lie in memory. -/
inductive RVal where
  | val (v : Value)
  | ld (t : TypeId) (p : Value)
section
variable (P : Program)
def resV (σ : St) : List RVal → Option (List Value)
  | [] => some []
  | .val v :: rs => match resV σ rs with | some vs => some (v :: vs) | none => none
  | .ld t p :: rs => match p with
    | .pointer (some q) => match loadVar P σ t q.block q.off with
      | some v => match resV σ rs with | some vs => some (v :: vs) | none => none
      | none => none
    | _ => none
def cRet (l : List RVal) : Cmd := fun _ σ => match resV P σ l with | some vs => some (.ret (oneOrTuple vs) σ) | none => none
end
/-! drawn regions -/
def cBase (n : Nat) (k : Nat → Cmd) : Cmd := fun c σ => k σ.next c { σ with next := σ.next + n }
def cGet (k : St → Cmd) : Cmd := fun c σ => k σ c σ
def cNewAt (i : Nat) (x : Option (Mk × Body)) (k : Value → Cmd) : Cmd := fun c σ => match x with
  | some (mk, b) => bif (σ.get i).isSome then none else k (mk.val i) c { σ with heap := σ.heap.put i (some { body := b, chain := [], shut := false }) }
  | none => none
def sameV (f : St → Option Value) (v : Value) : List St → Bool
  | [] => true
  | s :: l => (match f s with | some u => valueEq u v | none => false) && sameV f v l
def cRdS (f : St → Option Value) (l : List St) (k : Value → Cmd) : Cmd := fun c σ => match f σ with
  | some v => bif sameV f v l then k v c σ else none
  | none => none
def sameO (f : St → Option Out) (v : Value) : List St → Bool
  | [] => true
  | s :: l => (match f s with | some (.val u) => valueEq u v | _ => false) && sameO f v l
def cOutAt (i : Nat) (f : St → Option Out) (l : List St) (k : Value → Cmd) : Cmd := fun c σ => match f σ with
  | some (.val v) => bif sameO f v l then k v c σ else none
  | some (.new mk b) => bif (σ.get i).isSome then none else k (mk.val i) c { σ with heap := σ.heap.put i (some { body := b, chain := [], shut := false }) }
  | _ => none
def cCallR (X : Prims) (f : FuncId) (args : List Value) (k : Value → Cmd) : Cmd := fun c σ => match X.ext f args with
  | some v => k v c σ
  | none => match c f args σ with
    | some (.ret v σ') => k v c σ'
    | _ => none
def cEnterR (X : Prims) (g : Value) (args : List Value) (k : Value → Cmd) : Cmd := fun c σ => match g with
  | .func (.func f) first captured => cCallR X f (first.toList ++ args ++ captured.toList) k c σ
  | _ => none

/-! ### what an operation is, its operands known -/
inductive DOp where
  | now (v : Value)
  | val (x : Option Value)
  | rd (f : St → Option Value)
  | upd (f : St → Option St)
  | wri (f : St → Option (Value × St))
  | new (x : Option (Mk × Body))
  | call (f : FuncId) (args : List Value)
  | enter (g : Value) (args : List Value)
  | out (f : St → Option Out)
  | panic (v : Value)
  | bad
section
variable (P : Program)
def d1 (x : Option Value) (f : Value → DOp) : DOp := match x with | some v => f v | none => .bad
def dl (x : Option (List Value)) (f : List Value → DOp) : DOp := match x with | some v => f v | none => .bad
def allocN (t : TypeId) : Option (Mk × Body) := match zeroOf P t with | some z => some (allocMk P t z, .cells (cellsOf z)) | none => none
def boxN (t : TypeId) (p : Value) : Option (Mk × Body) := some (allocMk P t p, .cells (cellsOf p))
def outN (o : Option Out) : Option (Mk × Body) := match o with | some (.new mk b) => some (mk, b) | _ => none
def capV (t : TypeId) (x : Value) : Option Value := match x with
  | .slice _ _ c => match P.underlying t with
    | some (.slice _) => bif justOf c then some (.int .i64 (capOf c : Nat)) else none
    | _ => none
  | _ => none
def resolve (ev : Ev) (o : Op) : DOp :=
  match o with
  | .move x => d1 (ev x) fun p => .now p
  | .assign x => d1 (ev x) fun p => .now p
  | .pick c x y => d1 (ev c) fun r => d1 (ev x) fun p => d1 (ev y) fun q => .val (pickV (some r) (some p) (some q))
  | .alloc t => .new (allocN P t)
  | .box t x => d1 (ev x) fun p => .new (boxN P t p)
  | .build t ps => match evalParts ev ps.toList with
    | some vs => .val (buildV P t vs)
    | none => .bad
  | .buildSlice t len ps => match evalParts ev ps.toList with
    | some vs => .new (outN (buildSliceV P t len vs))
    | none => .bad
  | .load t x => d1 (ev x) fun p => .rd fun σ => loadV P σ t p
  | .store t x y => d1 (ev x) fun p => d1 (ev y) fun z => .upd fun σ => storeV P σ t p z
  | .nilCheck x => d1 (ev x) fun p => .val (nilCheckV p)
  | .binOp op t x y _ => d1 (ev x) fun p => d1 (ev y) fun q => .val (binV P op t p q)
  | .unOp op _ x => d1 (ev x) fun p => .val (unV op p)
  | .convert s d x => d1 (ev x) fun p => .out fun σ => convV P σ s d p
  | .makeInterface t x => d1 (ev x) fun p => .val (makeInterfaceV P t p)
  | .makeFunc fn first captured => match fn with
    | .func f => dl (evals ev first.toList) fun x => dl (evals ev captured.toList) fun y => .now (.func (.func f) ⟨x⟩ ⟨y⟩)
    | _ => .bad
  | .makeMap _ none => .new (some (.map, .map []))
  | .makeSlice t l c => d1 (ev l) fun p => d1 (ev c) fun q => .new (outN (makeSliceV P t p q))
  | .slice t x lo hi mx => d1 (ev x) fun p => match evalOpt ev lo, evalOpt ev hi, evalOpt ev mx with
    | some l, some h, some m => .val (sliceV P t p l h m)
    | _, _, _ => .bad
  | .fieldAddr t x f => d1 (ev x) fun p => .val (fieldAddrV P t p f)
  | .field t x f => d1 (ev x) fun p => .val (fieldV P t p f)
  | .indexAddr t x i => d1 (ev x) fun p => d1 (ev i) fun q => .val (indexAddrV P t p q)
  | .index t x i => d1 (ev x) fun p => d1 (ev i) fun q => .val (indexV P t p q)
  | .lookup t x k ok => d1 (ev x) fun p => d1 (ev k) fun q => .rd fun σ => lookupV P σ t p q ok
  | .mapUpdate t x k y => d1 (ev x) fun p => d1 (ev k) fun q => d1 (ev y) fun z => .upd fun σ => mapUpdateV P σ t p q z
  | .typeAssert x _ t ok => d1 (ev x) fun p => .val (typeAssertV P p t ok)
  | .extract x i => d1 (ev x) fun p => .val (extractV p i)
  | .call { callee := .builtin b, args, argTypes } => dl (evals ev args.toList) fun vs => match b with
    | .append => .wri fun σ => appendV P σ argTypes.toList vs
    | .copy => .wri fun σ => copyV P σ argTypes.toList vs
    | .clear => .wri fun σ => clearV P σ argTypes.toList vs
    | .delete => .wri fun σ => deleteV P σ argTypes.toList vs
    | .len => match argTypes.toList, vs with
      | t :: _, x :: _ => .rd fun σ => lenV P σ t x
      | _, _ => .bad
    | .cap => match argTypes.toList, vs with
      | t :: _, x :: _ => .val (capV P t x)
      | _, _ => .bad
    | .min => .val (minMax false vs)
    | .max => .val (minMax true vs)
    | _ => .bad
  | .call { callee := .value f, args, .. } => dl (evals ev args.toList) fun vs => match f with
    | .func f => .call f vs
    | f => d1 (ev f) fun g => .enter g vs
  | .panic x => d1 (ev x) fun p => .panic p
  | _ => .bad
variable (X : Prims)
def cDo (d : DOp) (k : Value → Cmd) : Cmd := match d with
  | .now v => k v
  | .val x => cVal x k
  | .rd f => cRd f k
  | .upd f => cUpd f k
  | .wri f => cWri f k
  | .new x => cNew x k
  | .call f args => cCall X f args k
  | .enter g args => cEnter X g args k
  | .out f => cOut f k
  | .panic v => cPanic v
  | .bad => cFail
/-- In a region that draws: hv: heavy; i: the number of what is made; l: the states at which a reading must be the same. -/
def cDoD (hv : Bool) (i : Nat) (l : List St) (d : DOp) (k : Value → Cmd) : Cmd := match hv with
  | true => match d with
    | .upd f => cUpd f k
    | .wri f => cWri f k
    | .call f args => cCallR X f args k
    | .enter g args => cEnterR X g args k
    | _ => cFail
  | false => match d with
    | .now v => match l with | [] => k v | _ :: _ => cFail
    | .val x => match l with | [] => cVal x k | _ :: _ => cFail
    | .rd f => cRdS f l k
    | .new x => cNewAt i x k
    | .out f => cOutAt i f l k
    | _ => cFail
end
/-! ### what is known of the variables -/
abbrev Env := Tr (Option Value)
def Env.look (e : Env) (t : Nat) : Option Value := match Tr.get e t with
  | none => some undefV
  | some x => x
def Env.eval (e : Env) : Operand → Option Value
  | .tmp t => e.look t
  | .const c => Act.eval { tmps := .leaf, size := 0, defers := [] } (.const c)
  | .global _ => none
  | .func f => some (.func (.func f) #[] #[])
def Env.set (e : Env) (t : Nat) (v : Value) : Env := Tr.put e t (some (some v))
def Env.forget (e : Env) : List Nat → Env
  | [] => e
  | t :: ts => Env.forget (Tr.put e t (some none)) ts
def Env.bind (e : Env) : List Nat → List Value → Env
  | t :: ts, v :: vs => Env.bind (e.set t v) ts vs
  | _, _ => e
def Env.reads (e : Env) : List Nat → Option (List Value)
  | [] => some []
  | t :: ts => match e.look t with
    | some v => match Env.reads e ts with | some vs => some (v :: vs) | none => none
    | none => none
def argsN : Nat → (List Value → Cmd) → List Value → Cmd
  | 0, k, l => cNil l (k [])
  | n + 1, k, l => cArg l fun v l' => argsN n (fun vs => k (v :: vs)) l'
/-! which variables are wanted: a guess, of which nothing is asked -/
def bitM (t : Nat) : Nat := Nat.shiftLeft 1 t
def minusM (a b : Nat) : Nat := Nat.xor (Nat.lor a b) b
def opndM : Operand → Nat
  | .tmp t => bitM t
  | _ => 0
def opndsM : List Operand → Nat
  | [] => 0
  | x :: xs => Nat.lor (opndM x) (opndsM xs)
def dstM (o : Oper) : Nat := match o.dst with | some d => bitM d | none => 0
def guardM (all : List Oper) (o : Oper) : Nat := match o.guard with
  | some (j, _) => match all[j]? with | some g => dstM g | none => 0
  | none => 0
def liveOps (all : List Oper) (out : Nat) : List Oper → Nat
  | [] => out
  | o :: os => Nat.lor (minusM (liveOps all out os) (dstM o)) (Nat.lor (opndsM o.op.operands.toList) (guardM all o))
/-- A region that draws: whatever it reads and does not write. -/
def readsM (all : List Oper) : List Oper → Nat
  | [] => 0
  | o :: os => Nat.lor (readsM all os) (Nat.lor (opndsM o.op.operands.toList) (guardM all o))
def dstsM : List Oper → Nat
  | [] => 0
  | o :: os => Nat.lor (dstsM os) (dstM o)
def liveX : List (Nat × Nat) → Nat → Nat
  | [], _ => 0
  | (i, m) :: r, j => bif Nat.beq i j then m else liveX r j
def liveIn (ret : Nat) : Code → Nat → List (Nat × Nat) → Nat
  | .region _ ops false, out, _ => liveOps ops.toList out ops.toList
  | .region _ ops true, out, _ => Nat.lor (minusM out (dstsM ops.toList)) (minusM (readsM ops.toList ops.toList) (dstsM ops.toList))
  | .seq x y, out, xs => liveIn ret x (liveIn ret y out xs) xs
  | .cond c x y, out, xs => Nat.lor (opndM c) (Nat.lor (liveIn ret x out xs) (liveIn ret y out xs))
  | .block i x, out, xs => liveIn ret x out ((i, out) :: xs)
  | .loop x, _, xs => liveIn ret x 0 xs
  | .exit i, _, xs => liveX xs i
  | .ret, _, _ => ret
  | _, out, _ => out
def dstsL : List Oper → List Nat
  | [] => []
  | o :: os => match o.dst with | some d => d :: dstsL os | none => dstsL os
def dsts : Code → List Nat
  | .region _ ops _ => dstsL ops.toList
  | .seq x y => dsts x ++ dsts y
  | .cond _ x y => dsts x ++ dsts y
  | .block _ x => dsts x
  | .loop x => dsts x
  | _ => []
def maskOfL : List Nat → Nat
  | [] => 0
  | t :: ts => Nat.lor (bitM t) (maskOfL ts)
/-- How often an end that goes on behind it is met: 0, 1, or more. -/
def ends : Code → Nat
  | .seq x y => bif Nat.beq (ends x) 0 then 0 else ends y
  | .cond _ x y => bif Nat.beq (ends x + ends y) 0 then 0 else 1
  | .block i x => bif Nat.beq (ends x + exits i x) 0 then 0 else 1
  | .loop _ => 0
  | .exit _ => 0
  | .ret => 0
  | _ => 1
where exits (i : Nat) : Code → Nat
  | .seq x y => exits i x + bif Nat.beq (ends x) 0 then 0 else exits i y
  | .cond _ x y => exits i x + exits i y
  | .block _ x => exits i x
  | .loop x => exits i x
  | .exit j => bif Nat.beq i j then 1 else 0
  | _ => 0
def bitsF (m : Nat) : Nat → Nat → List Nat
  | 0, _ => []
  | n + 1, t => bif Nat.testBit m t then t :: bitsF m n (t + 1) else bitsF m n (t + 1)
/-- What is handed on where roads meet. -/
def joinP (ts : List Nat) (live size : Nat) : List Nat := bitsF (Nat.land (maskOfL ts) live) size 0
/-! ### code as functions -/
section
variable (P : Program) (X : Prims) (size : Nat)
def dstOk (o : Oper) : Bool := match o.dst with | some d => Nat.blt d size | none => true
def Env.setD (e : Env) (o : Oper) (v : Value) : Env := match o.dst with | some d => e.set d v | none => e
/-- Of a guard: its value. -/
def guardD (e : Env) (all : List Oper) (o : Oper) : Option (Option (Value × Bool)) :=
  match o.guard with
  | none => some none
  | some (j, want) => match all[j]? with
    | some g => match g.dst with
      | some d => match e.look d with
        | some v => some (some (v, want))
        | none => none
      | none => none
    | none => none
def dOps (all : List Oper) : List Oper → Env → (Env → Cmd) → Cmd
  | [], e, k => k e
  | o :: rest, e, k => match dstOk size o with
    | true => match guardD e all o with
      | none => cFail
      | some none => cDo X (resolve P e.eval o.op) fun v => dOps all rest (e.setD o v) k
      | some (some (g, want)) => cGuard g want (fun k' => cDo X (resolve P e.eval o.op) k') fun v => dOps all rest (e.setD o v) k
    | false => cFail
def histL (m : Nat) : List (Nat × St) → List St
  | [] => []
  | (h, s) :: r => bif Nat.testBit m h then histL m r else s :: histL m r
def readL (o : Oper) (m : Nat) (hist : List (Nat × St)) : List St := match isRead o with | true => histL m hist | false => []
def dNote (mkd : Bool) (k : Nat) (hist : List (Nat × St)) (f : List (Nat × St) → Cmd) : Cmd := match mkd, hist with
  | true, x :: l => cGet fun s => f (noteF (s.get k) k (x :: l))
  | _, l => f l
def dPlan (all : List Oper) (base : Nat) : List (Nat × Nat) → Env → St → List (Nat × St) → (Env → Cmd) → Cmd
  | [], e, _, _, k => k e
  | (i, m) :: rest, e, b, hist, k => match all[i]? with
    | none => cFail
    | some o => match dstOk size o with
      | true => match guardD e all o with
        | none => cFail
        | some none => cDoD X (isHeavy o) (base + i) (readL o m hist) (resolve P e.eval o.op) fun v => match isHeavy o with
            | true => cGet fun s => dPlan all base rest (e.setD o v) s ((i, b) :: hist) k
            | false => dNote (isMake o) (base + i) hist fun h => dPlan all base rest (e.setD o v) b h k
        | some (some (g, want)) => cGuard g want (fun k' => cDoD X (isHeavy o) (base + i) (readL o m hist) (resolve P e.eval o.op) k') fun v => match isHeavy o with
            | true => cGet fun s => dPlan all base rest (e.setD o v) s ((i, b) :: hist) k
            | false => dNote (isMake o) (base + i) hist fun h => dPlan all base rest (e.setD o v) b h k
      | false => cFail
def dDrawn (all : List Oper) (e : Env) (k : Env → Cmd) : Cmd :=
  match planOf all with
  | none => cFail
  | some plan => cBase all.length fun base => cGet fun s => dPlan P X size all base plan e s [] k
abbrev Xs := List (Nat × Nat × (Env → Cmd))
def findX : List (Nat × Nat × (Env → Cmd)) → Nat → Option (Env → Cmd)
  | [], _ => none
  | (i, _, k) :: r, j => bif Nat.beq i j then some k else findX r j
def liveXs : List (Nat × Nat × (Env → Cmd)) → List (Nat × Nat)
  | [] => []
  | (i, m, _) :: r => (i, m) :: liveXs r
/-- To a place where roads meet. -/
def toJ (j : List Value → Cmd) (ps : List Nat) : Env → Cmd := fun e => match e.reads ps with
  | some vs => j vs
  | none => cFail
variable (ret : Nat) (kret : Env → Cmd)
def den : Code → Env → Nat → List (Nat × Nat × (Env → Cmd)) → (Env → Cmd) → Cmd
  | .skip, e, _, _, k => k e
  | .region _ ops false, e, _, _, k => dOps P X size ops.toList ops.toList e k
  | .region _ ops true, e, _, _, k => dDrawn P X size ops.toList e k
  | .seq x y, e, live, xs, k => den x e (liveIn ret y live (liveXs xs)) xs fun e' => den y e' live xs k
  | .cond c x y, e, live, xs, k => match e.eval c with
    | none => cFail
    | some v => match Nat.ble (ends x + ends y) 1 with
      | true => cCond v (den x e live xs k) (den y e live xs k)
      | false => cJoin (fun j => cCond v (den x e live xs (toJ j (joinP (dsts x ++ dsts y) live size))) (den y e live xs (toJ j (joinP (dsts x ++ dsts y) live size))))
          (argsN (joinP (dsts x ++ dsts y) live size).length fun vs => k ((e.forget (dsts x ++ dsts y)).bind (joinP (dsts x ++ dsts y) live size) vs))
  | .block i x, e, live, xs, k => match Nat.ble (ends x + ends.exits i x) 1 with
    | true => den x e live ((i, live, k) :: xs) k
    | false => cJoin (fun j => den x e live ((i, live, toJ j (joinP (dsts x) live size)) :: xs) (toJ j (joinP (dsts x) live size)))
        (argsN (joinP (dsts x) live size).length fun vs => k ((e.forget (dsts x)).bind (joinP (dsts x) live size) vs))
  | .loop x, e, _, xs, _ => match e.reads (joinP (dsts x) (liveIn ret x 0 (liveXs xs)) size) with
      | none => cFail
      | some vs => cLoop vs fun again => argsN (joinP (dsts x) (liveIn ret x 0 (liveXs xs)) size).length fun us => den x ((e.forget (dsts x)).bind (joinP (dsts x) (liveIn ret x 0 (liveXs xs)) size) us) (liveIn ret x 0 (liveXs xs)) xs (toJ again (joinP (dsts x) (liveIn ret x 0 (liveXs xs)) size))
  | .exit i, e, _, xs, _ => match findX xs i with
    | some k => k e
    | none => cFail
  | .ret, e, _, _, _ => kret e
  | _, _, _, _, _ => cFail
def resD (e : Env) : List ResultVar → Option (List RVal)
  | [] => some []
  | .tmp t :: rs => match e.look t, resD e rs with
    | some v, some l => some (.val v :: l)
    | _, _ => none
  | .cell p t :: rs => match e.look p, resD e rs with
    | some v, some l => some (.ld t v :: l)
    | _, _ => none
def valsOf : List RVal → Option (List Value)
  | [] => some []
  | .val v :: l => match valsOf l with | some vs => some (v :: vs) | none => none
  | _ => none
def dRet (rs : List ResultVar) : Env → Cmd := fun e => match resD e rs with
  | none => cFail
  | some l => match valsOf l with
    | some vs => cDone (oneOrTuple vs)
    | none => cRet P l
def retM : List ResultVar → Nat
  | [] => 0
  | .tmp t :: rs => Nat.lor (bitM t) (retM rs)
  | .cell p _ :: rs => Nat.lor (bitM p) (retM rs)
end
def envOf : List Value → Nat → Env → Env
  | [], _, e => e
  | v :: vs, n, e => envOf vs (n + 1) (e.set n v)
def denF (P : Program) (X : Prims) (n : Nat) (fn : Func) : List Value → Cmd :=
  match fn.body with
  | none => fun _ => cFail
  | some c => argsN n fun vs => den P X (max fn.ntmps n) (retM fn.results.toList) (dRet P fn.results.toList) c (envOf vs 0 .leaf) (retM fn.results.toList) [] (dRet P fn.results.toList)
/-- The machine over a table of functions. -/
def fast (X : Prims) (tab : Tr (List Value → Cmd)) : Nat → Caller
  | 0 => fun _ _ _ => none
  | n + 1 => fun f args σ => match X.find f args σ with
    | some (some (v, σ')) => some (.ret v σ')
    | some none => none
    | none => bif Nat.beq f X.run then runCall X (fast X tab n) args σ else
      match tab.get f with
      | some F => F args (fast X tab n) σ
      | none => none
end
end Go.AM
