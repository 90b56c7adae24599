import GoSem.Step
set_option linter.all false
namespace Go.AM
noncomputable section
/-! ### a store keyed by numbers -/
inductive Tr (α : Type) where
  | leaf
  | node (l : Tr α) (v : Option α) (r : Tr α)
namespace Tr
variable {α : Type}
def get (t : Tr α) : Nat → Option α := Tr.rec (motive := fun _ => Nat → Option α) (fun _ => none)
  (fun _ v _ gl gr n => Nat.rec (motive := fun _ => Option α) v (fun k _ => Nat.rec (motive := fun _ => Option α) (gl (Nat.div k 2)) (fun _ _ => gr (Nat.div k 2)) (Nat.mod k 2)) n) t
def putL (x : Option α) (f : Nat) : Nat → Tr α := Nat.rec (motive := fun _ => Nat → Tr α) (fun _ => .leaf)
  (fun _ ih n => Nat.rec (motive := fun _ => Tr α) (.node .leaf x .leaf) (fun k _ => Nat.rec (motive := fun _ => Tr α) (.node (ih (Nat.div k 2)) none .leaf) (fun _ _ => .node .leaf none (ih (Nat.div k 2))) (Nat.mod k 2)) n) f
def putF (t : Tr α) (n : Nat) (x : Option α) : Tr α := Tr.rec (motive := fun _ => Nat → Tr α) (fun n => putL x (Nat.succ n) n)
  (fun l v r pl pr n => Nat.rec (motive := fun _ => Tr α) (.node l x r) (fun k _ => Nat.rec (motive := fun _ => Tr α) (.node (pl (Nat.div k 2)) v r) (fun _ _ => .node l v (pr (Nat.div k 2))) (Nat.mod k 2)) n) t n
def put (t : Tr α) (n : Nat) (x : Option α) : Tr α := putF t n x
def ofListF : List α → Nat → Tr α → Tr α
  | [], _, t => t
  | x :: xs, n, t => ofListF xs (n + 1) (t.put n (some x))
end Tr

/-- What a block holds. -/
inductive Body where
  | cells (c : List Value)
  | map (es : List (Value × Value))
structure Blk where
  body : Body
  chain : List Nat
  shut : Bool
  tag : Option (Nat × Nat) := none   -- a variable of a struct type, alone in its row: the type, how many cells
structure St where
  heap : Tr Blk
  next : Nat
structure Act where
  tmps : Tr Value
  size : Nat
  defers : List Deferred
inductive Exit where
  | normal
  | exit (id : Nat)
  | ret
  | panic (v : Value)

def undefV : Value := .tuple #[]
def isSmall (n : Nat) : Bool := Nat.ble n 1048576

def Act.look (a : Act) (t : Nat) : Value := match a.tmps.get t with | some v => v | none => undefV
/-- A slice's capacity in the abstract: e * unit + 2c: at least c elements of e cells; 2c+1: just c. -/
def unit : Nat := 1099511627776
def codeAtLeast (e c : Nat) : Nat := e * unit + 2 * c
def codeJust (c : Nat) : Nat := 2 * c + 1
/-- .. of a slice that the text writes out: no bytes of a string's. -/
def codeLit (c : Nat) : Nat := unit + (2 * c + 1)
def capOf (k : Nat) : Nat := k % unit / 2
def eszOf (k : Nat) : Nat := k / unit
def justOf (k : Nat) : Bool := Nat.beq (k % 2) 1
def litOf (k : Nat) : Bool := justOf k && Nat.beq (eszOf k) 1
def Act.eval (a : Act) : Operand → Option Value
  | .tmp t => some (a.look t)
  | .const (.slice none l c) => bif Nat.beq l 0 && Nat.beq c 0 then some (.slice none 0 1) else none
  | .const (.pointer none) => some (.pointer none)
  | .const (.map none) => some (.map none)
  | .const (.bool b) => some (.bool b)
  | .const (.int k n) => some (.int k n)
  | .const (.string s) => some (.string s)
  | .const .nilFunc => some .nilFunc
  | .const .nilIface => some .nilIface
  | .const _ => none
  | .global _ => none
  | .func f => some (.func (.func f) #[] #[])
abbrev Ev := Operand → Option Value
def evals (ev : Ev) : List Operand → Option (List Value)
  | [] => some []
  | x :: xs => match ev x with
    | some v => match evals ev xs with
      | some vs => some (v :: vs)
      | none => none
    | none => none
def evalOpt (ev : Ev) : Option Operand → Option (Option Value)
  | none => some none
  | some x => match ev x with
    | some v => some (some v)
    | none => none
def bytesEq : List UInt8 → List UInt8 → Bool
  | [], [] => true
  | a :: l, b :: m => bif Nat.beq a.toNat b.toNat then bytesEq l m else false
  | _, _ => false
def bytesLt : List UInt8 → List UInt8 → Bool
  | _, [] => false
  | [], _ :: _ => true
  | a :: x, b :: y => bif Nat.blt a.toNat b.toNat then true else bif Nat.beq a.toNat b.toNat then bytesLt x y else false

def St.get (σ : St) (i : Nat) : Option Blk := σ.heap.get i
def St.push (σ : St) (b : Body) (tag : Option (Nat × Nat) := none) : St := { heap := σ.heap.put σ.next (some { body := b, chain := [], shut := false, tag }), next := σ.next + 1 }
def dropAll (h : Tr Blk) : List Nat → Tr Blk
  | [] => h
  | i :: is => dropAll (h.put i none) is
/-- Cells of a block from a place on. -/
def takeR {α : Type} (c : List α) : Nat → Option (List α) := List.rec (motive := fun _ => Nat → Option (List α)) (fun n => Nat.rec (motive := fun _ => Option (List α)) (some []) (fun _ _ => none) n)
  (fun x _ ih n => Nat.rec (motive := fun _ => Option (List α)) (some []) (fun n _ => Option.rec (motive := fun _ => Option (List α)) none (fun l => some (x :: l)) (ih n)) n) c
def takeCells (c : List Value) (k n : Nat) : Option (List Value) := List.rec (motive := fun _ => Nat → Option (List Value)) (fun k => Nat.rec (motive := fun _ => Option (List Value)) (takeR [] n) (fun _ _ => none) k)
  (fun x c ih k => Nat.rec (motive := fun _ => Option (List Value)) (takeR (x :: c) n) (fun k _ => ih k) k) c k
def setGo (vs : List Value) : List Value → Option (List Value) := List.rec (motive := fun _ => List Value → Option (List Value)) (fun c => some c)
  (fun v _ ih c => List.rec (motive := fun _ => Option (List Value)) none (fun _ c _ => Option.rec (motive := fun _ => Option (List Value)) none (fun c' => some (v :: c')) (ih c)) c) vs
def setCells (c : List Value) (k : Nat) (vs : List Value) : Option (List Value) := List.rec (motive := fun _ => Nat → Option (List Value)) (fun k => Nat.rec (motive := fun _ => Option (List Value)) (setGo vs []) (fun _ _ => none) k)
  (fun x c ih k => Nat.rec (motive := fun _ => Option (List Value)) (setGo vs (x :: c)) (fun k _ => Option.rec (motive := fun _ => Option (List Value)) none (fun c' => some (x :: c')) (ih k)) k) c k
def St.cells (σ : St) (i o n : Nat) : Option (List Value) :=
  match σ.get i with
  | some { body := .cells c, .. } => takeCells c o n
  | _ => none
def oneCells : List Value → Bool
  | [] => true
  | .agg _ :: _ => false
  | .tuple _ :: _ => false
  | _ :: vs => oneCells vs
/-- Write cells into a block: whatever may share them is forgotten. -/
def St.write (σ : St) (i o : Nat) (vs : List Value) : Option St :=
  match vs with
  | [] => some σ
  | _ =>
  match σ.get i with
  | some { body := .cells c, chain, shut := false, tag } => bif oneCells vs then match setCells c o vs with
    | some c' => some { σ with heap := (dropAll σ.heap chain).put i (some { body := .cells c', chain := [], shut := false, tag }) }
    | none => none else none
  | _ => none

section
variable (P : Program)
def sizeOf (t : TypeId) : Option Nat := match P.info? t with | some i => some i.size | none => none
def isAgg (t : TypeId) : Option Bool := match P.underlying t with | some (.struct _) => some true | some (.array _ _) => some true | some _ => some false | none => none
/-- A zero value in the abstract: nil slices have their own sign. -/
def absCell : Value → Option Value
  | .slice none l c => bif Nat.beq l 0 && Nat.beq c 0 then some (.slice none 0 1) else none
  | .pointer none => some (.pointer none)
  | .map none => some (.map none)
  | .chan none => some (.chan none)
  | .bool b => some (.bool b)
  | .int k n => some (.int k n)
  | .string s => some (.string s)
  | .nilFunc => some .nilFunc
  | .nilIface => some .nilIface
  | _ => none
def absCells : List Value → Option (List Value)
  | [] => some []
  | v :: vs => match absCell v with
    | some x => match absCells vs with | some xs => some (x :: xs) | none => none
    | none => none
def absZero (v : Value) : Option Value := match v with
  | .agg cs => match absCells cs.toList with | some xs => some (.agg ⟨xs⟩) | none => none
  | v => absCell v
def zeroOf (t : TypeId) : Option Value := match P.info? t with
  | some i => match i.zero with | some v => absZero v | none => none
  | none => none
def cellsOf : Value → List Value
  | .agg cs => cs.toList
  | v => [v]
def part (t : TypeId) (cs : List Value) (off : Nat) : Option Value :=
  match isAgg P t with
  | some true => match sizeOf P t with
    | some n => match takeCells cs off n with | some l => some (.agg ⟨l⟩) | none => none
    | none => none
  | some false => match takeCells cs off 1 with | some [v] => some v | _ => none
  | none => none
def loadVar (σ : St) (t : TypeId) (i o : Nat) : Option Value :=
  match isAgg P t with
  | some true => match sizeOf P t with
    | some n => match σ.cells i o n with | some l => some (.agg ⟨l⟩) | none => none
    | none => none
  | some false => match σ.cells i o 1 with | some [v] => some v | _ => none
  | none => none
def storeVar (σ : St) (t : TypeId) (i o : Nat) (v : Value) : Option St :=
  match sizeOf P t with
  | some n => bif Nat.beq (cellsOf v).length n then σ.write i o (cellsOf v) else none
  | none => none
def fillParts (place : Nat → Option (Nat × Nat)) (cells : List Value) : List (Nat × Value) → Option (List Value)
  | [] => some cells
  | (i, v) :: rest => match place i with
    | some (off, size) => bif Nat.beq (cellsOf v).length size then match setCells cells off (cellsOf v) with
        | some c => fillParts place c rest
        | none => none else none
    | none => none
def evalParts (ev : Ev) : List (Nat × Operand) → Option (List (Nat × Value))
  | [] => some []
  | (i, x) :: rest => match ev x with
    | some v => match evalParts ev rest with | some vs => some ((i, v) :: vs) | none => none
    | none => none
def repeatCells (z : List Value) : Nat → List Value
  | 0 => []
  | n + 1 => z ++ repeatCells z n
def keyEq (k : Value) (x : Value) : Option Bool :=
  match k, x with
  | .int j a, .int k b => bif j == k then some (a == b) else none
  | .string a, .string b => some (bytesEq a.data.toList b.data.toList)
  | .bool a, .bool b => some (a == b)
  | _, _ => none
def mapFind (k : Value) : List (Value × Value) → Option (Option Value)
  | [] => some none
  | (x, v) :: es => match keyEq k x with
    | some true => some (some v)
    | some false => mapFind k es
    | none => none
def mapSet (k v : Value) : List (Value × Value) → Option (List (Value × Value))
  | [] => some [(k, v)]
  | (x, u) :: es => match keyEq k x with
    | some true => some ((k, v) :: es)
    | some false => match mapSet k v es with | some l => some ((x, u) :: l) | none => none
    | none => none
def mapDel (k : Value) : List (Value × Value) → Option (List (Value × Value))
  | [] => some []
  | (x, u) :: es => match keyEq k x with
    | some true => some es
    | some false => match mapDel k es with | some l => some ((x, u) :: l) | none => none
    | none => none
def keyKind (t : TypeId) (k : Value) : Bool := match P.underlying t, k with | some (.int _), .int _ _ => true | some .string, .string _ => true | some .bool, .bool _ => true | _, _ => false

/-- What is made in new memory. -/
inductive Mk where
  | ptr
  | ptrT (t n : Nat)
  | slice (len code : Nat)
  | map
def Mk.val : Mk → Nat → Value
  | .ptr, i => .pointer (some ⟨i, 0, none⟩)
  | .ptrT _ _, i => .pointer (some ⟨i, 0, none⟩)
  | .slice len code, i => .slice (some ⟨i, 0, none⟩) len code
  | .map, i => .map (some i)
def Mk.tag : Mk → Option (Nat × Nat)
  | .ptrT t n => some (t, n)
  | _ => none
/-- What an operation comes to. -/
inductive Out where
  | val (v : Value)
  | new (mk : Mk) (body : Body)
  | upd (v : Value) (σ : St)
  | enter (f : FuncId) (args : List Value)
  | defer (d : Deferred)
  | recover
  | panic (v : Value)
def vOut : Option Value → Option Out
  | some x => some (.val x)
  | none => none
def uOut : Option St → Option Out
  | some σ => some (.upd undefV σ)
  | none => none
def wOut : Option (Value × St) → Option Out
  | some (v, σ) => some (.upd v σ)
  | none => none
def intBin (op : BinOp) (k : IntKind) (x y : Int) : Option Value :=
  match op with
  | .add => some (.int k (k.wrap (x + y)))
  | .sub => some (.int k (k.wrap (x - y)))
  | .mul => some (.int k (k.wrap (x * y)))
  | .quo => bif y == 0 then none else some (.int k (k.wrap (x.tdiv y)))
  | .rem => bif y == 0 then none else some (.int k (x.tmod y))
  | .and => some (.int k (k.wrap (BitVec.ofInt k.bits x &&& BitVec.ofInt k.bits y).toNat))
  | .or => some (.int k (k.wrap (BitVec.ofInt k.bits x ||| BitVec.ofInt k.bits y).toNat))
  | .xor => some (.int k (k.wrap (BitVec.ofInt k.bits x ^^^ BitVec.ofInt k.bits y).toNat))
  | .andNot => some (.int k (k.wrap (BitVec.ofInt k.bits x &&& ~~~ BitVec.ofInt k.bits y).toNat))
  | .eql => some (.bool (x == y))
  | .neq => some (.bool (x != y))
  | .lss => some (.bool (x < y))
  | .leq => some (.bool (x ≤ y))
  | .gtr => some (.bool (x > y))
  | .geq => some (.bool (x ≥ y))
  | _ => none
def shiftV (op : BinOp) (k : IntKind) (x y : Int) : Option Value :=
  bif decide (y < 0) then none else
  match op with
  | .shl => some (.int k (k.wrap (x * 2 ^ (min y.toNat k.bits))))
  | .shr => some (.int k (x.fdiv (2 ^ (min y.toNat k.bits))))
  | _ => none
def strBin (op : BinOp) (x y : ByteArray) : Option Value :=
  match op with
  | .add => bif isSmall (x.size + y.size) then some (.string ⟨⟨x.data.toList ++ y.data.toList⟩⟩) else none
  | .eql => some (.bool (bytesEq x.data.toList y.data.toList))
  | .neq => some (.bool (!(bytesEq x.data.toList y.data.toList)))
  | .lss => some (.bool (bytesLt x.data.toList y.data.toList))
  | .leq => some (.bool (bytesLt x.data.toList y.data.toList || bytesEq x.data.toList y.data.toList))
  | .gtr => some (.bool (!(bytesLt x.data.toList y.data.toList || bytesEq x.data.toList y.data.toList)))
  | .geq => some (.bool (!bytesLt x.data.toList y.data.toList))
  | _ => none
def eqV (t : TypeId) (x y : Value) : Option Bool :=
  match P.underlying t, x, y with
  | some .bool, .bool a, .bool b => some (a == b)
  | some (.pointer _), .pointer none, .pointer b => some b.isNone
  | some (.pointer _), .pointer (some _), .pointer none => some false
  | some (.slice _), .slice none _ _, .slice b _ _ => some b.isNone
  | some (.slice _), .slice (some _) _ _, .slice none _ _ => some false
  | some (.map _ _), .map none, .map b => some b.isNone
  | some (.map _ _), .map (some _), .map none => some false
  | some (.func _ _ _), .nilFunc, .nilFunc => some true
  | some (.func _ _ _), .nilFunc, .func (.func _) _ _ => some false
  | some (.func _ _ _), .func (.func _) _ _, .nilFunc => some false
  | _, _, _ => none
def binV0 (op : BinOp) (t : TypeId) (x y : Value) : Option Value :=
  match op, x, y with
  | .shl, .int k a, .int _ b | .shr, .int k a, .int _ b => shiftV op k a b
  | _, .int k a, .int k' b => bif k == k' then intBin op k a b else none
  | _, .string a, .string b => strBin op a b
  | .eql, x, y => match eqV P t x y with | some b => some (.bool b) | none => none
  | .neq, x, y => match eqV P t x y with | some b => some (.bool (!b)) | none => none
  | _, _, _ => none
/-! A value of which only a list of candidates is known: '.func (.yield 0) list' -/
def setV (l : List Value) : Value := .func (.yield 0) ⟨l⟩ ⟨[]⟩
def mapO (f : Value → Option Value) : List Value → Option (List Value)
  | [] => some []
  | x :: xs => match f x with
    | some v => match mapO f xs with | some vs => some (v :: vs) | none => none
    | none => none
def eqFlat : Value → Value → Bool
  | .bool a, .bool b => match a, b with | true, true => true | false, false => true | _, _ => false
  | .int j (.ofNat a), .int k (.ofNat b) => Nat.beq a b && decide (j = k)
  | _, _ => false
def allEq (x : Value) : List Value → Bool
  | [] => true
  | y :: ys => match eqFlat x y with | true => allEq x ys | false => false
def allInt : List Value → Bool
  | [] => true
  | .int _ _ :: ys => allInt ys
  | _ => false
def joinV : List Value → Option Value
  | [] => none
  | x :: xs => match allEq x xs with
    | true => some x
    | false => match allInt (x :: xs) with | true => some (setV (x :: xs)) | false => none
def setOp (f : Value → Option Value) (l : List Value) : Option Value := match allInt l with
  | true => match mapO f l with | some vs => joinV vs | none => none
  | false => none
/-! A value of which its bounds alone are known: '.func (.yield 1) [lo, hi]' -/
def rngV (k : IntKind) (lo hi : Int) : Value := .func (.yield 1) ⟨[.int k lo, .int k hi]⟩ ⟨[]⟩
def rngCmp (op : BinOp) (lo hi b : Int) : Option Bool :=
  match op with
  | .lss => match decide (hi < b), decide (b ≤ lo) with | true, _ => some true | _, true => some false | _, _ => none
  | .leq => match decide (hi ≤ b), decide (b < lo) with | true, _ => some true | _, true => some false | _, _ => none
  | .gtr => match decide (b < lo), decide (hi ≤ b) with | true, _ => some true | _, true => some false | _, _ => none
  | .geq => match decide (b ≤ lo), decide (hi < b) with | true, _ => some true | _, true => some false | _, _ => none
  | .eql => match decide (b < lo), decide (hi < b) with | false, false => none | _, _ => some false
  | .neq => match decide (b < lo), decide (hi < b) with | false, false => none | _, _ => some true
  | _ => none
def rngOp (op : BinOp) (l : List Value) (y : Value) : Option Value :=
  match l, y with
  | [.int k lo, .int k2 hi], .int k' b => match decide (k = k' ∧ k2 = k), rngCmp op lo hi b with
    | true, some r => some (.bool r)
    | _, _ => none
  | _, _ => none
def binV (op : BinOp) (t : TypeId) (x y : Value) : Option Value :=
  match x with
  | .func (.yield m) l _ => match Nat.beq m 0 with
    | true => setOp (fun v => binV0 P op t v y) l.toList
    | false => rngOp op l.toList y
  | x => match y with
    | .func (.yield m) l _ => match Nat.beq m 0 with
      | true => setOp (fun v => binV0 P op t x v) l.toList
      | false => none
    | y => binV0 P op t x y
def unV (op : UnOp) (x : Value) : Option Value :=
  match op, x with
  | .neg, .int k n => intBin .sub k 0 n
  | .xor, .int k n => intBin .xor k (if k.signed then -1 else k.max) n
  | .not, .bool b => some (.bool !b)
  | _, _ => none
def bytesOfCells : List Value → Option (List UInt8)
  | [] => some []
  | .int .u8 n :: vs => match bytesOfCells vs with | some l => some (UInt8.ofNat n.toNat :: l) | none => none
  | _ => none
def cellsOfBytes : List UInt8 → List Value
  | [] => []
  | b :: l => .int .u8 b.toNat :: cellsOfBytes l
def convV (σ : St) (src dst : TypeId) (x : Value) : Option Out :=
  match P.underlying src, P.underlying dst, x with
  | some _, some (.int k), .int _ n => some (.val (.int k (k.wrap n)))
  | some _, some (.int k), .func (.yield 0) l _ => match setOp (fun v => match v with | .int _ n => some (.int k (k.wrap n)) | _ => none) l.toList with
    | some v => some (.val v)
    | none => none
  | some _, some .string, .string s => some (.val (.string s))
  | some .string, some (.slice e), .string s =>
    match P.underlying e with
    | some (.int .u8) => bif isSmall s.size then some (.new (.slice s.size (codeAtLeast 1 s.size)) (.cells (cellsOfBytes s.data.toList))) else none
    | _ => none
  | some (.slice e), some .string, .slice none _ _ =>
    match P.underlying e with
    | some (.int .u8) => some (.val (.string .empty))
    | _ => none
  | some (.slice e), some .string, .slice (some a) l _ =>
    match P.underlying e with
    | some (.int .u8) => match σ.cells a.block a.off l with
      | some cs => match bytesOfCells cs with | some bs => some (.val (.string ⟨⟨bs⟩⟩)) | none => none
      | none => none
    | _ => none
  | _, _, _ => none
def boundOf (x : Option Value) (dflt most : Nat) : Option Nat :=
  match x with
  | none => some dflt
  | some (.int _ i) => match i with
    | .ofNat n => bif Nat.ble n most then some n else none
    | .negSucc _ => none
  | _ => none
def highOf (mx hi : Option Value) (len m : Nat) : Option Nat :=
  match mx, hi with
  | some _, none => none
  | _, _ => boundOf hi len m
def bounds3 (lo hi mx : Option Value) (len cap : Nat) : Option (Nat × Nat × Nat) :=
  match boundOf mx cap cap with
  | none => none
  | some m => match highOf mx hi len m with
    | none => none
    | some h => match boundOf lo 0 h with
      | none => none
      | some l => some (l, h, m)
def moved (a : Addr) (l m sz : Nat) : Addr := bif Nat.beq m l then a else ⟨a.block, a.off + l * sz, none⟩
def sliceV (t : TypeId) (x : Value) (lo hi mx : Option Value) : Option Value :=
  match P.underlying t, x with
  | some .string, .string s =>
    match mx with
    | some _ => none
    | none => match bounds3 lo hi none s.size s.size with
      | none => none
      | some (l, h, _) => some (.string ⟨⟨(s.data.toList.drop l).take (h - l)⟩⟩)
  | some (.slice e), .slice base len code =>
    match sizeOf P e, bounds3 lo hi mx len (capOf code) with
    | some sz, some (l, h, m) =>
      match base with
      | none => some (.slice none (h - l) 1)
      | some a => match mx with
        | some _ => some (.slice (some (moved a l m sz)) (h - l) (codeJust (m - l)))
        | none => bif justOf code then some (.slice (some (moved a l m sz)) (h - l) (codeJust (m - l)))
          else bif Nat.beq (eszOf code) sz then some (.slice (some ⟨a.block, a.off + l * sz, none⟩) (h - l) (codeAtLeast sz (m - l))) else none
    | _, _ => none
  | some (.array n e), .pointer (some a) =>
    match sizeOf P e, bounds3 lo hi mx n n with
    | some sz, some (l, h, m) => bif isSmall n then some (.slice (some (moved a l m sz)) (h - l) (codeJust (m - l))) else none
    | _, _ => none
  | _, _ => none
def lenV (σ : St) (t : TypeId) (x : Value) : Option Value :=
  match P.underlying t, x with
  | some .string, .string s => some (.int .i64 s.size)
  | some (.array n _), _ => some (.int .i64 n)
  | some (.slice _), .slice _ n _ => some (.int .i64 n)
  | some (.map _ _), .map none => some (.int .i64 0)
  | some (.map _ _), .map (some r) => match σ.get r with
    | some { body := .map es, .. } => some (.int .i64 es.length)
    | _ => none
  | _, _ => none
def elemOf (t : TypeId) : Option TypeId := match P.underlying t with | some (.slice e) => some e | _ => none
def srcCells (σ : St) (esz : Nat) (x : Value) : Option (List Value × Nat) :=
  match x with
  | .slice none _ _ => some ([], 0)
  | .slice (some a) n _ => match σ.cells a.block a.off (n * esz) with | some l => some (l, n) | none => none
  | .string s => bif Nat.beq esz 1 then some (cellsOfBytes s.data.toList, s.size) else none
  | _ => none
def zeroSize (i : TypeInfo) : Option Nat :=
  match i.zero with
  | some (.agg cs) => some cs.toList.length
  | some _ => some 1
  | none => none
def roomOk (esz n : Nat) (inf : TypeInfo) : Bool :=
  isSmall (n * (esz + 1)) && isSmall (n * (inf.bytes + 1)) && isSmall inf.bytes && (match zeroSize inf with | some z => Nat.beq z esz | none => false)
/-- What the row of an append that may have gone on in place is known to be. -/
def growTag (o e : Nat) (tag : Option (Nat × Nat)) : Option (Nat × Nat) := match o, tag with
  | 0, some (t, 0) => bif Nat.beq t e then some (e, 0) else none
  | _, _ => none
def growV (σ : St) (e : Nat) (a : Addr) (len code esz : Nat) (old new : List Value) (n : Nat) : Option (Value × St) :=
  bif justOf code then
    some (.slice (some ⟨σ.next, 0, none⟩) (len + n) (codeAtLeast esz (len + n)), σ.push (.cells (old ++ new)) (some (e, 0)))
  else match σ.get a.block with
    | some { body := .cells c, chain, shut := false, tag } =>
      bif Nat.beq esz (eszOf code) && Nat.beq len (capOf code) && Nat.beq (a.off + len * esz) c.length && oneCells new then
        some (.slice (some ⟨σ.next, 0, none⟩) (len + n) (codeAtLeast esz (len + n)),
          { heap := (σ.heap.put a.block (some { body := .cells c, chain, shut := true })).put σ.next (some { body := .cells (old ++ new), chain := a.block :: chain, shut := false, tag := growTag a.off e tag }), next := σ.next + 1 })
      else none
    | _ => none
def appendV (σ : St) (ts : List TypeId) (args : List Value) : Option (Value × St) :=
  match ts, args with
  | [st, xt], [.slice base len code, x] =>
    match elemOf P st, P.underlying xt with
    | some _, some (.int _) => none
    | some e, some _ => match sizeOf P e, P.info? e with
      | some esz, some inf => match srcCells σ esz x with
        | none => none
        | some (new, n) =>
          bif roomOk esz (len + n) inf then
          bif Nat.ble (len + n) (capOf code) then
            match base with
            | none => some (.slice none (len + n) code, σ)
            | some a => match σ.write a.block (a.off + len * esz) new with
              | some σ' => some (.slice (some a) (len + n) code, σ')
              | none => none
          else match base with
            | none => some (.slice (some ⟨σ.next, 0, none⟩) (len + n) (codeAtLeast esz (len + n)), σ.push (.cells new) (some (e, 0)))
            | some a => match σ.cells a.block a.off (len * esz) with
              | none => none
              | some old => growV σ e a len code esz old new n
          else none
      | _, _ => none
    | _, _ => none
  | _, _ => none
def copyV (σ : St) (ts : List TypeId) (args : List Value) : Option (Value × St) :=
  match ts, args with
  | [st, _], [.slice base len _, x] =>
    match elemOf P st with
    | none => none
    | some e => match sizeOf P e with
      | none => none
      | some esz => match srcCells σ esz x with
        | none => none
        | some (new, n) =>
          let k := bif Nat.ble n len then n else len
          match base with
          | none => some (.int .i64 k, σ)
          | some a => match σ.write a.block a.off (new.take (k * esz)) with
            | some σ' => some (.int .i64 k, σ')
            | none => none
  | _, _ => none
def clearV (σ : St) (ts : List TypeId) (args : List Value) : Option (Value × St) :=
  match ts, args with
  | [t], [x] =>
    match P.underlying t, x with
    | some (.slice _), .slice none _ _ => some (undefV, σ)
    | some (.slice e), .slice (some a) n _ =>
      bif Nat.beq n 0 then some (undefV, σ) else
      match zeroOf P e with
      | none => none
      | some z => match σ.write a.block a.off (repeatCells (cellsOf z) n) with
        | some σ' => some (undefV, σ')
        | none => none
    | some (.map _ _), .map none => some (undefV, σ)
    | some (.map _ _), .map (some r) => match σ.get r with
      | some { body := .map _, chain := [], shut := false, tag := none } => some (undefV, { σ with heap := σ.heap.put r (some { body := .map [], chain := [], shut := false }) })
      | _ => none
    | _, _ => none
  | _, _ => none
def deleteV (σ : St) (ts : List TypeId) (args : List Value) : Option (Value × St) :=
  match ts, args with
  | [t, _], [x, k] =>
    match P.underlying t, x with
    | some (.map kt _), .map none => bif keyKind P kt k then some (undefV, σ) else none
    | some (.map kt _), .map (some r) =>
      bif keyKind P kt k then match σ.get r with
        | some { body := .map es, chain := [], shut := false, tag := none } => match mapDel k es with
          | some l => some (undefV, { σ with heap := σ.heap.put r (some { body := .map l, chain := [], shut := false }) })
          | none => none
        | _ => none else none
    | _, _ => none
  | _, _ => none
def minMax0 (mx : Bool) : List Value → Option Value
  | [] => none
  | x :: rest => go x rest
where go : Value → List Value → Option Value
  | x, [] => some x
  | .int k x, .int _ y :: rest => go (.int k (bif mx then (if y > x then y else x) else (if y < x then y else x))) rest
  | _, _ => none
def minMax (mx : Bool) (l : List Value) : Option Value := match l with
  | [.func (.yield 0) s _, y] => setOp (fun v => minMax0 mx [v, y]) s.toList
  | l => minMax0 mx l
def builtinV (σ : St) (b : Builtin) (ts : List TypeId) (args : List Value) : Option Out :=
  match b with
  | .append => wOut (appendV P σ ts args)
  | .len => match ts, args with
    | t :: _, x :: _ => vOut (lenV P σ t x)
    | _, _ => none
  | .cap => match ts, args with
    | t :: _, .slice _ _ c :: _ => match P.underlying t with
      | some (.slice _) => bif justOf c then some (.val (.int .i64 (capOf c : Nat))) else none
      | _ => none
    | _, _ => none
  | .copy => wOut (copyV P σ ts args)
  | .clear => wOut (clearV P σ ts args)
  | .delete => wOut (deleteV P σ ts args)
  | .min => vOut (minMax false args)
  | .max => vOut (minMax true args)
  | .recover => some .recover
  | _ => none
def enterV (f : Value) (args : List Value) : Option Out :=
  match f with
  | .func (.func f) first captured => some (.enter f (first.toList ++ args ++ captured.toList))
  | _ => none
def structFields (t : TypeId) : Option (List Field) := match P.underlying t with | some (.struct fs) => some fs.toList | _ => none
def placesOf : List Field → Option (List (Nat × Nat))
  | [] => some []
  | f :: fs => match sizeOf P f.type with
    | some n => match placesOf fs with
      | some l => some ((f.offset, n) :: l)
      | none => none
    | none => none
def fieldSpot (fs : List Field) (i : Nat) : Option (Nat × Nat) :=
  match fs[i]? with
  | some f => match sizeOf P f.type with
    | some n => some (f.offset, n)
    | none => none
  | none => none
def allocMk (t : TypeId) (z : Value) : Mk := match P.underlying t with
  | some (.struct _) => .ptrT t (cellsOf z).length
  | _ => .ptr
def boxV (t : TypeId) (ev : Ev) (x : Operand) : Option Out :=
  match ev x with
  | some z => some (.new (allocMk P t z) (.cells (cellsOf z)))
  | none => none
def allocV (t : TypeId) : Option Out :=
  match zeroOf P t with
  | some z => some (.new (allocMk P t z) (.cells (cellsOf z)))
  | none => none
def buildV (t : TypeId) (vs : List (Nat × Value)) : Option Value :=
  match zeroOf P t with
  | some z => match P.underlying t with
    | some (.struct fs) => match placesOf P fs.toList with
      | some pl => match fillParts (fun i => pl[i]?) (cellsOf z) vs with
        | some c => some (.agg ⟨c⟩)
        | none => none
      | none => none
    | some (.array _ e) => match sizeOf P e with
      | some n => match fillParts (fun i => some (i * n, n)) (cellsOf z) vs with
        | some c => some (.agg ⟨c⟩)
        | none => none
      | none => none
    | _ => none
  | none => none
def buildSliceV (t : TypeId) (len : Nat) (vs : List (Nat × Value)) : Option Out :=
  match elemOf P t with
  | some e => match sizeOf P e, zeroOf P e with
    | some n, some z => bif isSmall (len * (n + 1)) && Nat.beq (cellsOf z).length n then match fillParts (fun i => some (i * n, n)) (repeatCells (cellsOf z) len) vs with
      | some c => some (.new (.slice len (codeLit len)) (.cells c))
      | none => none else none
    | _, _ => none
  | none => none
def loadV (σ : St) (t : TypeId) (x : Value) : Option Value :=
  match x with
  | .pointer (some p) => loadVar P σ t p.block p.off
  | _ => none
def storeV (σ : St) (t : TypeId) (x z : Value) : Option St :=
  match x with
  | .pointer (some p) => storeVar P σ t p.block p.off z
  | _ => none
def nilCheckV (x : Value) : Option Value :=
  match x with
  | .pointer (some p) => some (.pointer (some p))
  | .func (.func f) x y => some (.func (.func f) x y)
  | _ => none
def makeInterfaceV (t : TypeId) (x : Value) : Option Value :=
  match P.underlying t with
  | some (.interface _) => none
  | some _ => some (.iface t x)
  | none => none
def makeSliceV (t : TypeId) (l c : Value) : Option Out :=
  match elemOf P t, l, c with
  | some e, .int _ (.ofNat l), .int _ (.ofNat c) => match sizeOf P e, zeroOf P e, P.info? e with
    | some n, some z, some i => bif isSmall (c * (n + 1)) && isSmall (c * (i.bytes + 1)) && Nat.ble l c && Nat.beq (cellsOf z).length n then
        some (.new (.slice l (codeJust c)) (.cells (repeatCells (cellsOf z) c))) else none
    | _, _, _ => none
  | _, _, _ => none
def fieldAddrV (t : TypeId) (x : Value) (f : Nat) : Option Value :=
  match x with
  | .pointer (some p) => match structFields P t with
    | some fs => match fieldSpot P fs f with
      | some (off, n) => bif Nat.beq n 0 then none else some (.pointer (some ⟨p.block, p.off + off, none⟩))
      | none => none
    | none => none
  | _ => none
def fieldV (t : TypeId) (x : Value) (f : Nat) : Option Value :=
  match x with
  | .agg cs => match structFields P t with
    | some fs => match fs[f]? with
      | some fd => part P fd.type cs.toList fd.offset
      | none => none
    | none => none
  | _ => none
def indexAddrV (t : TypeId) (x i : Value) : Option Value :=
  match i with
  | .int _ (.ofNat n) => match P.underlying t, x with
    | some (.slice e), .slice (some b) len _ => match sizeOf P e with
      | some sz => bif Nat.blt n len then some (.pointer (some ⟨b.block, b.off + n * sz, none⟩)) else none
      | none => none
    | some (.array len e), .pointer (some b) => match sizeOf P e with
      | some sz => bif Nat.blt n len then some (.pointer (some ⟨b.block, b.off + n * sz, none⟩)) else none
      | none => none
    | _, _ => none
  | _ => none
def indexV (t : TypeId) (x i : Value) : Option Value :=
  match i with
  | .int _ (.ofNat n) => match P.underlying t, x with
    | some (.array len e), .agg cs => match sizeOf P e with
      | some sz => bif Nat.blt n len then part P e cs.toList (n * sz) else none
      | none => none
    | some .string, .string s => match s.data.toList[n]? with
      | some b => some (.int .u8 b.toNat)
      | none => none
    | _, _ => none
  | _ => none
def mapEntries (σ : St) (m : Value) : Option (List (Value × Value)) :=
  match m with
  | .map none => some []
  | .map (some r) => match σ.get r with
    | some { body := .map es, .. } => some es
    | _ => none
  | _ => none
def okPair (ok : Bool) (x : Value) (b : Bool) : Value := bif ok then .tuple ⟨[x, .bool b]⟩ else x
def lookupV (σ : St) (t : TypeId) (m key : Value) (ok : Bool) : Option Value :=
  match P.underlying t with
  | some (.map kt e) => bif keyKind P kt key then match mapEntries σ m with
    | some es => match mapFind key es with
      | some (some x) => some (okPair ok x true)
      | some none => match zeroOf P e with
        | some z => some (okPair ok z false)
        | none => none
      | none => none
    | none => none else none
  | _ => none
def mapUpdateV (σ : St) (t : TypeId) (m key z : Value) : Option St :=
  match P.underlying t, m with
  | some (.map kt _), .map (some r) => bif keyKind P kt key then match σ.get r with
    | some { body := .map es, chain := [], shut := false, tag := none } => match mapSet key z es with
      | some l => some { σ with heap := σ.heap.put r (some { body := .map l, chain := [], shut := false }) }
      | none => none
    | _ => none else none
  | _, _ => none
def typeAssertV (x : Value) (t : TypeId) (ok : Bool) : Option Value :=
  match P.underlying t, x with
  | some (.interface _), _ => none
  | some _, .iface u y => bif Nat.beq u t then some (okPair ok y true) else
    bif ok then (match zeroOf P t with | some z => some (okPair true z false) | none => none) else none
  | some _, .nilIface => bif ok then (match zeroOf P t with | some z => some (okPair true z false) | none => none) else none
  | _, _ => none
def extractV (x : Value) (i : Nat) : Option Value :=
  match x with
  | .tuple vs => vs.toList[i]?
  | _ => none
def pickV (c x y : Option Value) : Option Value :=
  match c with
  | some (.bool true) => x
  | some (.bool false) => y
  | _ => none
def ev1 (x : Option Value) (f : Value → Option Out) : Option Out :=
  match x with
  | some v => f v
  | none => none
def opV (ev : Ev) (σ : St) (o : Oper) : Option Out :=
  match o.op with
  | .move x => vOut (ev x)
  | .assign x => vOut (ev x)
  | .pick c x y => vOut (pickV (ev c) (ev x) (ev y))
  | .alloc t => allocV P t
  | .box t x => boxV P t ev x
  | .build t ps => match evalParts ev ps.toList with
    | some vs => vOut (buildV P t vs)
    | none => none
  | .buildSlice t len ps => match evalParts ev ps.toList with
    | some vs => buildSliceV P t len vs
    | none => none
  | .load t x => ev1 (ev x) fun p => vOut (loadV P σ t p)
  | .store t x y => ev1 (ev x) fun p => ev1 (ev y) fun z => uOut (storeV P σ t p z)
  | .nilCheck x => ev1 (ev x) fun p => vOut (nilCheckV p)
  | .binOp op t x y _ => ev1 (ev x) fun p => ev1 (ev y) fun q => vOut (binV P op t p q)
  | .unOp op _ x => ev1 (ev x) fun p => vOut (unV op p)
  | .convert s d x => ev1 (ev x) fun p => convV P σ s d p
  | .makeInterface t x => ev1 (ev x) fun p => vOut (makeInterfaceV P t p)
  | .makeFunc fn first captured => match fn, evals ev first.toList, evals ev captured.toList with
    | .func f, some x, some y => some (.val (.func (.func f) ⟨x⟩ ⟨y⟩))
    | _, _, _ => none
  | .makeMap _ none => some (.new .map (.map []))
  | .makeSlice t l c => ev1 (ev l) fun p => ev1 (ev c) fun q => makeSliceV P t p q
  | .slice t x lo hi mx => ev1 (ev x) fun p => match evalOpt ev lo, evalOpt ev hi, evalOpt ev mx with
    | some l, some h, some m => vOut (sliceV P t p l h m)
    | _, _, _ => none
  | .fieldAddr t x f => ev1 (ev x) fun p => vOut (fieldAddrV P t p f)
  | .field t x f => ev1 (ev x) fun p => vOut (fieldV P t p f)
  | .indexAddr t x i => ev1 (ev x) fun p => ev1 (ev i) fun q => vOut (indexAddrV P t p q)
  | .index t x i => ev1 (ev x) fun p => ev1 (ev i) fun q => vOut (indexV P t p q)
  | .lookup t x k ok => ev1 (ev x) fun p => ev1 (ev k) fun q => vOut (lookupV P σ t p q ok)
  | .mapUpdate t x k y => ev1 (ev x) fun p => ev1 (ev k) fun q => ev1 (ev y) fun z => uOut (mapUpdateV P σ t p q z)
  | .typeAssert x _ t ok => ev1 (ev x) fun p => vOut (typeAssertV P p t ok)
  | .extract x i => ev1 (ev x) fun p => vOut (extractV p i)
  | .call { callee := .builtin b, args, argTypes } => match evals ev args.toList with
    | some vs => builtinV P σ b argTypes.toList vs
    | none => none
  | .call { callee := .value f, args, .. } => ev1 (ev f) fun g => match evals ev args.toList with
    | some vs => enterV g vs
    | none => none
  | .defer { callee := .value f, args, .. } => match ev f, evals ev args.toList with
    | some (.func (.func fn) first captured), some vs => some (.defer { target := .fn (.func fn) captured, args := ⟨first.toList ++ vs⟩ })
    | _, _ => none
  | .panic x => match ev x with
    | some (.iface t y) => some (.panic (.iface t y))
    | _ => none
  | _ => none

/-! ### a region that draws its order -/
inductive Kind where
  | pure | read | make | heavy
def kindOf : Op → Kind
  | .alloc _ | .box _ _ | .buildSlice _ _ _ | .makeMap _ _ | .makeSlice _ _ _ => .make
  | .load _ _ | .lookup _ _ _ _ | .convert _ _ _ | .call { callee := .builtin .len, .. } => .read
  | .move _ | .assign _ | .pick _ _ _ | .build _ _ | .nilCheck _ | .binOp _ _ _ _ _ | .unOp _ _ _ | .makeInterface _ _ | .makeFunc _ _ _
  | .slice _ _ _ _ _ | .fieldAddr _ _ _ | .field _ _ _ | .indexAddr _ _ _ | .index _ _ _ | .typeAssert _ _ _ _ | .extract _ _
  | .call { callee := .builtin .min, .. } | .call { callee := .builtin .max, .. } | .call { callee := .builtin .cap, .. } => .pure
  | _ => .heavy
def isHeavy (o : Oper) : Bool := match kindOf o.op with | .heavy => true | _ => false
def isRead (o : Oper) : Bool := match kindOf o.op with | .read => true | _ => false
def bitOf (i : Nat) : Nat := Nat.shiftLeft 1 i
def maskOf (ms : List Nat) : List Edge → Nat
  | [] => 0
  | e :: es => bif Region.binds .any e then Nat.lor (Nat.lor (bitOf e.on) (ms.getD e.on 0)) (maskOf ms es) else maskOf ms es
def edgesOk (i : Nat) : List Edge → Bool
  | [] => true
  | e :: es => (bif Region.binds .any e then Nat.blt e.on i else true) && edgesOk i es
/-- Of each operation: what must come before it. -/
def masksF : List Oper → Nat → List Nat → Option (List Nat)
  | [], _, ms => some ms
  | o :: os, i, ms => bif edgesOk i o.after.toList then masksF os (i + 1) (ms ++ [maskOf ms o.after.toList]) else none
def readsOf (ops : List Oper) (o : Oper) : List Nat :=
  (o.op.operands.toList.filterMap fun x => match x with | .tmp t => some t | _ => none) ++
  match o.guard with
  | some (j, _) => match ops[j]? with
    | some g => match g.dst with | some d => [d] | none => []
    | none => []
  | none => []
def sub (m n : Nat) : Bool := Nat.beq (Nat.land m n) m
/-- Those of a mask that have not been listed, in the order of the text. -/
def emitF (want done : Nat) : List (Nat × Nat) → List (Nat × Nat)
  | [] => []
  | (i, m) :: rest => bif Nat.testBit want i && !(Nat.testBit done i) then (i, m) :: emitF want done rest else emitF want done rest
def genF (all : List (Nat × Nat)) (done : Nat) : List (Nat × Nat × Bool) → List (Nat × Nat)
  | [] => emitF (Nat.shiftLeft 1 all.length - 1) done all
  | (i, m, h) :: rest => bif h then emitF m done all ++ (i, m) :: genF all (Nat.lor m (bitOf i)) rest else genF all done rest
def zipF : List Oper → List Nat → Nat → List (Nat × Nat × Bool)
  | o :: os, m :: ms, i => (i, m, isHeavy o) :: zipF os ms (i + 1)
  | _, _, _ => []
/-- The order in which the abstract machine goes: what is made, or read, comes as late as may be. -/
def orderOf (ops : List Oper) (ms : List Nat) : List (Nat × Nat) :=
  let z := zipF ops ms 0
  genF (z.map fun x => (x.1, x.2.1)) 0 z
def heavyOk (o : Oper) (m seen : Nat) : Bool := bif isHeavy o then Nat.beq m seen else true
def checkOrder (ops : List Oper) (ms : List Nat) : List (Nat × Nat) → Nat → Option Nat
  | [], seen => some seen
  | (i, m) :: rest, seen =>
    match ops[i]?, ms[i]? with
    | some o, some m' =>
      bif Nat.beq m m' && !(Nat.testBit seen i) && sub m seen && heavyOk o m seen then checkOrder ops ms rest (Nat.lor seen (bitOf i)) else none
    | _, _ => none
/-- A slot that one operation writes and another one names: their order is fixed; nothing is written twice. -/
def slotOk (ms : List Nat) (i j : Nat) (o p : Oper) (reads : List Nat) : Bool :=
  match p.dst with
  | none => true
  | some d => Nat.beq i j || ((bif reads.elem d then Nat.testBit (ms.getD i 0) j || Nat.testBit (ms.getD j 0) i else true) &&
      match o.dst with | some e => !(Nat.beq e d) | none => true)
def slotsWith (ms : List Nat) (i : Nat) (o : Oper) (reads : List Nat) : List Oper → Nat → Bool
  | [], _ => true
  | p :: ps, j => slotOk ms i j o p reads && slotsWith ms i o reads ps (j + 1)
def slotsOk (ops : List Oper) (ms : List Nat) : List Oper → Nat → Bool
  | [], _ => true
  | o :: os, i => slotsWith ms i o (readsOf ops o) ops 0 && slotsOk ops ms os (i + 1)
def planOf (ops : List Oper) : Option (List (Nat × Nat)) :=
  match masksF ops 0 [] with
  | none => none
  | some ms => match checkOrder ops ms (orderOf ops ms) 0 with
    | some seen => bif Nat.beq seen (Nat.shiftLeft 1 ops.length - 1) && slotsOk ops ms ops 0 then some (orderOf ops ms) else none
    | none => none
def beqAddr (a b : Addr) : Bool := Nat.beq a.block b.block && Nat.beq a.off b.off && a.spot.isNone && b.spot.isNone
def beqOpt : Option Addr → Option Addr → Bool
  | none, none => true
  | some a, some b => beqAddr a b
  | _, _ => false
def flatEq : Value → Value → Bool
  | .bool a, .bool b => a == b
  | .int j a, .int k b => j == k && a == b
  | .string a, .string b => bytesEq a.data.toList b.data.toList
  | .pointer a, .pointer b => beqOpt a b
  | .slice a l c, .slice b m d => beqOpt a b && Nat.beq l m && Nat.beq c d
  | .map none, .map none => true
  | .map (some a), .map (some b) => Nat.beq a b
  | .nilFunc, .nilFunc => true
  | .nilIface, .nilIface => true
  | _, _ => false
def flatEqs : List Value → List Value → Bool
  | [], [] => true
  | x :: xs, y :: ys => flatEq x y && flatEqs xs ys
  | _, _ => false
def valueEq : Value → Value → Bool
  | .agg xs, .agg ys => flatEqs xs.toList ys.toList
  | .tuple xs, .tuple ys => flatEqs xs.toList ys.toList
  | x, y => flatEq x y
def Act.put (a : Act) (d : Option Nat) (x : Value) : Option Act :=
  match d with
  | none => some a
  | some t => bif Nat.blt t a.size then some { a with tmps := a.tmps.put t (some x) } else none
def wantedV (ops : List Oper) (a : Act) (o : Oper) : Option Bool :=
  match o.guard with
  | none => some true
  | some (j, want) => match ops[j]? with
    | some g => match g.dst with
      | some d => match a.look d with
        | .bool b => some (b == want)
        | _ => some false
      | none => some false
    | none => some false
def resultsV (σ : St) (a : Act) : List ResultVar → Option (List Value)
  | [] => some []
  | .tmp t :: rs => match resultsV σ a rs with | some vs => some (a.look t :: vs) | none => none
  | .cell p t :: rs => match a.look p with
    | .pointer (some q) => match loadVar P σ t q.block q.off with
      | some v => match resultsV σ a rs with | some vs => some (v :: vs) | none => none
      | none => none
    | _ => none
def oneOrTuple : List Value → Value
  | [v] => v
  | vs => .tuple ⟨vs⟩
/-- Contracts of functions that are not walked. -/
structure Prims where
  find : FuncId → List Value → St → Option (Option (Value × St))
  ext : FuncId → List Value → Option Value
  run : FuncId    -- it calls a function, and catches what that one refuses
  refusal : TypeId
variable (X : Prims)
inductive CRes where
  | ret (v : Value) (σ : St)
  | panic (v : Value) (σ : St)
abbrev Caller := FuncId → List Value → St → Option CRes
abbrev Res := Option (Exit × Act × St)
def put1 (a : Act) (σ : St) (d : Option Nat) (v : Value) (k : Act → St → Res) : Res :=
  match a.put d v with
  | some a' => k a' σ
  | none => none
def opsF (call : Caller) (all : List Oper) : List Oper → Act → St → Res
  | [], a, σ => some (.normal, a, σ)
  | o :: rest, a, σ => match wantedV all a o with
    | some true => match opV P a.eval σ o with
      | some (.val v) => put1 a σ o.dst v (opsF call all rest)
      | some (.new mk b) => put1 a (σ.push b mk.tag) o.dst (mk.val σ.next) (opsF call all rest)
      | some (.upd v σ') => put1 a σ' o.dst v (opsF call all rest)
      | some (.enter f args) => match X.ext f args with
        | some v => put1 a σ o.dst v (opsF call all rest)
        | none => match call f args σ with
          | some (.ret v σ') => put1 a σ' o.dst v (opsF call all rest)
          | some (.panic v σ') => some (.panic v, a, σ')
          | none => none
      | some (.defer d) => put1 { a with defers := d :: a.defers } σ o.dst undefV (opsF call all rest)
      | some (.panic v) => some (.panic v, a, σ)
      | _ => none
    | some false => put1 a σ o.dst undefV (opsF call all rest)
    | none => none
def seenSame (ev : Ev) (o : Oper) (m : Nat) (v : Value) : List (Nat × St) → Bool
  | [] => true
  | (h, σ) :: rest => (bif Nat.testBit m h then true else match opV P ev σ o with | some (.val u) => valueEq u v | _ => false) && seenSame ev o m v rest
def readOk (ev : Ev) (o : Oper) (m : Nat) (v : Value) (hist : List (Nat × St)) : Bool := bif isRead o then seenSame P ev o m v hist else true
/-- Where the machine stands within a region that draws: b: as it was behind the last heavy operation; hist: ahead of each heavy one. -/
structure DS where
  a : Act
  σ : St
  b : St
  hist : List (Nat × St)
def isMake (o : Oper) : Bool := match kindOf o.op, o.guard with | .make, none => true | _, _ => false
def noteS (x : Option Blk) (k : Nat) (τ : St) : St := { τ with heap := τ.heap.put k x }
/-- What has been made counts as made ahead of the heavy ones too. -/
def noteF (x : Option Blk) (k : Nat) : List (Nat × St) → List (Nat × St)
  | [] => []
  | (h, τ) :: rest => (h, noteS x k τ) :: noteF x k rest
def DS.on (base : Nat) (s : DS) (i : Nat) (o : Oper) (σ : St) (v : Value) : Option DS :=
  match s.a.put o.dst v with
  | some a' => some (bif isHeavy o then { a := a', σ, b := σ, hist := (i, s.b) :: s.hist } else { a := a', σ, b := s.b, hist := bif isMake o then noteF (σ.get (base + i)) (base + i) s.hist else s.hist })
  | none => none
def stepD (call : Caller) (all : List Oper) (base i m : Nat) (s : DS) : Option DS :=
  match all[i]? with
  | none => none
  | some o => match wantedV all s.a o with
    | some false => s.on base i o s.σ undefV
    | some true => match opV P s.a.eval s.σ o with
      | some (.val v) => bif (!isHeavy o) && readOk P s.a.eval o m v s.hist then s.on base i o s.σ v else none
      | some (.new mk b) => bif isHeavy o || (s.σ.get (base + i)).isSome then none else s.on base i o { s.σ with heap := s.σ.heap.put (base + i) (some { body := b, chain := [], shut := false }) } (mk.val (base + i))
      | some (.upd v σ') => bif isHeavy o then s.on base i o σ' v else none
      | some (.enter f args) => bif isHeavy o then (match X.ext f args with
        | some v => s.on base i o s.σ v
        | none => match call f args s.σ with
          | some (.ret v σ') => s.on base i o σ' v
          | _ => none) else none
      | _ => none
    | none => none
def runD (call : Caller) (all : List Oper) (base : Nat) : List (Nat × Nat) → DS → Option DS
  | [], s => some s
  | (i, m) :: rest, s => match stepD P X call all base i m s with
    | some s' => runD call all base rest s'
    | none => none
def drawn (call : Caller) (all : List Oper) (a : Act) (σ : St) : Res :=
  match planOf all with
  | none => none
  | some plan => match runD P X call all σ.next plan { a, σ := { σ with next := σ.next + all.length }, b := { σ with next := σ.next + all.length }, hist := [] } with
    | some s => some (.normal, s.a, s.σ)
    | none => none
def tmpsOf (args : List Value) : Tr Value := Tr.ofListF args 0 .leaf
def bodyF (run : Code → Act → St → Res) (fn : Func) (args : List Value) (σ : St) : Option CRes :=
  match fn.body with
  | none => none
  | some c => match run c { tmps := tmpsOf args, size := max fn.ntmps args.length, defers := [] } σ with
    | some (e, a, σ') => match a.defers with
      | [] => match e with
        | .normal => retF σ' a fn.results.toList
        | .ret => retF σ' a fn.results.toList
        | .panic v => some (.panic v σ')
        | .exit _ => none
      | _ => none
    | none => none
where retF (σ : St) (a : Act) (rs : List ResultVar) : Option CRes :=
  match resultsV P σ a rs with
  | some vs => some (.ret (oneOrTuple vs) σ)
  | none => none
def runCall (call : Caller) (args : List Value) (σ : St) : Option CRes :=
  match args with
  | [.func (.func g) first captured] => match call g (first.toList ++ captured.toList) σ with
    | some (.ret _ σ') => some (.ret (.int .i64 0) σ')
    | some (.panic (.iface t (.agg cs)) σ') => bif Nat.beq t X.refusal then (match cs.toList with | [.int .i64 n] => some (.ret (.int .i64 n) σ') | _ => none) else none
    | _ => none
  | _ => none
mutual
def exec : Nat → Code → Act → St → Res
  | 0, _, _, _ => none
  | n + 1, c, a, σ => match c with
    | .skip => some (.normal, a, σ)
    | .region _ ops false => opsF P X (call n) ops.toList ops.toList a σ
    | .region _ ops true => drawn P X (call n) ops.toList a σ
    | .seq x y => match exec n x a σ with
      | some (.normal, a', σ') => exec n y a' σ'
      | r => r
    | .cond c x y => match a.eval c with
      | some (.bool true) => exec n x a σ
      | some (.bool false) => exec n y a σ
      | _ => none
    | .block id x => match exec n x a σ with
      | some (.exit j, a', σ') => bif Nat.beq j id then some (.normal, a', σ') else some (.exit j, a', σ')
      | r => r
    | .loop x => match exec n x a σ with
      | some (.normal, a', σ') => exec n (.loop x) a' σ'
      | r => r
    | .exit id => some (.exit id, a, σ)
    | .ret => some (.ret, a, σ)
    | _ => none
def call : Nat → Caller
  | 0, _, _, _ => none
  | n + 1, f, args, σ => match X.find f args σ with
    | some (some (v, σ')) => some (.ret v σ')
    | some none => none
    | none => bif Nat.beq f X.run then runCall X (call n) args σ else
      match P.funcs[f]? with
      | some fn => bodyF P (exec n) fn args σ
      | none => none
end
end
end
end Go.AM
