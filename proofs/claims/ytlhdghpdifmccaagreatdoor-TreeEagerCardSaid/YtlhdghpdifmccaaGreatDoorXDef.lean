import Derived.Test.YtlhdghpdifmccaaGreatDoorAmOwn
import Derived.Test.YtlhdghpdifmccaaGreatDoorAmExtern
import Derived.Test.YtlhdghpdifmccaaGreatDoorProg
set_option linter.all false
namespace Go.AM
noncomputable section
open Go.Proofs
def strIters : List Nat := [127, 128, 200]
def XFind (f : FuncId) (args : List Value) (σ : St) : Option (Option (Value × St)) :=
  match Nat.beq f 74 with
  | true => match args with | [g] => some (sortedKeys strIters σ g) | _ => some none
  | false => match Nat.beq f 71 with
    | true => match args with | [g] => some (sortedInts [122] σ g) | _ => some none
    | false => match Nat.beq f 125 with
      | true => match args with | [g] => some (oneKey strIters σ g) | _ => some none
      | false => match Nat.beq f 148 with
        | true => insertV σ args
        | false => none
def XExt (f : FuncId) (args : List Value) : Option Value :=
  match Nat.beq f 232 with
  | true => match args with
    | [.string s, .int .u8 (.ofNat c)] => match Nat.ble c 255 with | true => some (.int .i64 (Int.ofNat (cntByte c s.data.toList 0))) | false => none
    | _ => none
  | false => match Nat.beq f 243 with
    | true => match args with
      | [.string s, .int .u8 (.ofNat c)] => match Nat.ble c 255 with | true => some (.int .i64 (idxByte c s.data.toList 0)) | false => none
      | _ => none
    | false => none
def X : Prims := { find := XFind, ext := XExt, run := 194, refusal := 308 }
def σ0 : St := { heap := .leaf, next := 0 }
def okB (r : Option CRes) : Bool := match r with | some (.ret (.bool true) _) => true | _ => false
end
end Go.AM
