import Derived.Test.YtmgpnomphfeoiaaGreatDoorAmOwn
import Derived.Test.YtmgpnomphfeoiaaGreatDoorAmExtern
import Derived.Test.YtmgpnomphfeoiaaGreatDoorBuildT
import Derived.Test.YtmgpnomphfeoiaaGreatDoorProg
set_option linter.all false
namespace Go.AM
noncomputable section
open Go.Proofs
def strIters : List Nat := [139, 174, 222, 236]
def XFind (f : FuncId) (args : List Value) (σ : St) : Option (Option (Value × St)) :=
  match Nat.beq f 88 with
  | true => match args with | [g] => some (sortedKeys strIters σ g) | _ => some none
  | false => match Nat.beq f 150 with
    | true => match args with | [g] => some (sortedInts [183] σ g) | _ => some none
    | false => match Nat.beq f 137 with
      | true => match args with | [g] => some (oneKey strIters σ g) | _ => some none
      | false => match Nat.beq f 170 with
        | true => insertV σ args
        | false => match Nat.beq f 106 with
          | true => match args with | [p] => some (copyCheckV [136, 138] σ p) | _ => some none
          | false => match Nat.beq f 57 with
            | true => match args with | [p] => some (builderStrV 5 σ p) | _ => some none
            | false => none
def XExt (f : FuncId) (args : List Value) : Option Value :=
  match Nat.beq f 226 with
  | true => match args with
    | [.string s, .int .u8 (.ofNat c)] => match Nat.ble c 255 with | true => some (.int .i64 (Int.ofNat (cntByte c s.data.toList 0))) | false => none
    | _ => none
  | false => match Nat.beq f 258 with
    | true => match args with
      | [.string s, .int .u8 (.ofNat c)] => match Nat.ble c 255 with | true => some (.int .i64 (idxByte c s.data.toList 0)) | false => none
      | _ => none
    | false => none
def X : Prims := { find := XFind, ext := XExt, run := 55, refusal := 195 }
def σ0 : St := { heap := .leaf, next := 0 }
def okB (r : Option CRes) : Bool := match r with | some (.ret (.bool true) _) => true | _ => false
end
end Go.AM
