/- The sorted keys of a map, over an abstract heap: what the library's function answers. Conditions: none. -/
import Derived.Test.YtcgoamfjpnkiiaaGreatAbU
set_option linter.all false
namespace Go.Ab
noncomputable section
open Go.RowKit

def insZ (x : Int) : List Int → List Int
  | [] => [x]
  | y :: ys => cond (decide (x ≤ y)) (x :: y :: ys) (y :: insZ x ys)

def isort : List Int → List Int
  | [] => []
  | x :: xs => insZ x (isort xs)

def keysZ : List MapEntry → Option (List Int)
  | [] => some []
  | e :: es => match e.key, keysZ es with
    | .int .i64 x, some l => cond (decide (-9223372036854775808 ≤ x) && decide (x ≤ 9223372036854775807)) (some (x :: l)) none
    | _, _ => none

def apartZ : List Int → Bool
  | [] => true
  | x :: xs => xs.all (fun y => !decide (x = y)) && apartZ xs

def apartN : List Nat → Bool
  | [] => true
  | x :: xs => xs.all (fun y => !Nat.beq x y) && apartN xs

def okMap (es : List MapEntry) (clock : Nat) (ks : List Int) : Bool :=
  es.all (fun e => Nat.blt e.born clock) && apartN (es.map (·.born)) && apartZ ks && Nat.ble es.length 1000000

def sortedF (gs : List FuncId) (tag : TypeId) : FunA := fun args h =>
  match args with
  | [.func (.func g) first caps] => cond (gs.any (Nat.beq g) && first.toList.isEmpty) (match caps.toList with
    | [.pointer (some ⟨c, 0, none⟩)] => match h.get c with
      | some (.cells [.map none] _ false) => some (.slice none 0 0, h)
      | some (.cells [.map (some m)] _ false) => match h.get m with
        | some (.map es clock _) => match keysZ es with
          | some ks => cond (okMap es clock ks) (match isort ks with
            | [] => some (.slice none 0 0, h)
            | l => some (.slice (some ⟨h.n, 0, none⟩) l.length (UNK + 1), h.new (.cells (l.map fun x => .int .i64 x) tag false))) none
          | none => none
        | _ => none
      | _ => none
    | _ => none) none
  | _ => none
end
end Go.Ab
