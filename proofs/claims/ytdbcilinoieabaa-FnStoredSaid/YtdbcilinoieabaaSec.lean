/- The rest of a function's code from one of its statements on, taken out by a function: for laws that are walked in several declarations. Nothing here speaks of the program. -/
import Derived.Test.YtdbcilinoieabaaBase
namespace Go.Proofs.Ytdbcilinoieabaa
def headIs (k : Nat) : Go.Code → Bool
  | .region id _ _ => id == k
  | .seq a _ => headIs k a
  | _ => false
def codeTail (k : Nat) : Go.Code → Option Go.Code
  | .seq a b => match codeTail k b with
    | some c => some c
    | none => if headIs k a then some (.seq a b) else codeTail k a
  | .block _ c => codeTail k c
  | .loop c => codeTail k c
  | .cond _ a b => match codeTail k a with
    | some c => some c
    | none => codeTail k b
  | .scope c => codeTail k c
  | _ => none
end Go.Proofs.Ytdbcilinoieabaa
