/- Loops whose rounds are walked for any rest of the code and any end. -/
import Derived.Test.YtgbdndlmdklefaaGreatHK10
set_option linter.unusedSimpArgs false
set_option linter.unusedVariables false
namespace Go.Mu
open Go Go.Conc
def Code.first:Code→Nat
 | .region id _ _=>id+1
 | .seq a _=>Code.first a
 | .block _ a=>Code.first a
 | .loop a=>Code.first a
 | .scope a=>Code.first a
 | _=>0
def Code.iw(n:Nat):Code→Option Code
 | .seq a b=>match Code.iw n a with
  | some c=>some c
  | none=>Code.iw n b
 | .cond _ a b=>match Code.iw n a with
  | some c=>some c
  | none=>Code.iw n b
 | .block _ a=>Code.iw n a
 | .scope a=>Code.iw n a
 | .loop a=>if Nat.beq (Code.first a) (n+1) then some a else Code.iw n a
 | .rangeFunc _ _ a b=>match Code.iw n a with
  | some c=>some c
  | none=>Code.iw n b
 | _=>none
def bW(f:Func)(n:Nat):Code:=match f.body with
 | some c=>match Code.iw n c with
  | some d=>d
  | none=> .skip
 | none=> .skip
end Go.Mu
