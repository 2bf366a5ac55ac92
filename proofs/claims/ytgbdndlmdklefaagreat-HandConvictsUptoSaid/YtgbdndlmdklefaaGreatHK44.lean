/- What arguments of this seat read as, and their bulk. -/
import Derived.Test.YtgbdndlmdklefaaGreatHK13
import Derived.Test.YtgbdndlmdklefaaGreatHK43
import Derived.Test.YtgbdndlmdklefaaGreatRows
import Derived.WalkKit
import Derived.ProofKit
import Derived.OpenShut
import Derived.JoinedCond
set_option linter.unusedVariables false
set_option maxRecDepth 100000
namespace Go.Proofs.YtgbdndlmdklefaaGreat
open Go.ChangeShapes Go.WideShapes Go.ChangeAt Go.RowKit Go.Mu
theorem own:ownKnob Tryz.prog.godebug=none:=by kernel_rfl
theorem laid:laidOutB Tryz.prog=true:=by kernel_rfl
theorem J3{H:Type}(d:DataW H):1≤Rows.uptoBulk d:=by
 cases d with
 | lit l=>cases l<;> simp[Rows.uptoBulk]
 | nil=>simp[Rows.uptoBulk]
 | ptr d=>simp[Rows.uptoBulk]
 | slice elems spare=>simp[Rows.uptoBulk]
 | agg parts=>simp[Rows.uptoBulk]
 | iface t d=>simp[Rows.uptoBulk]
 | map entries=>simp[Rows.uptoBulk]
 | held h=>simp[Rows.uptoBulk]
theorem eX{H:Type}{d:DataW H}{l:List (DataW H)}(h:d∈l):Rows.uptoBulk d≤Rows.uptoBulkAll l:=by
 induction l with
 | nil=>cases h
 | cons x r ih=>
  simp only[Rows.uptoBulkAll]
  cases List.mem_cons.1 h with
  | inl e=>subst e;omega
  | inr e=>have:=ih e;omega
theorem xM{H:Type}(l:List (DataW H)):l.length≤Rows.uptoBulkAll l:=by
 induction l with
 | nil=>simp[Rows.uptoBulkAll]
 | cons x r ih=>have:=J3 x;simp only[Rows.uptoBulkAll,List.length_cons];omega
theorem my{H α:Type}{l:List α}{d:DataW H}(h:oT l d):l.length≤Rows.uptoBulk d:=by
 rcases h with⟨rfl,rfl⟩ | ⟨els,sp,rfl,e⟩
 ·simp
 ·simp only[Rows.uptoBulk]
  have:=xM els
  omega
theorem Df{H:Type}{l:List (DataW H)}(hk:Rows.uptoSmall H l=true):Rows.uptoBulkAll l≤1048576:=of_decide_eq_true hk
theorem EC{H:Type}(enc:TypeId×Value→H)(W:World):bf H enc Tryz.prog W 22 (fun l:List Int=>[AV.list .no 1 (l.map (AV.int .i64))]) oT:=
 iG (g:=AV.int .i64) (D:=fun n d=>d= .lit (.int .i64 n)∧(Lit.int .i64 n).wf=true) (e:=3) (by kernel_rfl) (by kernel_rfl) (by decide) (rf (by kernel_rfl))
end Go.Proofs.YtgbdndlmdklefaaGreat
