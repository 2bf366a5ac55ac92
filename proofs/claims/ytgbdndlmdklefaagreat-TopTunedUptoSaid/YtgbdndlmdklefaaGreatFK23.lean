/- Guarded calls that compute alone, in drawn regions. -/
import Derived.Test.YtgbdndlmdklefaaGreatFK10
set_option linter.unusedSimpArgs false
set_option linter.unusedVariables false
namespace Go.Mu
open Go
def guardP(E:Env)(all:List Oper)(L:List (Nat×List Nat))(dst:Option Tmp)(fr:Fr)(Q:Fr→List AObj→Prop)(σ:List AObj)(op:Op)(want:Bool)(v:Option AV):Prop:=match v with
 | some (.bool b)=>((b==want)=true→evPc E fr σ op (evNextD E all [] L dst fr Q))∧((b==want)=false→evNextD E all [] L dst fr Q (.tup []) σ)
 | some (.tup [])=>evNextD E all [] L dst fr Q (.tup []) σ
 | _=>False
section
variable {E:Env}{all:List Oper}{L:List (Nat×List Nat)}{dst:Option Tmp}{fr:Fr}{Q:Fr→List AObj→Prop}{σ:List AObj}{op:Op}{want:Bool}
theorem guardP_tt:guardP E all L dst fr Q σ op true (some (.bool true))=evPc E fr σ op (evNextD E all [] L dst fr Q):=by simp[guardP]
theorem guardP_ft:guardP E all L dst fr Q σ op true (some (.bool false))=evNextD E all [] L dst fr Q (.tup []) σ:=by simp[guardP]
theorem evDp_guardP{type:TypeId}{pos:String}{after:Array Edge}{j:Nat}:evDp E all L fr σ Q (some ⟨dst,op,type,pos,after,some (j,want)⟩)=guardP E all L dst fr Q σ op want (getO fr (dstOf all j)):=by
 simp only[evDp,wantA,dstOf_eq]
 cases dstOf all j with
 | none=>rfl
 | some d=>
  simp only[getO]
  cases fr.get d with
  | none=>rfl
  | some v=>
   cases v with
   | bool b=>rfl
   | tup vs=>cases vs<;> simp[guardP]
   | _=>rfl
end
attribute [go_sem ↓] evDp_guardP
attribute [go_sem] guardP_tt guardP_ft
end Go.Mu
