/- Guarded calls that compute alone, in drawn regions. -/
import Derived.Test.YtgbdndlmdklefaaGreatHK10
set_option linter.unusedSimpArgs false
set_option linter.unusedVariables false
namespace Go.Mu
open Go
def nj(E:Env)(all:List Oper)(L:List (Nat×List Nat))(dst:Option Tmp)(fr:Fr)(Q:Fr→List aa→Prop)(σ:List aa)(op:Op)(want:Bool)(v:Option AV):Prop:=match v with
 | some (.bool b)=>((b==want)=true→nI E fr σ op (br E all [] L dst fr Q))∧((b==want)=false→br E all [] L dst fr Q (.tup []) σ)
 | some (.tup [])=>br E all [] L dst fr Q (.tup []) σ
 | _=>False
section
variable {E:Env}{all:List Oper}{L:List (Nat×List Nat)}{dst:Option Tmp}{fr:Fr}{Q:Fr→List aa→Prop}{σ:List aa}{op:Op}{want:Bool}
theorem FQ:nj E all L dst fr Q σ op true (some (.bool true))=nI E fr σ op (br E all [] L dst fr Q):=by simp[nj]
theorem G7:nj E all L dst fr Q σ op true (some (.bool false))=br E all [] L dst fr Q (.tup []) σ:=by simp[nj]
theorem BH{type:TypeId}{pos:String}{after:Array Edge}{j:Nat}:lH E all L fr σ Q (some ⟨dst,op,type,pos,after,some (j,want)⟩)=nj E all L dst fr Q σ op want (pI fr (dC all j)):=by
 simp only[lH,bK,lK]
 cases dC all j with
 | none=>rfl
 | some d=>
  simp only[pI]
  cases fr.get d with
  | none=>rfl
  | some v=>
   cases v with
   | bool b=>rfl
   | tup vs=>cases vs<;> simp[nj]
   | _=>rfl
end
attribute [go_sem ↓] BH
attribute [go_sem] FQ G7
end Go.Mu
