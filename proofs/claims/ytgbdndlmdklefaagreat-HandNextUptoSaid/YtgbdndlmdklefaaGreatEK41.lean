/- Weakening inside of lists. -/
import Derived.Test.YtgbdndlmdklefaaGreatEK18
import Derived.Test.YtgbdndlmdklefaaGreatEK10
set_option linter.unusedSimpArgs false
set_option linter.unusedVariables false
namespace Go.Mu
open Go Go.Conc
def WeakL:List AV→List AV→Prop
 | [],[]=>True
 | a::as,b::bs=>Weak a b∧WeakL as bs
 | _,_=>False
theorem WeakL.len:∀{l l':List AV},WeakL l l'→l.length=l'.length
 | [],[],_=>rfl
 | _::_,_::_,h=>by simp only[List.length_cons,WeakL.len h.2]
 | [],_::_,h=>h.elim
 | _::_,[],h=>h.elim
theorem WeakL.at:∀{l l':List AV},WeakL l l'→∀i (h:i<l.length) (h':i<l'.length),Weak (l[i]) (l'[i])
 | _::_,_::_,h,0,_,_=>h.1
 | _::_,_::_,h,i+1,a,b=>by simpa using WeakL.at h.2 i (by simpa using a) (by simpa using b)
 | [],[],_,_,a,_=>by simp at a
 | [],_::_,h,_,_,_=>h.elim
 | _::_,[],h,_,_,_=>h.elim
theorem VRs.weakW{K:Kr}{n:Nat}{l l':List AV}{c:List Value}(h:VRs K n l c)(hw:WeakL l l'):VRs K n l' c:=
 ⟨by rw[← hw.len];exact h.1,fun i a b=>hw.at i (by rw[hw.len];exact a) a K n _ (h.2 i (by rw[hw.len];exact a) b)⟩
section
variable {α β γ δ:Type}{P:Program}{S:MC P}{n:FuncId}
end
end Go.Mu
