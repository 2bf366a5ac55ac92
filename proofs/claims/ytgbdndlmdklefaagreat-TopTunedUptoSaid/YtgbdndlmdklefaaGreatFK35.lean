/- Weakening inside of lists. -/
import Derived.Test.YtgbdndlmdklefaaGreatFK17
import Derived.Test.YtgbdndlmdklefaaGreatFK10
set_option linter.unusedSimpArgs false
set_option linter.unusedVariables false
namespace Go.Mu
open Go Go.Conc
theorem Weak.list{t:Tok}{sz:Nat}{xs ys:List AV}(hl:xs.length=ys.length)(hc:∀i (h:i<xs.length) (h':i<ys.length),(xs[i]).cells.length=(ys[i]).cells.length)
  (h:∀i (h:i<xs.length) (h':i<ys.length) j (g:j<(xs[i]).cells.length) (g':j<(ys[i]).cells.length),Weak ((xs[i]).cells[j]) ((ys[i]).cells[j])):Weak (.list t sz xs) (.list .no sz ys):=fun K n c hv=>by
 cases hv with
 | list _ _ _ a cap f hl' ht ha hs h1 h2=>
  rw[hl]
  refine .list .no sz ys a cap f (by omega) trivial (fun hne=>?_) (fun i hi=>?_) (fun i j hi hj=>h1 i j (by omega) hj) fun i j hi hj=>?_
  ·obtain⟨b,o,h3,h4⟩:=ha (fun e=>hne (List.length_eq_zero_iff.1 (by rw[← hl,e];rfl)))
   exact⟨b,o,h3,fun i j hi hj=>h4 i j (by omega) hj⟩
  ·rw[← hc i (by omega) hi];exact hs i (by omega)
  ·have e:=hc i (by omega) hi
   exact h i (by omega) hi j (by omega) hj K n _ (h2 i j (by omega) (by omega))
def WeakL:List AV→List AV→Prop
 | [],[]=>True
 | a::as,b::bs=>Weak a b∧WeakL as bs
 | _,_=>False
theorem WeakL.len:∀{l l':List AV},WeakL l l'→l.length=l'.length
 | [],[],_=>rfl
 | _::_,_::_,h=>by simp only[List.length_cons,WeakL.len h.2]
 | [],_::_,h=>h.elim
 | _::_,[],h=>h.elim
theorem WeakL.at:∀{l l':List AV},WeakL l l'→∀i (h:i<l.length) (h':i<l'.length),Weak (l[i]) (l'[i])
 | _::_,_::_,h,0,_,_=>h.1
 | _::_,_::_,h,i+1,a,b=>by simpa using WeakL.at h.2 i (by simpa using a) (by simpa using b)
 | [],[],_,_,a,_=>by simp at a
 | [],_::_,h,_,_,_=>h.elim
 | _::_,[],h,_,_,_=>h.elim
theorem VRs.weakW{K:Kr}{n:Nat}{l l':List AV}{c:List Value}(h:VRs K n l c)(hw:WeakL l l'):VRs K n l' c:=
 ⟨by rw[← hw.len];exact h.1,fun i a b=>hw.at i (by rw[hw.len];exact a) a K n _ (h.2 i (by rw[hw.len];exact a) b)⟩
theorem ACalls.weakW{P:Program}{S:MC P}{f:FuncId}{l l':List AV}{σ:List AObj}{Q:AV→List AObj→Prop}(h:WeakL l l')(h0:ACalls S f l' σ Q):ACalls S f l σ Q:=
 ⟨h0.1,fun M hM K w V cargs kd cs hR hO hV=>h0.2 M hM K w V cargs kd cs hR hO (hV.weakW h)⟩
section
variable {α β γ δ:Type}{P:Program}{S:MC P}{n:FuncId}
end
theorem Weak.nil{t:Tok}{sz sz':Nat}:Weak (.list t sz []) (.list .no sz' []):=fun K n c hv=>by
 cases hv with
 | list _ _ _ a cap f hl' ht ha hs h1 h2=>
  exact .list .no sz' [] a cap f (Nat.zero_le _) trivial (fun h=>absurd rfl h) (fun i hi=>absurd hi (by simp)) (fun i j hi=>absurd hi (by simp)) fun i j hi=>absurd hi (by simp)
theorem Weak.aggL{cs ds:List AV}(h:WeakL cs ds):Weak (.agg cs) (.agg ds):=Weak.agg h.len fun i a b=>h.at i a b
end Go.Mu
