/- Texts of a proof: lemmas. -/
import Derived.Test.YtgbdndlmdklefaaGreatHK13
import Derived.Test.YtgbdndlmdklefaaGreatHK16
set_option linter.unusedSimpArgs false
set_option linter.unusedVariables false
set_option maxRecDepth 100000
set_option maxHeartbeats 40000000
namespace Go.Proofs
open Go Go.Mu Go.Conc
structure Tn where
 day:Int
 hand:Int
 due:Int
 ear:Ear
def Tn.cells(x:Tn):List AV:=[.int .i64 x.day,.int .i64 x.hand,.int .i64 x.due,.int .i64 x.ear.slack,.list .no 2 (x.ear.tones.map Rng.av),.list .no 6 (x.ear.rds.map Rd.av)]
def Tn.av(x:Tn):AV:= .agg x.cells
def ar(l:List Int):AV:= .list .no 1 (l.map (.int .i64))
def J4(Sh:Nat→Prop)(K2:Kr)(n₁:Nat)(r:List Int×Int)(i:Int)(v:Value)(w:World)(V:Nat→Prop):Prop:=
 (∀b,V b→Sh b∨n₁≤b)∧∃K:Kr,(∀b,Sh b→∀o,K.S b o=K2.S b o)∧(∀b o u,K.S b o=some u→V b∧w.cell? ⟨b,o,none⟩= some u)∧VR K 0 (.agg [.int .i64 i,ar r.1,.int .i64 r.2]) v
def wfr:Frame:={(default:Frame) with fn:=193,kind:= .deferred,roundOf:=none}
theorem GC(a:Act)(ops:Array Oper)(hd:a.defers=[]):∃n,eG Tryz.prog n (G (wfr.atR a [.inRegion ops []]) [Mu.base Tryz.prog []]):=by
 refine⟨4,.inr ⟨rfl,G (wfr.atR a []) [Mu.base Tryz.prog []],fun w=>by simp[G,stepG,stepG.exec,Frame.atR],?_⟩⟩
 exact BD (fn:=Tryz.f193) rfl rfl hd Tryz.func193 rfl
theorem Ap{Sh V:Nat→Prop}{K2 K:Kr}{w:World}{c n₁:Nat}{x:Tn}{hands i:Int}{a1 a2 a3 a4 a5:AV}{r:List Int×Int}(hV:∀b,V b→Sh b∨n₁≤b)(hSh:∀b,Sh b→V b∧b<w.heap.size∧∀o,K.S b o=K2.S b o)(hn:n₁≤w.heap.size)
  (hchk:∀Q:AV→List aa→Prop,(∀σ',Q (.tup [ar r.1,.int .i64 r.2]) σ')→ao (fun M=>M=Co Tryz.prog Sh) 117 [x.av,.int .i64 hands] [] Q) :
  JK (Tryz.E (S:=fun M=>M=Co Tryz.prog Sh) 18 (fun _=>([],[])) fs0) (Co Tryz.prog Sh) wfr [Mu.base Tryz.prog []] [] [] V K [] w (AtSend Tryz.prog Sh c (J4 Sh K2 n₁ r i)) [.code (Tryz.f193.body.getD .skip)] ⟨Tryz.Cj,[],[(0,.eptr x.cells 0),(1,.eptr [.int .i64 hands,a1,a2,a3,a4,a5] 0),(2,.eptr [.chan (some c)] 0),(3,.eptr [.int .i64 i] 0)]⟩ []:=by
 have hE:=(Tryz.ah (S:=fun M=>M=Co Tryz.prog Sh) 18 (fun _=>([],[])) fs0 aD)
 show JK _ _ _ _ _ _ _ _ _ _ _ (.code (.seq (.region 0 _ false) (.region 1 _ false))::[]) _ _
 refine JK.seq ?_
 refine JK.region hE rfl .nil ?_
 simp -implicitDefEqProofs (maxSteps:=9^9) (disch:=omega) only[go_sem,simprocAttr,Tn.cells]
 refine hchk _ fun σ'=>?_
 simp -implicitDefEqProofs (maxSteps:=9^9) (disch:=omega) only[go_sem,simprocAttr,Tn.cells,ar]
 refine JK.first hE rfl 5 [5] rfl (by decide) .nil ?_
 simp only[List.take_succ_cons,List.take_zero]
 simp -implicitDefEqProofs (maxSteps:=9^9) (disch:=omega) only[go_sem,simprocAttr,Tn.cells,ar]
 refine JK.Qk (E:=Tryz.E (S:=fun M=>M=Co Tryz.prog Sh) 18 (fun _=>([],[])) fs0) rfl rfl rfl (fun K1 w1 V1 v1 hR hO hS hv=>?_) fun a hd=>GC a _ hd
 refine⟨fun b hb=>?_,K1,fun b hb o=>((hS.keep b (hSh b hb).2.1 (hSh b hb).1 bj.none).2.2 o).trans ((hSh b hb).2.2 o),fun b o u hu=>⟨hO.stab b o u hu,hR.stab b o u hu⟩,hv.down ?_⟩
 ·rcases hS.new b hb with h | h
  ·exact hV b h
  ·exact .inr (Nat.le_trans hn h)
 ·refine .agg _ fun j hj=>?_
  match j,hj with
  | 0,_=>exact .int _ _
  | 1,_=>
   refine .list _ _ _ (fun id e=>by cases e) fun j j' hj hj'=>?_
   simp only[List.getElem_map,AV.cells] at hj'⊢
   obtain rfl:j'=0:=by simpa using hj'
   exact .int _ _
  | 2,_=>exact .int _ _
theorem Kt{Sh V:Nat→Prop}{K2 K:Kr}{w:World}{c n₁:Nat}{x:Tn}{hands i:Int}{a1 a2 a3 a4 a5:AV}{r:List Int×Int}{cap:Array Value}(hV:∀b,V b→Sh b∨n₁≤b)(hSh:∀b,Sh b→V b∧b<w.heap.size∧∀o,K.S b o=K2.S b o)(hn:n₁≤w.heap.size)
  (hchk:∀Q:AV→List aa→Prop,(∀σ',Q (.tup [ar r.1,.int .i64 r.2]) σ')→ao (fun M=>M=Co Tryz.prog Sh) 117 [x.av,.int .i64 hands] [] Q) (hR:R K [] w) (hO:aU Sh V K [] w)
  (hcap:VRs K 0 [.eptr x.cells 0,.eptr [.int .i64 hands,a1,a2,a3,a4,a5] 0,.eptr [.chan (some c)] 0,.eptr [.int .i64 i] 0] cap.toList) :
  WT Tryz.prog Sh c (J4 Sh K2 n₁ r i) (born Tryz.prog {target:= .fn (.func 193) cap,args:=#[]}) w V:=by
 refine WT.Pt (E:=Tryz.E (S:=fun M=>M=Co Tryz.prog Sh) 18 (fun _=>([],[])) fs0) (args:=[.eptr x.cells 0,.eptr [.int .i64 hands,a1,a2,a3,a4,a5] 0,.eptr [.chan (some c)] 0,.eptr [.int .i64 i] 0]) (body:=Tryz.f193.body.getD .skip)
  Tryz.Cj (aW.of Tryz.func193 (by kernel_rfl) (by kernel_rfl)) Tryz.func193 rfl (by kernel_rfl) (by show 4≤18;omega) hR hO (by simpa using hcap) fun w₁ hr=>?_
 exact Ap hV (fun b hb=>⟨(hSh b hb).1,Nat.lt_of_lt_of_le (hSh b hb).2.1 hr.size,(hSh b hb).2.2⟩) (Nat.le_trans hn hr.size) hchk
end Go.Proofs
