/- PROVED HERE: for all arguments of bulk at most 1048576, HandConvicts returns true, and they read as they did. Conditions: that bound alone. -/
import Derived.Test.YtgbdndlmdklefaaGreatHK42
import Derived.Test.YtgbdndlmdklefaaGreatHK46
import Derived.Test.YtgbdndlmdklefaaGreatHK47
set_option linter.unusedVariables false
set_option maxRecDepth 100000
namespace Go.Proofs.YtgbdndlmdklefaaGreat
open Go.Conc Go.ChangeShapes Go.WideShapes Go.ChangeAt Go.RowKit Go.Mu
namespace handConvicts
theorem og(H:Type)(enc:TypeId×Value→H)(W:World)(base:Nat)(args:Array Value)(ds gs:List (DataW H))(before:List MemPlace)
  (hval:∀(j:Nat) t v,Tryz.f9.params[j]? = some t→args[j]? = some v→Value.okWide Tryz.prog W .any base t v)
  (hW:DataW.Whole enc Tryz.prog Tryz.f9.params.toList Rows.handConvictsSpec.vars false W args.toList ds gs before) (hk:Rows.uptoSmall H (ds++gs)=true) :
  ∃M last o w' t',runNT Tryz.prog (M+1) (solo (G (Frame.enter Tryz.prog 9 args .normal) []) W) #[]=(.ended o w',t')∧runN Tryz.prog M (solo (G (Frame.enter Tryz.prog 9 args .normal) []) W)= .next last∧step Tryz.prog last= .ended o w'∧
   Conc.Good Tryz.prog (fun v W'=>Rows.handConvictsSpec.post enc Tryz.prog Tryz.f9 false true false false W args v W') last o w' t':=by
 have hW':=hW
 obtain⟨p,q,hA0,hV,rfl,hfz,hnd⟩:=hW
 have hA:DataW.TrodAll enc Tryz.prog W 0 (fun _=>true) true Tryz.f9.params.toList args.toList ds p:=hA0
 rw[Tryz.params9] at hA hval
 obtain⟨v0,vs0,d0,ds0,p0,q0,hargs,rfl,rfl,h0,r0⟩:=trodAll_cons hA
 obtain⟨v1,vs1,d1,ds1,p1,q1,rfl,rfl,rfl,h1,r1⟩:=trodAll_cons r0
 obtain⟨v2,vs2,d2,ds2,p2,q2,rfl,rfl,rfl,h2,r2⟩:=trodAll_cons r1
 obtain⟨v3,vs3,d3,ds3,p3,q3,rfl,rfl,rfl,h3,r3⟩:=trodAll_cons r2
 obtain⟨v4,vs4,d4,ds4,p4,q4,rfl,rfl,rfl,h4,r4⟩:=trodAll_cons r3
 obtain⟨rfl,rfl,rfl⟩:=trodAll_nil r4
 obtain rfl:args= #[v0,v1,v2,v3,v4]:=by cases args;simp_all
 obtain⟨rfl,rfl⟩:=trodVars_none hV
 have hb:=Df hk
 have e0:Rows.uptoBulk d0≤1048576:=by have:=eX (d:=d0) (l:=[d0,d1,d2,d3,d4]++[]) (by simp);omega
 have e1:Rows.uptoBulk d1≤1048576:=by have:=eX (d:=d1) (l:=[d0,d1,d2,d3,d4]++[]) (by simp);omega
 have e4:Rows.uptoBulk d4≤1048576:=by have:=eX (d:=d4) (l:=[d0,d1,d2,d3,d4]++[]) (by simp);omega
 obtain⟨a0,hv0,hD0⟩:=uv (nn (t:=30) (by kernel_rfl)) (hval 0 _ v0 rfl rfl) (H0 enc W) h0
 obtain⟨a1,hv1,hD1⟩:=uv (nn (t:=51) (by kernel_rfl)) (hval 1 _ v1 rfl rfl) (zj enc W) h1
 obtain⟨a2,hv2,hi2⟩:=B7 (by kernel_rfl) (hval 2 _ v2 rfl rfl) h2
 obtain⟨a3,hv3,hi3⟩:=B7 (by kernel_rfl) (hval 3 _ v3 rfl rfl) h3
 obtain⟨a4,hv4,hD4⟩:=F9 (e:=3) (by kernel_rfl) (hval 4 _ v4 rfl rfl) (EC enc W) h4
 have hl4:=my hD4
 simp only[List.append_nil] at hW' hA0
 obtain⟨M,last,o,w',t',k1,k2,k3,k4⟩:=uW (W:=W) (args:=#[v0,v1,v2,v3,v4]) (rF a0 a1 a2 a3 a4 (by omega) (by have:=hD0.1;omega) (by have:=hD0.2.1;omega) (fun y hy=>by have:=hD0.2.2 y hy;unfold px at this;omega) (by unfold px at hD1;omega) []) rfl (fun g cs h=>by simp[gx] at h) (by kernel_rfl) (VRs.cons hv0 (VRs.cons hv1 (VRs.cons hv2 (VRs.cons hv3 (VRs.cons hv4 (VRs.nil))))))
 refine⟨M,last,o,w',t',k1,k2,k3,k4.mono fun v hp=>?_⟩
 obtain⟨he,hg⟩:=hp
 subst he
 exact Ek (pv:=[]) hW' (fun _ _ _=>(trodAll_cons_mk (shut_bool (by kernel_rfl) _) trodAll_mk0))
  (oQ laid (by rw[Tryz.params9];simp;decide +kernel) hA0 (fun q hq=>hg.same (hW'.lt q hq)) (fun q hq=>by simpa using hW'.lt q hq)) rfl hg.but
theorem lifted(os:Os)(started:os.Started)(H:Type)(enc:TypeId×Value→H)(F:Stop.Interp) :
  ReturnsInLeavingWide {} Tryz.checked os 9 .any ((Rows.OpenSpec.upto Rows.handConvictsSpec).pre6 enc Tryz.prog Tryz.f9 Rows.handConvictsUptoRow.domain false) (((Rows.OpenSpec.upto Rows.handConvictsSpec).at F).post enc Tryz.prog Tryz.f9 false true false false):=by
 refine lI (C:=Tryz.checked) (s:=Rows.OpenSpec.upto Rows.handConvictsSpec) (k:=Rows.uptoSmall) rfl own started Tryz.func9
  (OpenSpec.witness (enc:=enc) (C:=Tryz.checked) (s:=Rows.OpenSpec.upto Rows.handConvictsSpec) (k:=Rows.uptoSmall) rfl false ⟨#[],#[.agg #[.int .i64 0,.int .i64 0,.int .i64 0,.int .i64 0,.slice none 0 0,.slice none 0 0],.agg #[.int .i64 0,.int .i64 0,.int .i64 0,.int .i64 0,.slice none 0 0,.slice none 0 0],.int .i64 0,.int .i64 0,.slice none 0 0],[]⟩ 8 (by kernel_rfl) (by kernel_rfl) (by kernel_rfl)
   (x:=([.agg [.lit (.int .i64 0),.lit (.int .i64 0),.agg [.lit (.int .i64 0),.lit (.int .i64 0)],.nil,.nil],.agg [.lit (.int .i64 0),.lit (.int .i64 0),.lit (.int .i64 0),.agg [.lit (.int .i64 0),.nil,.nil]],.lit (.int .i64 0),.lit (.int .i64 0),.nil],[],[])) (by kernel_rfl) rfl (by kernel_rfl)) ?_
 intro W base args ds gs before hval hW _ hk _
 exact og H enc W base args ds gs before hval hW hk
theorem bU{a b:Bool}(ha:a=true)(hb:b=true):(a&&b)=true:=by rw[ha,hb];rfl
theorem FM:(Rows.handConvictsUptoRow.inPlace==Tryz.prog.inPlace 9)=true:=by kernel_rfl
theorem yB:(Rows.handConvictsUptoRow.unfollowed==Tryz.prog.unfollowed 9)=true:=by kernel_rfl
theorem CM:(Rows.handConvictsUptoRow.recurses==Tryz.prog.recurses 9)=true:=by kernel_rfl
theorem O7:(Rows.handConvictsUptoRow.named==Tryz.prog.varsNamed 9)=true:=by kernel_rfl
theorem Q0:mapsRowed Tryz.prog=true:=by kernel_rfl
theorem Oz:Tryz.prog.stopsHeard=true:=by kernel_rfl
theorem O6:Tryz.prog.mayEnter=true:=by kernel_rfl
theorem Px:(Rows.handConvictsUptoRow.lifted==Tryz.prog.liftsFinal)=true:=by kernel_rfl
theorem Rq:(Tryz.prog.make==some Rows.handConvictsUptoRow.make)=true:=by kernel_rfl
theorem facts:joinedFacts Tryz.prog 9 Tryz.f9 (Rows.OpenSpec.upto Rows.handConvictsSpec).bare Rows.handConvictsUptoRow=true:=by
 unfold joinedFacts
 refine bU (bU (bU (bU (bU (bU (bU (bU (bU (bU (bU (bU (bU (bU (bU (bU (bU (bU (bU (bU (bU (bU (bU (bU (bU (bU (bU (bU (bU (bU (bU ?_ laid) Q0) ?_) ?_) ?_) ?_) ?_) ?_) FM) yB) CM) O7) ?_) ?_) ?_) ?_) ?_) ?_) ?_) ?_) ?_) ?_) ?_) Oz) O6) Px) Rq) ?_) ?_) ?_) ?_
 all_goals kernel_rfl
theorem over:Rows.handConvictsUptoRow.holds Tryz.pinned (Rows.OpenSpec.upto Rows.handConvictsSpec):=
 ny 9 Tryz.f9 rfl rfl rfl rfl rfl rfl rfl ⟨rfl,rfl,rfl,rfl,rfl⟩ rfl rfl rfl rfl rfl (by kernel_rfl) Tryz.func9 facts
  (of_decide_eq_true (by kernel_rfl)) (by unfold Func.isWrapper;first | (rw[if_pos (by decide +kernel)];kernel_rfl) | (rw[if_neg (by decide +kernel)];exact⟨rfl,rfl⟩))
  (fun os started H enc _ F=>lifted os started H enc F)
theorem proved:Rows.HandConvictsUptoSaid:=
 over
end handConvicts
end Go.Proofs.YtgbdndlmdklefaaGreat
