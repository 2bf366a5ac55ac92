/- PROVED HERE: for all arguments of bulk at most 1048576, HandNext returns true, and they read as they did. Conditions: that bound alone. -/
import Derived.Test.YtgbdndlmdklefaaGreatEK42
import Derived.Test.YtgbdndlmdklefaaGreatEK46
import Derived.Test.YtgbdndlmdklefaaGreatEK47
set_option linter.unusedVariables false
set_option maxRecDepth 100000
namespace Go.Proofs.YtgbdndlmdklefaaGreat
open Go.Conc Go.ChangeShapes Go.WideShapes Go.ChangeAt Go.RowKit Go.Mu
namespace handNext
theorem contract(H:Type)(enc:TypeId×Value→H)(W:World)(base:Nat)(args:Array Value)(ds gs:List (DataW H))(before:List MemPlace)
  (hval:∀(j:Nat) t v,Tryz.f16.params[j]? = some t→args[j]? = some v→Value.okWide Tryz.prog W .any base t v)
  (hW:DataW.Whole enc Tryz.prog Tryz.f16.params.toList Rows.handNextSpec.vars false W args.toList ds gs before) (hk:Rows.uptoSmall H (ds++gs)=true) :
  ∃M last o w' t',runNT Tryz.prog (M+1) (solo (G (Frame.enter Tryz.prog 16 args .normal) []) W) #[]=(.ended o w',t')∧runN Tryz.prog M (solo (G (Frame.enter Tryz.prog 16 args .normal) []) W)= .next last∧step Tryz.prog last= .ended o w'∧
   Conc.Good Tryz.prog (fun v W'=>Rows.handNextSpec.post enc Tryz.prog Tryz.f16 false true false false W args v W') last o w' t':=by
 have hW':=hW
 obtain⟨p,q,hA0,hV,rfl,hfz,hnd⟩:=hW
 have hA:DataW.TrodAll enc Tryz.prog W 0 (fun _=>true) true Tryz.f16.params.toList args.toList ds p:=hA0
 rw[Tryz.params16] at hA hval
 obtain⟨v0,vs0,d0,ds0,p0,q0,hargs,rfl,rfl,h0,r0⟩:=trodAll_cons hA
 obtain⟨v1,vs1,d1,ds1,p1,q1,rfl,rfl,rfl,h1,r1⟩:=trodAll_cons r0
 obtain⟨v2,vs2,d2,ds2,p2,q2,rfl,rfl,rfl,h2,r2⟩:=trodAll_cons r1
 obtain⟨rfl,rfl,rfl⟩:=trodAll_nil r2
 obtain rfl:args= #[v0,v1,v2]:=by cases args;simp_all
 obtain⟨rfl,rfl⟩:=trodVars_none hV
 have hb:=bulk_bound hk
 have e0:Rows.uptoBulk d0≤1048576:=by have:=bulk_part (d:=d0) (l:=[d0,d1,d2]++[]) (by simp);omega
 have e1:Rows.uptoBulk d1≤1048576:=by have:=bulk_part (d:=d1) (l:=[d0,d1,d2]++[]) (by simp);omega
 have e2:Rows.uptoBulk d2≤1048576:=by have:=bulk_part (d:=d2) (l:=[d0,d1,d2]++[]) (by simp);omega
 obtain⟨a0,hv0,hD0⟩:=arg_struct (und_of (t:=30) (by kernel_rfl)) (hval 0 _ v0 rfl rfl) (reads_ros enc W) h0
 obtain⟨a1,hv1,hD1⟩:=arg_struct (und_of (t:=51) (by kernel_rfl)) (hval 1 _ v1 rfl rfl) (reads_tn enc W) h1
 obtain⟨a2,hv2,hD2⟩:=arg_slice (e:=3) (by kernel_rfl) (hval 2 _ v2 rfl rfl) (reads_ints enc W) h2
 have hl2:=bulk_list hD2
 simp only[List.append_nil] at hW' hA0
 obtain⟨M,last,o,w',t',k1,k2,k3,k4⟩:=good_of_acalls (W:=W) (args:=#[v0,v1,v2]) (handNext_law a0 a1 a2 (by omega) (by have:=hD0.1;omega) (by have:=hD0.2.1;omega) (fun y hy=>by have:=hD0.2.2 y hy;unfold BigE at this;omega) (by unfold BigE at hD1;omega) []) rfl (fun g cs h=>by simp[layV] at h) (by kernel_rfl) (VRs.cons hv0 (VRs.cons hv1 (VRs.cons hv2 (VRs.nil))))
 refine⟨M,last,o,w',t',k1,k2,k3,k4.mono fun v hp=>?_⟩
 obtain⟨he,hg⟩:=hp
 subst he
 exact post_plain (pv:=[]) hW' (fun _ _ _=>(trodAll_cons_mk (shut_bool (by kernel_rfl) _) trodAll_mk0))
  (trodAll_stays laid (by rw[Tryz.params16];simp;decide +kernel) hA0 (fun q hq=>hg.same (hW'.lt q hq)) (fun q hq=>by simpa using hW'.lt q hq)) rfl hg.but
theorem lifted(os:Os)(started:os.Started)(H:Type)(enc:TypeId×Value→H)(F:Stop.Interp) :
  ReturnsInLeavingWide {} Tryz.checked os 16 .any ((Rows.OpenSpec.upto Rows.handNextSpec).pre6 enc Tryz.prog Tryz.f16 Rows.handNextUptoRow.domain false) (((Rows.OpenSpec.upto Rows.handNextSpec).at F).post enc Tryz.prog Tryz.f16 false true false false):=by
 refine returnsInLeaving_of_cond (C:=Tryz.checked) (s:=Rows.OpenSpec.upto Rows.handNextSpec) (k:=Rows.uptoSmall) rfl own started Tryz.func16
  (OpenSpec.witness (enc:=enc) (C:=Tryz.checked) (s:=Rows.OpenSpec.upto Rows.handNextSpec) (k:=Rows.uptoSmall) rfl false ⟨#[],#[.agg #[.int .i64 0,.int .i64 0,.int .i64 0,.int .i64 0,.slice none 0 0,.slice none 0 0],.agg #[.int .i64 0,.int .i64 0,.int .i64 0,.int .i64 0,.slice none 0 0,.slice none 0 0],.slice none 0 0],[]⟩ 8 (by kernel_rfl) (by kernel_rfl) (by kernel_rfl)
   (x:=([.agg [.lit (.int .i64 0),.lit (.int .i64 0),.agg [.lit (.int .i64 0),.lit (.int .i64 0)],.nil,.nil],.agg [.lit (.int .i64 0),.lit (.int .i64 0),.lit (.int .i64 0),.agg [.lit (.int .i64 0),.nil,.nil]],.nil],[],[])) (by kernel_rfl) rfl (by kernel_rfl)) ?_
 intro W base args ds gs before hval hW _ hk _
 exact contract H enc W base args ds gs before hval hW hk
theorem and_of{a b:Bool}(ha:a=true)(hb:b=true):(a&&b)=true:=by rw[ha,hb];rfl
theorem f_inPlace:(Rows.handNextUptoRow.inPlace==Tryz.prog.inPlace 16)=true:=by kernel_rfl
theorem f_unfollowed:(Rows.handNextUptoRow.unfollowed==Tryz.prog.unfollowed 16)=true:=by kernel_rfl
theorem f_recurses:(Rows.handNextUptoRow.recurses==Tryz.prog.recurses 16)=true:=by kernel_rfl
theorem f_named:(Rows.handNextUptoRow.named==Tryz.prog.varsNamed 16)=true:=by kernel_rfl
theorem f_maps:mapsRowed Tryz.prog=true:=by kernel_rfl
theorem f_heard:Tryz.prog.stopsHeard=true:=by kernel_rfl
theorem f_enter:Tryz.prog.mayEnter=true:=by kernel_rfl
theorem f_lifts:(Rows.handNextUptoRow.lifted==Tryz.prog.liftsFinal)=true:=by kernel_rfl
theorem f_make:(Tryz.prog.make==some Rows.handNextUptoRow.make)=true:=by kernel_rfl
theorem facts:joinedFacts Tryz.prog 16 Tryz.f16 (Rows.OpenSpec.upto Rows.handNextSpec).bare Rows.handNextUptoRow=true:=by
 unfold joinedFacts
 refine and_of (and_of (and_of (and_of (and_of (and_of (and_of (and_of (and_of (and_of (and_of (and_of (and_of (and_of (and_of (and_of (and_of (and_of (and_of (and_of (and_of (and_of (and_of (and_of (and_of (and_of (and_of (and_of (and_of (and_of (and_of ?_ laid) f_maps) ?_) ?_) ?_) ?_) ?_) ?_) f_inPlace) f_unfollowed) f_recurses) f_named) ?_) ?_) ?_) ?_) ?_) ?_) ?_) ?_) ?_) ?_) ?_) f_heard) f_enter) f_lifts) f_make) ?_) ?_) ?_) ?_
 all_goals kernel_rfl
theorem over:Rows.handNextUptoRow.holds Tryz.pinned (Rows.OpenSpec.upto Rows.handNextSpec):=
 holds_of_cond_leaving 16 Tryz.f16 rfl rfl rfl rfl rfl rfl rfl ⟨rfl,rfl,rfl,rfl,rfl⟩ rfl rfl rfl rfl rfl (by kernel_rfl) Tryz.func16 facts
  (of_decide_eq_true (by kernel_rfl)) (by unfold Func.isWrapper;first | (rw[if_pos (by decide +kernel)];kernel_rfl) | (rw[if_neg (by decide +kernel)];exact⟨rfl,rfl⟩))
  (fun os started H enc _ F=>lifted os started H enc F)
theorem proved:Rows.HandNextUptoSaid:=
 over
end handNext
end Go.Proofs.YtgbdndlmdklefaaGreat
