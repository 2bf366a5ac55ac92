/- PROVED HERE: for every list of numbers of bulk at most 1048576, TopTuned returns true, and the list reads as it did. Conditions: that bound alone. -/
import Derived.Test.YtgbdndlmdklefaaGreatFK36
import Derived.Test.YtgbdndlmdklefaaGreatFK38
import Derived.Test.YtgbdndlmdklefaaGreatFK39
set_option linter.unusedVariables false
set_option maxRecDepth 100000
namespace Go.Proofs.YtgbdndlmdklefaaGreat
open Go.Conc Go.ChangeShapes Go.WideShapes Go.ChangeAt Go.RowKit Go.Mu
namespace topTuned
theorem contract(H:Type)(enc:TypeId×Value→H)(W:World)(base:Nat)(args:Array Value)(ds gs:List (DataW H))(before:List MemPlace)
  (hval:∀(j:Nat) t v,Tryz.f17.params[j]? = some t→args[j]? = some v→Value.okWide Tryz.prog W .any base t v)
  (hW:DataW.Whole enc Tryz.prog Tryz.f17.params.toList Rows.topTunedSpec.vars false W args.toList ds gs before) (hk:Rows.uptoSmall H (ds++gs)=true) :
  ∃M last o w' t',runNT Tryz.prog (M+1) (solo (G (Frame.enter Tryz.prog 17 args .normal) []) W) #[]=(.ended o w',t')∧runN Tryz.prog M (solo (G (Frame.enter Tryz.prog 17 args .normal) []) W)= .next last∧step Tryz.prog last= .ended o w'∧
   Conc.Good Tryz.prog (fun v W'=>Rows.topTunedSpec.post enc Tryz.prog Tryz.f17 false true false false W args v W') last o w' t':=by
 have hW':=hW
 obtain⟨p,q,hA0,hV,rfl,hfz,hnd⟩:=hW
 have hA:DataW.TrodAll enc Tryz.prog W 0 (fun _=>true) true Tryz.f17.params.toList args.toList ds p:=hA0
 rw[Tryz.params17] at hA hval
 obtain⟨v0,vs0,d0,ds0,p0,q0,hargs,rfl,rfl,h0,r0⟩:=trodAll_cons hA
 obtain⟨rfl,rfl,rfl⟩:=trodAll_nil r0
 obtain rfl:args= #[v0]:=by cases args;simp_all
 obtain⟨rfl,rfl⟩:=trodVars_none hV
 have hb:=bulk_bound hk
 obtain⟨l,hv,hD⟩:=arg_slice (e:=3) (by kernel_rfl) (hval 0 _ v0 rfl rfl) (reads_ints enc W) h0
 have hl:=bulk_list hD
 have hd:Rows.uptoBulk d0≤1048576:=by
  have:=bulk_part (d:=d0) (l:=[d0]++[]) (by simp)
  omega
 simp only[List.append_nil] at hW' hA0
 obtain⟨M,last,o,w',t',k1,k2,k3,k4⟩:=good_of_acalls (W:=W) (args:=#[v0]) (topTuned_law l (by omega) []) rfl (fun g cs h=>by simp[layV] at h) (by kernel_rfl) ⟨rfl,fun i h1 h2=>by
  have:i=0:=by simpa using h1
  subst this;exact hv⟩
 refine⟨M,last,o,w',t',k1,k2,k3,k4.mono fun v hp=>?_⟩
 obtain⟨he,hg⟩:=hp
 subst he
 exact post_plain (pa:=p0) (pv:=[]) hW' (fun _ _ _=>(trodAll_cons_mk (shut_bool (by kernel_rfl) _) trodAll_mk0))
  (trodAll_stays laid (by rw[Tryz.params17];simp;decide +kernel) hA0 (fun q hq=>hg.same (hW'.lt q hq)) (fun q hq=>by simpa using hW'.lt q hq)) rfl hg.but
theorem lifted(os:Os)(started:os.Started)(H:Type)(enc:TypeId×Value→H)(F:Stop.Interp) :
  ReturnsInLeavingWide {} Tryz.checked os 17 .any ((Rows.OpenSpec.upto Rows.topTunedSpec).pre6 enc Tryz.prog Tryz.f17 Rows.topTunedUptoRow.domain false) (((Rows.OpenSpec.upto Rows.topTunedSpec).at F).post enc Tryz.prog Tryz.f17 false true false false):=by
 refine returnsInLeaving_of_cond (C:=Tryz.checked) (s:=Rows.OpenSpec.upto Rows.topTunedSpec) (k:=Rows.uptoSmall) rfl own started Tryz.func17
  (OpenSpec.witness (enc:=enc) (C:=Tryz.checked) (s:=Rows.OpenSpec.upto Rows.topTunedSpec) (k:=Rows.uptoSmall) rfl false ⟨#[],#[.slice none 0 0],[]⟩ 8 (by kernel_rfl) (by kernel_rfl) (by kernel_rfl)
   (x:=([.nil],[],[])) (by kernel_rfl) rfl (by kernel_rfl)) ?_
 intro W base args ds gs before hval hW _ hk _
 exact contract H enc W base args ds gs before hval hW hk
theorem and_of{a b:Bool}(ha:a=true)(hb:b=true):(a&&b)=true:=by rw[ha,hb];rfl
theorem f_inPlace:(Rows.topTunedUptoRow.inPlace==Tryz.prog.inPlace 17)=true:=by kernel_rfl
theorem f_unfollowed:(Rows.topTunedUptoRow.unfollowed==Tryz.prog.unfollowed 17)=true:=by kernel_rfl
theorem f_recurses:(Rows.topTunedUptoRow.recurses==Tryz.prog.recurses 17)=true:=by kernel_rfl
theorem f_named:(Rows.topTunedUptoRow.named==Tryz.prog.varsNamed 17)=true:=by kernel_rfl
theorem f_maps:mapsRowed Tryz.prog=true:=by kernel_rfl
theorem f_heard:Tryz.prog.stopsHeard=true:=by kernel_rfl
theorem f_enter:Tryz.prog.mayEnter=true:=by kernel_rfl
theorem f_lifts:(Rows.topTunedUptoRow.lifted==Tryz.prog.liftsFinal)=true:=by kernel_rfl
theorem f_make:(Tryz.prog.make==some Rows.topTunedUptoRow.make)=true:=by kernel_rfl
theorem facts:joinedFacts Tryz.prog 17 Tryz.f17 (Rows.OpenSpec.upto Rows.topTunedSpec).bare Rows.topTunedUptoRow=true:=by
 unfold joinedFacts
 refine and_of (and_of (and_of (and_of (and_of (and_of (and_of (and_of (and_of (and_of (and_of (and_of (and_of (and_of (and_of (and_of (and_of (and_of (and_of (and_of (and_of (and_of (and_of (and_of (and_of (and_of (and_of (and_of (and_of (and_of (and_of ?_ laid) f_maps) ?_) ?_) ?_) ?_) ?_) ?_) f_inPlace) f_unfollowed) f_recurses) f_named) ?_) ?_) ?_) ?_) ?_) ?_) ?_) ?_) ?_) ?_) ?_) f_heard) f_enter) f_lifts) f_make) ?_) ?_) ?_) ?_
 all_goals kernel_rfl
theorem over:Rows.topTunedUptoRow.holds Tryz.pinned (Rows.OpenSpec.upto Rows.topTunedSpec):=
 holds_of_cond_leaving 17 Tryz.f17 rfl rfl rfl rfl rfl rfl rfl ⟨rfl,rfl,rfl,rfl,rfl⟩ rfl rfl rfl rfl rfl (by kernel_rfl) Tryz.func17 facts
  (of_decide_eq_true (by kernel_rfl)) (by unfold Func.isWrapper;first | (rw[if_pos (by decide +kernel)];kernel_rfl) | (rw[if_neg (by decide +kernel)];exact⟨rfl,rfl⟩))
  (fun os started H enc _ F=>lifted os started H enc F)
theorem proved:Rows.TopTunedUptoSaid:=
 over
end topTuned
end Go.Proofs.YtgbdndlmdklefaaGreat
