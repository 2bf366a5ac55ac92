/- Texts of a proof: lemmas. -/
import Derived.Test.YtgbdndlmdklefaaGreatFK34
import Derived.Test.YtgbdndlmdklefaaGreatFK35
import Derived.Test.YtgbdndlmdklefaaGreatFK28
set_option linter.unusedSimpArgs false
set_option linter.unusedVariables false
set_option maxRecDepth 100000
set_option maxHeartbeats 40000000
namespace Go.Proofs
open Go Go.Mu Go.Ins
def tunR:Ros:=⟨1,1,1,1,[],[tnd 7 0 500 500 509]⟩
theorem tun_c:chkE (tnd 7 0 500 500 509) 1=([0,1,2,3,4,5,6,7,8,9],0):=by
 rw[chkE_one (by decide) (by decide) (by decide) (by kernel_rfl) (by kernel_rfl) (by decide +kernel)]
 decide +kernel
theorem tun_v:valuesL ⟨0,[⟨500,509⟩],[]⟩ 0=([500,501,502,503,504,505,506,507,508,509],0):=by
 have h1:(askL ⟨0,[⟨500,509⟩],[]⟩ (oneE ⟨0,[⟨500,509⟩],[]⟩ 0)).2=0:=by decide +kernel
 unfold valuesL
 rw[if_pos h1,sortL_asc (one_asc (okE_of_ck (by decide +kernel)) rfl).1]
 decide +kernel
theorem tun_ds:entsL tunR=[[0,1,2,3,4,5,6,7,8,9]]:=by simp only[entsL,tunR,List.map_cons,List.map_nil,tun_c]
theorem tun_e:entsE tunR=0:=by simp only[entsE,tunR,List.map_cons,List.map_nil,tun_c];rfl
theorem tun_x:explR tunR (entsL tunR)=[[0,0,0,0]]:=by
 rw[tun_ds];unfold explR;rw[explK_eq (by decide)];decide +kernel
theorem tun_ro:rosE tunR=0:=by
 unfold rosE;rw[if_neg (by decide +kernel)];exact tun_e
theorem tun_k{ws:List Int}(h:firstNZ ws=0):knownE tunR ws=0:=by
 unfold knownE;rw[if_neg (fun c=>c tun_ro),if_neg (fun c=>c h),tun_x];rfl
theorem tun_few:fewL tunR=[[]]:=by
 unfold fewL;rw[if_pos (tun_k rfl),tun_x];decide +kernel
theorem tun_fit:tunR.Fit:=⟨by decide,by decide,by decide +kernel⟩
theorem tun_weak:WeakL [.agg [.int .i64 1,.int .i64 1,.int .i64 1,.int .i64 1,.list .full 0 [],.list .full 6 [.agg [.int .i64 7,.int .i64 0,.int .i64 500,.int .i64 0,.list .full 2 [.agg [.int .i64 500,.int .i64 509]],.list .full 0 []]]]] [tunR.av]:=by
 refine⟨Weak.aggL ⟨Weak.refl _,Weak.refl _,Weak.refl _,Weak.refl _,Weak.nil,Weak.list rfl (fun i h h'=>?_) (fun i h h' j g g'=>?_),trivial⟩,trivial⟩
 ·obtain rfl:i=0:=by simpa using h
  rfl
 ·obtain rfl:i=0:=by simpa using h
  exact WeakL.at (l:=[.int .i64 7,.int .i64 0,.int .i64 500,.int .i64 0,.list .full 2 [.agg [.int .i64 500,.int .i64 509]],.list .full 0 []]) (l':=[.int .i64 7,.int .i64 0,.int .i64 500,.int .i64 0,.list .no 2 [.agg [.int .i64 500,.int .i64 509]],.list .no 6 []])
   ⟨Weak.refl _,Weak.refl _,Weak.refl _,Weak.refl _,wk0_weak ⟨rfl,.inl rfl,.inl rfl⟩,Weak.nil,trivial⟩ j g g'
theorem tunedAwake_p:PureV SBes 77 [] (.bool true):=by
 refine PvE (Tryz.envOK (S:=SBes) 39 (fun _=>([],[])) fs408 fs408_ok) (.bool) Tryz.kp77 Tryz.func77 rfl ?_
 intro σ
 simp -implicitDefEqProofs (maxSteps:=9^9) (disch:=omega) only[go_sem,simprocAttr]
 refine ACalls.weakW tun_weak (fewest_p tunR tun_fit _ _ ?_)
 rw[tun_few,tun_k rfl]
 simp -implicitDefEqProofs (maxSteps:=9^9) (disch:=omega) only[go_sem,simprocAttr]
 refine ACalls.weaken (l':=[(⟨0,[⟨500,509⟩],[]⟩: Ear).av,.int .i64 0]) ⟨⟨rfl,⟨rfl,.inl rfl,.inl rfl⟩,⟨rfl,.inr rfl,.inl rfl⟩,trivial⟩,rfl,trivial⟩ (values1_p ⟨0,[⟨500,509⟩],[]⟩ 0 (by decide) (by decide) (by decide) _ _ ?_)
 rw[tun_v]
 simp -implicitDefEqProofs (maxSteps:=9^9) (disch:=omega) only[go_sem,simprocAttr]
 refine ACalls.weaken (l':=[.list .no 1 ([[]].map ints1),.list .no 1 ([[]].map ints1)]) ⟨⟨rfl,.inl rfl,.inl rfl⟩,⟨rfl,.inl rfl,.inl rfl⟩,trivial⟩ (hsameLists_p [[]] [[]] (by decide) (by decide) (by decide) (by decide) _ _ ?_)
 rw[decide_eq_true rfl]
 simp -implicitDefEqProofs (maxSteps:=9^9) (disch:=omega) only[go_sem,simprocAttr]
end Go.Proofs
namespace Go.Proofs
open Go Go.Mu
variable {S:MC Tryz.prog}
theorem length_pw{σ:List AObj}{r:Nat}{s:Int}:(pw σ r s).length=σ.length:=length_hset
theorem hget_pw0{σ l:List AObj}{r:Nat}{s:Int}:hget (pw σ r s++l) σ.length=l[0]? :=by rw[← length_pw (σ:=σ) (r:=r) (s:=s)];exact hget_at0
theorem hget_pw{σ l:List AObj}{r k:Nat}{s:Int}:hget (pw σ r s++l) (σ.length+k)=l[k]? :=by rw[← length_pw (σ:=σ) (r:=r) (s:=s)];exact hget_at
theorem hset_pw0{σ l:List AObj}{r:Nat}{s:Int}{o:AObj}:hset (pw σ r s++l) σ.length o=pw σ r s++l.set 0 o:=by rw[← length_pw (σ:=σ) (r:=r) (s:=s)];exact hset_at0
theorem hset_pw{σ l:List AObj}{r k:Nat}{s:Int}{o:AObj}:hset (pw σ r s++l) (σ.length+k) o=pw σ r s++l.set k o:=by rw[← length_pw (σ:=σ) (r:=r) (s:=s)];exact hset_at
theorem pw_app{σ l:List AObj}{r:Nat}{s:Int}(hr:r<σ.length):pw (σ++l) r s=pw σ r s++l:=by unfold pw hset;rw[List.set_append_left _ _ hr]
theorem pw_pwa{σ l:List AObj}{r:Nat}{s t:Int}(hr:r<σ.length):pw (pw σ r s++l) r t=pw σ r t++l:=by
 rw[pw_app (by rw[length_pw];exact hr),pw_pw]
theorem PotAt.app{σ l:List AObj}{r:Nat}(h:PotAt σ r):PotAt (σ++l) r:=by obtain⟨s,hg⟩:=h;exact⟨s,by rw[hget_app (hget_lt hg)];exact hg⟩
theorem PotAt.lt{σ:List AObj}{r:Nat}(h:PotAt σ r):r<σ.length:=by obtain⟨s,hg⟩:=h;exact hget_lt hg
theorem readingOf_c(r:Nat)(e:Ear)(T:List Int)(tk:Tok)(hsl:0≤e.slack∧e.slack≤3)(hT:1≤T.length∧T.length≤3)(hs:∀x∈T,1≤x∧x≤100000)(σ:List AObj)(hp:PotAt σ r)(Q:AV→List AObj→Prop)(h:∀s' x junk,ckR x T.length=0→isR x e.slack T=true→Q x.av (pw σ r s'++junk)) :
  ACalls S 80 [.ptr r 0,e.av,.list tk 1 (T.map (.int .i64))] σ Q:=by
 refine AcE (Tryz.envOK (S:=S) 125 Tryz.ord80 fs0 fs0_ok) Tryz.kp80 Tryz.func80 rfl ?_
 have hr:=hp.lt
 simp only[Ear.av]
 simp -implicitDefEqProofs (maxSteps:=9^9) (disch:=omega) only[go_sem,simprocAttr,length_pw,hget_pw0,hget_pw,hset_pw0,hset_pw]
 refine of_c r [1,1,2,2,3] .full (by simp) _ hp.app _ fun s1 k hk=>?_
 rw[pw_app hr]
 simp -implicitDefEqProofs (maxSteps:=9^9) (disch:=omega) only[go_sem,simprocAttr,length_pw,hget_pw0,hget_pw,hset_pw0,hset_pw]
 refine upto_c r _ (by omega) _ (hp.pw _).app _ fun s2 a ha1 ha2=>?_
 rw[pw_pwa hr]
 simp -implicitDefEqProofs (maxSteps:=9^9) (disch:=omega) only[go_sem,simprocAttr,length_pw,hget_pw0,hget_pw,hset_pw0,hset_pw]
 refine upto_c r _ (by omega) _ (hp.pw _).app _ fun s3 b hb1 hb2=>?_
 rw[pw_pwa hr]
 simp -implicitDefEqProofs (maxSteps:=9^9) (disch:=omega) only[go_sem,simprocAttr,length_pw,hget_pw0,hget_pw,hset_pw0,hset_pw]
 refine within_c r 1 20 (by omega) (by omega) _ (hp.pw _).app _ fun s4 sec hc1 hc2=>?_
 rw[pw_pwa hr]
 have ha:0≤a∧a<T.length:=by omega
 have hb:0≤b∧b<T.length:=by omega
 have hk':k=1∨k=2∨k=3:=by simpa using hk
 have hsec:1≤sec∧sec≤20:=by omega
 have hTa:1≤tg T a∧tg T a≤100000:=by
  have hx:a.toNat<T.length:=by omega
  have:tg T a=T[a.toNat]:=by simp[tg,List.getD,List.getElem?_eq_getElem hx]
  rw[this];exact hs _ (List.getElem_mem hx)
 have hTb:1≤tg T b∧tg T b≤100000:=by
  have hx:b.toNat<T.length:=by omega
  have:tg T b=T[b.toNat]:=by simp[tg,List.getD,List.getElem?_eq_getElem hx]
  rw[this];exact hs _ (List.getElem_mem hx)
 clear hk ha1 ha2 hb1 hb2 hc1 hc2
 have hn:=mul_le (a:=tg T a) (s:=sec) (by omega) (by omega)
 obtain⟨q,hq⟩:∃q,(tg T a*sec).tdiv 100=q:=⟨_,rfl⟩
 have hq2:q=tg T a*sec/100:=by rw[← hq];exact Int.tdiv_eq_ediv_of_nonneg hn.1
 have hm2:(tg T a*sec).tmod 100=tg T a*sec%100:=Int.tmod_eq_emod_of_nonneg hn.1
 have hq3:tg T a*sec/100≤20000:=by
  have:=Int.mul_le_mul hTa.2 hsec.2 (by omega) (by omega)
  omega
 have hfin:∀s' lo hi junk c,(c=q∨c=q+1∧0<tg T a*sec%100)→0≤lo→lo≤c→c≤hi→hi≤25000→Q (Rd.mk 1 a 0 sec ⟨lo,hi⟩).av (pw σ r s'++junk):=fun s' lo hi junk c hc l1 l2 l3 l4=>by
  refine h s' _ junk ?_ ?_
  ·simp only[ckR];grind
  ·simp only[isR,if_true,decide_eq_true_eq];omega
 by_cases hab:a=b
 ·subst hab
  rcases hk' with rfl | rfl | rfl
  ·skip
   simp -implicitDefEqProofs (maxSteps:=9^9) (disch:=omega) only[go_sem,simprocAttr,length_pw,hget_pw0,hget_pw,hset_pw0,hset_pw,hq,hm2,idx_tg,Rng.av]
   refine⟨fun hm0=>?_,fun hm0=>?_⟩
   ·refine odds_c r 1 2 (by omega) (by omega) _ (hp.pw _).app _ fun s5 b5=>?_
    rw[pw_pwa hr]
    cases b5
    ·simp -implicitDefEqProofs (maxSteps:=9^9) (disch:=omega) only[go_sem,simprocAttr,length_pw,hget_pw0,hget_pw,hset_pw0,hset_pw,hq,hm2,idx_tg,Rng.av]
     refine near_c r q 0 25000 1 (by omega) (by omega) _ (hp.pw _).app _ fun s6 lo hi l1 l2 l3 l4 l5 l6 junk=>?_
     rw[pw_pwa hr,List.append_assoc]
     simp -implicitDefEqProofs (maxSteps:=9^9) (disch:=omega) only[go_sem,simprocAttr,length_pw,hget_pw0,hget_pw,hset_pw0,hset_pw,hq,hm2,idx_tg,Rng.av]
     exact hfin s6 lo hi _ q (.inl rfl) l1 l2 l3 l4
    ·simp -implicitDefEqProofs (maxSteps:=9^9) (disch:=omega) only[go_sem,simprocAttr,length_pw,hget_pw0,hget_pw,hset_pw0,hset_pw,hq,hm2,idx_tg,Rng.av]
     refine near_c r (q+1) 0 25000 1 (by omega) (by omega) _ (hp.pw _).app _ fun s6 lo hi l1 l2 l3 l4 l5 l6 junk=>?_
     rw[pw_pwa hr,List.append_assoc]
     simp -implicitDefEqProofs (maxSteps:=9^9) (disch:=omega) only[go_sem,simprocAttr,length_pw,hget_pw0,hget_pw,hset_pw0,hset_pw,hq,hm2,idx_tg,Rng.av]
     exact hfin s6 lo hi _ (q+1) (.inr ⟨rfl,hm0⟩) l1 l2 l3 l4
   ·skip
    refine near_c r q 0 25000 1 (by omega) (by omega) _ (hp.pw _).app _ fun s6 lo hi l1 l2 l3 l4 l5 l6 junk=>?_
    rw[pw_pwa hr,List.append_assoc]
    simp -implicitDefEqProofs (maxSteps:=9^9) (disch:=omega) only[go_sem,simprocAttr,length_pw,hget_pw0,hget_pw,hset_pw0,hset_pw,hq,hm2,idx_tg,Rng.av]
    exact hfin s6 lo hi _ q (.inl rfl) l1 l2 l3 l4
  ·skip
   simp -implicitDefEqProofs (maxSteps:=9^9) (disch:=omega) only[go_sem,simprocAttr,length_pw,hget_pw0,hget_pw,hset_pw0,hset_pw,hq,hm2,idx_tg,Rng.av]
   refine⟨fun hm0=>?_,fun hm0=>?_⟩
   ·refine odds_c r 1 2 (by omega) (by omega) _ (hp.pw _).app _ fun s5 b5=>?_
    rw[pw_pwa hr]
    cases b5
    ·simp -implicitDefEqProofs (maxSteps:=9^9) (disch:=omega) only[go_sem,simprocAttr,length_pw,hget_pw0,hget_pw,hset_pw0,hset_pw,hq,hm2,idx_tg,Rng.av]
     refine near_c r q 0 25000 1 (by omega) (by omega) _ (hp.pw _).app _ fun s6 lo hi l1 l2 l3 l4 l5 l6 junk=>?_
     rw[pw_pwa hr,List.append_assoc]
     simp -implicitDefEqProofs (maxSteps:=9^9) (disch:=omega) only[go_sem,simprocAttr,length_pw,hget_pw0,hget_pw,hset_pw0,hset_pw,hq,hm2,idx_tg,Rng.av]
     exact hfin s6 lo hi _ q (.inl rfl) l1 l2 l3 l4
    ·simp -implicitDefEqProofs (maxSteps:=9^9) (disch:=omega) only[go_sem,simprocAttr,length_pw,hget_pw0,hget_pw,hset_pw0,hset_pw,hq,hm2,idx_tg,Rng.av]
     refine near_c r (q+1) 0 25000 1 (by omega) (by omega) _ (hp.pw _).app _ fun s6 lo hi l1 l2 l3 l4 l5 l6 junk=>?_
     rw[pw_pwa hr,List.append_assoc]
     simp -implicitDefEqProofs (maxSteps:=9^9) (disch:=omega) only[go_sem,simprocAttr,length_pw,hget_pw0,hget_pw,hset_pw0,hset_pw,hq,hm2,idx_tg,Rng.av]
     exact hfin s6 lo hi _ (q+1) (.inr ⟨rfl,hm0⟩) l1 l2 l3 l4
   ·skip
    refine near_c r q 0 25000 1 (by omega) (by omega) _ (hp.pw _).app _ fun s6 lo hi l1 l2 l3 l4 l5 l6 junk=>?_
    rw[pw_pwa hr,List.append_assoc]
    simp -implicitDefEqProofs (maxSteps:=9^9) (disch:=omega) only[go_sem,simprocAttr,length_pw,hget_pw0,hget_pw,hset_pw0,hset_pw,hq,hm2,idx_tg,Rng.av]
    exact hfin s6 lo hi _ q (.inl rfl) l1 l2 l3 l4
  ·skip
   simp -implicitDefEqProofs (maxSteps:=9^9) (disch:=omega) only[go_sem,simprocAttr,length_pw,hget_pw0,hget_pw,hset_pw0,hset_pw,hq,hm2,idx_tg,Rng.av]
   refine⟨fun hm0=>?_,fun hm0=>?_⟩
   ·refine odds_c r 1 2 (by omega) (by omega) _ (hp.pw _).app _ fun s5 b5=>?_
    rw[pw_pwa hr]
    cases b5
    ·simp -implicitDefEqProofs (maxSteps:=9^9) (disch:=omega) only[go_sem,simprocAttr,length_pw,hget_pw0,hget_pw,hset_pw0,hset_pw,hq,hm2,idx_tg,Rng.av]
     refine near_c r q 0 25000 1 (by omega) (by omega) _ (hp.pw _).app _ fun s6 lo hi l1 l2 l3 l4 l5 l6 junk=>?_
     rw[pw_pwa hr,List.append_assoc]
     simp -implicitDefEqProofs (maxSteps:=9^9) (disch:=omega) only[go_sem,simprocAttr,length_pw,hget_pw0,hget_pw,hset_pw0,hset_pw,hq,hm2,idx_tg,Rng.av]
     exact hfin s6 lo hi _ q (.inl rfl) l1 l2 l3 l4
    ·simp -implicitDefEqProofs (maxSteps:=9^9) (disch:=omega) only[go_sem,simprocAttr,length_pw,hget_pw0,hget_pw,hset_pw0,hset_pw,hq,hm2,idx_tg,Rng.av]
     refine near_c r (q+1) 0 25000 1 (by omega) (by omega) _ (hp.pw _).app _ fun s6 lo hi l1 l2 l3 l4 l5 l6 junk=>?_
     rw[pw_pwa hr,List.append_assoc]
     simp -implicitDefEqProofs (maxSteps:=9^9) (disch:=omega) only[go_sem,simprocAttr,length_pw,hget_pw0,hget_pw,hset_pw0,hset_pw,hq,hm2,idx_tg,Rng.av]
     exact hfin s6 lo hi _ (q+1) (.inr ⟨rfl,hm0⟩) l1 l2 l3 l4
   ·skip
    refine near_c r q 0 25000 1 (by omega) (by omega) _ (hp.pw _).app _ fun s6 lo hi l1 l2 l3 l4 l5 l6 junk=>?_
    rw[pw_pwa hr,List.append_assoc]
    simp -implicitDefEqProofs (maxSteps:=9^9) (disch:=omega) only[go_sem,simprocAttr,length_pw,hget_pw0,hget_pw,hset_pw0,hset_pw,hq,hm2,idx_tg,Rng.av]
    exact hfin s6 lo hi _ q (.inl rfl) l1 l2 l3 l4
 ·rcases hk' with rfl | rfl | rfl
  ·skip
   simp -implicitDefEqProofs (maxSteps:=9^9) (disch:=omega) only[go_sem,simprocAttr,length_pw,hget_pw0,hget_pw,hset_pw0,hset_pw,hq,hm2,idx_tg,Rng.av]
   refine⟨fun hm0=>?_,fun hm0=>?_⟩
   ·refine odds_c r 1 2 (by omega) (by omega) _ (hp.pw _).app _ fun s5 b5=>?_
    rw[pw_pwa hr]
    cases b5
    ·simp -implicitDefEqProofs (maxSteps:=9^9) (disch:=omega) only[go_sem,simprocAttr,length_pw,hget_pw0,hget_pw,hset_pw0,hset_pw,hq,hm2,idx_tg,Rng.av]
     refine near_c r q 0 25000 1 (by omega) (by omega) _ (hp.pw _).app _ fun s6 lo hi l1 l2 l3 l4 l5 l6 junk=>?_
     rw[pw_pwa hr,List.append_assoc]
     simp -implicitDefEqProofs (maxSteps:=9^9) (disch:=omega) only[go_sem,simprocAttr,length_pw,hget_pw0,hget_pw,hset_pw0,hset_pw,hq,hm2,idx_tg,Rng.av]
     exact hfin s6 lo hi _ q (.inl rfl) l1 l2 l3 l4
    ·simp -implicitDefEqProofs (maxSteps:=9^9) (disch:=omega) only[go_sem,simprocAttr,length_pw,hget_pw0,hget_pw,hset_pw0,hset_pw,hq,hm2,idx_tg,Rng.av]
     refine near_c r (q+1) 0 25000 1 (by omega) (by omega) _ (hp.pw _).app _ fun s6 lo hi l1 l2 l3 l4 l5 l6 junk=>?_
     rw[pw_pwa hr,List.append_assoc]
     simp -implicitDefEqProofs (maxSteps:=9^9) (disch:=omega) only[go_sem,simprocAttr,length_pw,hget_pw0,hget_pw,hset_pw0,hset_pw,hq,hm2,idx_tg,Rng.av]
     exact hfin s6 lo hi _ (q+1) (.inr ⟨rfl,hm0⟩) l1 l2 l3 l4
   ·skip
    refine near_c r q 0 25000 1 (by omega) (by omega) _ (hp.pw _).app _ fun s6 lo hi l1 l2 l3 l4 l5 l6 junk=>?_
    rw[pw_pwa hr,List.append_assoc]
    simp -implicitDefEqProofs (maxSteps:=9^9) (disch:=omega) only[go_sem,simprocAttr,length_pw,hget_pw0,hget_pw,hset_pw0,hset_pw,hq,hm2,idx_tg,Rng.av]
    exact hfin s6 lo hi _ q (.inl rfl) l1 l2 l3 l4
  ·have hD:(if tg T a-tg T b<tg T b-tg T a then tg T b-tg T a else tg T a-tg T b)=dist (tg T a) (tg T b):=by unfold dist;split<;> omega
   have hD2:0≤dist (tg T a) (tg T b)∧dist (tg T a) (tg T b)≤100000:=by unfold dist;omega
   have hisR:∀lo hi,100*lo≤dist (tg T a) (tg T b)*sec→dist (tg T a) (tg T b)*sec≤100*hi→isR ⟨2,a,b,sec,⟨lo,hi⟩⟩ e.slack T=true:=fun lo hi g1 g2=>by
    have:¬(2:Int)=1:=by decide
    simp only[isR,this,if_false,if_true,decide_eq_true_eq]
    exact⟨g1,g2⟩
   generalize dist (tg T a) (tg T b)=D at hD hD2 hisR
   have hDn:0≤D*sec∧D*sec≤2000000:=⟨Int.mul_nonneg hD2.1 (by omega),by have:=Int.mul_le_mul hD2.2 hsec.2 (by omega) (by omega);omega⟩
   have e1:(D*sec).tdiv 100=D*sec/100:=Int.tdiv_eq_ediv_of_nonneg hDn.1
   have e2:(D*sec+99).tdiv 100=(D*sec+99)/100:=Int.tdiv_eq_ediv_of_nonneg (by omega)
   simp -implicitDefEqProofs (maxSteps:=9^9) (disch:=omega) only[go_sem,simprocAttr,length_pw,hget_pw0,hget_pw,hset_pw0,hset_pw,hD,e1,e2,idx_tg,Rng.av]
   refine of_c r [0,0,1] .full (by simp) _ (hp.pw _).app _ fun s5 x1 hx1=>?_
   rw[pw_pwa hr]
   have hx1':x1=0∨x1=1:=by simpa using hx1
   obtain⟨lo,hlo⟩:∃lo,(if 0<D*sec/100-x1 then D*sec/100-x1 else 0)=lo:=⟨_,rfl⟩
   have hlo2:0≤lo∧lo≤20000∧100*lo≤D*sec:=by rw[← hlo];split<;> omega
   simp -implicitDefEqProofs (maxSteps:=9^9) (disch:=omega) only[go_sem,simprocAttr,length_pw,hget_pw0,hget_pw,hset_pw0,hset_pw,hD,e1,e2,idx_tg,Rng.av,hlo]
   refine of_c r [0,0,1] .full (by simp) _ (hp.pw _).app _ fun s6 x2 hx2=>?_
   rw[pw_pwa hr]
   have hx2':x2=0∨x2=1:=by simpa using hx2
   obtain⟨hi,hhi⟩:∃hi,(D*sec+99)/100+x2=hi:=⟨_,rfl⟩
   have hhi2:lo≤hi∧hi≤25000∧D*sec≤100*hi:=by omega
   simp -implicitDefEqProofs (maxSteps:=9^9) (disch:=omega) only[go_sem,simprocAttr,length_pw,hget_pw0,hget_pw,hset_pw0,hset_pw,hD,e1,e2,idx_tg,Rng.av,hlo,hhi]
   refine h s6 ⟨2,a,b,sec,⟨lo,hi⟩⟩ _ ?_ (hisR lo hi hlo2.2.2 hhi2.2.2)
   simp only[ckR];grind
  ·by_cases hle:tg T a≤tg T b
   ·skip
    simp -implicitDefEqProofs (maxSteps:=9^9) (disch:=omega) only[go_sem,simprocAttr,length_pw,hget_pw0,hget_pw,hset_pw0,hset_pw,hq,hm2,idx_tg,Rng.av]
    refine⟨fun hm0=>?_,fun hm0=>?_⟩
    ·refine odds_c r 1 2 (by omega) (by omega) _ (hp.pw _).app _ fun s5 b5=>?_
     rw[pw_pwa hr]
     cases b5
     ·simp -implicitDefEqProofs (maxSteps:=9^9) (disch:=omega) only[go_sem,simprocAttr,length_pw,hget_pw0,hget_pw,hset_pw0,hset_pw,hq,hm2,idx_tg,Rng.av]
      refine near_c r q 0 25000 1 (by omega) (by omega) _ (hp.pw _).app _ fun s6 lo hi l1 l2 l3 l4 l5 l6 junk=>?_
      rw[pw_pwa hr,List.append_assoc]
      simp -implicitDefEqProofs (maxSteps:=9^9) (disch:=omega) only[go_sem,simprocAttr,length_pw,hget_pw0,hget_pw,hset_pw0,hset_pw,hq,hm2,idx_tg,Rng.av]
      exact hfin s6 lo hi _ q (.inl rfl) l1 l2 l3 l4
     ·simp -implicitDefEqProofs (maxSteps:=9^9) (disch:=omega) only[go_sem,simprocAttr,length_pw,hget_pw0,hget_pw,hset_pw0,hset_pw,hq,hm2,idx_tg,Rng.av]
      refine near_c r (q+1) 0 25000 1 (by omega) (by omega) _ (hp.pw _).app _ fun s6 lo hi l1 l2 l3 l4 l5 l6 junk=>?_
      rw[pw_pwa hr,List.append_assoc]
      simp -implicitDefEqProofs (maxSteps:=9^9) (disch:=omega) only[go_sem,simprocAttr,length_pw,hget_pw0,hget_pw,hset_pw0,hset_pw,hq,hm2,idx_tg,Rng.av]
      exact hfin s6 lo hi _ (q+1) (.inr ⟨rfl,hm0⟩) l1 l2 l3 l4
    ·skip
     refine near_c r q 0 25000 1 (by omega) (by omega) _ (hp.pw _).app _ fun s6 lo hi l1 l2 l3 l4 l5 l6 junk=>?_
     rw[pw_pwa hr,List.append_assoc]
     simp -implicitDefEqProofs (maxSteps:=9^9) (disch:=omega) only[go_sem,simprocAttr,length_pw,hget_pw0,hget_pw,hset_pw0,hset_pw,hq,hm2,idx_tg,Rng.av]
     exact hfin s6 lo hi _ q (.inl rfl) l1 l2 l3 l4
   ·simp -implicitDefEqProofs (maxSteps:=9^9) (disch:=omega) only[go_sem,simprocAttr,length_pw,hget_pw0,hget_pw,hset_pw0,hset_pw,hq,hm2,idx_tg,Rng.av]
    refine h s4 ⟨3,a,b,0,⟨0,0⟩⟩ _ ?_ ?_
    ·simp only[ckR];grind
    ·have n1:¬(3:Int)=1:=by decide
     have n2:¬(3:Int)=2:=by decide
     simp only[isR,n1,n2,if_false,decide_eq_true_eq];omega
end Go.Proofs
namespace Go.Proofs
open Go Go.Mu Go.Ins
variable {S:MC Tryz.prog}
theorem hinner_c(r:Nat)(x:Rng)(hx:(-1000000≤x.lo∧x.lo≤x.hi)∧x.hi≤1000000)(σ:List AObj)(hp:PotAt σ r)(Q:AV→List AObj→Prop)(h:∀s' y junk,x.lo≤y→y≤x.hi→Q (.int .i64 y) (pw σ r s'++junk)) :
  ACalls S 78 [.ptr r 0,x.av] σ Q:=by
 refine AcE (Tryz.envOK (S:=S) 18 Tryz.ord78 fs0 fs0_ok) Tryz.kp78 Tryz.func78 rfl ?_
 have hr:=hp.lt
 simp only[Rng.av]
 simp -implicitDefEqProofs (maxSteps:=9^9) (disch:=omega) only[go_sem,simprocAttr,length_pw,hget_pw0,hget_pw,hset_pw0,hset_pw]
 refine within_c r x.lo x.hi (by omega) (by omega) _ hp.app _ fun s1 a h1 h2=>?_
 rw[pw_app hr]
 simp -implicitDefEqProofs (maxSteps:=9^9) (disch:=omega) only[go_sem,simprocAttr,length_pw,hget_pw0,hget_pw,hset_pw0,hset_pw]
 refine of_c r [x.lo,x.hi,a] .full (by simp) _ (hp.pw _).app _ fun s2 b hb=>?_
 rw[pw_pwa hr]
 have hb2:x.lo≤b∧b≤x.hi:=by simp at hb;omega
 simp -implicitDefEqProofs (maxSteps:=9^9) (disch:=omega) only[go_sem,simprocAttr,length_pw,hget_pw0,hget_pw,hset_pw0,hset_pw]
 exact h _ _ _ hb2.1 hb2.2
theorem entsL_at{r:Ros}{i:Nat}(hi:i<r.ents.length):(entsL r)[i]'(by rw[entsL_len];exact hi)=(chkE r.ents[i] r.hands).1:=by
 simp only[entsL,List.getElem_map]
theorem devs_len{r:Ros}(hro:rosE r=0):(devsL r).length=r.ents.length:=by
 unfold devsL;rw[if_pos hro,List.length_map,entsL_len]
theorem devs_at{r:Ros}(hro:rosE r=0){i:Nat}(hi:i<r.ents.length){lo hi':Int}{rds:List Rd}(h:OneT r.ents[i] r.hands lo hi' rds) :
  idx ((devsL r).map Rng.av) (i:Int)=some (.agg [.int .i64 ((devR (oneV 0 lo hi' rds)).lo-r.ents[i].due),.int .i64 ((devR (oneV 0 lo hi' rds)).hi-r.ents[i].due)]):=by
 have hl:=devs_len hro
 rw[idx_nat (by omega)]
 have e:(devsL r)[i]'(by omega)=devR ((oneV 0 lo hi' rds).map (· - r.ents[i].due)):=by
  have e1:devsL r=(entsL r).map devR:=if_pos hro
  simp only[e1,List.getElem_map,entsL_at hi,h.chk]
 rw[e,devR_sub h.one]
 rfl
end Go.Proofs
namespace Go.Proofs
open Go Go.Mu Go.Ins
theorem topTuned_law(l:List Int)(hl:l.length≤4294967296)(σ:List AObj):ACalls SBes 17 [.list .no 1 (l.map (.int .i64))] σ fun v _=>v= .bool true:=by
 refine AcE (Tryz.envOK (S:=SBes) 233 Tryz.ord17 fs440 fs440_ok) Tryz.kp17 Tryz.func17 rfl ?_
 simp -implicitDefEqProofs (maxSteps:=9^9) (disch:=omega) only[go_sem,simprocAttr]
 refine newPot_c l .no hl σ _ fun s1 j1=>?_
 obtain⟨τ,hτ⟩:∃τ,τ=σ++(AObj.cells [.int .u64 s1]::j1):=⟨_,rfl⟩
 have hp:PotAt τ σ.length:=⟨s1,by rw[hτ];exact hget_at0⟩
 rw[← hτ]
 obtain⟨p,hpe⟩:∃p,p=σ.length:=⟨_,rfl⟩
 rw[← hpe] at hp⊢
 clear hτ hpe
 have hpl:=hp.lt1
 simp -implicitDefEqProofs (maxSteps:=9^9) (disch:=omega) only[go_sem,simprocAttr]
 refine rosterOf_c p 3 4 6 (by omega) (by omega) (by omega) τ hp _ fun s2 r rates by_ j2 hT=>?_
 have hfit:=hT.fit (by omega)
 have hk0:knownE r []=0:=hT.known (by omega) (by omega) (by omega) rfl
 have hh:=hT.hands
 have hsk:=hT.skill
 have hhd:=hT.head (by omega) (by omega)
 have hen:=hT.entE (by omega)
 have hel:=hT.el
 have hbl:=hT.bl
 have hsl2:=hT.sl
 have hro:rosE r=0:=hT.ro (by omega) (by omega) (by omega)
 have hg:=Ros.good_of hhd hen
 have hone:∀i (h:i<r.ents.length),∃lo hi rds,OneT r.ents[i] r.hands lo hi rds:=fun i h=>(hT.ent i h (by omega)).one (by omega) hsk
 clear hT
 simp only[Ros.av,truAV,ints1]
 simp -implicitDefEqProofs (maxSteps:=9^9) (disch:=omega) only[go_sem,simprocAttr,hlength_pw,hhget_pw0,hhget_pw,hhset_pw0,hhset_pw]
 obtain⟨f0,F,hF⟩:∃f0 F,fewL r=f0::F:=by
  obtain⟨m,_,a2,a3,_⟩:=fewL_of hg hro hk0
  rw[← a2] at a3
  exact List.exists_cons_of_ne_nil a3
 obtain⟨hF6,hF4⟩:=fewL_few r
 rw[hF] at hF6 hF4
 have hf04:=hF4 f0 (by simp)
 have hfew:=fewest_p r hfit
 rw[hk0,hF] at hfew
 simp only[List.length_cons] at hF6
 have hdev:=deviations_p r hfit
 rw[hro] at hdev
 have hdl:=devs_len hro
 have hdat:=fun i (hi:i<r.ents.length) lo hi' rds h=>@devs_at r hro i hi lo hi' rds h
 generalize devsL r=DL at hdev hdl hdat
 simp only[List.map_cons,ints1,Ros.av,Tn.av,Tn.cells] at hfew hdev
 refine hfew _ _ ?_
 simp -implicitDefEqProofs (maxSteps:=9^9) (disch:=omega) only[go_sem,simprocAttr,hlength_pw,hhget_pw0,hhget_pw,hhset_pw0,hhset_pw]
 refine hdev _ _ ?_
 simp -implicitDefEqProofs (maxSteps:=9^9) (disch:=omega) only[go_sem,simprocAttr,hlength_pw,hhget_pw0,hhget_pw,hhset_pw0,hhset_pw,hdl]
 clear hfew hdev
 have hDl:DL.length≤4:=by omega
 obtain⟨J,hJ⟩:∃J,J=j2++[AObj.cells [.int .i64 r.hands,.int .i64 r.skill,.int .i64 r.mn,.int .i64 r.mx,.list .no 2 (r.sets.map Sg.av),.list .no 6 (r.ents.map Tn.av)],AObj.cells [.list .no 1 (rates.map (.int .i64)),.list .no 1 (by_.map (.int .i64))]]:=⟨_,rfl⟩
 have hrS:∀s j,hget (pw τ p s++(J++j)) (τ.length+j2.length)=some (AObj.cells [.int .i64 r.hands,.int .i64 r.skill,.int .i64 r.mn,.int .i64 r.mx,.list .no 2 (r.sets.map Sg.av),.list .no 6 (r.ents.map Tn.av)]):=fun s j=>by rw[hJ,List.append_assoc,hhget_pw];simp
 have hrS0:∀s,hget (pw τ p s++J) (τ.length+j2.length)=some (AObj.cells [.int .i64 r.hands,.int .i64 r.skill,.int .i64 r.mn,.int .i64 r.mx,.list .no 2 (r.sets.map Sg.av),.list .no 6 (r.ents.map Tn.av)]):=fun s=>by have:=hrS s [];rwa [List.append_nil] at this
 rw[← hJ]
 clear hJ
 generalize τ.length+j2.length=q at hrS hrS0⊢
 have hav:∀t:Tn,t.av= .agg [.int .i64 t.day,.int .i64 t.hand,.int .i64 t.due,.int .i64 t.ear.slack,.list .no 2 (t.ear.tones.map Rng.av),.list .no 6 (t.ear.rds.map Rd.av)]:=fun _=>rfl
 refine ARun.forS (Tryz.envOK (S:=SBes) 233 Tryz.ord17 fs440 fs440_ok) DL.length (fun _=>True) (fun i=>[(10,.int .i64 i)]) (fun _ j=>pw τ p s2++(J++j)) [] (by kernel_rfl) (by simp) (by simp[upd,ins,subF,lookA]) trivial ?_ ?_
 ·intro i j hi _ ih
  have hir:i<r.ents.length:=by omega
  have hidx:idx (r.ents.map Tn.av) (i:Int)=some (Tn.av r.ents[i]):=idx_nat hir
  obtain⟨lo,hi',rds,h1⟩:=hone i hir
  have hdi:=hdat i hir lo hi' rds h1
  have htn:=h1.tones
  have hdb:=h1.devs
  have hdu:=h1.due
  have hte:=hfit.ear _ (List.getElem_mem hir)
  have hwi:IntKind.i64.wrap ((i:Int)+1)=((i+1:Nat):Int):=by rw[wrap64 (by omega) (by omega)];rfl
  have htp:=tones_p (S:=SBes) r.ents[i].ear (by omega) (by omega)
  rw[htn] at htp
  clear h1 htn hone hdat
  generalize r.ents[i]=t at *
  generalize devR (oneV 0 lo hi' rds)=D at *
  obtain⟨a,b⟩:=D
  simp only at hdb hdi
  rw[hav] at hidx
  have hwa:IntKind.i64.wrap (a-t.due)=a-t.due:=wrap64 (by omega) (by omega)
  have hwb:IntKind.i64.wrap (b-t.due)=b-t.due:=wrap64 (by omega) (by omega)
  simp only[Ear.av,List.map_cons,List.map_nil,Rng.av] at htp
  simp -implicitDefEqProofs (maxSteps:=9^9) (disch:=omega) only[go_sem,simprocAttr,hrS,hidx,hdi]
  refine htp _ _ ?_
  have hil:((i:Int)<DL.length)=True:=eq_true (by omega)
  clear hdu hdb hte htp
  simp -implicitDefEqProofs (maxSteps:=9^9) (disch:=omega) only[go_sem,simprocAttr,hrS,hidx,hdi,hwa,hwb,hwi,idx0]
  exact(ih trivial j).castS rfl (by simp[upd,ins,subF,lookA])
 ·intro j _
  by_cases hz:DL.length=0
  ·have hz':((DL.length:Int)=0)=True:=eq_true (by omega)
   simp -implicitDefEqProofs (maxSteps:=9^9) (disch:=omega) only[go_sem,simprocAttr,hrS,hz']
   refine tunedAwake_p _ _ ?_
   simp -implicitDefEqProofs (maxSteps:=9^9) (disch:=omega) only[go_sem,simprocAttr]
  have hz':((DL.length:Int)=0)=False:=eq_false (by omega)
  have hwl:IntKind.i64.wrap ((DL.length:Int)-1)=(DL.length:Int)-1:=wrap64 (by omega) (by omega)
  simp -implicitDefEqProofs (maxSteps:=9^9) (disch:=omega) only[go_sem,simprocAttr,hrS,hz',hwl]
  refine upto_c p ((DL.length:Int)-1) (by omega) _ (hp.pw _).app1 _ fun s3 k k1 k2=>?_
  rw[hpw_pwa hpl]
  obtain⟨n,rfl⟩:∃n:Nat,k=n:=Int.eq_ofNat_of_zero_le k1
  have hnr:n<r.ents.length:=by omega
  have hidx:idx (r.ents.map Tn.av) (n:Int)=some (Tn.av r.ents[n]):=idx_nat hnr
  obtain⟨lo,hi',rds,h1⟩:=hone n hnr
  have hdi:=hdat n hnr lo hi' rds h1
  have hge:r.ents.getD n default=r.ents[n]:=by simp[List.getD,List.getElem?_eq_getElem hnr]
  have hmo:=fun(y:Int) (hy:y∈oneV 0 lo hi' rds) (rd:Rd) (hc:ckR rd 1=0) (hr:isR rd 0 [y]=true)=>MoreR.of hfit hg hhd hen hk0 hnr (by rw[hge];exact h1) hy hc hr
  have hwo:=fun(y:Int) (hy:y∈oneV 0 lo hi' rds) (rd:Rd) (hc:ckR rd 1=0) (hr:isR rd 0 [y]=true)=>(h1.more hy hc hr).1
  have hcv:=fun(y:Int) (hy:(devR (oneV 0 lo hi' rds)).lo≤y∧y≤(devR (oneV 0 lo hi' rds)).hi)=>oneV_conv h1.ck h1.one hy
  have hdb:=h1.devs
  have hdu:=h1.due
  have hte:=hfit.ear _ (List.getElem_mem hnr)
  have hsl:r.ents[n].ear.slack=0:=by rw[h1.ear]
  clear h1 hone hdat hge k1 k2
  generalize devR (oneV 0 lo hi' rds)=D at *
  obtain⟨a,b⟩:=D
  simp only at hdb hdi hcv
  rw[hav] at hidx
  generalize ht:r.ents[n]=t at *
  simp -implicitDefEqProofs (maxSteps:=9^9) (disch:=omega) only[go_sem,simprocAttr,hrS,hidx,hdi]
  refine hinner_c p ⟨a-t.due,b-t.due⟩ ⟨⟨by show -1000000≤a-t.due;omega,by show a-t.due≤b-t.due;omega⟩,by show b-t.due≤1000000;omega⟩ _ (hp.pw _).app1 _ fun s4 y j4 y1 y2=>?_
  rw[hpw_pwa hpl]
  simp only at y1 y2
  obtain⟨c,hc⟩:∃c,c=t.due+y:=⟨_,rfl⟩
  have hwc:IntKind.i64.wrap (t.due+y)=c:=by rw[wrap64 (by omega) (by omega)];exact hc.symm
  have hcV:=hcv c (by omega)
  have hcb:1≤c∧c≤100000:=by omega
  clear hcv y1 y2 hc hdb hdu
  simp only[List.append_assoc]
  simp -implicitDefEqProofs (maxSteps:=9^9) (disch:=omega) only[go_sem,simprocAttr,hrS,hidx,hwc]
  refine readingOf_c p t.ear [c] .full (by omega) (by simp) (by simp;omega) _ (hp.pw _).app1 _ fun s5 rd j5 hrc hri=>?_
  rw[hpw_pwa hpl]
  rw[hsl] at hri
  have hM:=hmo c hcV rd hrc hri
  have hW:=hwo c hcV rd hrc hri
  have hwm:=with_m (S:=SBes) t.ear rd (by omega) (by omega)
  rw[hW] at hwm
  clear hmo hwo hcV hrc hri hW
  generalize (⟨0,[⟨lo,hi'⟩],rds++[rd]⟩: Ear)=e2 at hM hwm
  simp only[Ear.av,Rd.av] at hwm
  simp only[List.append_assoc,Rd.av]
  simp -implicitDefEqProofs (maxSteps:=9^9) (disch:=omega) only[go_sem,simprocAttr,hrS,hidx,hwc]
  refine hwm _ _ ?_
  simp -implicitDefEqProofs (maxSteps:=9^9) (disch:=omega) only[go_sem,simprocAttr,hrS,hidx,hlength_pw,hhget_pw0,hhget_pw,hhset_pw0,hhset_pw]
  obtain⟨σ2,hσ2⟩:∃σ2,σ2=pw τ p s5++(J++(j++(j4++(j5++[AObj.cells [.int .i64 e2.slack,.list .no 2 (e2.tones.map Rng.av),.list .no 6 (e2.rds.map Rd.av)]])))):=⟨_,rfl⟩
  have hr4:∀k,hget (σ2++k) q=some (AObj.cells [.int .i64 r.hands,.int .i64 r.skill,.int .i64 r.mn,.int .i64 r.mx,.list .no 2 (r.sets.map Sg.av),.list .no 6 (r.ents.map Tn.av)]):=fun k=>by rw[hσ2,List.append_assoc,List.append_assoc];exact hrS _ _
  obtain⟨Z,hZ⟩:∃Z,Z=τ.length+(J.length+(j.length+(j4.length+j5.length))):=⟨_,rfl⟩
  have he4:∀k,hget (σ2++k) Z=some (AObj.cells [.int .i64 e2.slack,.list .no 2 (e2.tones.map Rng.av),.list .no 6 (e2.rds.map Rd.av)]):=fun k=>by
   rw[hσ2,hZ,List.append_assoc,hhget_pw]
   simp only[List.append_assoc]
   rw[List.getElem?_append_right (by omega),Nat.add_sub_cancel_left,List.getElem?_append_right (by omega),Nat.add_sub_cancel_left,List.getElem?_append_right (by omega),Nat.add_sub_cancel_left,List.getElem?_append_right (by omega),Nat.sub_self]
   rfl
  rw[← hσ2,← hZ]
  clear hσ2 hZ hrS hrS0
  have hr40:=hr4 []
  have he40:=he4 []
  rw[List.append_nil] at hr40 he40
  have hfew2:=fewest_p (earR r n e2) hM.fit
  have hto:(earR r n e2).av= .agg [.int .i64 r.hands,.int .i64 r.skill,.int .i64 r.mn,.int .i64 r.mx,.list .no 2 (r.sets.map Sg.av),.list .no 6 ((earR r n e2).ents.map Tn.av)]:=rfl
  rw[hto] at hfew2
  have hnone:=hM.none
  have hsome:=fun h=>hM.some h hF
  clear hM
  have hgx:(r.ents.map Tn.av)[n]? = some (Tn.av t):=by rw[List.getElem?_map,List.getElem?_eq_getElem hnr,ht];rfl
  have hge:r.ents.getD n default=t:=by rw[← ht];simp[List.getD,List.getElem?_eq_getElem hnr]
  have hset:(r.ents.map Tn.av).set n (.agg [.int .i64 t.day,.int .i64 t.hand,.int .i64 t.due,.int .i64 e2.slack,.list .no 2 (e2.tones.map Rng.av),.list .no 6 (e2.rds.map Rd.av)])=(earR r n e2).ents.map Tn.av:=by
   unfold earR;rw[List.map_set,hge];rfl
  have hlen2:((earR r n e2).ents.map Tn.av).length=r.ents.length:=by simp[earR]
  rw[hav] at hgx
  generalize (earR r n e2).ents.map Tn.av=L3 at hset hlen2 hfew2
  refine copyRoster_c r (by omega) (by omega) hfit.ear _ _ fun a1 a2 a3 j6=>?_
  simp only[Ros.avv]
  simp -implicitDefEqProofs (maxSteps:=9^9) (disch:=omega) only[go_sem,simprocAttr,hr4,hr40,he4,he40,hgx,hset,hlen2]
  refine ACalls.freezeA (σ2.length+(4+j6.length)) 5 (r:=σ2.length+3) (n:=r.ents.length) (sz:=6) (xs:=L3) (by rw[hget_at];simp[show 4+j6.length=j6.length+4 by omega]) rfl (by rw[hget_at];rfl) hlen2 ?_
  rw[hset_at,hset_at]
  simp only[List.set_cons_succ,List.set_cons_zero]
  generalize hL':List.set _ (4+j6.length) _=L'
  clear hL' hgx hset hr4 hr40 he4 he40
  by_cases hK:knownE (earR r n e2) []=0
  ·obtain⟨g0,G,hG,hfg,hg04,hG5,hGx,hGs⟩:=hsome hK
   rw[hK,hG] at hfew2
   clear hsome hnone hK hG
   simp only[List.map_cons,ints1] at hfew2
   refine hfew2 _ _ ?_
   clear hfew2
   have hlf:((g0.length:Int)<f0.length)=False:=eq_false (by omega)
   simp -implicitDefEqProofs (maxSteps:=9^9) (disch:=omega) only[go_sem,simprocAttr,idx0,hlf]
   by_cases hce:g0.length=f0.length
   ·have hce':((g0.length:Int)=f0.length)=True:=eq_true (by omega)
    have hDs':=hGs hce
    clear hGs
    refine ARun.forS (Tryz.envOK (S:=SBes) 233 Tryz.ord17 fs440 fs440_ok) (G.length+1) (fun _=>True) (fun i=>[(20,.int .i64 i)]) (fun _ _=>σ2++L') [] (by kernel_rfl) rfl (by simp[upd,ins,subF,lookA]) trivial ?_ ?_
    ·intro u jn hn _ ihn
     have hidn:idx (AV.list .no 1 (g0.map (.int .i64))::G.map ints1) (u:Int)=some (.list .no 1 (((g0::G)[u]'(by simpa using hn)).map (.int .i64))):=idx_nat (f:=ints1) (l:=g0::G) (by simpa using hn)
     have hyF:=hDs' _ (List.getElem_mem (l:=g0::G) (n:=u) (by simpa using hn))
     have hy4:=hGx _ (List.getElem_mem (l:=g0::G) (n:=u) (by simpa using hn))
     generalize (g0::G)[u]'(by simpa using hn)=y2 at *
     have hwn:IntKind.i64.wrap ((u:Int)+1)=((u+1:Nat):Int):=by rw[wrap64 (by omega) (by omega)];rfl
     have hnl:((u:Int)<(G.length:Int)+1)=True:=eq_true (by omega)
     simp -implicitDefEqProofs (maxSteps:=9^9) (disch:=omega) only[go_sem,simprocAttr,idx0,hce',hnl]
     refine ARun.forS (Tryz.envOK (S:=SBes) 233 Tryz.ord17 fs440 fs440_ok) (F.length+1) (fun _=>True) (fun m=>[(21,.bool (((f0::F).take m).any fun z=>decide (z=y2))),(22,.int .i64 m)]) (fun _ _=>σ2++L') [] (by kernel_rfl) rfl (by simp[upd,ins,subF,lookA]) trivial ?_ ?_
     ·intro m jm hm _ ihm
      have hidm:idx (AV.list .no 1 (f0.map (.int .i64))::F.map ints1) (m:Int)=some (.list .no 1 (((f0::F)[m]'(by simpa using hm)).map (.int .i64))):=idx_nat (f:=ints1) (l:=f0::F) (by simpa using hm)
      have hz4:=hF4 _ (List.getElem_mem (l:=f0::F) (n:=m) (by simpa using hm))
      have hst:((f0::F).take (m+1)).any (fun z=>decide (z=y2))=(((f0::F).take m).any (fun z=>decide (z=y2))||decide ((f0::F)[m]'(by simpa using hm)=y2)):=by
       rw[List.take_succ_eq_append_getElem (by simpa using hm),List.any_append];simp
      rw[hst] at ihm
      clear hst
      generalize (f0::F)[m]'(by simpa using hm)=z at *
      generalize ((f0::F).take m).any (fun z=>decide (z=y2))=B at *
      have hwm:IntKind.i64.wrap ((m:Int)+1)=((m+1:Nat):Int):=by rw[wrap64 (by omega) (by omega)];rfl
      have hml:((m:Int)<(F.length:Int)+1)=True:=eq_true (by omega)
      cases B
      ·by_cases hzy:z=y2
       ·have hzy':(z=y2)=True:=eq_true hzy
        rw[decide_eq_true hzy] at ihm
        simp -implicitDefEqProofs (maxSteps:=9^9) (disch:=omega) only[go_sem,simprocAttr,hidn,hidm,hml,hwm,hzy']
        exact(ihm trivial []).castS rfl (by simp[upd,ins,subF,lookA])
       ·have hzy':(z=y2)=False:=eq_false hzy
        rw[decide_eq_false hzy] at ihm
        simp -implicitDefEqProofs (maxSteps:=9^9) (disch:=omega) only[go_sem,simprocAttr,hidn,hidm,hml,hwm,hzy']
        exact(ihm trivial []).castS rfl (by simp[upd,ins,subF,lookA])
      ·simp -implicitDefEqProofs (maxSteps:=9^9) (disch:=omega) only[go_sem,simprocAttr,hidn,hidm,hml,hwm]
       exact(ihm trivial []).castS rfl (by simp[upd,ins,subF,lookA])
     ·intro jm _
      have hal:((f0::F).take (F.length+1)).any (fun z=>decide (z=y2))=true:=by
       have:(f0::F).take (F.length+1)=f0::F:=List.take_of_length_le (by simp)
       rw[this,List.any_eq_true]
       exact⟨y2,hyF,by simp⟩
      rw[hal]
      have hml:(((F.length+1:Nat):Int)<(F.length:Int)+1)=False:=eq_false (by omega)
      simp -implicitDefEqProofs (maxSteps:=9^9) (disch:=omega) only[go_sem,simprocAttr,hml,hwn]
      exact(ihn trivial []).castS rfl (by simp[upd,ins,subF,lookA])
    ·intro jn _
     have hnl:(((G.length+1:Nat):Int)<(G.length:Int)+1)=False:=eq_false (by omega)
     simp -implicitDefEqProofs (maxSteps:=9^9) (disch:=omega) only[go_sem,simprocAttr,idx0,hce',hnl]
     refine tunedAwake_p _ _ ?_
     simp -implicitDefEqProofs (maxSteps:=9^9) (disch:=omega) only[go_sem,simprocAttr]
   ·have hce':((g0.length:Int)=f0.length)=False:=eq_false (by omega)
    have hnl:((0:Int)<(G.length:Int)+1)=True:=eq_true (by omega)
    refine ARun.forS (Tryz.envOK (S:=SBes) 233 Tryz.ord17 fs440 fs440_ok) 0 (fun _=>True) (fun i=>[(20,.int .i64 i)]) (fun _ _=>σ2++L') [] (by kernel_rfl) rfl (by simp[upd,ins,subF,lookA]) trivial (fun n jn hn=>by omega) ?_
    intro jn _
    simp -implicitDefEqProofs (maxSteps:=9^9) (disch:=omega) only[go_sem,simprocAttr,idx0,hce',hnl]
    refine tunedAwake_p _ _ ?_
    simp -implicitDefEqProofs (maxSteps:=9^9) (disch:=omega) only[go_sem,simprocAttr]
  ·obtain⟨h11,hnil⟩:=hnone hK
   rw[h11,hnil] at hfew2
   simp only[List.map_nil] at hfew2
   refine hfew2 _ _ ?_
   simp -implicitDefEqProofs (maxSteps:=9^9) (disch:=omega) only[go_sem,simprocAttr]
   refine tunedAwake_p _ _ ?_
   simp -implicitDefEqProofs (maxSteps:=9^9) (disch:=omega) only[go_sem,simprocAttr]
end Go.Proofs
