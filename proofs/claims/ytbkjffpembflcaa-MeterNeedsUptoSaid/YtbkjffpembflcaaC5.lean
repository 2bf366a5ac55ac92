/- Texts of a proof: lemmas. -/
import Derived.Test.YtbkjffpembflcaaDA
set_option linter.unusedSimpArgs false
set_option linter.unusedVariables false
set_option maxRecDepth 100000
namespace Go.Proofs
open Go Go.Mu

def fs26 (f : FuncId) (xs : List AV) : Option AV := if f = 24 then rGate_s xs else if f = 26 then rNeeds_s xs else fs25 f xs
theorem fs26_ok : ∀ f xs v, fs26 f xs = some v → PureV Try.prog f xs v := by
  intro f xs v h
  unfold fs26 at h
  split at h
  · rename_i e; subst e; exact rGate_ok _ _ h
  split at h
  · rename_i e; subst e; exact rNeeds_ok _ _ h
  exact fs25_ok _ _ _ h
attribute [go_sem] fs26 rGate_s rNeeds_s
set_option maxHeartbeats 4000000 in
theorem meterNeeds_c (e : Ear) (tongue width : Int) (w : Rng) (gates : List Int) (nums : List Int) (h1 : e.tones.length ≤ 4294967296) (h2 : e.rds.length ≤ 4294967296) (hg : gates.length ≤ 4294967296) (hl : nums.length ≤ 4294967296) (σ : List AObj) :
    ACalls Try.prog 3 [e.av, .int .i64 tongue, .int .i64 width, w.av, .list .no 1 (gates.map (.int .i64)), .list .no 1 (nums.map (.int .i64))] σ (fun v _ => v = .bool true) := by
  refine ACalls.of_ev (E := Try.E 198 Try.ord3 fs26) (Try.envOK 198 Try.ord3 fs26 fs26_ok) Try.kp3 Try.func3 rfl (by kernel_rfl) (by simp [Try.E]) (Callable.of Try.func3 (by kernel_rfl) (by kernel_rfl)) (by kernel_rfl) ?_
  obtain ⟨wl, wh⟩ := w
  simp only [Ear.av, Rng.av]
  obtain ⟨cb, hcb⟩ : ∃ b, crowdB ⟨e.slack, e.tones, e.rds⟩ 60 = b := ⟨_, rfl⟩
  cases cb
  case true => simp -implicitDefEqProofs (maxSteps := 2000000) (disch := omega) only [go_sem, reduceCtorEq, Nat.reduceAdd, Nat.reduceSub, Nat.reduceMul, Nat.reduceLT, Nat.reduceLeDiff, Nat.reduceEqDiff, Nat.reduceBEq, Int.reduceToNat, Int.reduceLT, Int.reduceLE, Int.reduceEq, Int.reduceNeg, Int.reduceAdd, Int.reduceSub, Int.reduceMul, ↓reduceIte, Int.reduceBEq, Int.reduceBNe, hcb]
  rcases (by omega : 20 < gates.length ∨ ¬ 20 < gates.length) with hg20 | hg20
  · simp -implicitDefEqProofs (maxSteps := 2000000) (disch := omega) only [go_sem, reduceCtorEq, Nat.reduceAdd, Nat.reduceSub, Nat.reduceMul, Nat.reduceLT, Nat.reduceLeDiff, Nat.reduceEqDiff, Nat.reduceBEq, Int.reduceToNat, Int.reduceLT, Int.reduceLE, Int.reduceEq, Int.reduceNeg, Int.reduceAdd, Int.reduceSub, Int.reduceMul, ↓reduceIte, Int.reduceBEq, Int.reduceBNe, hcb]
  simp -implicitDefEqProofs (maxSteps := 2000000) (disch := omega) only [go_sem, reduceCtorEq, Nat.reduceAdd, Nat.reduceSub, Nat.reduceMul, Nat.reduceLT, Nat.reduceLeDiff, Nat.reduceEqDiff, Nat.reduceBEq, Int.reduceToNat, Int.reduceLT, Int.reduceLE, Int.reduceEq, Int.reduceNeg, Int.reduceAdd, Int.reduceSub, Int.reduceMul, ↓reduceIte, Int.reduceBEq, Int.reduceBNe, hcb]
  clear hcb
  have hE : hget (σ ++ [((.cells [.int .i64 e.slack, .list .no 2 (e.tones.map Rng.av), .list .no 6 (e.rds.map Rd.av)]) : AObj), (.cells [.int .i64 wl, .int .i64 wh])]) σ.length = some (.cells [.int .i64 e.slack, .list .no 2 (e.tones.map Rng.av), .list .no 6 (e.rds.map Rd.av)]) := by rw [hget_at0]; rfl
  have hR : hget (σ ++ [((.cells [.int .i64 e.slack, .list .no 2 (e.tones.map Rng.av), .list .no 6 (e.rds.map Rd.av)]) : AObj), (.cells [.int .i64 wl, .int .i64 wh])]) (σ.length + 1) = some (.cells [.int .i64 wl, .int .i64 wh]) := by rw [hget_at]; rfl
  generalize σ ++ [((.cells [.int .i64 e.slack, .list .no 2 (e.tones.map Rng.av), .list .no 6 (e.rds.map Rd.av)]) : AObj), (.cells [.int .i64 wl, .int .i64 wh])] = σ0 at hE hR ⊢
  generalize σ.length + 1 = qr at hR ⊢
  generalize σ.length = qe at hE ⊢
  have hlE := hget_lt hE
  have hlR := hget_lt hR
  refine newPot_c nums .no hl _ _ fun s0 junk0 => ?_
  have hp : PotAt (σ0 ++ (.cells [.int .u64 s0] :: junk0)) σ0.length := ⟨s0, by rw [hget_at0]; rfl⟩
  replace hE : hget (σ0 ++ (.cells [.int .u64 s0] :: junk0)) qe = some (.cells [.int .i64 e.slack, .list .no 2 (e.tones.map Rng.av), .list .no 6 (e.rds.map Rd.av)]) := by rw [hget_app hlE]; exact hE
  replace hR : hget (σ0 ++ (.cells [.int .u64 s0] :: junk0)) qr = some (.cells [.int .i64 wl, .int .i64 wh]) := by rw [hget_app hlR]; exact hR
  have hrE : qe ≠ σ0.length := by omega
  have hrR : qr ≠ σ0.length := by omega
  generalize σ0 ++ (.cells [.int .u64 s0] :: junk0) = σ1 at hp hE hR ⊢
  generalize σ0.length = r at hp hrE hrR ⊢
  clear hlE hlR
  simp -implicitDefEqProofs (maxSteps := 2000000) (disch := omega) only [go_sem, reduceCtorEq, Nat.reduceAdd, Nat.reduceSub, Nat.reduceMul, Nat.reduceLT, Nat.reduceLeDiff, Nat.reduceEqDiff, Nat.reduceBEq, Int.reduceToNat, Int.reduceLT, Int.reduceLE, Int.reduceEq, Int.reduceNeg, Int.reduceAdd, Int.reduceSub, Int.reduceMul, ↓reduceIte, Int.reduceBEq, Int.reduceBNe]
  refine earOf_c r 3 2 1 (by omega) (by omega) (by omega) _ hp _ fun s1 m T junk1 hM => ?_
  replace hp : PotAt (pw σ1 r s1 ++ junk1) r := (hp.pw s1).app
  replace hE : hget (pw σ1 r s1 ++ junk1) qe = some (.cells [.int .i64 e.slack, .list .no 2 (e.tones.map Rng.av), .list .no 6 (e.rds.map Rd.av)]) := hget_pwa hE hrE
  replace hR : hget (pw σ1 r s1 ++ junk1) qr = some (.cells [.int .i64 wl, .int .i64 wh]) := hget_pwa hR hrR
  generalize pw σ1 r s1 ++ junk1 = σ2 at hp hE hR ⊢
  clear junk1
  obtain ⟨sl, ts, rs⟩ := m
  have hT1 := hM.lo
  have hT3 := hM.hi
  have hbd := hM.bd
  have hlen := hM.len
  have hrs := hM.rn
  have hsl := hM.sl
  simp only at hlen hrs hsl
  have hts3 : ts.length ≤ 4294967296 := by omega
  have hrs3 : rs.length ≤ 4294967296 := by omega
  clear hM
  simp only [Ear.av]
  have hEq : ∀ l, hget (σ2 ++ l) qe = some (.cells [.int .i64 e.slack, .list .no 2 (e.tones.map Rng.av), .list .no 6 (e.rds.map Rd.av)]) := fun l => by rw [hget_app (hget_lt hE)]; exact hE
  have hRq : ∀ l, hget (σ2 ++ l) qr = some (.cells [.int .i64 wl, .int .i64 wh]) := fun l => by rw [hget_app (hget_lt hR)]; exact hR
  have hEp : ∀ s l, hget (pw σ2 r s ++ l) qe = some (.cells [.int .i64 e.slack, .list .no 2 (e.tones.map Rng.av), .list .no 6 (e.rds.map Rd.av)]) := fun s l => hget_pwa hE hrE
  have hRp : ∀ s l, hget (pw σ2 r s ++ l) qr = some (.cells [.int .i64 wl, .int .i64 wh]) := fun s l => hget_pwa hR hrR
  have hr := hp.lt
  have hpp : ∀ s l, PotAt (pw σ2 r s ++ l) r := fun s l => (hp.pw s).app
  have hTn : (T.length : Int) - 1 < 9223372036854775807 := by omega
  have hxn : idx (T.map (AV.int .i64)) ((T.length : Int) - 1) = some (.int .i64 (tg T ((T.length : Int) - 1))) := idx_tg (by omega) (by omega)
  have hbn : 50 ≤ tg T ((T.length : Int) - 1) ∧ tg T ((T.length : Int) - 1) ≤ 50030 := by
    have := hbd _ (List.getElem_mem (show T.length - 1 < T.length by omega))
    rw [← tgE] at this
    rwa [show (T.length : Int) - 1 = ((T.length - 1 : Nat) : Int) by omega]
  clear hbd
  generalize tg T ((T.length : Int) - 1) = tn at hxn hbn
  simp -implicitDefEqProofs (maxSteps := 2000000) (disch := omega) only [go_sem, reduceCtorEq, Nat.reduceAdd, Nat.reduceSub, Nat.reduceMul, Nat.reduceLT, Nat.reduceLeDiff, Nat.reduceEqDiff, Nat.reduceBEq, Int.reduceToNat, Int.reduceLT, Int.reduceLE, Int.reduceEq, Int.reduceNeg, Int.reduceAdd, Int.reduceSub, Int.reduceMul, ↓reduceIte, Int.reduceBEq, Int.reduceBNe, length_pw, hget_pw0, hget_pw, hset_pw0, hset_pw, hEq, hRq, hEp, hRp, hxn]
  refine upto_c r _ hTn _ hp.app _ fun s2 a1 n1 n2 => ?_
  clear n1 n2
  rw [pw_app hr]
  simp -implicitDefEqProofs (maxSteps := 2000000) (disch := omega) only [go_sem, reduceCtorEq, Nat.reduceAdd, Nat.reduceSub, Nat.reduceMul, Nat.reduceLT, Nat.reduceLeDiff, Nat.reduceEqDiff, Nat.reduceBEq, Int.reduceToNat, Int.reduceLT, Int.reduceLE, Int.reduceEq, Int.reduceNeg, Int.reduceAdd, Int.reduceSub, Int.reduceMul, ↓reduceIte, Int.reduceBEq, Int.reduceBNe, length_pw, hget_pw0, hget_pw, hset_pw0, hset_pw, hEq, hRq, hEp, hRp, hxn]
  refine upto_c r _ hTn _ (hpp _ _) _ fun s3 a2 n1 n2 => ?_
  clear n1 n2
  rw [pw_pwa hr]
  simp -implicitDefEqProofs (maxSteps := 2000000) (disch := omega) only [go_sem, reduceCtorEq, Nat.reduceAdd, Nat.reduceSub, Nat.reduceMul, Nat.reduceLT, Nat.reduceLeDiff, Nat.reduceEqDiff, Nat.reduceBEq, Int.reduceToNat, Int.reduceLT, Int.reduceLE, Int.reduceEq, Int.reduceNeg, Int.reduceAdd, Int.reduceSub, Int.reduceMul, ↓reduceIte, Int.reduceBEq, Int.reduceBNe, length_pw, hget_pw0, hget_pw, hset_pw0, hset_pw, hEq, hRq, hEp, hRp, hxn]
  refine upto_c r 8 (by omega) _ (hpp _ _) _ fun s4 d1 n1 n2 => ?_
  clear n1 n2
  rw [pw_pwa hr]
  simp -implicitDefEqProofs (maxSteps := 2000000) (disch := omega) only [go_sem, reduceCtorEq, Nat.reduceAdd, Nat.reduceSub, Nat.reduceMul, Nat.reduceLT, Nat.reduceLeDiff, Nat.reduceEqDiff, Nat.reduceBEq, Int.reduceToNat, Int.reduceLT, Int.reduceLE, Int.reduceEq, Int.reduceNeg, Int.reduceAdd, Int.reduceSub, Int.reduceMul, ↓reduceIte, Int.reduceBEq, Int.reduceBNe, length_pw, hget_pw0, hget_pw, hset_pw0, hset_pw, hEq, hRq, hEp, hRp, hxn]
  refine near_c r tn 1 100000 1 (by omega) (by omega) _ (hpp _ _) _ fun s5 p1 p2 n1 n2 n3 n4 n5 n6 junk3 => ?_
  clear n1 n2 n3 n4 n5 n6
  rw [pw_pwa hr, List.append_assoc]
  simp only [Rng.av]
  simp -implicitDefEqProofs (maxSteps := 2000000) (disch := omega) only [go_sem, reduceCtorEq, Nat.reduceAdd, Nat.reduceSub, Nat.reduceMul, Nat.reduceLT, Nat.reduceLeDiff, Nat.reduceEqDiff, Nat.reduceBEq, Int.reduceToNat, Int.reduceLT, Int.reduceLE, Int.reduceEq, Int.reduceNeg, Int.reduceAdd, Int.reduceSub, Int.reduceMul, ↓reduceIte, Int.reduceBEq, Int.reduceBNe, length_pw, hget_pw0, hget_pw, hset_pw0, hset_pw, hEq, hRq, hEp, hRp, hxn]
  refine gatesOf_c r _ (hpp _ _) _ fun s6 g2 hg1 hg2 => ?_
  clear hg1
  rw [pw_pwa hr]
  simp -implicitDefEqProofs (maxSteps := 2000000) (disch := omega) only [go_sem, reduceCtorEq, Nat.reduceAdd, Nat.reduceSub, Nat.reduceMul, Nat.reduceLT, Nat.reduceLeDiff, Nat.reduceEqDiff, Nat.reduceBEq, Int.reduceToNat, Int.reduceLT, Int.reduceLE, Int.reduceEq, Int.reduceNeg, Int.reduceAdd, Int.reduceSub, Int.reduceMul, ↓reduceIte, Int.reduceBEq, Int.reduceBNe, length_pw, hget_pw0, hget_pw, hset_pw0, hset_pw, hEq, hRq, hEp, hRp, hxn]
  have hEL : ∀ i : Nat, i < 3 → ∃ x : Ear, idx [AV.agg [.int .i64 e.slack, .list .no 2 (e.tones.map Rng.av), .list .no 6 (e.rds.map Rd.av)], AV.agg [.int .i64 sl, .list .no 2 (ts.map Rng.av), .list .no 6 (rs.map Rd.av)], AV.agg [.int .i64 sl, .list .no 2 (ts.map Rng.av), .list .no 6 (rs.map Rd.av)]] (i : Int) = some x.av ∧ x.tones.length ≤ 4294967296 ∧ x.rds.length ≤ 4294967296 := fun i hi => by
    rcases (by omega : i = 0 ∨ i = 1 ∨ i = 2) with rfl | rfl | rfl
    · exact ⟨e, rfl, h1, h2⟩
    · exact ⟨⟨sl, ts, rs⟩, rfl, hts3, hrs3⟩
    · exact ⟨⟨sl, ts, rs⟩, rfl, hts3, hrs3⟩
  have hRL : ∀ i : Nat, i < 3 → ∃ x : Rng, idx [AV.agg [.int .i64 wl, .int .i64 wh], AV.agg [.int .i64 p1, .int .i64 p2], AV.agg [.int .i64 wl, .int .i64 wh]] (i : Int) = some x.av := fun i hi => by
    rcases (by omega : i = 0 ∨ i = 1 ∨ i = 2) with rfl | rfl | rfl
    · exact ⟨⟨wl, wh⟩, rfl⟩
    · exact ⟨⟨p1, p2⟩, rfl⟩
    · exact ⟨⟨wl, wh⟩, rfl⟩
  have hIL : ∀ (x1 x2 x3 : Int) (i : Nat), i < 3 → ∃ x : Int, idx [.int .i64 x1, .int .i64 x2, .int .i64 x3] (i : Int) = some (.int .i64 x) := fun x1 x2 x3 i hi => by
    rcases (by omega : i = 0 ∨ i = 1 ∨ i = 2) with rfl | rfl | rfl <;> exact ⟨_, rfl⟩
  have hAL := hIL tongue a1 a2
  have hDL := hIL width d1 width
  clear hIL
  have hGL : ∀ i : Nat, i < 3 → ∃ x : List Int, idx [AV.list .no 1 (gates.map (.int .i64)), .list .no 1 (g2.map (.int .i64)), .list .no 1 (gates.map (.int .i64))] (i : Int) = some (.list .no 1 (x.map (.int .i64))) ∧ x.length ≤ 4294967296 := fun i hi => by
    rcases (by omega : i = 0 ∨ i = 1 ∨ i = 2) with rfl | rfl | rfl
    · exact ⟨gates, rfl, hg⟩
    · exact ⟨g2, rfl, by omega⟩
    · exact ⟨gates, rfl, hg⟩
  generalize hE3 : [AV.agg [.int .i64 e.slack, .list .no 2 (e.tones.map Rng.av), .list .no 6 (e.rds.map Rd.av)], AV.agg [.int .i64 sl, .list .no 2 (ts.map Rng.av), .list .no 6 (rs.map Rd.av)], AV.agg [.int .i64 sl, .list .no 2 (ts.map Rng.av), .list .no 6 (rs.map Rd.av)]] = E3 at hEL ⊢
  have hl0 : E3.length = 3 := by rw [← hE3]; rfl
  generalize [AV.agg [.int .i64 wl, .int .i64 wh], AV.agg [.int .i64 p1, .int .i64 p2], AV.agg [.int .i64 wl, .int .i64 wh]] = R3 at hRL ⊢
  generalize [AV.int .i64 tongue, .int .i64 a1, .int .i64 a2] = A3 at hAL ⊢
  generalize [AV.int .i64 width, .int .i64 d1, .int .i64 width] = D3 at hDL ⊢
  generalize [AV.list .no 1 (gates.map (.int .i64)), .list .no 1 (g2.map (.int .i64)), .list .no 1 (gates.map (.int .i64))] = G3 at hGL ⊢
  clear hE3 hEq hRq hEp hRp hpp hE hR hxn
  generalize pw σ2 r s6 ++ (.cells [.int .i64 sl, .list .no 2 (ts.map Rng.av), .list .no 6 (rs.map Rd.av)] :: junk3) = τ
  clear hp hr hT1 hT3 hlen hrs hsl hts3 hrs3 h1 h2 hl hg hg20 hrE hrR hg2 hTn hbn
  refine ARun.forS (Try.envOK 198 Try.ord3 fs26 fs26_ok) 3 (fun _ => True) (fun i => [(22, .int .i64 i)]) (fun _ j => τ ++ j) [] (by kernel_rfl) (by simp) (by simp [upd, ins, subF, lookA]) trivial ?_ ?_
  · intro i j hi _ ih
    obtain ⟨x, hx, hx1, hx2⟩ := hEL i hi
    obtain ⟨y, hy⟩ := hRL i hi
    obtain ⟨g, hgi, hgl⟩ := hGL i hi
    obtain ⟨ai, hai⟩ := hAL i hi
    obtain ⟨di, hdi⟩ := hDL i hi
    obtain ⟨xs, xt, xr⟩ := x
    obtain ⟨yl, yh⟩ := y
    simp only at hx1 hx2
    clear hEL hRL hGL hAL hDL
    simp -implicitDefEqProofs (maxSteps := 2000000) (disch := omega) only [go_sem, reduceCtorEq, Nat.reduceAdd, Nat.reduceSub, Nat.reduceMul, Nat.reduceLT, Nat.reduceLeDiff, Nat.reduceEqDiff, Nat.reduceBEq, Int.reduceToNat, Int.reduceLT, Int.reduceLE, Int.reduceEq, Int.reduceNeg, Int.reduceAdd, Int.reduceSub, Int.reduceMul, ↓reduceIte, Int.reduceBEq, Int.reduceBNe, hl0, hx, hy, hgi, hai, hdi, Ear.av, Rng.av]
    exact (ih trivial (j ++ [_])).castS rfl (by simp [upd, ins, subF, lookA])
  · intro j _
    simp -implicitDefEqProofs (maxSteps := 2000000) (disch := omega) only [go_sem, reduceCtorEq, Nat.reduceAdd, Nat.reduceSub, Nat.reduceMul, Nat.reduceLT, Nat.reduceLeDiff, Nat.reduceEqDiff, Nat.reduceBEq, Int.reduceToNat, Int.reduceLT, Int.reduceLE, Int.reduceEq, Int.reduceNeg, Int.reduceAdd, Int.reduceSub, Int.reduceMul, ↓reduceIte, Int.reduceBEq, Int.reduceBNe, hl0]
end Go.Proofs
