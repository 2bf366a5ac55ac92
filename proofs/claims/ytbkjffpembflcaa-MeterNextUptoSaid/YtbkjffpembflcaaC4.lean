/- Texts of a proof: lemmas. -/
import Derived.Test.YtbkjffpembflcaaDA
set_option linter.unusedSimpArgs false
set_option linter.unusedVariables false
set_option maxRecDepth 100000
namespace Go.Proofs
open Go Go.Mu

theorem withL_len {e : Ear} {r : Rd} : (withL e r).1.tones.length ≤ 4294967296 ∧ (withL e r).1.rds.length ≤ 4294967296 := by
  unfold withL
  split
  · exact ⟨by simp [noEar], by simp [noEar]⟩
  · rename_i hc
    split
    · exact ⟨by simp [noEar], by simp [noEar]⟩
    · split
      · exact ⟨by simp [noEar], by simp [noEar]⟩
      · rename_i h6
        split
        · exact ⟨by simp [noEar], by simp [noEar]⟩
        · have hc' : ck e = 0 := by simpa using hc
          have he := okE_of_ck hc'
          have := he.len
          have h7 : e.rds.length ≤ 6 := by simp only [ck] at hc'; grind
          exact ⟨by simp only; omega, by simp only [List.length_append, List.length_singleton]; omega⟩
set_option maxHeartbeats 4000000 in
theorem meterNext_c (e : Ear) (rd : Rd) (gates : List Int) (nums : List Int) (h1 : e.tones.length ≤ 4294967296) (h2 : e.rds.length ≤ 4294967296) (hg : gates.length ≤ 4294967296) (hl : nums.length ≤ 4294967296) (σ : List AObj) :
    ACalls Try.prog 9 [e.av, rd.av, .list .no 1 (gates.map (.int .i64)), .list .no 1 (nums.map (.int .i64))] σ (fun v _ => v = .bool true) := by
  refine ACalls.of_ev (E := Try.E 194 Try.ord9 fs25) (Try.envOK 194 Try.ord9 fs25 fs25_ok) Try.kp9 Try.func9 rfl (by kernel_rfl) (by simp [Try.E]) (Callable.of Try.func9 (by kernel_rfl) (by kernel_rfl)) (by kernel_rfl) ?_
  obtain ⟨rk, ra, rb, rse, ⟨rx, ry⟩⟩ := rd
  simp only [Ear.av, Rd.av]
  obtain ⟨cb, hcb⟩ : ∃ b, crowdB ⟨e.slack, e.tones, e.rds⟩ 1000 = b := ⟨_, rfl⟩
  cases cb
  case true => simp -implicitDefEqProofs (maxSteps := 2000000) (disch := omega) only [go_sem, reduceCtorEq, Nat.reduceAdd, Nat.reduceSub, Nat.reduceMul, Nat.reduceLT, Nat.reduceLeDiff, Nat.reduceEqDiff, Nat.reduceBEq, Int.reduceToNat, Int.reduceLT, Int.reduceLE, Int.reduceEq, Int.reduceNeg, Int.reduceAdd, Int.reduceSub, Int.reduceMul, ↓reduceIte, Int.reduceBEq, Int.reduceBNe, hcb]
  rcases (by omega : 20 < gates.length ∨ ¬ 20 < gates.length) with hg20 | hg20
  · simp -implicitDefEqProofs (maxSteps := 2000000) (disch := omega) only [go_sem, reduceCtorEq, Nat.reduceAdd, Nat.reduceSub, Nat.reduceMul, Nat.reduceLT, Nat.reduceLeDiff, Nat.reduceEqDiff, Nat.reduceBEq, Int.reduceToNat, Int.reduceLT, Int.reduceLE, Int.reduceEq, Int.reduceNeg, Int.reduceAdd, Int.reduceSub, Int.reduceMul, ↓reduceIte, Int.reduceBEq, Int.reduceBNe, hcb]
  simp -implicitDefEqProofs (maxSteps := 2000000) (disch := omega) only [go_sem, reduceCtorEq, Nat.reduceAdd, Nat.reduceSub, Nat.reduceMul, Nat.reduceLT, Nat.reduceLeDiff, Nat.reduceEqDiff, Nat.reduceBEq, Int.reduceToNat, Int.reduceLT, Int.reduceLE, Int.reduceEq, Int.reduceNeg, Int.reduceAdd, Int.reduceSub, Int.reduceMul, ↓reduceIte, Int.reduceBEq, Int.reduceBNe, hcb]
  clear hcb
  have hE : hget (σ ++ [((.cells [.int .i64 e.slack, .list .no 2 (e.tones.map Rng.av), .list .no 6 (e.rds.map Rd.av)]) : AObj), (.cells [.int .i64 rk, .int .i64 ra, .int .i64 rb, .int .i64 rse, .int .i64 rx, .int .i64 ry])]) σ.length = some (.cells [.int .i64 e.slack, .list .no 2 (e.tones.map Rng.av), .list .no 6 (e.rds.map Rd.av)]) := by rw [hget_at0]; rfl
  have hR : hget (σ ++ [((.cells [.int .i64 e.slack, .list .no 2 (e.tones.map Rng.av), .list .no 6 (e.rds.map Rd.av)]) : AObj), (.cells [.int .i64 rk, .int .i64 ra, .int .i64 rb, .int .i64 rse, .int .i64 rx, .int .i64 ry])]) (σ.length + 1) = some (.cells [.int .i64 rk, .int .i64 ra, .int .i64 rb, .int .i64 rse, .int .i64 rx, .int .i64 ry]) := by rw [hget_at]; rfl
  generalize σ ++ [((.cells [.int .i64 e.slack, .list .no 2 (e.tones.map Rng.av), .list .no 6 (e.rds.map Rd.av)]) : AObj), (.cells [.int .i64 rk, .int .i64 ra, .int .i64 rb, .int .i64 rse, .int .i64 rx, .int .i64 ry])] = σ0 at hE hR ⊢
  generalize σ.length + 1 = qr at hR ⊢
  generalize σ.length = qe at hE ⊢
  have hlE := hget_lt hE
  have hlR := hget_lt hR
  refine newPot_c nums .no hl _ _ fun s0 junk0 => ?_
  have hp : PotAt (σ0 ++ (.cells [.int .u64 s0] :: junk0)) σ0.length := ⟨s0, by rw [hget_at0]; rfl⟩
  replace hE : hget (σ0 ++ (.cells [.int .u64 s0] :: junk0)) qe = some (.cells [.int .i64 e.slack, .list .no 2 (e.tones.map Rng.av), .list .no 6 (e.rds.map Rd.av)]) := by rw [hget_app hlE]; exact hE
  replace hR : hget (σ0 ++ (.cells [.int .u64 s0] :: junk0)) qr = some (.cells [.int .i64 rk, .int .i64 ra, .int .i64 rb, .int .i64 rse, .int .i64 rx, .int .i64 ry]) := by rw [hget_app hlR]; exact hR
  have hrE : qe ≠ σ0.length := by omega
  have hrR : qr ≠ σ0.length := by omega
  generalize σ0 ++ (.cells [.int .u64 s0] :: junk0) = σ1 at hp hE hR ⊢
  generalize σ0.length = r at hp hrE hrR ⊢
  clear hlE hlR
  simp -implicitDefEqProofs (maxSteps := 2000000) (disch := omega) only [go_sem, reduceCtorEq, Nat.reduceAdd, Nat.reduceSub, Nat.reduceMul, Nat.reduceLT, Nat.reduceLeDiff, Nat.reduceEqDiff, Nat.reduceBEq, Int.reduceToNat, Int.reduceLT, Int.reduceLE, Int.reduceEq, Int.reduceNeg, Int.reduceAdd, Int.reduceSub, Int.reduceMul, ↓reduceIte, Int.reduceBEq, Int.reduceBNe]
  refine earOf_c r 3 3 4 (by omega) (by omega) (by omega) _ hp _ fun s1 m T junk1 hM => ?_
  replace hp : PotAt (pw σ1 r s1 ++ junk1) r := (hp.pw s1).app
  replace hE : hget (pw σ1 r s1 ++ junk1) qe = some (.cells [.int .i64 e.slack, .list .no 2 (e.tones.map Rng.av), .list .no 6 (e.rds.map Rd.av)]) := hget_pwa hE hrE
  replace hR : hget (pw σ1 r s1 ++ junk1) qr = some (.cells [.int .i64 rk, .int .i64 ra, .int .i64 rb, .int .i64 rse, .int .i64 rx, .int .i64 ry]) := hget_pwa hR hrR
  generalize pw σ1 r s1 ++ junk1 = σ2 at hp hE hR ⊢
  clear junk1
  obtain ⟨sl, ts, rs⟩ := m
  have hT1 := hM.lo
  have hT3 := hM.hi
  have hbd := hM.bd
  have hlen := hM.len
  have hrs := hM.rn
  have hsl := hM.sl
  simp only at hlen hrs hsl
  have hts3 : ts.length ≤ 4294967296 := by omega
  have hrs3 : rs.length ≤ 4294967296 := by omega
  clear hM
  simp only [Ear.av]
  have hEq : ∀ l, hget (σ2 ++ l) qe = some (.cells [.int .i64 e.slack, .list .no 2 (e.tones.map Rng.av), .list .no 6 (e.rds.map Rd.av)]) := fun l => by rw [hget_app (hget_lt hE)]; exact hE
  have hRq : ∀ l, hget (σ2 ++ l) qr = some (.cells [.int .i64 rk, .int .i64 ra, .int .i64 rb, .int .i64 rse, .int .i64 rx, .int .i64 ry]) := fun l => by rw [hget_app (hget_lt hR)]; exact hR
  have hEp : ∀ s l, hget (pw σ2 r s ++ l) qe = some (.cells [.int .i64 e.slack, .list .no 2 (e.tones.map Rng.av), .list .no 6 (e.rds.map Rd.av)]) := fun s l => hget_pwa hE hrE
  have hRp : ∀ s l, hget (pw σ2 r s ++ l) qr = some (.cells [.int .i64 rk, .int .i64 ra, .int .i64 rb, .int .i64 rse, .int .i64 rx, .int .i64 ry]) := fun s l => hget_pwa hR hrR
  have hr := hp.lt
  have hpp : ∀ s l, PotAt (pw σ2 r s ++ l) r := fun s l => (hp.pw s).app
  simp -implicitDefEqProofs (maxSteps := 2000000) (disch := omega) only [go_sem, reduceCtorEq, Nat.reduceAdd, Nat.reduceSub, Nat.reduceMul, Nat.reduceLT, Nat.reduceLeDiff, Nat.reduceEqDiff, Nat.reduceBEq, Int.reduceToNat, Int.reduceLT, Int.reduceLE, Int.reduceEq, Int.reduceNeg, Int.reduceAdd, Int.reduceSub, Int.reduceMul, ↓reduceIte, Int.reduceBEq, Int.reduceBNe, length_pw, hget_pw0, hget_pw, hset_pw0, hset_pw, hEq, hRq, hEp, hRp]
  refine readingOf_c r ⟨sl, ts, rs⟩ T .no (by simp only; omega) (by omega) (fun x hx => by have := hbd x hx; omega) _ hp.app _ fun s3 x junk3 hx1 hx2 => ?_
  clear hx1 hx2 hbd
  rw [pw_app hr, List.append_assoc]
  obtain ⟨xk, xa, xb, xse, ⟨xx, xy⟩⟩ := x
  simp only [Rd.av]
  simp -implicitDefEqProofs (maxSteps := 2000000) (disch := omega) only [go_sem, reduceCtorEq, Nat.reduceAdd, Nat.reduceSub, Nat.reduceMul, Nat.reduceLT, Nat.reduceLeDiff, Nat.reduceEqDiff, Nat.reduceBEq, Int.reduceToNat, Int.reduceLT, Int.reduceLE, Int.reduceEq, Int.reduceNeg, Int.reduceAdd, Int.reduceSub, Int.reduceMul, ↓reduceIte, Int.reduceBEq, Int.reduceBNe, length_pw, hget_pw0, hget_pw, hset_pw0, hset_pw, hEq, hRq, hEp, hRp]
  refine gatesOf_c r _ (hpp _ _) _ fun s4 g2 hg1 hg2 => ?_
  clear hg1
  rw [pw_pwa hr]
  simp -implicitDefEqProofs (maxSteps := 2000000) (disch := omega) only [go_sem, reduceCtorEq, Nat.reduceAdd, Nat.reduceSub, Nat.reduceMul, Nat.reduceLT, Nat.reduceLeDiff, Nat.reduceEqDiff, Nat.reduceBEq, Int.reduceToNat, Int.reduceLT, Int.reduceLE, Int.reduceEq, Int.reduceNeg, Int.reduceAdd, Int.reduceSub, Int.reduceMul, ↓reduceIte, Int.reduceBEq, Int.reduceBNe, length_pw, hget_pw0, hget_pw, hset_pw0, hset_pw, hEq, hRq, hEp, hRp]
  have hEL : ∀ i : Nat, i < 3 → ∃ x : Ear, idx [AV.agg [.int .i64 e.slack, .list .no 2 (e.tones.map Rng.av), .list .no 6 (e.rds.map Rd.av)], AV.agg [.int .i64 sl, .list .no 2 (ts.map Rng.av), .list .no 6 (rs.map Rd.av)], AV.agg [.int .i64 sl, .list .no 2 (ts.map Rng.av), .list .no 6 (rs.map Rd.av)]] (i : Int) = some x.av ∧ x.tones.length ≤ 4294967296 ∧ x.rds.length ≤ 4294967296 := fun i hi => by
    rcases (by omega : i = 0 ∨ i = 1 ∨ i = 2) with rfl | rfl | rfl
    · exact ⟨e, rfl, h1, h2⟩
    · exact ⟨⟨sl, ts, rs⟩, rfl, hts3, hrs3⟩
    · exact ⟨⟨sl, ts, rs⟩, rfl, hts3, hrs3⟩
  have hRL : ∀ i : Nat, i < 3 → ∃ x : Rd, idx [AV.agg [.int .i64 rk, .int .i64 ra, .int .i64 rb, .int .i64 rse, .int .i64 rx, .int .i64 ry], AV.agg [.int .i64 xk, .int .i64 xa, .int .i64 xb, .int .i64 xse, .int .i64 xx, .int .i64 xy], AV.agg [.int .i64 rk, .int .i64 ra, .int .i64 rb, .int .i64 rse, .int .i64 rx, .int .i64 ry]] (i : Int) = some x.av := fun i hi => by
    rcases (by omega : i = 0 ∨ i = 1 ∨ i = 2) with rfl | rfl | rfl
    · exact ⟨⟨rk, ra, rb, rse, ⟨rx, ry⟩⟩, rfl⟩
    · exact ⟨⟨xk, xa, xb, xse, ⟨xx, xy⟩⟩, rfl⟩
    · exact ⟨⟨rk, ra, rb, rse, ⟨rx, ry⟩⟩, rfl⟩
  have hGL : ∀ i : Nat, i < 3 → ∃ x : List Int, idx [AV.list .no 1 (gates.map (.int .i64)), .list .no 1 (g2.map (.int .i64)), .list .no 1 (gates.map (.int .i64))] (i : Int) = some (.list .no 1 (x.map (.int .i64))) ∧ x.length ≤ 4294967296 := fun i hi => by
    rcases (by omega : i = 0 ∨ i = 1 ∨ i = 2) with rfl | rfl | rfl
    · exact ⟨gates, rfl, hg⟩
    · exact ⟨g2, rfl, by omega⟩
    · exact ⟨gates, rfl, hg⟩
  generalize hE3 : [AV.agg [.int .i64 e.slack, .list .no 2 (e.tones.map Rng.av), .list .no 6 (e.rds.map Rd.av)], AV.agg [.int .i64 sl, .list .no 2 (ts.map Rng.av), .list .no 6 (rs.map Rd.av)], AV.agg [.int .i64 sl, .list .no 2 (ts.map Rng.av), .list .no 6 (rs.map Rd.av)]] = E3 at hEL ⊢
  have hl0 : E3.length = 3 := by rw [← hE3]; rfl
  generalize [AV.agg [.int .i64 rk, .int .i64 ra, .int .i64 rb, .int .i64 rse, .int .i64 rx, .int .i64 ry], AV.agg [.int .i64 xk, .int .i64 xa, .int .i64 xb, .int .i64 xse, .int .i64 xx, .int .i64 xy], AV.agg [.int .i64 rk, .int .i64 ra, .int .i64 rb, .int .i64 rse, .int .i64 rx, .int .i64 ry]] = R3 at hRL ⊢
  generalize [AV.list .no 1 (gates.map (.int .i64)), .list .no 1 (g2.map (.int .i64)), .list .no 1 (gates.map (.int .i64))] = G3 at hGL ⊢
  clear hE3 hEq hRq hEp hRp hpp hE hR
  generalize pw σ2 r s4 ++ (.cells [.int .i64 sl, .list .no 2 (ts.map Rng.av), .list .no 6 (rs.map Rd.av)] :: junk3) = τ
  clear hp hr hT1 hT3 hlen hrs hsl hts3 hrs3 h1 h2 hl hg hg20 hrE hrR hg2
  refine ARun.forS (Try.envOK 194 Try.ord9 fs25 fs25_ok) 3 (fun _ => True) (fun i => [(15, .int .i64 i)]) (fun _ j => τ ++ j) [] (by kernel_rfl) (by simp) (by simp [upd, ins, subF, lookA]) trivial ?_ ?_
  · intro i j hi _ ih
    obtain ⟨x, hx, hx1, hx2⟩ := hEL i hi
    obtain ⟨y, hy⟩ := hRL i hi
    obtain ⟨g, hgi, hgl⟩ := hGL i hi
    obtain ⟨hw1, hw2⟩ := withL_len (e := x) (r := y)
    obtain ⟨xs, xt, xr⟩ := x
    obtain ⟨yk, ya, yb, yse, ⟨yx, yy⟩⟩ := y
    simp only at hx1 hx2
    clear hEL hRL hGL
    simp -implicitDefEqProofs (maxSteps := 2000000) (disch := omega) only [go_sem, reduceCtorEq, Nat.reduceAdd, Nat.reduceSub, Nat.reduceMul, Nat.reduceLT, Nat.reduceLeDiff, Nat.reduceEqDiff, Nat.reduceBEq, Int.reduceToNat, Int.reduceLT, Int.reduceLE, Int.reduceEq, Int.reduceNeg, Int.reduceAdd, Int.reduceSub, Int.reduceMul, ↓reduceIte, Int.reduceBEq, Int.reduceBNe, hl0, hx, hy, hgi, Ear.av, Rd.av]
    exact (ih trivial (j ++ [_, _, _, _, _])).castS rfl (by simp [upd, ins, subF, lookA])
  · intro j _
    simp -implicitDefEqProofs (maxSteps := 2000000) (disch := omega) only [go_sem, reduceCtorEq, Nat.reduceAdd, Nat.reduceSub, Nat.reduceMul, Nat.reduceLT, Nat.reduceLeDiff, Nat.reduceEqDiff, Nat.reduceBEq, Int.reduceToNat, Int.reduceLT, Int.reduceLE, Int.reduceEq, Int.reduceNeg, Int.reduceAdd, Int.reduceSub, Int.reduceMul, ↓reduceIte, Int.reduceBEq, Int.reduceBNe, hl0]
end Go.Proofs
