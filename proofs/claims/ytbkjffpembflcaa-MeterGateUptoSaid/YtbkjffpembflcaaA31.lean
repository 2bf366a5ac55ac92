/- Texts of a proof: lemmas. -/
import Derived.Test.YtbkjffpembflcaaA30
set_option linter.unusedSimpArgs false
set_option linter.unusedVariables false
set_option maxRecDepth 100000
namespace Go.Proofs
open Go Go.Mu

set_option maxHeartbeats 4000000 in
theorem meterGate_c (nums : List Int) (hl : nums.length ≤ 4294967296) (σ : List AObj) : ACalls Try.prog 4 [.list .no 1 (nums.map (.int .i64))] σ (fun v _ => v = .bool true) := by
  refine ACalls.of_ev (E := Try.E 131 Try.ord4 fs18) (Try.envOK 131 Try.ord4 fs18 fs18_ok) Try.kp4 Try.func4 rfl (by kernel_rfl) (by simp [Try.E]) (Callable.of Try.func4 (by kernel_rfl) (by kernel_rfl)) (by kernel_rfl) ?_
  simp -implicitDefEqProofs (maxSteps := 2000000) (disch := omega) only [go_sem, reduceCtorEq, Nat.reduceAdd, Nat.reduceSub, Nat.reduceMul, Nat.reduceLT, Nat.reduceLeDiff, Nat.reduceEqDiff, Nat.reduceBEq, Int.reduceToNat, Int.reduceLT, Int.reduceLE, Int.reduceEq, Int.reduceNeg, Int.reduceAdd, Int.reduceSub, Int.reduceMul, ↓reduceIte, Int.reduceBEq, Int.reduceBNe]
  refine newPot_c nums .no hl _ _ fun s0 junk0 => ?_
  have hp : PotAt (σ ++ (.cells [.int .u64 s0] :: junk0)) σ.length := ⟨s0, by rw [hget_at0]; rfl⟩
  generalize σ ++ (.cells [.int .u64 s0] :: junk0) = σ1 at hp ⊢
  generalize σ.length = r at hp ⊢
  simp -implicitDefEqProofs (maxSteps := 2000000) (disch := omega) only [go_sem, reduceCtorEq, Nat.reduceAdd, Nat.reduceSub, Nat.reduceMul, Nat.reduceLT, Nat.reduceLeDiff, Nat.reduceEqDiff, Nat.reduceBEq, Int.reduceToNat, Int.reduceLT, Int.reduceLE, Int.reduceEq, Int.reduceNeg, Int.reduceAdd, Int.reduceSub, Int.reduceMul, ↓reduceIte, Int.reduceBEq, Int.reduceBNe]
  refine earOf_c r 2 2 6 (by omega) (by omega) (by omega) _ hp _ fun s1 e T junk1 hE => ?_
  replace hp : PotAt (pw σ1 r s1 ++ junk1) r := (hp.pw s1).app
  generalize pw σ1 r s1 ++ junk1 = σ2 at hp ⊢
  clear junk0 junk1
  have hr := hp.lt
  obtain ⟨sl, ts, rs⟩ := e
  have hck := hE.ck
  have he := okE_of_ck hck
  have hlen := hE.len
  have hlo := hE.lo
  have hhi := hE.hi
  have hsl := hE.sl
  have hrn := hE.rn
  simp only at hlen hsl hrn
  simp only [Ear.av]
  simp -implicitDefEqProofs (maxSteps := 2000000) (disch := omega) only [go_sem, reduceCtorEq, Nat.reduceAdd, Nat.reduceSub, Nat.reduceMul, Nat.reduceLT, Nat.reduceLeDiff, Nat.reduceEqDiff, Nat.reduceBEq, Int.reduceToNat, Int.reduceLT, Int.reduceLE, Int.reduceEq, Int.reduceNeg, Int.reduceAdd, Int.reduceSub, Int.reduceMul, ↓reduceIte, Int.reduceBEq, Int.reduceBNe, length_pw, hget_pw0, hget_pw, hset_pw0, hset_pw]
  refine upto_c r _ (by omega) _ hp.app _ fun s3 x hx1 hx2 => ?_
  rw [pw_app hr]
  have hx : 0 ≤ x ∧ x < ts.length := by omega
  clear hx1 hx2
  simp -implicitDefEqProofs (maxSteps := 2000000) (disch := omega) only [go_sem, reduceCtorEq, Nat.reduceAdd, Nat.reduceSub, Nat.reduceMul, Nat.reduceLT, Nat.reduceLeDiff, Nat.reduceEqDiff, Nat.reduceBEq, Int.reduceToNat, Int.reduceLT, Int.reduceLE, Int.reduceEq, Int.reduceNeg, Int.reduceAdd, Int.reduceSub, Int.reduceMul, ↓reduceIte, Int.reduceBEq, Int.reduceBNe, length_pw, hget_pw0, hget_pw, hset_pw0, hset_pw]
  refine upto_c r 9 (by omega) _ (hp.pw _).app _ fun s4 width hw1 hw2 => ?_
  rw [pw_pwa hr]
  have hw : 0 ≤ width ∧ width ≤ 9 := by omega
  clear hw1 hw2
  rcases gate_cases hE hx hw.1 with ⟨k, hk, hg, hgt, hgf⟩ | ⟨hg, hgf⟩
  · simp -implicitDefEqProofs (maxSteps := 2000000) (disch := omega) only [go_sem, reduceCtorEq, Nat.reduceAdd, Nat.reduceSub, Nat.reduceMul, Nat.reduceLT, Nat.reduceLeDiff, Nat.reduceEqDiff, Nat.reduceBEq, Int.reduceToNat, Int.reduceLT, Int.reduceLE, Int.reduceEq, Int.reduceNeg, Int.reduceAdd, Int.reduceSub, Int.reduceMul, ↓reduceIte, Int.reduceBEq, Int.reduceBNe, length_pw, hget_pw0, hget_pw, hset_pw0, hset_pw, hg]
    have hgS : ∀ i : Nat, i < 20 → (i : Int) + 1 ≤ (k : Int) + 1 → gateS sl (truthsL ⟨sl, ts, rs⟩) x width ((i : Int) + 1) = decide ((i : Int) + 1 = (k : Int) + 1) := fun i h1 h2 => by
      rcases (by omega : i = k ∨ i < k) with rfl | h3
      · simpa using hgt
      · have := hgf i h3
        simp only at this
        rw [this]; symm; rw [decide_eq_false_iff_not]; omega
    have hgr : 1 ≤ (k : Int) + 1 ∧ (k : Int) + 1 ≤ 21 := by omega
    generalize (k : Int) + 1 = g at hgS hgr ⊢
    have hR0 : hget (pw σ2 r s4 ++ [.cells [.int .i64 sl, .list .no 2 (ts.map Rng.av), .list .no 6 (rs.map Rd.av)]]) σ2.length = some (.cells [.int .i64 sl, .list .no 2 (ts.map Rng.av), .list .no 6 (rs.map Rd.av)]) := by rw [hget_pw0]; rfl
    generalize pw σ2 r s4 ++ [.cells [.int .i64 sl, .list .no 2 (ts.map Rng.av), .list .no 6 (rs.map Rd.av)]] = τ0 at hR0 ⊢
    generalize σ2.length = R0 at hR0 ⊢
    have hts3 := he.len
    simp only at hts3
    have hrs3 : rs.length ≤ 2 := by omega
    obtain ⟨L, hL⟩ : ∃ L, ts.getD x.toNat default = L := ⟨_, rfl⟩
    have hLm : L ∈ ts := by rw [← hL, getD_eq (by omega)]; exact List.getElem_mem _
    have hLb := he.tone L hLm
    have hLhi : L.hi ≤ 60000 := by have := (hE.rng x.toNat (by omega) (by simp only; omega)).2.2.2.2; have hb := hE.bd T[x.toNat] (List.getElem_mem _); rw [← hL, getD_eq (by omega)]; simp only at this; omega
    have hidx : idx (ts.map Rng.av) x = some L.av := by rw [idx_get hx.1 hx.2, hL]
    have hcnt := fun (s c : Int) (h1 : 1 ≤ s ∧ s ≤ 20) (h2 : 0 ≤ c ∧ c ≤ 25000) => tones_count hck (x := x) (s := s) (c := c) (by simp only; omega) h1 h2 (by simp only; omega)
    have hall := fun (s c0 q1 q2 : Int) (n : Nat) (h1 : 1 ≤ s ∧ s ≤ 20) (h3 : q1 = L.lo * s / 100) (h4 : q2 = L.hi * s / 100) (h5 : c0 = if 0 < q1 - 3 then q1 - 3 else 0) (h6 : c0 + n = q2 + 5) => fineU_all hck (x := x) (width := width) (s := s) (c0 := c0) (q1 := q1) (q2 := q2) (n := n) (by simp only; omega) h1 (by simp only; omega) (by simp only; rw [hL]; exact h3) (by simp only; rw [hL]; exact h4) h5 h6
    have hok := truthsL_ok he
    clear hE hlo hhi hrn hlen hg hgf hp hr hLm hL hsl hck he
    refine ARun.forJ (Try.envOK 131 Try.ord4 fs18 fs18_ok) (if 20 < g then 20 else g).toNat (fun i τ => hget τ R0 = some (.cells [.int .i64 sl, .list .no 2 (ts.map Rng.av), .list .no 6 (rs.map Rd.av)])) (fun i => [(10, .int .i64 ((i : Int) + 1))]) (by kernel_rfl) (by simp [upd, ins, subF, lookA]) hR0 ?_ ?_
    · intro i τ hi hτ ih
      have hi20 : i < 20 ∧ (i : Int) + 1 ≤ g := by split at hi <;> omega
      clear hi
      have hgSi := hgS i hi20.1 hi20.2
      obtain ⟨s, hs⟩ : ∃ s : Int, (i : Int) + 1 = s := ⟨_, rfl⟩
      have hs20 : 1 ≤ s ∧ s ≤ 20 ∧ s ≤ g := by omega
      have hcs : ((i + 1 : Nat) : Int) + 1 = s + 1 := by omega
      rw [hs] at hgSi
      rw [hcs] at ih
      rw [hs]
      clear hi20 hs hgS hcs
      have m1 : 0 ≤ L.lo * s ∧ L.lo * s ≤ 20000000 := mul_le (by omega) (by omega)
      have m2 : 0 ≤ L.hi * s ∧ L.hi * s ≤ 20000000 := mul_le (by omega) (by omega)
      have m3 : L.lo * s ≤ L.hi * s := Int.mul_le_mul_of_nonneg_right hLb.2.1 (by omega)
      have m4 : L.hi * s ≤ 60000 * 20 := Int.mul_le_mul hLhi hs20.2.1 (by omega) (by omega)
      obtain ⟨q1, e1⟩ : ∃ q, q = L.lo * s / 100 := ⟨_, rfl⟩
      obtain ⟨q2, e2⟩ : ∃ q, q = L.hi * s / 100 := ⟨_, rfl⟩
      have d1 : (L.lo * s).tdiv 100 = q1 := by rw [e1]; exact Int.tdiv_eq_ediv_of_nonneg m1.1
      have d2 : (L.hi * s).tdiv 100 = q2 := by rw [e2]; exact Int.tdiv_eq_ediv_of_nonneg m2.1
      have hqb : 0 ≤ q1 ∧ q1 ≤ q2 ∧ q2 ≤ 12000 := by omega
      have w1 : IntKind.i64.wrap (L.lo * s) = L.lo * s := wrap64 (by omega) (by omega)
      have w2 : IntKind.i64.wrap (L.hi * s) = L.hi * s := wrap64 (by omega) (by omega)
      obtain ⟨c0, hc0⟩ : ∃ c, c = (if 0 < q1 - 3 then q1 - 3 else 0) := ⟨_, rfl⟩
      have hc0b : 0 ≤ c0 ∧ c0 ≤ q2 + 5 := by split at hc0 <;> omega
      obtain ⟨n, hn⟩ : ∃ n : Nat, c0 + n = q2 + 5 := ⟨(q2 + 5 - c0).toNat, by omega⟩
      have hal := hall s c0 q1 q2 n ⟨hs20.1, hs20.2.1⟩ e1 e2 hc0 hn
      have hmx : AV.int .i64 (if 0 < q1 - 3 then q1 - 3 else 0) = AV.int .i64 c0 := by rw [hc0]
      clear m1 m2 m3 m4 e1 e2 hc0 hall hLb hLhi
      simp -implicitDefEqProofs (maxSteps := 2000000) (disch := omega) only [go_sem, reduceCtorEq, Nat.reduceAdd, Nat.reduceSub, Nat.reduceMul, Nat.reduceLT, Nat.reduceLeDiff, Nat.reduceEqDiff, Nat.reduceBEq, Int.reduceToNat, Int.reduceLT, Int.reduceLE, Int.reduceEq, Int.reduceNeg, Int.reduceAdd, Int.reduceSub, Int.reduceMul, ↓reduceIte, Int.reduceBEq, Int.reduceBNe, hτ, hidx, Rng.av, w1, d1, hmx]
      refine ARun.forJ (Try.envOK 131 Try.ord4 fs18 fs18_ok) n (fun i2 τ => hget τ R0 = some (.cells [.int .i64 sl, .list .no 2 (ts.map Rng.av), .list .no 6 (rs.map Rd.av)])) (fun i2 => [(11, .bool (fineU ⟨sl, ts, rs⟩ x width s c0 i2)), (12, .int .i64 (c0 + i2))]) (by kernel_rfl) (by simp [upd, ins, subF, lookA, fineU]) hτ ?_ ?_
      · intro i2 τ2 hi2 hτ2 ih2
        obtain ⟨c, hc⟩ : ∃ c, c0 + (i2 : Int) = c := ⟨_, rfl⟩
        have hcb : 0 ≤ c ∧ c ≤ q2 + 4 := by omega
        have hcs : c0 + ((i2 + 1 : Nat) : Int) = c + 1 := by omega
        have hfs := fineU_succ (e := ⟨sl, ts, rs⟩) (x := x) (width := width) (s := s) (c0 := c0) (i := i2)
        rw [hc] at hfs
        rw [hfs, hcs] at ih2
        rw [hc]
        have hct := hcnt s c ⟨hs20.1, hs20.2.1⟩ ⟨hcb.1, by omega⟩
        simp only at hct
        have hokd : okC ⟨sl, ts, rs⟩ x width s c = (decide (outO ⟨1, x, 0, s, ⟨0, 0⟩⟩ sl (truthsL ⟨sl, ts, rs⟩) c = []) || decide ((spanL (fun t => tg t x) (outO ⟨1, x, 0, s, ⟨0, 0⟩⟩ sl (truthsL ⟨sl, ts, rs⟩) c)).hi - (spanL (fun t => tg t x) (outO ⟨1, x, 0, s, ⟨0, 0⟩⟩ sl (truthsL ⟨sl, ts, rs⟩) c)).lo ≤ width)) := rfl
        clear hfs hcs hc hi2 hn hcnt hal hgSi hc0b ih
        have hR1 : ∀ l, hget (τ2 ++ l) R0 = some (.cells [.int .i64 sl, .list .no 2 (ts.map Rng.av), .list .no 6 (rs.map Rd.av)]) := fun l => by rw [hget_app (hget_lt hτ2)]; exact hτ2
        generalize fineU ⟨sl, ts, rs⟩ x width s c0 i2 = fb at ih2 ⊢
        generalize okC ⟨sl, ts, rs⟩ x width s c = ob at hokd ih2
        simp -implicitDefEqProofs (maxSteps := 2000000) (disch := omega) only [go_sem, reduceCtorEq, Nat.reduceAdd, Nat.reduceSub, Nat.reduceMul, Nat.reduceLT, Nat.reduceLeDiff, Nat.reduceEqDiff, Nat.reduceBEq, Int.reduceToNat, Int.reduceLT, Int.reduceLE, Int.reduceEq, Int.reduceNeg, Int.reduceAdd, Int.reduceSub, Int.reduceMul, ↓reduceIte, Int.reduceBEq, Int.reduceBNe, hτ2, hidx, Rng.av, w2, d2]
        refine copyEar_c ⟨sl, ts, rs⟩ (by simp only; omega) (by simp only; omega) _ _ fun a b => ?_
        rcases hct with ⟨hO, hT9⟩ | ⟨hO, tl, hT0, htl, hsp⟩
        · rw [decide_eq_true hO, Bool.true_or] at hokd
          subst hokd
          rw [Bool.and_true] at ih2
          clear hO
          have hne : ¬ (tonesL ⟨sl, ts, rs ++ [⟨1, x, 0, s, ⟨c, c⟩⟩]⟩).2 = 0 := by rw [hT9]; decide
          simp -implicitDefEqProofs (maxSteps := 2000000) (disch := omega) only [go_sem, reduceCtorEq, Nat.reduceAdd, Nat.reduceSub, Nat.reduceMul, Nat.reduceLT, Nat.reduceLeDiff, Nat.reduceEqDiff, Nat.reduceBEq, Int.reduceToNat, Int.reduceLT, Int.reduceLE, Int.reduceEq, Int.reduceNeg, Int.reduceAdd, Int.reduceSub, Int.reduceMul, ↓reduceIte, Int.reduceBEq, Int.reduceBNe, hτ2, hidx, Rng.av, Rd.av, countR, decL_rd1, hT9]
          exact (ih2 _ (hR1 _)).castS rfl (by simp [upd, ins, subF, lookA])
        · have hidx2 : idx (tl.map Rng.av) x = some (tl.getD x.toNat default).av := idx_get hx.1 (by omega)
          rw [hsp] at hidx2
          rw [decide_eq_false hO, Bool.false_or] at hokd
          have hbd := spanL_bound (l := outO ⟨1, x, 0, s, ⟨0, 0⟩⟩ sl (truthsL ⟨sl, ts, rs⟩) c) (fun t ht => (hok t (List.mem_filter.1 ht).1).2) hO x
          clear hsp hO
          generalize spanL (fun t => tg t x) (outO ⟨1, x, 0, s, ⟨0, 0⟩⟩ sl (truthsL ⟨sl, ts, rs⟩) c) = sp at hidx2 hbd hokd
          simp -implicitDefEqProofs (maxSteps := 2000000) (disch := omega) only [go_sem, reduceCtorEq, Nat.reduceAdd, Nat.reduceSub, Nat.reduceMul, Nat.reduceLT, Nat.reduceLeDiff, Nat.reduceEqDiff, Nat.reduceBEq, Int.reduceToNat, Int.reduceLT, Int.reduceLE, Int.reduceEq, Int.reduceNeg, Int.reduceAdd, Int.reduceSub, Int.reduceMul, ↓reduceIte, Int.reduceBEq, Int.reduceBNe, hτ2, hR1, hidx, hidx2, Rng.av, Rd.av, countR, decL_rd1, hT0]
          cases fb
          · rw [Bool.false_and] at ih2
            simp -implicitDefEqProofs (maxSteps := 2000000) (disch := omega) only [go_sem, reduceCtorEq, Nat.reduceAdd, Nat.reduceSub, Nat.reduceMul, Nat.reduceLT, Nat.reduceLeDiff, Nat.reduceEqDiff, Nat.reduceBEq, Int.reduceToNat, Int.reduceLT, Int.reduceLE, Int.reduceEq, Int.reduceNeg, Int.reduceAdd, Int.reduceSub, Int.reduceMul, ↓reduceIte, Int.reduceBEq, Int.reduceBNe]
            exact (ih2 _ (hR1 _)).castS rfl (by simp [upd, ins, subF, lookA])
          · rw [Bool.true_and] at ih2
            simp -implicitDefEqProofs (maxSteps := 2000000) (disch := omega) only [go_sem, reduceCtorEq, Nat.reduceAdd, Nat.reduceSub, Nat.reduceMul, Nat.reduceLT, Nat.reduceLeDiff, Nat.reduceEqDiff, Nat.reduceBEq, Int.reduceToNat, Int.reduceLT, Int.reduceLE, Int.reduceEq, Int.reduceNeg, Int.reduceAdd, Int.reduceSub, Int.reduceMul, ↓reduceIte, Int.reduceBEq, Int.reduceBNe, hidx2, Rng.av]
            refine ⟨fun hcmp => ?_, fun hcmp => ?_⟩
            · rw [decide_eq_true hcmp] at hokd
              subst hokd
              exact (ih2 _ (hR1 _)).castS rfl (by simp [upd, ins, subF, lookA])
            · rw [decide_eq_false hcmp] at hokd
              subst hokd
              exact (ih2 _ (hR1 _)).castS rfl (by simp [upd, ins, subF, lookA])
      · intro τ2 hτ2
        simp only at hal
        rw [hal, hgSi]
        clear hal hgSi hcnt
        by_cases hge : s = g
        · first
          | (exfalso; omega)
          | (simp -implicitDefEqProofs (maxSteps := 2000000) (disch := omega) only [go_sem, reduceCtorEq, Nat.reduceAdd, Nat.reduceSub, Nat.reduceMul, Nat.reduceLT, Nat.reduceLeDiff, Nat.reduceEqDiff, Nat.reduceBEq, Int.reduceToNat, Int.reduceLT, Int.reduceLE, Int.reduceEq, Int.reduceNeg, Int.reduceAdd, Int.reduceSub, Int.reduceMul, ↓reduceIte, Int.reduceBEq, Int.reduceBNe, hτ2, hidx, Rng.av, w2, d2]; exact (ih _ hτ2).castS rfl (by simp [upd, ins, subF, lookA]))
        · simp -implicitDefEqProofs (maxSteps := 2000000) (disch := omega) only [go_sem, reduceCtorEq, Nat.reduceAdd, Nat.reduceSub, Nat.reduceMul, Nat.reduceLT, Nat.reduceLeDiff, Nat.reduceEqDiff, Nat.reduceBEq, Int.reduceToNat, Int.reduceLT, Int.reduceLE, Int.reduceEq, Int.reduceNeg, Int.reduceAdd, Int.reduceSub, Int.reduceMul, ↓reduceIte, Int.reduceBEq, Int.reduceBNe, hτ2, hidx, Rng.av, w2, d2]
          exact (ih _ hτ2).castS rfl (by simp [upd, ins, subF, lookA])
    · intro τ hτ
      have hge : (((if 20 < g then 20 else g).toNat : Nat) : Int) = if 20 < g then 20 else g := by split <;> omega
      simp -implicitDefEqProofs (maxSteps := 2000000) (disch := omega) only [go_sem, reduceCtorEq, Nat.reduceAdd, Nat.reduceSub, Nat.reduceMul, Nat.reduceLT, Nat.reduceLeDiff, Nat.reduceEqDiff, Nat.reduceBEq, Int.reduceToNat, Int.reduceLT, Int.reduceLE, Int.reduceEq, Int.reduceNeg, Int.reduceAdd, Int.reduceSub, Int.reduceMul, ↓reduceIte, Int.reduceBEq, Int.reduceBNe, hτ]
  · simp -implicitDefEqProofs (maxSteps := 2000000) (disch := omega) only [go_sem, reduceCtorEq, Nat.reduceAdd, Nat.reduceSub, Nat.reduceMul, Nat.reduceLT, Nat.reduceLeDiff, Nat.reduceEqDiff, Nat.reduceBEq, Int.reduceToNat, Int.reduceLT, Int.reduceLE, Int.reduceEq, Int.reduceNeg, Int.reduceAdd, Int.reduceSub, Int.reduceMul, ↓reduceIte, Int.reduceBEq, Int.reduceBNe, length_pw, hget_pw0, hget_pw, hset_pw0, hset_pw, hg]
    have hgS : ∀ i : Nat, i < 20 → (i : Int) + 1 ≤ 21 → gateS sl (truthsL ⟨sl, ts, rs⟩) x width ((i : Int) + 1) = decide ((i : Int) + 1 = 21) := fun i h1 h2 => by
      have := hgf i h1
      simp only at this
      rw [this]; symm; rw [decide_eq_false_iff_not]; omega
    obtain ⟨g, hg21⟩ : ∃ g : Int, 21 = g := ⟨_, rfl⟩
    have hgr : 1 ≤ g ∧ g ≤ 21 := by omega
    rw [hg21] at hgS ⊢
    have hR0 : hget (pw σ2 r s4 ++ [.cells [.int .i64 sl, .list .no 2 (ts.map Rng.av), .list .no 6 (rs.map Rd.av)]]) σ2.length = some (.cells [.int .i64 sl, .list .no 2 (ts.map Rng.av), .list .no 6 (rs.map Rd.av)]) := by rw [hget_pw0]; rfl
    generalize pw σ2 r s4 ++ [.cells [.int .i64 sl, .list .no 2 (ts.map Rng.av), .list .no 6 (rs.map Rd.av)]] = τ0 at hR0 ⊢
    generalize σ2.length = R0 at hR0 ⊢
    have hts3 := he.len
    simp only at hts3
    have hrs3 : rs.length ≤ 2 := by omega
    obtain ⟨L, hL⟩ : ∃ L, ts.getD x.toNat default = L := ⟨_, rfl⟩
    have hLm : L ∈ ts := by rw [← hL, getD_eq (by omega)]; exact List.getElem_mem _
    have hLb := he.tone L hLm
    have hLhi : L.hi ≤ 60000 := by have := (hE.rng x.toNat (by omega) (by simp only; omega)).2.2.2.2; have hb := hE.bd T[x.toNat] (List.getElem_mem _); rw [← hL, getD_eq (by omega)]; simp only at this; omega
    have hidx : idx (ts.map Rng.av) x = some L.av := by rw [idx_get hx.1 hx.2, hL]
    have hcnt := fun (s c : Int) (h1 : 1 ≤ s ∧ s ≤ 20) (h2 : 0 ≤ c ∧ c ≤ 25000) => tones_count hck (x := x) (s := s) (c := c) (by simp only; omega) h1 h2 (by simp only; omega)
    have hall := fun (s c0 q1 q2 : Int) (n : Nat) (h1 : 1 ≤ s ∧ s ≤ 20) (h3 : q1 = L.lo * s / 100) (h4 : q2 = L.hi * s / 100) (h5 : c0 = if 0 < q1 - 3 then q1 - 3 else 0) (h6 : c0 + n = q2 + 5) => fineU_all hck (x := x) (width := width) (s := s) (c0 := c0) (q1 := q1) (q2 := q2) (n := n) (by simp only; omega) h1 (by simp only; omega) (by simp only; rw [hL]; exact h3) (by simp only; rw [hL]; exact h4) h5 h6
    have hok := truthsL_ok he
    clear hE hlo hhi hrn hlen hg hgf hp hr hLm hL hsl hck he
    refine ARun.forJ (Try.envOK 131 Try.ord4 fs18 fs18_ok) (if 20 < g then 20 else g).toNat (fun i τ => hget τ R0 = some (.cells [.int .i64 sl, .list .no 2 (ts.map Rng.av), .list .no 6 (rs.map Rd.av)])) (fun i => [(10, .int .i64 ((i : Int) + 1))]) (by kernel_rfl) (by simp [upd, ins, subF, lookA]) hR0 ?_ ?_
    · intro i τ hi hτ ih
      have hi20 : i < 20 ∧ (i : Int) + 1 ≤ g := by split at hi <;> omega
      clear hi
      have hgSi := hgS i hi20.1 hi20.2
      obtain ⟨s, hs⟩ : ∃ s : Int, (i : Int) + 1 = s := ⟨_, rfl⟩
      have hs20 : 1 ≤ s ∧ s ≤ 20 ∧ s ≤ g := by omega
      have hcs : ((i + 1 : Nat) : Int) + 1 = s + 1 := by omega
      rw [hs] at hgSi
      rw [hcs] at ih
      rw [hs]
      clear hi20 hs hgS hcs
      have m1 : 0 ≤ L.lo * s ∧ L.lo * s ≤ 20000000 := mul_le (by omega) (by omega)
      have m2 : 0 ≤ L.hi * s ∧ L.hi * s ≤ 20000000 := mul_le (by omega) (by omega)
      have m3 : L.lo * s ≤ L.hi * s := Int.mul_le_mul_of_nonneg_right hLb.2.1 (by omega)
      have m4 : L.hi * s ≤ 60000 * 20 := Int.mul_le_mul hLhi hs20.2.1 (by omega) (by omega)
      obtain ⟨q1, e1⟩ : ∃ q, q = L.lo * s / 100 := ⟨_, rfl⟩
      obtain ⟨q2, e2⟩ : ∃ q, q = L.hi * s / 100 := ⟨_, rfl⟩
      have d1 : (L.lo * s).tdiv 100 = q1 := by rw [e1]; exact Int.tdiv_eq_ediv_of_nonneg m1.1
      have d2 : (L.hi * s).tdiv 100 = q2 := by rw [e2]; exact Int.tdiv_eq_ediv_of_nonneg m2.1
      have hqb : 0 ≤ q1 ∧ q1 ≤ q2 ∧ q2 ≤ 12000 := by omega
      have w1 : IntKind.i64.wrap (L.lo * s) = L.lo * s := wrap64 (by omega) (by omega)
      have w2 : IntKind.i64.wrap (L.hi * s) = L.hi * s := wrap64 (by omega) (by omega)
      obtain ⟨c0, hc0⟩ : ∃ c, c = (if 0 < q1 - 3 then q1 - 3 else 0) := ⟨_, rfl⟩
      have hc0b : 0 ≤ c0 ∧ c0 ≤ q2 + 5 := by split at hc0 <;> omega
      obtain ⟨n, hn⟩ : ∃ n : Nat, c0 + n = q2 + 5 := ⟨(q2 + 5 - c0).toNat, by omega⟩
      have hal := hall s c0 q1 q2 n ⟨hs20.1, hs20.2.1⟩ e1 e2 hc0 hn
      have hmx : AV.int .i64 (if 0 < q1 - 3 then q1 - 3 else 0) = AV.int .i64 c0 := by rw [hc0]
      clear m1 m2 m3 m4 e1 e2 hc0 hall hLb hLhi
      simp -implicitDefEqProofs (maxSteps := 2000000) (disch := omega) only [go_sem, reduceCtorEq, Nat.reduceAdd, Nat.reduceSub, Nat.reduceMul, Nat.reduceLT, Nat.reduceLeDiff, Nat.reduceEqDiff, Nat.reduceBEq, Int.reduceToNat, Int.reduceLT, Int.reduceLE, Int.reduceEq, Int.reduceNeg, Int.reduceAdd, Int.reduceSub, Int.reduceMul, ↓reduceIte, Int.reduceBEq, Int.reduceBNe, hτ, hidx, Rng.av, w1, d1, hmx]
      refine ARun.forJ (Try.envOK 131 Try.ord4 fs18 fs18_ok) n (fun i2 τ => hget τ R0 = some (.cells [.int .i64 sl, .list .no 2 (ts.map Rng.av), .list .no 6 (rs.map Rd.av)])) (fun i2 => [(11, .bool (fineU ⟨sl, ts, rs⟩ x width s c0 i2)), (12, .int .i64 (c0 + i2))]) (by kernel_rfl) (by simp [upd, ins, subF, lookA, fineU]) hτ ?_ ?_
      · intro i2 τ2 hi2 hτ2 ih2
        obtain ⟨c, hc⟩ : ∃ c, c0 + (i2 : Int) = c := ⟨_, rfl⟩
        have hcb : 0 ≤ c ∧ c ≤ q2 + 4 := by omega
        have hcs : c0 + ((i2 + 1 : Nat) : Int) = c + 1 := by omega
        have hfs := fineU_succ (e := ⟨sl, ts, rs⟩) (x := x) (width := width) (s := s) (c0 := c0) (i := i2)
        rw [hc] at hfs
        rw [hfs, hcs] at ih2
        rw [hc]
        have hct := hcnt s c ⟨hs20.1, hs20.2.1⟩ ⟨hcb.1, by omega⟩
        simp only at hct
        have hokd : okC ⟨sl, ts, rs⟩ x width s c = (decide (outO ⟨1, x, 0, s, ⟨0, 0⟩⟩ sl (truthsL ⟨sl, ts, rs⟩) c = []) || decide ((spanL (fun t => tg t x) (outO ⟨1, x, 0, s, ⟨0, 0⟩⟩ sl (truthsL ⟨sl, ts, rs⟩) c)).hi - (spanL (fun t => tg t x) (outO ⟨1, x, 0, s, ⟨0, 0⟩⟩ sl (truthsL ⟨sl, ts, rs⟩) c)).lo ≤ width)) := rfl
        clear hfs hcs hc hi2 hn hcnt hal hgSi hc0b ih
        have hR1 : ∀ l, hget (τ2 ++ l) R0 = some (.cells [.int .i64 sl, .list .no 2 (ts.map Rng.av), .list .no 6 (rs.map Rd.av)]) := fun l => by rw [hget_app (hget_lt hτ2)]; exact hτ2
        generalize fineU ⟨sl, ts, rs⟩ x width s c0 i2 = fb at ih2 ⊢
        generalize okC ⟨sl, ts, rs⟩ x width s c = ob at hokd ih2
        simp -implicitDefEqProofs (maxSteps := 2000000) (disch := omega) only [go_sem, reduceCtorEq, Nat.reduceAdd, Nat.reduceSub, Nat.reduceMul, Nat.reduceLT, Nat.reduceLeDiff, Nat.reduceEqDiff, Nat.reduceBEq, Int.reduceToNat, Int.reduceLT, Int.reduceLE, Int.reduceEq, Int.reduceNeg, Int.reduceAdd, Int.reduceSub, Int.reduceMul, ↓reduceIte, Int.reduceBEq, Int.reduceBNe, hτ2, hidx, Rng.av, w2, d2]
        refine copyEar_c ⟨sl, ts, rs⟩ (by simp only; omega) (by simp only; omega) _ _ fun a b => ?_
        rcases hct with ⟨hO, hT9⟩ | ⟨hO, tl, hT0, htl, hsp⟩
        · rw [decide_eq_true hO, Bool.true_or] at hokd
          subst hokd
          rw [Bool.and_true] at ih2
          clear hO
          have hne : ¬ (tonesL ⟨sl, ts, rs ++ [⟨1, x, 0, s, ⟨c, c⟩⟩]⟩).2 = 0 := by rw [hT9]; decide
          simp -implicitDefEqProofs (maxSteps := 2000000) (disch := omega) only [go_sem, reduceCtorEq, Nat.reduceAdd, Nat.reduceSub, Nat.reduceMul, Nat.reduceLT, Nat.reduceLeDiff, Nat.reduceEqDiff, Nat.reduceBEq, Int.reduceToNat, Int.reduceLT, Int.reduceLE, Int.reduceEq, Int.reduceNeg, Int.reduceAdd, Int.reduceSub, Int.reduceMul, ↓reduceIte, Int.reduceBEq, Int.reduceBNe, hτ2, hidx, Rng.av, Rd.av, countR, decL_rd1, hT9]
          exact (ih2 _ (hR1 _)).castS rfl (by simp [upd, ins, subF, lookA])
        · have hidx2 : idx (tl.map Rng.av) x = some (tl.getD x.toNat default).av := idx_get hx.1 (by omega)
          rw [hsp] at hidx2
          rw [decide_eq_false hO, Bool.false_or] at hokd
          have hbd := spanL_bound (l := outO ⟨1, x, 0, s, ⟨0, 0⟩⟩ sl (truthsL ⟨sl, ts, rs⟩) c) (fun t ht => (hok t (List.mem_filter.1 ht).1).2) hO x
          clear hsp hO
          generalize spanL (fun t => tg t x) (outO ⟨1, x, 0, s, ⟨0, 0⟩⟩ sl (truthsL ⟨sl, ts, rs⟩) c) = sp at hidx2 hbd hokd
          simp -implicitDefEqProofs (maxSteps := 2000000) (disch := omega) only [go_sem, reduceCtorEq, Nat.reduceAdd, Nat.reduceSub, Nat.reduceMul, Nat.reduceLT, Nat.reduceLeDiff, Nat.reduceEqDiff, Nat.reduceBEq, Int.reduceToNat, Int.reduceLT, Int.reduceLE, Int.reduceEq, Int.reduceNeg, Int.reduceAdd, Int.reduceSub, Int.reduceMul, ↓reduceIte, Int.reduceBEq, Int.reduceBNe, hτ2, hR1, hidx, hidx2, Rng.av, Rd.av, countR, decL_rd1, hT0]
          cases fb
          · rw [Bool.false_and] at ih2
            simp -implicitDefEqProofs (maxSteps := 2000000) (disch := omega) only [go_sem, reduceCtorEq, Nat.reduceAdd, Nat.reduceSub, Nat.reduceMul, Nat.reduceLT, Nat.reduceLeDiff, Nat.reduceEqDiff, Nat.reduceBEq, Int.reduceToNat, Int.reduceLT, Int.reduceLE, Int.reduceEq, Int.reduceNeg, Int.reduceAdd, Int.reduceSub, Int.reduceMul, ↓reduceIte, Int.reduceBEq, Int.reduceBNe]
            exact (ih2 _ (hR1 _)).castS rfl (by simp [upd, ins, subF, lookA])
          · rw [Bool.true_and] at ih2
            simp -implicitDefEqProofs (maxSteps := 2000000) (disch := omega) only [go_sem, reduceCtorEq, Nat.reduceAdd, Nat.reduceSub, Nat.reduceMul, Nat.reduceLT, Nat.reduceLeDiff, Nat.reduceEqDiff, Nat.reduceBEq, Int.reduceToNat, Int.reduceLT, Int.reduceLE, Int.reduceEq, Int.reduceNeg, Int.reduceAdd, Int.reduceSub, Int.reduceMul, ↓reduceIte, Int.reduceBEq, Int.reduceBNe, hidx2, Rng.av]
            refine ⟨fun hcmp => ?_, fun hcmp => ?_⟩
            · rw [decide_eq_true hcmp] at hokd
              subst hokd
              exact (ih2 _ (hR1 _)).castS rfl (by simp [upd, ins, subF, lookA])
            · rw [decide_eq_false hcmp] at hokd
              subst hokd
              exact (ih2 _ (hR1 _)).castS rfl (by simp [upd, ins, subF, lookA])
      · intro τ2 hτ2
        simp only at hal
        rw [hal, hgSi]
        clear hal hgSi hcnt
        by_cases hge : s = g
        · first
          | (exfalso; omega)
          | (simp -implicitDefEqProofs (maxSteps := 2000000) (disch := omega) only [go_sem, reduceCtorEq, Nat.reduceAdd, Nat.reduceSub, Nat.reduceMul, Nat.reduceLT, Nat.reduceLeDiff, Nat.reduceEqDiff, Nat.reduceBEq, Int.reduceToNat, Int.reduceLT, Int.reduceLE, Int.reduceEq, Int.reduceNeg, Int.reduceAdd, Int.reduceSub, Int.reduceMul, ↓reduceIte, Int.reduceBEq, Int.reduceBNe, hτ2, hidx, Rng.av, w2, d2]; exact (ih _ hτ2).castS rfl (by simp [upd, ins, subF, lookA]))
        · simp -implicitDefEqProofs (maxSteps := 2000000) (disch := omega) only [go_sem, reduceCtorEq, Nat.reduceAdd, Nat.reduceSub, Nat.reduceMul, Nat.reduceLT, Nat.reduceLeDiff, Nat.reduceEqDiff, Nat.reduceBEq, Int.reduceToNat, Int.reduceLT, Int.reduceLE, Int.reduceEq, Int.reduceNeg, Int.reduceAdd, Int.reduceSub, Int.reduceMul, ↓reduceIte, Int.reduceBEq, Int.reduceBNe, hτ2, hidx, Rng.av, w2, d2]
          exact (ih _ hτ2).castS rfl (by simp [upd, ins, subF, lookA])
    · intro τ hτ
      have hge : (((if 20 < g then 20 else g).toNat : Nat) : Int) = if 20 < g then 20 else g := by split <;> omega
      simp -implicitDefEqProofs (maxSteps := 2000000) (disch := omega) only [go_sem, reduceCtorEq, Nat.reduceAdd, Nat.reduceSub, Nat.reduceMul, Nat.reduceLT, Nat.reduceLeDiff, Nat.reduceEqDiff, Nat.reduceBEq, Int.reduceToNat, Int.reduceLT, Int.reduceLE, Int.reduceEq, Int.reduceNeg, Int.reduceAdd, Int.reduceSub, Int.reduceMul, ↓reduceIte, Int.reduceBEq, Int.reduceBNe, hτ]
end Go.Proofs
