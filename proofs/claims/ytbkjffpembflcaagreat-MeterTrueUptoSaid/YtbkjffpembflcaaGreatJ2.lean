/- Texts of a proof: lemmas. -/
import Derived.Test.YtbkjffpembflcaaGreatJ1
import Derived.Test.YtbkjffpembflcaaGreatP1
import Derived.Test.YtbkjffpembflcaaGreatAJ
import Derived.Test.YtbkjffpembflcaaGreatAK
import Derived.Test.YtbkjffpembflcaaGreatFA
import Derived.Test.YtbkjffpembflcaaGreatAN
import Derived.Test.YtbkjffpembflcaaGreatMV
set_option linter.unusedSimpArgs false
set_option linter.unusedVariables false
set_option maxRecDepth 100000
namespace Go.Proofs
open Go Go.Mu

theorem hgetJ_pwa {σ l : List AObj} {r q : Nat} {s : Int} {o : AObj} (h : hget σ q = some o) (hne : q ≠ r) : hget (pw σ r s ++ l) q = some o := by
  rw [hget_app (by rw [length_pw]; exact hget_lt h)]
  unfold pw
  rw [hget_ne (fun e => hne e.symm)]; exact h
def fs70 (f : FuncId) (xs : List AV) : Option AV := if f = 25 then within_m_s xs else if f = 35 then beats_m_s xs else if f = 16 then values_s xs else if f = 36 then false_s xs else if f = 37 then doubt_s xs else if f = 30 then inR_s xs else if f = 29 then lplace_s xs else if f = 33 then lap_s xs else if f = 39 then lright_s xs else fs22 f xs
theorem fs70_ok : ∀ f xs v, fs70 f xs = some v → PureV Tryz.prog f xs v := by
  intro f xs v h
  unfold fs70 at h
  split at h
  · rename_i e; subst e; exact within_m_ok _ _ h
  split at h
  · rename_i e; subst e; exact beats_m_ok _ _ h
  split at h
  · rename_i e; subst e; exact values_ok _ _ h
  split at h
  · rename_i e; subst e; exact false_ok _ _ h
  split at h
  · rename_i e; subst e; exact doubt_ok _ _ h
  split at h
  · rename_i e; subst e; exact inR_ok _ _ h
  split at h
  · rename_i e; subst e; exact lplace_ok _ _ h
  split at h
  · rename_i e; subst e; exact lap_ok _ _ h
  split at h
  · rename_i e; subst e; exact lright_ok _ _ h
  exact fs22_ok _ _ _ h
attribute [go_sem] fs70 within_m_s beats_m_s values_s false_s doubt_s inR_s lplace_s lap_s lright_s
set_option maxHeartbeats 4000000 in
theorem meterTrue_c (nums : List Int) (hl : nums.length ≤ 4294967296) (σ : List AObj) : ACalls Tryz.prog 5 [.list .no 1 (nums.map (.int .i64))] σ (fun v _ => v = .bool true) := by
  refine ACalls.of_ev (E := Tryz.E 250 Tryz.ord5 fs70) (Tryz.envOK 250 Tryz.ord5 fs70 fs70_ok) Tryz.kp5 Tryz.func5 rfl (by kernel_rfl) (by simp [Tryz.E]) (Callable.of Tryz.func5 (by kernel_rfl) (by kernel_rfl)) (by kernel_rfl) ?_
  simp -implicitDefEqProofs (maxSteps := 2000000) (disch := omega) only [go_sem, reduceCtorEq, Nat.reduceAdd, Nat.reduceSub, Nat.reduceMul, Nat.reduceLT, Nat.reduceLeDiff, Nat.reduceEqDiff, Nat.reduceBEq, Int.reduceToNat, Int.reduceLT, Int.reduceLE, Int.reduceEq, Int.reduceNeg, Int.reduceAdd, Int.reduceSub, Int.reduceMul, ↓reduceIte, Int.reduceBEq, Int.reduceBNe]
  refine newPot_c nums .no hl _ _ fun s0 junk0 => ?_
  have hp : PotAt (σ ++ (.cells [.int .u64 s0] :: junk0)) σ.length := ⟨s0, by rw [hget_at0]; rfl⟩
  generalize σ ++ (.cells [.int .u64 s0] :: junk0) = σ1 at hp ⊢
  generalize σ.length = r at hp ⊢
  simp -implicitDefEqProofs (maxSteps := 2000000) (disch := omega) only [go_sem, reduceCtorEq, Nat.reduceAdd, Nat.reduceSub, Nat.reduceMul, Nat.reduceLT, Nat.reduceLeDiff, Nat.reduceEqDiff, Nat.reduceBEq, Int.reduceToNat, Int.reduceLT, Int.reduceLE, Int.reduceEq, Int.reduceNeg, Int.reduceAdd, Int.reduceSub, Int.reduceMul, ↓reduceIte, Int.reduceBEq, Int.reduceBNe]
  refine earOf_c r 3 5 5 (by omega) (by omega) (by omega) _ hp _ fun s2 e T junk1 hE => ?_
  replace hp : PotAt (pw σ1 r s2 ++ junk1) r := (hp.pw s2).app
  generalize pw σ1 r s2 ++ junk1 = σ3 at hp ⊢
  clear junk0 junk1
  have hr := hp.lt
  obtain ⟨s00, hs00⟩ := pw_self hp
  obtain ⟨A, V, W, H, B, n, hN⟩ := hE.trueP
  have hts3 := (okE_of_ck hE.ck).len
  have hrs3 := hE.rn
  have hTl := hE.len
  have hbd := hE.bd
  obtain ⟨sl, ts, rs⟩ := e
  obtain ⟨hto, hAl, hAi, hfl, hdb, htr, hn1, hva, hvl, hiV, hwi, hri, hse, hhi, hhr, hbe, hib⟩ := hN
  simp only at hts3 hrs3 hTl hdb
  clear hE
  have hTb : ∀ i, i < T.length → 50 ≤ tg T i ∧ tg T i ≤ 50030 := fun i hi => by rw [tgE hi]; exact hbd _ (List.getElem_mem _)
  clear hbd
  obtain ⟨D, hD⟩ : ∃ D, List.replicate rs.length (2 : Int) = D := ⟨_, rfl⟩
  have hDl : D.length = rs.length := by rw [← hD]; simp
  have hDk : ∀ k (h : k < D.length), D[k] = 2 := fun k h => by subst hD; simp
  rw [hD] at hdb
  clear hD
  simp only [Ear.av]
  simp -implicitDefEqProofs (maxSteps := 2000000) (disch := omega) only [go_sem, reduceCtorEq, Nat.reduceAdd, Nat.reduceSub, Nat.reduceMul, Nat.reduceLT, Nat.reduceLeDiff, Nat.reduceEqDiff, Nat.reduceBEq, Int.reduceToNat, Int.reduceLT, Int.reduceLE, Int.reduceEq, Int.reduceNeg, Int.reduceAdd, Int.reduceSub, Int.reduceMul, ↓reduceIte, Int.reduceBEq, Int.reduceBNe, hto, hfl, hdb, htr, length_pw, hget_pw0, hget_pw, hset_pw0, hset_pw]
  refine ARun.forG (Tryz.envOK 250 Tryz.ord5 fs70 fs70_ok) D.length (fun _ => True) (fun k => [(14, .int .i64 k)]) (fun _ _ => σ3 ++ [(AObj.cells [.int .i64 sl, .list .no 2 (ts.map Rng.av), .list .no 6 (rs.map Rd.av)])]) [] (by kernel_rfl) (by kernel_rfl) rfl (by simp [upd, ins, subF, lookA]) trivial ?_ ?_
  · intro K Q' hK k j hk _ ih
    have hdk : idx (D.map (AV.int .i64)) (k : Int) = some (.int .i64 2) := by rw [idx_nat hk, hDk k hk]
    clear hva hvl hiV hwi hri hse hhi hhr hbe hib hTb hAi
    simp -implicitDefEqProofs (maxSteps := 2000000) (disch := omega) only [go_sem, reduceCtorEq, Nat.reduceAdd, Nat.reduceSub, Nat.reduceMul, Nat.reduceLT, Nat.reduceLeDiff, Nat.reduceEqDiff, Nat.reduceBEq, Int.reduceToNat, Int.reduceLT, Int.reduceLE, Int.reduceEq, Int.reduceNeg, Int.reduceAdd, Int.reduceSub, Int.reduceMul, ↓reduceIte, Int.reduceBEq, Int.reduceBNe, hdk]
    exact (ih trivial j).castS rfl (by simp [upd, ins, subF, lookA])
  intro _ _
  have h4z : hget (σ3 ++ [(AObj.cells [.int .i64 sl, .list .no 2 (ts.map Rng.av), .list .no 6 (rs.map Rd.av)])]) σ3.length = some (AObj.cells [.int .i64 sl, .list .no 2 (ts.map Rng.av), .list .no 6 (rs.map Rd.av)]) := by rw [hget_at0]; rfl
  have hne4 : σ3.length ≠ r := by omega
  replace hp : PotAt (σ3 ++ [(AObj.cells [.int .i64 sl, .list .no 2 (ts.map Rng.av), .list .no 6 (rs.map Rd.av)])]) r := hp.app
  generalize σ3 ++ [(AObj.cells [.int .i64 sl, .list .no 2 (ts.map Rng.av), .list .no 6 (rs.map Rd.av)])] = τ0 at hp h4z ⊢
  generalize σ3.length = R4 at h4z hne4 ⊢
  clear hr hs00 hdb hfl hto htr
  as_aux_lemma =>
  simp -implicitDefEqProofs (maxSteps := 2000000) (disch := omega) only [go_sem, reduceCtorEq, Nat.reduceAdd, Nat.reduceSub, Nat.reduceMul, Nat.reduceLT, Nat.reduceLeDiff, Nat.reduceEqDiff, Nat.reduceBEq, Int.reduceToNat, Int.reduceLT, Int.reduceLE, Int.reduceEq, Int.reduceNeg, Int.reduceAdd, Int.reduceSub, Int.reduceMul, ↓reduceIte, Int.reduceBEq, Int.reduceBNe]
  refine ARun.countG (Tryz.envOK 250 Tryz.ord5 fs70 fs70_ok) T.length (fun _ τ => PotAt τ r ∧ hget τ R4 = some (AObj.cells [.int .i64 sl, .list .no 2 (ts.map Rng.av), .list .no 6 (rs.map Rd.av)])) (fun i => [(15, .int .i64 i)]) (by kernel_rfl) (by kernel_rfl) (by simp [upd, ins, subF, lookA]) ⟨hp, h4z⟩ ?_ ?_
  · clear hp h4z
    rintro K Q' hK i τ hi ⟨hp, h4z⟩ ih
    have hr := hp.lt
    have hti : idx (T.map (AV.int .i64)) (i : Int) = some (.int .i64 (tg T i)) := idx_tg (by omega) (by omega)
    have htb := hTb i hi
    obtain ⟨alo, ahi, hA1, hA2⟩ := hAi i hi
    have hAx : idx (A.map Rng.av) (i : Int) = some (.agg [.int .i64 alo, .int .i64 ahi]) := by
      unfold idx
      simp only [Int.toNat_natCast, List.getElem?_map, hA1]
      rfl
    have hvi := hva i hi
    have hvm := hiV i hi
    have hvl2 := hvl i
    have hwq := hwi i hi
    have hrq := hri i hi
    have hself := hse i hi
    have hhij := fun j hj => hhi i j hi hj
    have hhr2 := hhr i
    have hbij := fun j hj => hbe i j hi hj
    have hib2 := hib i
    have hTj : ∀ j : Nat, j < T.length → idx (T.map (AV.int .i64)) (j : Int) = some (.int .i64 (tg T j)) := fun j hj => idx_tg (by omega) (by omega)
    clear hwi hri hse hhi hhr hbe hib hAi hA1 hva hiV hvl
    have hpl := place_nonneg (l := V i) (x := tg T i)
    have hpc : (V i).contains (tg T i) = true := by simpa using hvm
    rw [hpc] at hpl
    have hp0 : 0 ≤ placeL (V i) (tg T i) := by simpa using hpl
    clear hpl hpc hvm
    generalize hpz : placeL (V i) (tg T i) = z at hp0
    generalize V i = U at hvi hvl2 hpz
    generalize htt : tg T i = t at hti htb hA2 hpz hrq hhr2 hib2
    have hIn : decide (alo ≤ t ∧ t ≤ ahi) = true := decide_eq_true hA2
    have h4q : ∀ l, hget (τ ++ l) R4 = some (AObj.cells [.int .i64 sl, .list .no 2 (ts.map Rng.av), .list .no 6 (rs.map Rd.av)]) := fun l => by rw [hget_app (hget_lt h4z)]; exact h4z
    have h4p : ∀ s l, hget (pw τ r s ++ l) R4 = some (AObj.cells [.int .i64 sl, .list .no 2 (ts.map Rng.av), .list .no 6 (rs.map Rd.av)]) := fun s l => hgetJ_pwa h4z hne4
    have hpp : ∀ s l, PotAt (pw τ r s ++ l) r := fun s l => (hp.pw s).app
    clear hA2
    simp -implicitDefEqProofs (maxSteps := 2000000) (disch := omega) only [go_sem, reduceCtorEq, Nat.reduceAdd, Nat.reduceSub, Nat.reduceMul, Nat.reduceLT, Nat.reduceLeDiff, Nat.reduceEqDiff, Nat.reduceBEq, Int.reduceToNat, Int.reduceLT, Int.reduceLE, Int.reduceEq, Int.reduceNeg, Int.reduceAdd, Int.reduceSub, Int.reduceMul, ↓reduceIte, Int.reduceBEq, Int.reduceBNe, hti]
    refine of_c r [0, 1, -1] .full (by simp) _ hp _ fun s1 y hy => ?_
    have hyb : -1 ≤ y ∧ y ≤ 1 := by simp at hy; omega
    clear hy
    simp -implicitDefEqProofs (maxSteps := 2000000) (disch := omega) only [go_sem, reduceCtorEq, Nat.reduceAdd, Nat.reduceSub, Nat.reduceMul, Nat.reduceLT, Nat.reduceLeDiff, Nat.reduceEqDiff, Nat.reduceBEq, Int.reduceToNat, Int.reduceLT, Int.reduceLE, Int.reduceEq, Int.reduceNeg, Int.reduceAdd, Int.reduceSub, Int.reduceMul, ↓reduceIte, Int.reduceBEq, Int.reduceBNe, hti]
    refine near_c r (t + y) 1 100000 3 (by omega) (by omega) _ (hp.pw _) _ fun s2 p1 p2 n1 n2 n3 n4 n5 n6 junk3 => ?_
    have hpq : p1 ≤ p2 := by omega
    clear n1 n2 n3 n4 n5 n6 hyb
    rw [pw_pw]
    simp only [Rng.av]
    have hw2 := hwq ⟨p1, p2⟩ hpq
    have hrr := hrq ⟨p1, p2⟩
    simp only at hw2 hrr
    obtain ⟨b0, hb0⟩ : ∃ b, decide (p1 ≤ t ∧ t ≤ p2) = b := ⟨_, rfl⟩
    generalize W i ⟨p1, p2⟩ = w at hw2 hrr
    have hrl : rightL w b0 = true := by
      unfold rightL
      rw [← hb0]
      rcases hrr with rfl | ⟨rfl, h1, h2⟩ | ⟨rfl, h⟩
      · rfl
      · simp [h1, h2]
      · simp [h]
    clear hrr hwq hrq
    refine (?f : ?G → _) ?g
    case f =>
      intro hG
      cases b0
      all_goals
        simp -implicitDefEqProofs (maxSteps := 2000000) (disch := omega) only [go_sem, reduceCtorEq, Nat.reduceAdd, Nat.reduceSub, Nat.reduceMul, Nat.reduceLT, Nat.reduceLeDiff, Nat.reduceEqDiff, Nat.reduceBEq, Int.reduceToNat, Int.reduceLT, Int.reduceLE, Int.reduceEq, Int.reduceNeg, Int.reduceAdd, Int.reduceSub, Int.reduceMul, ↓reduceIte, Int.reduceBEq, Int.reduceBNe, hti, h4p, hvi, hw2, hAx, hIn, hpz, hb0, hrl, length_pw, hget_pw0, hget_pw, hset_pw0, hset_pw]
        exact hG
    clear hvi hw2 hAx hIn hpz hb0 hrl hvl2 hp0 hpq
    refine ARun.countG (Tryz.envOK 250 Tryz.ord5 fs70 fs70_ok) T.length (fun _ τ => PotAt τ r ∧ hget τ R4 = some (AObj.cells [.int .i64 sl, .list .no 2 (ts.map Rng.av), .list .no 6 (rs.map Rd.av)])) (fun j => [(21, .int .i64 j)]) (by kernel_rfl) (by simp only [todoOK_cons, hK, Bool.and_true]; kernel_rfl) (by simp [upd, ins, subF, lookA]) ⟨hpp _ _, h4p _ _⟩ ?_ ?_
    · clear hK ih hp h4z h4q h4p hpp hr
      rintro K Q' hK j τ' hj ⟨hp', h4z'⟩ ih2
      have h4p : ∀ s l, hget (pw τ' r s ++ l) R4 = some (AObj.cells [.int .i64 sl, .list .no 2 (ts.map Rng.av), .list .no 6 (rs.map Rd.av)]) := fun s l => hgetJ_pwa h4z' hne4
      have h4p0 : ∀ s, hget (pw τ' r s) R4 = some (AObj.cells [.int .i64 sl, .list .no 2 (ts.map Rng.av), .list .no 6 (rs.map Rd.av)]) := fun s => by have := h4p s []; rwa [List.append_nil] at this
      have hpp : ∀ s l, PotAt (pw τ' r s ++ l) r := fun s l => (hp'.pw s).app
      simp -implicitDefEqProofs (maxSteps := 2000000) (disch := omega) only [go_sem, reduceCtorEq, Nat.reduceAdd, Nat.reduceSub, Nat.reduceMul, Nat.reduceLT, Nat.reduceLeDiff, Nat.reduceEqDiff, Nat.reduceBEq, Int.reduceToNat, Int.reduceLT, Int.reduceLE, Int.reduceEq, Int.reduceNeg, Int.reduceAdd, Int.reduceSub, Int.reduceMul, ↓reduceIte, Int.reduceBEq, Int.reduceBNe]
      refine within_c r 1 20 (by omega) (by omega) _ hp' _ fun s3 sc n1 n2 => ?_
      have hsc : 1 ≤ sc ∧ sc ≤ 20 := by omega
      clear n1 n2
      by_cases hij : i = j
      · subst hij
        have e1 := hself.1
        have e2 := hself.2 sc hsc.1 hsc.2
        clear hself hhij hbij hhr2 hib2 hTj hTb
        simp -implicitDefEqProofs (maxSteps := 2000000) (disch := omega) only [go_sem, reduceCtorEq, Nat.reduceAdd, Nat.reduceSub, Nat.reduceMul, Nat.reduceLT, Nat.reduceLeDiff, Nat.reduceEqDiff, Nat.reduceBEq, Int.reduceToNat, Int.reduceLT, Int.reduceLE, Int.reduceEq, Int.reduceNeg, Int.reduceAdd, Int.reduceSub, Int.reduceMul, ↓reduceIte, Int.reduceBEq, Int.reduceBNe, h4p, h4p0, e1, e2, length_pw, hget_pw0, hget_pw, hset_pw0, hset_pw, Rng.av]
        exact (ih2 _ ⟨hpp _ _, h4p _ _⟩).castS rfl (by simp [upd, ins, subF, lookA])
      · have e1 := hhij j hj hij
        have e2 := hbij j hj hij sc hsc.1 hsc.2
        have e3 := hTj j hj
        have e4 := hhr2 j
        have e5 := hib2 j sc
        have e6 := hTb j hj
        have hij' : ((i : Int) = (j : Int)) = False := eq_false (by omega)
        clear hself hhij hbij hhr2 hib2 hTj hTb
        generalize H i j = v at e1 e4
        generalize B i j sc = q at e2 e5
        generalize tg T j = tj at e3 e4 e5 e6
        obtain ⟨q1, q2⟩ := q
        simp only at e5
        obtain ⟨b1, hb1⟩ : ∃ b, decide (tj < t) = b := ⟨_, rfl⟩
        have hrl : rightL v b1 = true := by
          unfold rightL
          rw [← hb1]
          rcases e4 with rfl | ⟨rfl, h1⟩ | ⟨rfl, h⟩
          · rfl
          · simp [h1]
          · simp [h]
        have hd : 0 ≤ dist t tj ∧ dist t tj ≤ 1000000 := by simp only [dist]; omega
        have hm : 0 ≤ dist t tj * sc ∧ dist t tj * sc ≤ 1000000 * 20 := mul_le hd (by omega)
        generalize hdd : dist t tj = d at e5 hd hm
        have hwr : IntKind.i64.wrap (d * sc) = d * sc := wrap64 (by omega) (by omega)
        have htd : (d * sc).tdiv 100 = d * sc / 100 := Int.tdiv_eq_ediv_of_nonneg hm.1
        have hw2 : IntKind.i64.wrap (d * sc / 100) = d * sc / 100 := wrap64 (by omega) (by omega)
        have hIn : decide (q1 ≤ d * sc / 100 ∧ d * sc / 100 ≤ q2) = true := decide_eq_true e5
        clear e4 e5 hm hd
        cases b1
        all_goals
          simp -implicitDefEqProofs (maxSteps := 2000000) (disch := omega) only [go_sem, reduceCtorEq, Nat.reduceAdd, Nat.reduceSub, Nat.reduceMul, Nat.reduceLT, Nat.reduceLeDiff, Nat.reduceEqDiff, Nat.reduceBEq, Int.reduceToNat, Int.reduceLT, Int.reduceLE, Int.reduceEq, Int.reduceNeg, Int.reduceAdd, Int.reduceSub, Int.reduceMul, ↓reduceIte, Int.reduceBEq, Int.reduceBNe, h4p, h4p0, e1, e2, e3, hti, hij', hb1, hrl, hdd, hwr, htd, hw2, hIn, length_pw, hget_pw0, hget_pw, hset_pw0, hset_pw, Rng.av]
          exact (ih2 _ ⟨hpp _ _, h4p _ _⟩).castS rfl (by simp [upd, ins, subF, lookA])
    · rintro τ' ⟨hp', h4z'⟩
      clear hself hhij hbij hhr2 hib2 hTj hTb
      simp -implicitDefEqProofs (maxSteps := 2000000) (disch := omega) only [go_sem, reduceCtorEq, Nat.reduceAdd, Nat.reduceSub, Nat.reduceMul, Nat.reduceLT, Nat.reduceLeDiff, Nat.reduceEqDiff, Nat.reduceBEq, Int.reduceToNat, Int.reduceLT, Int.reduceLE, Int.reduceEq, Int.reduceNeg, Int.reduceAdd, Int.reduceSub, Int.reduceMul, ↓reduceIte, Int.reduceBEq, Int.reduceBNe]
      exact (ih _ ⟨hp', h4z'⟩).castS rfl (by simp [upd, ins, subF, lookA])
  · rintro τ ⟨hp, h4z⟩
    clear hva hvl hiV hwi hri hse hhi hhr hbe hib hTb hAi
    simp -implicitDefEqProofs (maxSteps := 2000000) (disch := omega) only [go_sem, reduceCtorEq, Nat.reduceAdd, Nat.reduceSub, Nat.reduceMul, Nat.reduceLT, Nat.reduceLeDiff, Nat.reduceEqDiff, Nat.reduceBEq, Int.reduceToNat, Int.reduceLT, Int.reduceLE, Int.reduceEq, Int.reduceNeg, Int.reduceAdd, Int.reduceSub, Int.reduceMul, ↓reduceIte, Int.reduceBEq, Int.reduceBNe]
end Go.Proofs
