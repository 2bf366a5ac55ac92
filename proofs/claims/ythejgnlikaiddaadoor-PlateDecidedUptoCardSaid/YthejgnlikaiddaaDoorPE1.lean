/- Texts of a proof: lemmas. -/
import Derived.Test.YthejgnlikaiddaaDoorPD
import Derived.Test.YthejgnlikaiddaaDoorMu3
set_option linter.unusedSimpArgs false
set_option linter.unusedVariables false
set_option maxRecDepth 100000
namespace Go.Proofs
open Go Go.Mu

theorem map_part {α : Type} (f : Nat → α) {k n : Nat} (h : k < n) : ∃ Y, (List.range n).map f = (List.range k).map f ++ f k :: Y := by
  refine ⟨((List.range n).map f).drop (k + 1), ?_⟩
  have h1 : k < ((List.range n).map f).length := by simpa using h
  have h2 : ((List.range n).map f)[k] = f k := by simp
  rw [← h2, ← List.drop_eq_getElem_cons h1]
  have h3 : (List.range k).map f = ((List.range n).map f).take k := by rw [← List.map_take, List.take_range, Nat.min_eq_left (by omega)]
  rw [h3, List.take_append_drop]
set_option maxHeartbeats 4000000 in
theorem all1_c (c : Cat) (hc : OkC c) {r rc : Nat} {L : List AV} (T : Taker Tryd.prog r L) {τ : List AObj} (h1 : hget τ rc = some (.cells [.int .i64 c.features, .list .no 3 (c.models.map Model.av)])) (hm : ¬ T.M rc) (hC : T.C [] τ) (hL : L = (allMade c).map Made.av) :
    ACalls Tryd.prog 91 [.yield r, .ptr rc 0] τ fun _ τ' => Same T.M τ τ' ∧ (T.C L τ' ∨ ∃ D v R, L = D ++ v :: R ∧ T.St (D ++ [v]) τ') := by
  subst hL
  refine ACalls.of_ev (E := Tryd.E 41 Tryd.ord91 fs7) (Tryd.envOK 41 Tryd.ord91 fs7 fs7_ok) Tryd.kp91 Tryd.func91 rfl (by kernel_rfl) (by simp [Tryd.E]) (Callable.of Tryd.func91 (by kernel_rfl) (by kernel_rfl)) (by kernel_rfl) ?_
  have hmods := hc.models
  simp -implicitDefEqProofs (maxSteps := 2000000) (disch := omega) only [go_sem, reduceCtorEq, Nat.reduceAdd, Nat.reduceSub, Nat.reduceMul, Nat.reduceLT, Nat.reduceLeDiff, Nat.reduceEqDiff, Nat.reduceBEq, Int.reduceToNat, Int.reduceLT, Int.reduceLE, Int.reduceEq, Int.reduceNeg, Int.reduceAdd, Int.reduceSub, Int.reduceMul, ↓reduceIte, Int.reduceBEq, Int.reduceBNe, h1]
  refine ARun.forJ (Tryd.envOK 41 Tryd.ord91 fs7 fs7_ok) c.models.length (fun i σ' => Same T.M τ σ' ∧ T.C (((List.range i).flatMap fun (i : Nat) => madesOf i (c.models.getD i default)).map Made.av) σ') (fun i => [(10, .int .i64 i)]) (by kernel_rfl) (by simp [upd, ins, subF, lookA]) ⟨Same.refl, by simpa using hC⟩ ?_ ?_
  · rintro i σ' hi ⟨h5, h6⟩ ih
    have hgd : c.models.getD i default = c.models[i] := by simp [List.getD, List.getElem?_eq_getElem hi]
    have hM := hc.model _ (List.getElem_mem hi)
    obtain ⟨X, hX⟩ := flatMap_part (fun (i : Nat) => madesOf i (c.models.getD i default)) hi
    rw [flatMap_succ] at ih
    generalize hD : (List.range i).flatMap (fun (i : Nat) => madesOf i (c.models.getD i default)) = D0 at h6 hX ih
    rw [hgd] at hX ih
    have hLi : allMade c = D0 ++ (madesOf i c.models[i] ++ X) := hX
    have hmav : c.models[i].av = .agg [.int .i64 c.models[i].first, .list .no 1 (c.models[i].looks.map isv), .list .no 2 (c.models[i].nums.map Rng.av)] := rfl
    have hidx : idx (c.models.map Model.av) (i : Int) = some (c.models[i]).av := idx_nat hi
    generalize c.models[i] = m at hM ih hLi hmav hidx
    have hlk := hM.looks
    have hnm := hM.nums
    have hfi := hM.first
    clear hX hgd hD
    have hM0 : ∀ q, T.M q → q < σ'.length := fun q hq => T.lt h6 hq
    simp -implicitDefEqProofs (maxSteps := 2000000) (disch := omega) only [go_sem, reduceCtorEq, Nat.reduceAdd, Nat.reduceSub, Nat.reduceMul, Nat.reduceLT, Nat.reduceLeDiff, Nat.reduceEqDiff, Nat.reduceBEq, Int.reduceToNat, Int.reduceLT, Int.reduceLE, Int.reduceEq, Int.reduceNeg, Int.reduceAdd, Int.reduceSub, Int.reduceMul, ↓reduceIte, Int.reduceBEq, Int.reduceBNe, hmav, hidx]
    refine ARun.forJ (Tryd.envOK 41 Tryd.ord91 fs7 fs7_ok) m.looks.length (fun k τ2 => Same T.M (σ' ++ [.cells [.int .i64 m.first, .list .no 1 (m.looks.map isv), .list .no 2 (m.nums.map Rng.av)]]) τ2 ∧ T.C ((D0 ++ (List.range k).map (madeOf i m)).map Made.av) τ2) (fun k => [(18, .int .i64 k)]) (by kernel_rfl) (by simp [upd, ins, subF, lookA]) ⟨Same.refl, by simpa using T.keep h6 (SameOn.app hM0)⟩ ?_ ?_
    · rintro k τ2 hk ⟨g5, g6⟩ ih2
      have p4 : hget τ2 σ'.length = some (.cells [.int .i64 m.first, .list .no 1 (m.looks.map isv), .list .no 2 (m.nums.map Rng.av)]) := g5.get hget_at0 (fun h => by have := hM0 _ h; omega)
      have hk2 : k < m.nums.length := by omega
      have hll := hM.look _ (List.getElem_mem hk)
      have hfe := hc.features
      have hlen4 : m.looks[k].length ≤ 4 := by omega
      have hmk : (madeOf i m k).av = .agg [.int .i64 i, .int .i64 (m.first + k), .int .i64 (tg m.looks[k] 0), .int .i64 (tg m.looks[k] 1), .int .i64 (tg m.looks[k] 2), .int .i64 (tg m.looks[k] 3), .int .i64 m.nums[k].lo, .int .i64 m.nums[k].hi] := by
        simp [Made.av, madeOf, List.getD, List.getElem?_eq_getElem hk, List.getElem?_eq_getElem hk2]
      obtain ⟨R, hR⟩ : ∃ R, (allMade c).map Made.av = (D0 ++ (List.range k).map (madeOf i m)).map Made.av ++ (madeOf i m k).av :: R := by
        obtain ⟨Y, hY⟩ := map_part (madeOf i m) hk
        exact ⟨(Y ++ X).map Made.av, by rw [hLi, show madesOf i m = _ from hY]; simp⟩
      clear ih hLi hll
      simp -implicitDefEqProofs (maxSteps := 2000000) (disch := omega) only [go_sem, reduceCtorEq, Nat.reduceAdd, Nat.reduceSub, Nat.reduceMul, Nat.reduceLT, Nat.reduceLeDiff, Nat.reduceEqDiff, Nat.reduceBEq, Int.reduceToNat, Int.reduceLT, Int.reduceLE, Int.reduceEq, Int.reduceNeg, Int.reduceAdd, Int.reduceSub, Int.reduceMul, ↓reduceIte, Int.reduceBEq, Int.reduceBNe, p4, Rng.av, lkv]
      rw [← hmk]
      refine (T.take hR g6).mono fun v τ3 hv => ?_
      rcases hv with ⟨q1, ⟨rfl, q2⟩ | ⟨rfl, q2⟩⟩
      · simp -implicitDefEqProofs (maxSteps := 2000000) (disch := omega) only [go_sem, reduceCtorEq, Nat.reduceAdd, Nat.reduceSub, Nat.reduceMul, Nat.reduceLT, Nat.reduceLeDiff, Nat.reduceEqDiff, Nat.reduceBEq, Int.reduceToNat, Int.reduceLT, Int.reduceLE, Int.reduceEq, Int.reduceNeg, Int.reduceAdd, Int.reduceSub, Int.reduceMul, ↓reduceIte, Int.reduceBEq, Int.reduceBNe]
        refine (ih2 τ3 ⟨g5.trans q1, by simpa [List.range_succ] using q2⟩).castS rfl (by simp [upd, ins, subF, lookA])
      · simp -implicitDefEqProofs (maxSteps := 2000000) (disch := omega) only [go_sem, reduceCtorEq, Nat.reduceAdd, Nat.reduceSub, Nat.reduceMul, Nat.reduceLT, Nat.reduceLeDiff, Nat.reduceEqDiff, Nat.reduceBEq, Int.reduceToNat, Int.reduceLT, Int.reduceLE, Int.reduceEq, Int.reduceNeg, Int.reduceAdd, Int.reduceSub, Int.reduceMul, ↓reduceIte, Int.reduceBEq, Int.reduceBNe]
        exact ⟨h5.trans (Same.app.trans (g5.trans q1)), .inr ⟨_, _, R, hR, q2⟩⟩
    · rintro τ2 ⟨g5, g6⟩
      simp -implicitDefEqProofs (maxSteps := 2000000) (disch := omega) only [go_sem, reduceCtorEq, Nat.reduceAdd, Nat.reduceSub, Nat.reduceMul, Nat.reduceLT, Nat.reduceLeDiff, Nat.reduceEqDiff, Nat.reduceBEq, Int.reduceToNat, Int.reduceLT, Int.reduceLE, Int.reduceEq, Int.reduceNeg, Int.reduceAdd, Int.reduceSub, Int.reduceMul, ↓reduceIte, Int.reduceBEq, Int.reduceBNe]
      refine (ih _ ⟨h5.trans (Same.app.trans g5), g6⟩).castS rfl (by simp [upd, ins, subF, lookA])
  · rintro σ' ⟨h5, h6⟩
    simp -implicitDefEqProofs (maxSteps := 2000000) (disch := omega) only [go_sem, reduceCtorEq, Nat.reduceAdd, Nat.reduceSub, Nat.reduceMul, Nat.reduceLT, Nat.reduceLeDiff, Nat.reduceEqDiff, Nat.reduceBEq, Int.reduceToNat, Int.reduceLT, Int.reduceLE, Int.reduceEq, Int.reduceNeg, Int.reduceAdd, Int.reduceSub, Int.reduceMul, ↓reduceIte, Int.reduceBEq, Int.reduceBNe]
    refine ⟨h5, .inl ?_⟩
    exact h6
theorem all_c (c : Cat) (hc : OkC c) (σ : List AObj) (Q : AV → List AObj → Prop) (h : IterF Tryd.prog 91 [] [.ptr σ.length 0] (fun k => k = σ.length) (σ ++ [.cells [.int .i64 c.features, .list .no 3 (c.models.map Model.av)]]) ((allMade c).map Made.av) → Q (.fn (.func 91) [] [.ptr σ.length 0]) (σ ++ [.cells [.int .i64 c.features, .list .no 3 (c.models.map Model.av)]])) :
    ACalls Tryd.prog 80 [c.av] σ Q := by
  refine ACalls.of_ev (E := Tryd.E 4 (fun _ => ([], [])) fs7) (Tryd.envOK 4 (fun _ => ([], [])) fs7 fs7_ok) Tryd.kp80 Tryd.func80 rfl (by kernel_rfl) (by simp [Tryd.E]) (Callable.of Tryd.func80 (by kernel_rfl) (by kernel_rfl)) (by kernel_rfl) ?_
  simp only [Cat.av]
  simp -implicitDefEqProofs (maxSteps := 2000000) (disch := omega) only [go_sem, reduceCtorEq, Nat.reduceAdd, Nat.reduceSub, Nat.reduceMul, Nat.reduceLT, Nat.reduceLeDiff, Nat.reduceEqDiff, Nat.reduceBEq, Int.reduceToNat, Int.reduceLT, Int.reduceLE, Int.reduceEq, Int.reduceNeg, Int.reduceAdd, Int.reduceSub, Int.reduceMul, ↓reduceIte, Int.reduceBEq, Int.reduceBNe]
  refine h fun r T σ' hk hC => ?_
  have := all1_c c hc T (rc := σ.length) (τ := σ') (by rw [(hk _ rfl).1]; exact hget_at0) (hk _ rfl).2 hC rfl
  simpa using this
def numsPre (lo : Int) (pl : ByteArray) (i : Nat) : List Int := ((List.range i).map fun (k : Nat) => lo + (k : Int)).filter (readsP pl)
theorem numsPre_succ {lo : Int} {pl : ByteArray} {i : Nat} : numsPre lo pl (i + 1) = numsPre lo pl i ++ if readsP pl (lo + i) then [lo + (i : Int)] else [] := by
  unfold numsPre
  rw [List.range_succ, List.map_append, List.filter_append]
  cases h : readsP pl (lo + i) <;> simp [h]
/-- What comes of the numbers of a model in a year: those that fit. -/
theorem plates1_c (m : Made) (pl : ByteArray) (hp : okPlate pl) (hn : 0 ≤ m.nums.lo ∧ m.nums.hi ≤ 9999) {r rm rp : Nat} {L : List AV} (T : Taker Tryd.prog r L) {τ : List AObj}
    (h1 : hget τ rm = some (.cells [.int .i64 m.model, .int .i64 m.year, .int .i64 m.a, .int .i64 m.b, .int .i64 m.c, .int .i64 m.d, .int .i64 m.nums.lo, .int .i64 m.nums.hi])) (h2 : hget τ rp = some (.cells [.str pl])) (hm : ¬ T.M rm ∧ ¬ T.M rp) (hC : T.C [] τ) (hL : L = (numsP m.nums pl).map (AV.int .i64)) :
    ACalls Tryd.prog 86 [.yield r, .ptr rm 0, .ptr rp 0] τ fun _ τ' => Same T.M τ τ' ∧ (T.C L τ' ∨ ∃ D v R, L = D ++ v :: R ∧ T.St (D ++ [v]) τ') := by
  subst hL
  refine ACalls.of_ev (E := Tryd.E 24 (fun _ => ([], [])) fs7) (Tryd.envOK 24 (fun _ => ([], [])) fs7 fs7_ok) Tryd.kp86 Tryd.func86 rfl (by kernel_rfl) (by simp [Tryd.E]) (Callable.of Tryd.func86 (by kernel_rfl) (by kernel_rfl)) (by kernel_rfl) ?_
  simp -implicitDefEqProofs (maxSteps := 2000000) (disch := omega) only [go_sem, reduceCtorEq, Nat.reduceAdd, Nat.reduceSub, Nat.reduceMul, Nat.reduceLT, Nat.reduceLeDiff, Nat.reduceEqDiff, Nat.reduceBEq, Int.reduceToNat, Int.reduceLT, Int.reduceLE, Int.reduceEq, Int.reduceNeg, Int.reduceAdd, Int.reduceSub, Int.reduceMul, ↓reduceIte, Int.reduceBEq, Int.reduceBNe, h1]
  obtain ⟨N, hN⟩ : ∃ N, (m.nums.hi - m.nums.lo + 1).toNat = N := ⟨_, rfl⟩
  have hL : ∀ i, (numsPre m.nums.lo pl (i + 1)) = numsPre m.nums.lo pl i ++ if readsP pl (m.nums.lo + i) then [m.nums.lo + i] else [] := fun i => numsPre_succ
  have hLN : numsP m.nums pl = numsPre m.nums.lo pl N := by rw [← hN]; rfl
  refine ARun.forJ (Tryd.envOK 24 (fun _ => ([], [])) fs7 fs7_ok) N (fun i σ' => Same T.M τ σ' ∧ T.C ((numsPre m.nums.lo pl i).map (AV.int .i64)) σ') (fun i => [(4, .int .i64 (m.nums.lo + i))]) (by kernel_rfl) (by simp [upd, ins, subF, lookA]) ⟨Same.refl, by simpa [numsPre] using hC⟩ ?_ ?_
  · rintro i σ' hi ⟨h5, h6⟩ ih
    have p1 := h5.get h1 hm.1
    have p2 := h5.get h2 hm.2
    have hlo : m.nums.lo + i ≤ m.nums.hi := by omega
    rw [hL] at ih
    cases hb : readsP pl (m.nums.lo + i)
    · rw [hb] at ih
      clear hL hLN
      simp -implicitDefEqProofs (maxSteps := 2000000) (disch := omega) only [go_sem, reduceCtorEq, Nat.reduceAdd, Nat.reduceSub, Nat.reduceMul, Nat.reduceLT, Nat.reduceLeDiff, Nat.reduceEqDiff, Nat.reduceBEq, Int.reduceToNat, Int.reduceLT, Int.reduceLE, Int.reduceEq, Int.reduceNeg, Int.reduceAdd, Int.reduceSub, Int.reduceMul, ↓reduceIte, Int.reduceBEq, Int.reduceBNe, p1, p2, hp, hb]
      refine (ih σ' ⟨h5, by simpa using h6⟩).castS rfl (by simp [upd, ins, subF, lookA, Int.add_assoc])
    · rw [hb] at ih
      obtain ⟨R, hR⟩ : ∃ R, (numsP m.nums pl).map (AV.int .i64) = (numsPre m.nums.lo pl i).map (AV.int .i64) ++ .int .i64 (m.nums.lo + i) :: R := by
        obtain ⟨Y, hY⟩ := map_part (fun (k : Nat) => m.nums.lo + (k : Int)) hi
        refine ⟨(Y.filter (readsP pl)).map (AV.int .i64), ?_⟩
        rw [hLN]
        unfold numsPre
        rw [hY, List.filter_append, List.filter_cons, if_pos hb]; simp
      clear hL hLN
      simp -implicitDefEqProofs (maxSteps := 2000000) (disch := omega) only [go_sem, reduceCtorEq, Nat.reduceAdd, Nat.reduceSub, Nat.reduceMul, Nat.reduceLT, Nat.reduceLeDiff, Nat.reduceEqDiff, Nat.reduceBEq, Int.reduceToNat, Int.reduceLT, Int.reduceLE, Int.reduceEq, Int.reduceNeg, Int.reduceAdd, Int.reduceSub, Int.reduceMul, ↓reduceIte, Int.reduceBEq, Int.reduceBNe, p1, p2, hp, hb]
      refine (T.take hR h6).mono fun v τ3 hv => ?_
      rcases hv with ⟨q1, ⟨rfl, q2⟩ | ⟨rfl, q2⟩⟩
      · simp -implicitDefEqProofs (maxSteps := 2000000) (disch := omega) only [go_sem, reduceCtorEq, Nat.reduceAdd, Nat.reduceSub, Nat.reduceMul, Nat.reduceLT, Nat.reduceLeDiff, Nat.reduceEqDiff, Nat.reduceBEq, Int.reduceToNat, Int.reduceLT, Int.reduceLE, Int.reduceEq, Int.reduceNeg, Int.reduceAdd, Int.reduceSub, Int.reduceMul, ↓reduceIte, Int.reduceBEq, Int.reduceBNe]
        refine (ih τ3 ⟨h5.trans q1, by simpa using q2⟩).castS rfl (by simp [upd, ins, subF, lookA, Int.add_assoc])
      · simp -implicitDefEqProofs (maxSteps := 2000000) (disch := omega) only [go_sem, reduceCtorEq, Nat.reduceAdd, Nat.reduceSub, Nat.reduceMul, Nat.reduceLT, Nat.reduceLeDiff, Nat.reduceEqDiff, Nat.reduceBEq, Int.reduceToNat, Int.reduceLT, Int.reduceLE, Int.reduceEq, Int.reduceNeg, Int.reduceAdd, Int.reduceSub, Int.reduceMul, ↓reduceIte, Int.reduceBEq, Int.reduceBNe]
        exact ⟨h5.trans q1, .inr ⟨_, _, R, hR, q2⟩⟩
  · rintro σ' ⟨h5, h6⟩
    have p1 := h5.get h1 hm.1
    simp -implicitDefEqProofs (maxSteps := 2000000) (disch := omega) only [go_sem, reduceCtorEq, Nat.reduceAdd, Nat.reduceSub, Nat.reduceMul, Nat.reduceLT, Nat.reduceLeDiff, Nat.reduceEqDiff, Nat.reduceBEq, Int.reduceToNat, Int.reduceLT, Int.reduceLE, Int.reduceEq, Int.reduceNeg, Int.reduceAdd, Int.reduceSub, Int.reduceMul, ↓reduceIte, Int.reduceBEq, Int.reduceBNe, p1]
    rw [← hLN] at h6
    exact ⟨h5, .inl h6⟩
end Go.Proofs
set_option linter.unusedSimpArgs false
set_option linter.unusedVariables false
set_option maxRecDepth 100000
namespace Go.Proofs
open Go Go.Mu

def Made.cells (m : Made) : List AV := [.int .i64 m.model, .int .i64 m.year, .int .i64 m.a, .int .i64 m.b, .int .i64 m.c, .int .i64 m.d, .int .i64 m.nums.lo, .int .i64 m.nums.hi]
theorem plates_c (m : Made) (pl : ByteArray) (hp : okPlate pl) (hn : 0 ≤ m.nums.lo ∧ m.nums.hi ≤ 9999) (σ : List AObj) (Q : AV → List AObj → Prop) (h : IterF Tryd.prog 86 [] [.ptr σ.length 0, .ptr (σ.length + 1) 0] (fun k => k = σ.length ∨ k = σ.length + 1) (σ ++ [.cells m.cells, .cells [.str pl]]) ((numsP m.nums pl).map (AV.int .i64)) → Q (.fn (.func 86) [] [.ptr σ.length 0, .ptr (σ.length + 1) 0]) (σ ++ [.cells m.cells, .cells [.str pl]])) :
    ACalls Tryd.prog 69 [m.av, .str pl] σ Q := by
  refine ACalls.of_ev (E := Tryd.E 6 (fun _ => ([], [])) fs7) (Tryd.envOK 6 (fun _ => ([], [])) fs7 fs7_ok) Tryd.kp69 Tryd.func69 rfl (by kernel_rfl) (by simp [Tryd.E]) (Callable.of Tryd.func69 (by kernel_rfl) (by kernel_rfl)) (by kernel_rfl) ?_
  simp only [Made.av]
  simp -implicitDefEqProofs (maxSteps := 2000000) (disch := omega) only [go_sem, reduceCtorEq, Nat.reduceAdd, Nat.reduceSub, Nat.reduceMul, Nat.reduceLT, Nat.reduceLeDiff, Nat.reduceEqDiff, Nat.reduceBEq, Int.reduceToNat, Int.reduceLT, Int.reduceLE, Int.reduceEq, Int.reduceNeg, Int.reduceAdd, Int.reduceSub, Int.reduceMul, ↓reduceIte, Int.reduceBEq, Int.reduceBNe]
  refine h fun r T σ' hk hC => ?_
  have := plates1_c m pl hp hn T (rm := σ.length) (rp := σ.length + 1) (τ := σ') (by rw [(hk _ (.inl rfl)).1]; exact hget_at0) (by rw [(hk _ (.inr rfl)).1]; exact hget_at) ⟨(hk _ (.inl rfl)).2, (hk _ (.inr rfl)).2⟩ hC rfl
  simpa using this
set_option maxHeartbeats 4000000 in
theorem fits_p (m : Made) (pl : ByteArray) (hp : okPlate pl) (hn : 0 ≤ m.nums.lo ∧ m.nums.hi ≤ 9999) : PureV Tryd.prog 81 [m.av, .str pl] (.bool (fitsP m.nums pl)) := by
  refine PureV.of_ev (E := Tryd.E 9 (fun _ => ([], [])) fs7) (Tryd.envOK 9 (fun _ => ([], [])) fs7 fs7_ok) (.bool) Tryd.kp81 Tryd.func81 rfl (by kernel_rfl) (by simp [Tryd.E]) (Callable.of Tryd.func81 (by kernel_rfl) (by kernel_rfl)) (by kernel_rfl) ?_
  intro σ
  have hmav : m.av = .agg m.cells := rfl
  simp only [Made.av]
  simp -implicitDefEqProofs (maxSteps := 2000000) (disch := omega) only [go_sem, reduceCtorEq, Nat.reduceAdd, Nat.reduceSub, Nat.reduceMul, Nat.reduceLT, Nat.reduceLeDiff, Nat.reduceEqDiff, Nat.reduceBEq, Int.reduceToNat, Int.reduceLT, Int.reduceLE, Int.reduceEq, Int.reduceNeg, Int.reduceAdd, Int.reduceSub, Int.reduceMul, ↓reduceIte, Int.reduceBEq, Int.reduceBNe]
  refine plates_c m pl hp hn _ _ fun hI => ?_
  simp only [List.append_assoc, List.cons_append, List.nil_append, List.length_append, List.length_cons, List.length_nil, Nat.zero_add, Nat.reduceAdd, Nat.add_assoc] at hI ⊢
  simp -implicitDefEqProofs (maxSteps := 2000000) (disch := omega) only [go_sem, reduceCtorEq, Nat.reduceAdd, Nat.reduceSub, Nat.reduceMul, Nat.reduceLT, Nat.reduceLeDiff, Nat.reduceEqDiff, Nat.reduceBEq, Int.reduceToNat, Int.reduceLT, Int.reduceLE, Int.reduceEq, Int.reduceNeg, Int.reduceAdd, Int.reduceSub, Int.reduceMul, ↓reduceIte, Int.reduceBEq, Int.reduceBNe]
  refine ARun.rangeIterF (g := 86) (p := []) (L := (numsP m.nums pl).map (AV.int .i64)) (by simp [aeval, Fr.get, lookA, Tryd.kp81]) hI (fun k hk => ⟨rfl, by simp; omega⟩) ⟨8, rfl, by simp [Tryd.EN]⟩
    (fun k => k = σ.length + 1) (fun k hk => ⟨by omega, by simp; omega⟩) (fun D τ => D = [] ∧ hget τ (σ.length + 1) = some (.cells [.bool false])) (fun j τ => j = .ret ∧ numsP m.nums pl ≠ [] ∧ hget τ (σ.length + 1) = some (.cells [.bool true]))
    (by simp [hget_at]) (fun {D τ τ'} hc hk => ⟨hc.1, by rw [hk _ rfl]; exact hc.2⟩) (fun {j τ τ'} hc hk => ⟨hc.1, hc.2.1, by rw [hk _ rfl]; exact hc.2.2⟩) ?_ ?_ ?_
  · rintro D v R fn τ hD ⟨rfl, c1⟩ hlt hrec
    have hne : numsP m.nums pl ≠ [] := fun e => by rw [e] at hD; simp at hD
    refine ev_sound (Tryd.envOK 9 (fun _ => ([], [])) fs7 fs7_ok) (n := 1000) (by kernel_rfl) ?_
    simp -implicitDefEqProofs (maxSteps := 2000000) (disch := omega) only [go_sem, reduceCtorEq, Nat.reduceAdd, Nat.reduceSub, Nat.reduceMul, Nat.reduceLT, Nat.reduceLeDiff, Nat.reduceEqDiff, Nat.reduceBEq, Int.reduceToNat, Int.reduceLT, Int.reduceLE, Int.reduceEq, Int.reduceNeg, Int.reduceAdd, Int.reduceSub, Int.reduceMul, ↓reduceIte, Int.reduceBEq, Int.reduceBNe, frIn]
    refine ARun.beginRound' (by simpa using hrec) fun τ2 hl2 hs2 hr2 => ?_
    simp only [List.length_append, List.length_cons, List.length_nil] at hlt hr2 hs2
    have k1 : hget τ2 (σ.length + 1) = some (.cells [.bool false]) := by rw [hs2 _ (by omega)]; exact c1
    refine ev_sound (Tryd.envOK 9 (fun _ => ([], [])) fs7 fs7_ok) (n := 1000) (by kernel_rfl) ?_
    simp -implicitDefEqProofs (maxSteps := 2000000) (disch := omega) only [go_sem, reduceCtorEq, Nat.reduceAdd, Nat.reduceSub, Nat.reduceMul, Nat.reduceLT, Nat.reduceLeDiff, Nat.reduceEqDiff, Nat.reduceBEq, Int.reduceToNat, Int.reduceLT, Int.reduceLE, Int.reduceEq, Int.reduceNeg, Int.reduceAdd, Int.reduceSub, Int.reduceMul, ↓reduceIte, Int.reduceBEq, Int.reduceBNe, k1]
    exact ⟨⟨by rw [length_hset]; omega, fun q hq hm => by rw [hget_ne (by omega), hs2 q (by omega)]⟩, ⟨none, by rw [hget_ne (by omega)]; exact hr2⟩, Code.ret, rfl, (fun t h => by cases h), rfl, hne, hget_set k1 _⟩
  · rintro τ hlt hold ⟨c0, c1⟩
    refine ev_sound (Tryd.envOK 9 (fun _ => ([], [])) fs7 fs7_ok) (n := 1000) (by kernel_rfl) ?_
    have kk : ∀ o, hget (hset τ (σ.length + 1) o) (σ.length + 1) = some o := fun o => hget_set c1 o
    simp -implicitDefEqProofs (maxSteps := 2000000) (disch := omega) only [go_sem, reduceCtorEq, Nat.reduceAdd, Nat.reduceSub, Nat.reduceMul, Nat.reduceLT, Nat.reduceLeDiff, Nat.reduceEqDiff, Nat.reduceBEq, Int.reduceToNat, Int.reduceLT, Int.reduceLE, Int.reduceEq, Int.reduceNeg, Int.reduceAdd, Int.reduceSub, Int.reduceMul, ↓reduceIte, Int.reduceBEq, Int.reduceBNe, c1, kk]
    have hf : fitsP m.nums pl = false := by unfold fitsP; rw [List.map_eq_nil_iff.1 c0]; rfl
    rw [hf]
    simp only [List.length_append, List.length_cons, List.length_nil] at hlt hold
    exact gives_same (by rw [length_hset]; omega) (fun q hq => by rw [hget_ne (by omega), hold q (by omega) (by omega)]; exact hget_app hq) rfl
  · rintro τ j hlt hold ⟨rfl, c1, c2⟩
    refine ev_sound (Tryd.envOK 9 (fun _ => ([], [])) fs7 fs7_ok) (n := 1000) (by kernel_rfl) ?_
    simp -implicitDefEqProofs (maxSteps := 2000000) (disch := omega) only [go_sem, reduceCtorEq, Nat.reduceAdd, Nat.reduceSub, Nat.reduceMul, Nat.reduceLT, Nat.reduceLeDiff, Nat.reduceEqDiff, Nat.reduceBEq, Int.reduceToNat, Int.reduceLT, Int.reduceLE, Int.reduceEq, Int.reduceNeg, Int.reduceAdd, Int.reduceSub, Int.reduceMul, ↓reduceIte, Int.reduceBEq, Int.reduceBNe, c2]
    have hf : fitsP m.nums pl = true := by unfold fitsP; cases h : numsP m.nums pl with | nil => exact absurd h c1 | cons _ _ => rfl
    rw [hf]
    simp only [List.length_append, List.length_cons, List.length_nil] at hlt hold
    exact gives_same (by omega) (fun q hq => by rw [hold q (by omega) (by omega)]; exact hget_app hq) rfl
def okMade (m : Made) : Prop := 0 ≤ m.nums.lo ∧ m.nums.hi ≤ 9999
instance (m : Made) : Decidable (okMade m) := by unfold okMade; infer_instance
def fits_s := spw2 tyMade.w tyS.w fun m pl => if okPlate pl ∧ okMade m then some (.bool (fitsP m.nums pl)) else none
theorem fits_ok : ∀ xs v, fits_s xs = some v → PureV Tryd.prog 81 xs v :=
  spw2_ok fun m pl v h => by have h := someIf h; rw [← h.2]; exact fits_p m pl h.1.1 h.1.2
def fs8 (f : FuncId) (xs : List AV) : Option AV := if f = 81 then fits_s xs else fs7 f xs
theorem fs8_ok : ∀ f xs v, fs8 f xs = some v → PureV Tryd.prog f xs v := by
  intro f xs v h
  unfold fs8 at h
  split at h
  · rename_i e; subst e; exact fits_ok _ _ h
  exact fs7_ok _ _ _ h
attribute [go_sem] fs8 fits_s
/-- What is needed of an instrument. -/
structure OkO (c : Cat) (o : Old) : Prop where
  seen : (o.seen.length : Int) = c.features ∧ ∀ x ∈ o.seen, 0 ≤ x ∧ x ≤ 3
  plate : okPlate o.plate
  psize : o.plate.size = 0 ∨ o.plate.size = 4
  changed : 0 ≤ o.changed ∧ o.changed ≤ 4
theorem okO_of_ck {c : Cat} {o : Old} (h : ckOld c o = 0) : OkC c ∧ OkO c o := by
  unfold ckOld at h
  split at h
  · rename_i hn; exact absurd h hn
  split at h
  · rename_i hn; exact absurd h hn
  split at h
  · cases h
  split at h
  · cases h
  split at h
  · cases h
  rename_i h1 h2 h3 h4 h5
  exact ⟨okC_of_ck (by simpa using h1), ckVals_zero.1 (by simpa using h2), ⟨by omega, by simpa using h4⟩, by omega, by simpa using h5⟩
theorem allMade_ok {c : Cat} (hc : OkC c) : ∀ m ∈ allMade c, okMade m := by
  intro m hm
  unfold allMade at hm
  simp only [List.mem_flatMap, List.mem_range] at hm
  obtain ⟨i, hi, hm⟩ := hm
  have hgd : c.models.getD i default = c.models[i] := by simp [List.getD, List.getElem?_eq_getElem hi]
  rw [hgd] at hm
  have hM := hc.model _ (List.getElem_mem hi)
  unfold madesOf at hm
  obtain ⟨k, hk, rfl⟩ := List.mem_map.1 hm
  rw [List.mem_range] at hk
  have hk2 : k < c.models[i].nums.length := by rw [hM.nums]; exact hk
  have hn := hM.num _ (List.getElem_mem hk2)
  have e : (madeOf i c.models[i] k).nums = c.models[i].nums[k] := by simp [madeOf, List.getD, List.getElem?_eq_getElem hk2]
  unfold okMade; rw [e]; omega
theorem allMade_len {c : Cat} (hc : OkC c) : (allMade c).length ≤ 16 := by
  have key : ∀ n, n ≤ c.models.length → ((List.range n).flatMap fun (i : Nat) => madesOf i (c.models.getD i default)).length ≤ n * 4 := by
    intro n
    induction n with
    | zero => intro _; simp
    | succ n ih =>
      intro hn
      rw [flatMap_succ, List.length_append]
      have h1 := ih (by omega)
      have hi : n < c.models.length := by omega
      have hgd : c.models.getD n default = c.models[n] := by simp [List.getD, List.getElem?_eq_getElem hi]
      have h2 : (madesOf n (c.models.getD n default)).length ≤ 4 := by
        rw [hgd]; unfold madesOf; rw [List.length_map, List.length_range]; exact (hc.model _ (List.getElem_mem hi)).looks.2
      omega
  have := key _ (Nat.le_refl _)
  have h4 := hc.models.2
  exact Nat.le_trans this (by omega)
end Go.Proofs
