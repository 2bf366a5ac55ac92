/- Texts of a proof: lemmas. -/
import Derived.Test.YthejgnlikaiddaaDoorPX2
set_option linter.unusedSimpArgs false
set_option linter.unusedVariables false
set_option maxRecDepth 100000
namespace Go.Proofs
open Go Go.Mu

def yearsM (c : Cat) (o : Old) : Rng × Int :=
  if (knownM c o []).2 = 0 then (⟨tg (valuesZ Made.year (truthsM c o)) 0, tg (valuesZ Made.year (truthsM c o)) ((valuesZ Made.year (truthsM c o)).length - 1)⟩, 0) else (⟨0, 0⟩, (knownM c o []).2)
theorem rngE_plain {x : Rng} {e : Int} : Plain (.tup [x.av, .int .i64 e]) := .tup (by simp; exact ⟨Rng.plain _, .int⟩)
set_option maxHeartbeats 4000000 in
theorem pYears_p (c : Cat) (o : Old) (hc : okCat c) (ho : okOld o) : PureV Tryd.prog 27 [c.av, o.av] (.tup [(yearsM c o).1.av, .int .i64 (yearsM c o).2]) := by
  refine PureV.of_ev (E := Tryd.E 31 Tryd.ord27 fs12) (Tryd.envOK 31 Tryd.ord27 fs12 fs12_ok) (rngE_plain) Tryd.kp27 Tryd.func27 rfl (by kernel_rfl) (by simp [Tryd.E]) (Callable.of Tryd.func27 (by kernel_rfl) (by kernel_rfl)) (by kernel_rfl) ?_
  intro σ
  simp only [Cat.av, Old.av]
  by_cases hk : (knownM c o []).2 = 0
  · obtain ⟨hv, hne, hke⟩ := knownM_ok hk
    have hlen := truthsM_len (o := o) (okO_of_ck hv).1
    have hr : yearsM c o = (⟨tg (valuesZ Made.year (truthsM c o)) 0, tg (valuesZ Made.year (truthsM c o)) ((valuesZ Made.year (truthsM c o)).length - 1)⟩, 0) := by unfold yearsM; rw [if_pos hk]
    rw [hr]
    simp -implicitDefEqProofs (maxSteps := 2000000) (disch := omega) only [go_sem, reduceCtorEq, Nat.reduceAdd, Nat.reduceSub, Nat.reduceMul, Nat.reduceLT, Nat.reduceLeDiff, Nat.reduceEqDiff, Nat.reduceBEq, Int.reduceToNat, Int.reduceLT, Int.reduceLE, Int.reduceEq, Int.reduceNeg, Int.reduceAdd, Int.reduceSub, Int.reduceMul, ↓reduceIte, Int.reduceBEq, Int.reduceBNe, Cat_eta, Old_eta, hc, ho, hke]
    refine values_c Made.year _ hne (by omega) (fun x _ => Years1_v x) _ ?_
    have hvl : (valuesZ Made.year (truthsM c o)).length ≤ 16 := Nat.le_trans valuesZ_len hlen
    have hv0 : 0 < (valuesZ Made.year (truthsM c o)).length := List.length_pos_iff.2 (valuesZ_ne hne)
    generalize valuesZ Made.year (truthsM c o) = vs at hvl hv0 ⊢
    have h0 : idx (vs.map (AV.int .i64)) 0 = some (.int .i64 (tg vs 0)) := by
      have := idx_nat (l := vs) (f := AV.int .i64) hv0
      rw [show tg vs 0 = vs[0] from tgE hv0]; exact this
    have h1 : idx (vs.map (AV.int .i64)) ((vs.length : Int) - 1) = some (.int .i64 (tg vs ((vs.length : Int) - 1))) := by
      have e : ((vs.length : Int) - 1) = ((vs.length - 1 : Nat) : Int) := by omega
      rw [e, idx_nat (by omega), tgE (by omega)]
    simp -implicitDefEqProofs (maxSteps := 2000000) (disch := omega) only [go_sem, reduceCtorEq, Nat.reduceAdd, Nat.reduceSub, Nat.reduceMul, Nat.reduceLT, Nat.reduceLeDiff, Nat.reduceEqDiff, Nat.reduceBEq, Int.reduceToNat, Int.reduceLT, Int.reduceLE, Int.reduceEq, Int.reduceNeg, Int.reduceAdd, Int.reduceSub, Int.reduceMul, ↓reduceIte, Int.reduceBEq, Int.reduceBNe, isv, h0, h1, Rng.av]
  · have hr : yearsM c o = (⟨0, 0⟩, (knownM c o []).2) := by unfold yearsM; rw [if_neg hk]
    rw [hr]
    simp -implicitDefEqProofs (maxSteps := 2000000) (disch := omega) only [go_sem, reduceCtorEq, Nat.reduceAdd, Nat.reduceSub, Nat.reduceMul, Nat.reduceLT, Nat.reduceLeDiff, Nat.reduceEqDiff, Nat.reduceBEq, Int.reduceToNat, Int.reduceLT, Int.reduceLE, Int.reduceEq, Int.reduceNeg, Int.reduceAdd, Int.reduceSub, Int.reduceMul, ↓reduceIte, Int.reduceBEq, Int.reduceBNe, Cat_eta, Old_eta, hc, ho, hk, Rng.av]
def numS (x : Rng) (n : Int) : Rng := ⟨if n < x.lo then n else x.lo, if x.hi < n then n else x.hi⟩
def numF (pl : ByteArray) (x : Rng) (m : Made) : Rng := (numsP m.nums pl).foldl numS x
def numbersM (c : Cat) (o : Old) : Rng × Int :=
  if (knownM c o []).2 = 0 then ((truthsM c o).foldl (numF o.plate) ⟨10000, -1⟩, 0) else (⟨0, 0⟩, (knownM c o []).2)
theorem ints_inj : ∀ {a b : List Int}, a.map (AV.int .i64) = b.map (AV.int .i64) → a = b
  | [], [], _ => rfl
  | [], _ :: _, h => by simp at h
  | _ :: _, [], h => by simp at h
  | x :: a, y :: b, h => by
    simp only [List.map_cons, List.cons.injEq, AV.int.injEq, true_and] at h
    rw [h.1, ints_inj h.2]
set_option maxHeartbeats 40000000 in
theorem pNumbers_p (c : Cat) (o : Old) (hc : okCat c) (ho : okOld o) : PureV Tryd.prog 28 [c.av, o.av] (.tup [(numbersM c o).1.av, .int .i64 (numbersM c o).2]) := by
  refine PureV.of_ev (E := Tryd.E 45 (fun _ => ([], [])) fs12) (Tryd.envOK 45 (fun _ => ([], [])) fs12 fs12_ok) (rngE_plain) Tryd.kp28 Tryd.func28 rfl (by kernel_rfl) (by simp [Tryd.E]) (Callable.of Tryd.func28 (by kernel_rfl) (by kernel_rfl)) (by kernel_rfl) ?_
  intro σ
  simp only [Cat.av, Old.av]
  by_cases hk : (knownM c o []).2 = 0
  · obtain ⟨hv, hne, hke⟩ := knownM_ok hk
    have hlen := truthsM_len (o := o) (okO_of_ck hv).1
    have hr : numbersM c o = ((truthsM c o).foldl (numF o.plate) ⟨10000, -1⟩, 0) := by unfold numbersM; rw [if_pos hk]
    rw [hr]
    obtain ⟨hC, hO⟩ := okO_of_ck hv
    have hpl := hO.plate
    have hmo : ∀ m ∈ truthsM c o, okMade m := fun m hm => allMade_ok hC m (mem_truths.1 hm).1
    simp -implicitDefEqProofs (maxSteps := 2000000) (disch := omega) only [go_sem, reduceCtorEq, Nat.reduceAdd, Nat.reduceSub, Nat.reduceMul, Nat.reduceLT, Nat.reduceLeDiff, Nat.reduceEqDiff, Nat.reduceBEq, Int.reduceToNat, Int.reduceLT, Int.reduceLE, Int.reduceEq, Int.reduceNeg, Int.reduceAdd, Int.reduceSub, Int.reduceMul, ↓reduceIte, Int.reduceBEq, Int.reduceBNe, Cat_eta, Old_eta, hc, ho, hke]
    clear hke hr hne hv hk
    generalize truthsM c o = L at hlen hmo ⊢
    refine ARun.countG (Tryd.envOK 45 (fun _ => ([], [])) fs12 fs12_ok) L.length (fun i τ => σ.length + 4 ≤ τ.length ∧ (∀ q, q < σ.length → hget τ q = hget σ q) ∧ hget τ (σ.length + 1) = some (.cells [isv o.seen, .str o.plate, .int .i64 o.changed]) ∧ (∃ cs, hget τ (σ.length + 2) = some (.cells cs) ∧ cs.length = 2) ∧ hget τ (σ.length + 3) = some (.cells [.int .i64 ((L.take i).foldl (numF o.plate) ⟨10000, -1⟩).lo, .int .i64 ((L.take i).foldl (numF o.plate) ⟨10000, -1⟩).hi])) (fun i => [(25, .int .i64 i)]) (by kernel_rfl) (by kernel_rfl) (by simp [upd, ins, subF, lookA]) ⟨by simp, fun q hq => hget_app hq, by simp [hget_at], ⟨_, by rw [hget_at]; rfl, rfl⟩, by simp [hget_at]⟩ ?_ ?_
    · rintro K Q' hK i τ hi ⟨g1, g2, g3, g4, g5⟩ ih
      have hma : L[i].av = .agg [.int .i64 L[i].model, .int .i64 L[i].year, .int .i64 L[i].a, .int .i64 L[i].b, .int .i64 L[i].c, .int .i64 L[i].d, .int .i64 L[i].nums.lo, .int .i64 L[i].nums.hi] := rfl
      have hmi := hmo _ (List.getElem_mem hi)
      rw [foldl_take _ _ _ _ hi] at ih
      generalize (L.take i).foldl (numF o.plate) ⟨10000, -1⟩ = x at g5 ih
      have hidx : idx (L.map Made.av) (i : Int) = some L[i].av := idx_nat hi
      generalize L[i] = m at hma hmi ih hidx
      have hpm : hget (τ ++ [.cells [.int .i64 m.model, .int .i64 m.year, .int .i64 m.a, .int .i64 m.b, .int .i64 m.c, .int .i64 m.d, .int .i64 m.nums.lo, .int .i64 m.nums.hi]]) (σ.length + 1) = some (.cells [isv o.seen, .str o.plate, .int .i64 o.changed]) := by rw [hget_app (by omega)]; exact g3
      simp -implicitDefEqProofs (maxSteps := 2000000) (disch := omega) only [go_sem, reduceCtorEq, Nat.reduceAdd, Nat.reduceSub, Nat.reduceMul, Nat.reduceLT, Nat.reduceLeDiff, Nat.reduceEqDiff, Nat.reduceBEq, Int.reduceToNat, Int.reduceLT, Int.reduceLE, Int.reduceEq, Int.reduceNeg, Int.reduceAdd, Int.reduceSub, Int.reduceMul, ↓reduceIte, Int.reduceBEq, Int.reduceBNe, hma, hidx, g3, hpm]
      rw [← hma]
      refine plates_c m o.plate hpl hmi _ _ fun hI => ?_
      simp only [List.append_assoc, List.cons_append, List.nil_append, List.length_append, List.length_cons, List.length_nil, Nat.zero_add, Nat.reduceAdd, Nat.add_assoc] at hI ⊢
      simp -implicitDefEqProofs (maxSteps := 2000000) (disch := omega) only [go_sem, reduceCtorEq, Nat.reduceAdd, Nat.reduceSub, Nat.reduceMul, Nat.reduceLT, Nat.reduceLeDiff, Nat.reduceEqDiff, Nat.reduceBEq, Int.reduceToNat, Int.reduceLT, Int.reduceLE, Int.reduceEq, Int.reduceNeg, Int.reduceAdd, Int.reduceSub, Int.reduceMul, ↓reduceIte, Int.reduceBEq, Int.reduceBNe]
      refine ARun.rangeIterF (g := 86) (p := []) (L := (numsP m.nums o.plate).map (AV.int .i64)) (by simp [aeval, Fr.get, lookA, Tryd.kp28]) hI (fun k hk => ⟨rfl, by simp; omega⟩) ⟨33, rfl, by simp [Tryd.EN]⟩
        (fun k => k = σ.length + 3) (fun k hk => ⟨by omega, by simp; omega⟩) (fun D τ' => ∃ Ds : List Int, D = Ds.map (AV.int .i64) ∧ hget τ' (σ.length + 3) = some (.cells [.int .i64 (Ds.foldl numS x).lo, .int .i64 (Ds.foldl numS x).hi])) (fun _ _ => False)
        ⟨[], rfl, by rw [hget_app (by omega)]; exact g5⟩ (fun {D τ1 τ2} hc hk => by obtain ⟨Ds, e, h1⟩ := hc; exact ⟨Ds, e, by rw [hk _ rfl]; exact h1⟩) (fun {j τ1 τ2} hc _ => hc) ?_ ?_ (fun τ1 j _ _ hc => hc.elim)
      · rintro D v R fn τ1 hD ⟨Ds, rfl, c1⟩ hlt hrec
        simp only [List.length_append, List.length_cons, List.length_nil, Nat.zero_add, Nat.reduceAdd] at hrec hlt ⊢
        obtain ⟨n, hn, rfl⟩ : ∃ n ∈ numsP m.nums o.plate, AV.int .i64 n = v := List.mem_map.1 (by rw [hD]; simp)
        generalize hy : Ds.foldl numS x = y at c1
        refine ev_sound (Tryd.envOK 45 (fun _ => ([], [])) fs12 fs12_ok) (n := 1000) (by kernel_rfl) ?_
        simp -implicitDefEqProofs (maxSteps := 2000000) (disch := omega) only [go_sem, reduceCtorEq, Nat.reduceAdd, Nat.reduceSub, Nat.reduceMul, Nat.reduceLT, Nat.reduceLeDiff, Nat.reduceEqDiff, Nat.reduceBEq, Int.reduceToNat, Int.reduceLT, Int.reduceLE, Int.reduceEq, Int.reduceNeg, Int.reduceAdd, Int.reduceSub, Int.reduceMul, ↓reduceIte, Int.reduceBEq, Int.reduceBNe, frIn]
        refine ARun.beginRound' (by simpa using hrec) fun τ2 hl2 hs2 hr2 => ?_
        have k1 : hget τ2 (σ.length + 3) = some (.cells [.int .i64 y.lo, .int .i64 y.hi]) := by rw [hs2 _ (by omega)]; exact c1
        refine ev_sound (Tryd.envOK 45 (fun _ => ([], [])) fs12 fs12_ok) (n := 1000) (by kernel_rfl) ?_
        simp -implicitDefEqProofs (maxSteps := 2000000) (disch := omega) only [go_sem, reduceCtorEq, Nat.reduceAdd, Nat.reduceSub, Nat.reduceMul, Nat.reduceLT, Nat.reduceLeDiff, Nat.reduceEqDiff, Nat.reduceBEq, Int.reduceToNat, Int.reduceLT, Int.reduceLE, Int.reduceEq, Int.reduceNeg, Int.reduceAdd, Int.reduceSub, Int.reduceMul, ↓reduceIte, Int.reduceBEq, Int.reduceBNe, k1]
        refine ⟨⟨by rw [length_hset]; omega, fun q hq hm => by rw [hget_ne (by omega), hs2 q (by omega)]⟩, ⟨none, by rw [hget_ne (by omega)]; exact hr2⟩, .inl ⟨Ds ++ [n], by simp, ?_⟩⟩
        rw [hget_set k1, List.foldl_append, hy]; rfl
      · rintro τ1 hlt hold ⟨Ds, e, c1⟩
        have he : Ds = numsP m.nums o.plate := ints_inj e.symm
        subst he
        have hF : (numsP m.nums o.plate).foldl numS x = numF o.plate x m := rfl
        rw [hF] at c1
        simp only [List.length_append, List.length_cons, List.length_nil, Nat.zero_add, Nat.reduceAdd] at hold hlt
        have hj : σ.length + 4 ≤ τ1.length ∧ (∀ q, q < σ.length → hget τ1 q = hget σ q) ∧ hget τ1 (σ.length + 1) = some (.cells [isv o.seen, .str o.plate, .int .i64 o.changed]) ∧ (∃ cs, hget τ1 (σ.length + 2) = some (.cells cs) ∧ cs.length = 2) ∧ hget τ1 (σ.length + 3) = some (.cells [.int .i64 (numF o.plate x m).lo, .int .i64 (numF o.plate x m).hi]) :=
          ⟨by omega, fun q hq => by rw [hold q (by omega) (by omega), hget_app (by omega)]; exact g2 q hq, by rw [hold _ (by omega) (by omega), hget_app (by omega)]; exact g3, by rw [hold _ (by omega) (by omega), hget_app (by omega)]; exact g4, c1⟩
        refine ev_sound (Tryd.envOK 45 (fun _ => ([], [])) fs12 fs12_ok) (n := 1000) (by repeat (first | exact hK | (rw [todoOK_cons, Bool.and_eq_true]; refine ⟨by kernel_rfl, ?_⟩))) ?_
        simp -implicitDefEqProofs (maxSteps := 2000000) (disch := omega) only [go_sem, reduceCtorEq, Nat.reduceAdd, Nat.reduceSub, Nat.reduceMul, Nat.reduceLT, Nat.reduceLeDiff, Nat.reduceEqDiff, Nat.reduceBEq, Int.reduceToNat, Int.reduceLT, Int.reduceLE, Int.reduceEq, Int.reduceNeg, Int.reduceAdd, Int.reduceSub, Int.reduceMul, ↓reduceIte, Int.reduceBEq, Int.reduceBNe]
        exact (ih τ1 hj).castS rfl (by simp [upd, ins, subF, lookA])
    · rintro τ ⟨g1, g2, g3, ⟨cs, g4, g4l⟩, g5⟩
      rw [List.take_length] at g5
      generalize L.foldl (numF o.plate) ⟨10000, -1⟩ = x at g5 ⊢
      have k4 : ∀ a b, hget (hset τ (σ.length + 2) (.cells [a, b])) (σ.length + 2) = some (.cells [a, b]) := fun a b => hget_set g4 _
      obtain ⟨c1, c2, rfl⟩ : ∃ a b, cs = [a, b] := by
        match cs, g4l with
        | [a, b], _ => exact ⟨a, b, rfl⟩
      simp -implicitDefEqProofs (maxSteps := 2000000) (disch := omega) only [go_sem, reduceCtorEq, Nat.reduceAdd, Nat.reduceSub, Nat.reduceMul, Nat.reduceLT, Nat.reduceLeDiff, Nat.reduceEqDiff, Nat.reduceBEq, Int.reduceToNat, Int.reduceLT, Int.reduceLE, Int.reduceEq, Int.reduceNeg, Int.reduceAdd, Int.reduceSub, Int.reduceMul, ↓reduceIte, Int.reduceBEq, Int.reduceBNe, g5, g4, k4]
      exact gives_same (by rw [length_hset]; omega) (fun q hq => by rw [hget_ne (by omega)]; exact g2 q hq) (by simp [wk, wkL, wk1, wk0, Rng.av])
  · have hr : numbersM c o = (⟨0, 0⟩, (knownM c o []).2) := by unfold numbersM; rw [if_neg hk]
    rw [hr]
    simp -implicitDefEqProofs (maxSteps := 2000000) (disch := omega) only [go_sem, reduceCtorEq, Nat.reduceAdd, Nat.reduceSub, Nat.reduceMul, Nat.reduceLT, Nat.reduceLeDiff, Nat.reduceEqDiff, Nat.reduceBEq, Int.reduceToNat, Int.reduceLT, Int.reduceLE, Int.reduceEq, Int.reduceNeg, Int.reduceAdd, Int.reduceSub, Int.reduceMul, ↓reduceIte, Int.reduceBEq, Int.reduceBNe, Cat_eta, Old_eta, hc, ho, hk, Rng.av]
/-- The verdict on what is so of some in all. -/
def vdN (n all : Nat) : Int := if n = all then 1 else if n = 0 then 2 else 3
def altN (s : Int) (f : Nat) (L : List Made) : Nat := (L.filter fun m => decide (0 < s) && decide (s ≠ tg m.look (f : Int))).length
def altP (S : List Int) (L : List Made) (n : Nat) : List Int := (List.range n).map fun (f : Nat) => vdN (altN (tg S (f : Int)) f L) L.length
def alteredM (c : Cat) (o : Old) : List Int × Int :=
  if (knownM c o []).2 = 0 then (altP o.seen (truthsM c o) o.seen.length, 0) else ([], (knownM c o []).2)
theorem altN_le {s : Int} {f : Nat} {L : List Made} : altN s f L ≤ L.length := List.length_filter_le _ _
set_option maxHeartbeats 40000000 in
theorem pAltered_p (c : Cat) (o : Old) (hc : okCat c) (ho : okOld o) : PureV Tryd.prog 29 [c.av, o.av] (.tup [isv (alteredM c o).1, .int .i64 (alteredM c o).2]) := by
  refine PureV.of_ev (E := Tryd.E 68 (fun _ => ([], [])) fs12) (Tryd.envOK 68 (fun _ => ([], [])) fs12 fs12_ok) (isvI_plain) Tryd.kp29 Tryd.func29 rfl (by kernel_rfl) (by simp [Tryd.E]) (Callable.of Tryd.func29 (by kernel_rfl) (by kernel_rfl)) (by kernel_rfl) ?_
  intro σ
  simp only [Cat.av, Old.av]
  by_cases hk : (knownM c o []).2 = 0
  · obtain ⟨hv, hne, hke⟩ := knownM_ok hk
    have hlen := truthsM_len (o := o) (okO_of_ck hv).1
    have hr : alteredM c o = (altP o.seen (truthsM c o) o.seen.length, 0) := by unfold alteredM; rw [if_pos hk]
    rw [hr]
    obtain ⟨hC, hO⟩ := okO_of_ck hv
    have hs4 := seen_len hC hO
    simp -implicitDefEqProofs (maxSteps := 2000000) (disch := omega) only [go_sem, reduceCtorEq, Nat.reduceAdd, Nat.reduceSub, Nat.reduceMul, Nat.reduceLT, Nat.reduceLeDiff, Nat.reduceEqDiff, Nat.reduceBEq, Int.reduceToNat, Int.reduceLT, Int.reduceLE, Int.reduceEq, Int.reduceNeg, Int.reduceAdd, Int.reduceSub, Int.reduceMul, ↓reduceIte, Int.reduceBEq, Int.reduceBNe, Cat_eta, Old_eta, hc, ho, hke]
    clear hke hr hne hv hk hO
    generalize truthsM c o = L at hlen ⊢
    generalize o.seen = S at hs4 ⊢
    have hisv : isv S = .list .no 1 (S.map (.int .i64)) := rfl
    rw [hisv]
    simp -implicitDefEqProofs (maxSteps := 2000000) (disch := omega) only [go_sem, reduceCtorEq, Nat.reduceAdd, Nat.reduceSub, Nat.reduceMul, Nat.reduceLT, Nat.reduceLeDiff, Nat.reduceEqDiff, Nat.reduceBEq, Int.reduceToNat, Int.reduceLT, Int.reduceLE, Int.reduceEq, Int.reduceNeg, Int.reduceAdd, Int.reduceSub, Int.reduceMul, ↓reduceIte, Int.reduceBEq, Int.reduceBNe]
    refine ARun.ghost 8 1 (sz0 := 0) rfl (by simp [lookA]) ?_
    simp only [ins, ↓reduceIte, List.append_assoc, List.cons_append, List.nil_append, List.length_append, List.length_cons, List.length_nil, Nat.zero_add, Nat.reduceEqDiff]
    have hAl : ∀ i, (altP S L i).length = i := fun i => by simp [altP]
    have hAs : ∀ i, altP S L (i + 1) = altP S L i ++ [vdN (altN (tg S (i : Int)) i L) L.length] := fun i => by simp [altP, List.range_succ]
    have hA0 : altP S L 0 = [] := rfl
    generalize altP S L = A at hAl hAs hA0 ⊢
    refine ARun.forG (Tryd.envOK 68 (fun _ => ([], [])) fs12 fs12_ok) S.length (fun _ => True) (fun i => [(8, .list (.own (σ.length + 2)) 1 ((A i).map (.int .i64))), (26, .int .i64 i)]) (fun i j => σ ++ (.cells [.int .i64 c.features, .list .no 3 (c.models.map Model.av)] :: .cells [.list .no 1 (S.map (.int .i64)), .str o.plate, .int .i64 o.changed] :: .tail i 1 :: j)) [] (by kernel_rfl) (by kernel_rfl) rfl (by simp [upd, ins, subF, lookA, hA0]) trivial ?_ ?_
    · intro K Q' hK i j hi _ ih
      have hsi : idx (S.map (AV.int .i64)) (i : Int) = some (.int .i64 (tg S i)) := by rw [idx_nat hi, tgE hi]
      rw [hAs] at ih
      have hAi := hAl i
      generalize A i = B at ih hAi ⊢
      generalize tg S (i : Int) = x at hsi ih
      simp -implicitDefEqProofs (maxSteps := 2000000) (disch := omega) only [go_sem, reduceCtorEq, Nat.reduceAdd, Nat.reduceSub, Nat.reduceMul, Nat.reduceLT, Nat.reduceLeDiff, Nat.reduceEqDiff, Nat.reduceBEq, Int.reduceToNat, Int.reduceLT, Int.reduceLE, Int.reduceEq, Int.reduceNeg, Int.reduceAdd, Int.reduceSub, Int.reduceMul, ↓reduceIte, Int.reduceBEq, Int.reduceBNe, hsi]
      have hcs : ∀ k, (h : k < L.length) → altN x i (L.take (k + 1)) = altN x i (L.take k) + if (0 < x ∧ x ≠ tg L[k].look (i : Int)) then 1 else 0 := fun k h => by
        unfold altN
        rw [List.take_succ_eq_append_getElem h, List.filter_append, List.length_append]
        by_cases h1 : 0 < x <;> by_cases h2 : x = tg L[k].look (i : Int) <;> simp [h1, h2]
      refine ARun.forG (Tryd.envOK 68 (fun _ => ([], [])) fs12 fs12_ok) L.length (fun _ => True) (fun k => [(11, .int .i64 (altN x i (L.take k))), (33, .int .i64 k)]) (fun _ j2 => σ ++ (.cells [.int .i64 c.features, .list .no 3 (c.models.map Model.av)] :: .cells [.list .no 1 (S.map (.int .i64)), .str o.plate, .int .i64 o.changed] :: .tail i 1 :: (j ++ j2))) [] (by kernel_rfl) (by repeat (first | exact hK | (rw [todoOK_cons, Bool.and_eq_true]; refine ⟨by kernel_rfl, ?_⟩))) (by simp) (by simp [upd, ins, subF, lookA, altN]) trivial ?_ ?_
      · intro K2 Q2 hK2 k j2 hk _ ih2
        have hma : L[k].av = .agg [.int .i64 L[k].model, .int .i64 L[k].year, .int .i64 L[k].a, .int .i64 L[k].b, .int .i64 L[k].c, .int .i64 L[k].d, .int .i64 L[k].nums.lo, .int .i64 L[k].nums.hi] := rfl
        have hidx : idx (L.map Made.av) (k : Int) = some L[k].av := idx_nat hk
        have hle := @altN_le x i (L.take k)
        rw [List.length_take] at hle
        rw [hcs k hk] at ih2
        generalize altN x i (L.take k) = n at hle ih2 ⊢
        have h4 := @get4 L[k].a L[k].b L[k].c L[k].d i (by omega)
        have hlk : L[k].look = [L[k].a, L[k].b, L[k].c, L[k].d] := rfl
        have h5 : [AV.int .i64 L[k].model, .int .i64 L[k].year, .int .i64 L[k].a, .int .i64 L[k].b, .int .i64 L[k].c, .int .i64 L[k].d, .int .i64 L[k].nums.lo, .int .i64 L[k].nums.hi][2 + i]? = some (.int .i64 (tg L[k].look (i : Int))) := by
          rw [hlk]
          have : i = 0 ∨ i = 1 ∨ i = 2 ∨ i = 3 := by omega
          rcases this with rfl | rfl | rfl | rfl <;> rfl
        generalize tg L[k].look (i : Int) = y at ih2 h5
        clear hcs h4 hlk
        by_cases h1 : 0 < x
        · by_cases h2 : x = y
          · simp -implicitDefEqProofs (maxSteps := 2000000) (disch := omega) only [go_sem, reduceCtorEq, Nat.reduceAdd, Nat.reduceSub, Nat.reduceMul, Nat.reduceLT, Nat.reduceLeDiff, Nat.reduceEqDiff, Nat.reduceBEq, Int.reduceToNat, Int.reduceLT, Int.reduceLE, Int.reduceEq, Int.reduceNeg, Int.reduceAdd, Int.reduceSub, Int.reduceMul, ↓reduceIte, Int.reduceBEq, Int.reduceBNe, hma, hidx, h5]
            exact (ih2 trivial (j2 ++ [_])).castS (by simp; rfl) (by simp [upd, ins, subF, lookA, h1, h2])
          · simp -implicitDefEqProofs (maxSteps := 2000000) (disch := omega) only [go_sem, reduceCtorEq, Nat.reduceAdd, Nat.reduceSub, Nat.reduceMul, Nat.reduceLT, Nat.reduceLeDiff, Nat.reduceEqDiff, Nat.reduceBEq, Int.reduceToNat, Int.reduceLT, Int.reduceLE, Int.reduceEq, Int.reduceNeg, Int.reduceAdd, Int.reduceSub, Int.reduceMul, ↓reduceIte, Int.reduceBEq, Int.reduceBNe, hma, hidx, h5]
            exact (ih2 trivial (j2 ++ [_])).castS (by simp; rfl) (by simp [upd, ins, subF, lookA, h1, h2])
        · simp -implicitDefEqProofs (maxSteps := 2000000) (disch := omega) only [go_sem, reduceCtorEq, Nat.reduceAdd, Nat.reduceSub, Nat.reduceMul, Nat.reduceLT, Nat.reduceLeDiff, Nat.reduceEqDiff, Nat.reduceBEq, Int.reduceToNat, Int.reduceLT, Int.reduceLE, Int.reduceEq, Int.reduceNeg, Int.reduceAdd, Int.reduceSub, Int.reduceMul, ↓reduceIte, Int.reduceBEq, Int.reduceBNe, hma, hidx, h5]
          exact (ih2 trivial (j2 ++ [_])).castS (by simp; rfl) (by simp [upd, ins, subF, lookA, h1])
      · intro j2 _
        rw [List.take_length]
        clear hcs
        have hvd : vdN (altN x i L) L.length = if altN x i L = L.length then 1 else if altN x i L = 0 then 2 else 3 := rfl
        rw [hvd] at ih
        have hle := @altN_le x i L
        generalize altN x i L = n at hle ih ⊢
        by_cases h1 : n = L.length
        · simp -implicitDefEqProofs (maxSteps := 2000000) (disch := omega) only [go_sem, reduceCtorEq, Nat.reduceAdd, Nat.reduceSub, Nat.reduceMul, Nat.reduceLT, Nat.reduceLeDiff, Nat.reduceEqDiff, Nat.reduceBEq, Int.reduceToNat, Int.reduceLT, Int.reduceLE, Int.reduceEq, Int.reduceNeg, Int.reduceAdd, Int.reduceSub, Int.reduceMul, ↓reduceIte, Int.reduceBEq, Int.reduceBNe]
          exact (ih trivial (j ++ j2)).castS (by simp [hAi]) (by simp [upd, ins, subF, lookA, h1])
        · by_cases h2 : n = 0
          · have h3 : ¬ 0 = L.length := by omega
            simp -implicitDefEqProofs (maxSteps := 2000000) (disch := omega) only [go_sem, reduceCtorEq, Nat.reduceAdd, Nat.reduceSub, Nat.reduceMul, Nat.reduceLT, Nat.reduceLeDiff, Nat.reduceEqDiff, Nat.reduceBEq, Int.reduceToNat, Int.reduceLT, Int.reduceLE, Int.reduceEq, Int.reduceNeg, Int.reduceAdd, Int.reduceSub, Int.reduceMul, ↓reduceIte, Int.reduceBEq, Int.reduceBNe]
            exact (ih trivial (j ++ j2)).castS (by simp [hAi]) (by simp [upd, ins, subF, lookA, h1, h2, h3])
          · simp -implicitDefEqProofs (maxSteps := 2000000) (disch := omega) only [go_sem, reduceCtorEq, Nat.reduceAdd, Nat.reduceSub, Nat.reduceMul, Nat.reduceLT, Nat.reduceLeDiff, Nat.reduceEqDiff, Nat.reduceBEq, Int.reduceToNat, Int.reduceLT, Int.reduceLE, Int.reduceEq, Int.reduceNeg, Int.reduceAdd, Int.reduceSub, Int.reduceMul, ↓reduceIte, Int.reduceBEq, Int.reduceBNe]
            exact (ih trivial (j ++ j2)).castS (by simp [hAi]) (by simp [upd, ins, subF, lookA, h1, h2])
    · intro j _
      simp -implicitDefEqProofs (maxSteps := 2000000) (disch := omega) only [go_sem, reduceCtorEq, Nat.reduceAdd, Nat.reduceSub, Nat.reduceMul, Nat.reduceLT, Nat.reduceLeDiff, Nat.reduceEqDiff, Nat.reduceBEq, Int.reduceToNat, Int.reduceLT, Int.reduceLE, Int.reduceEq, Int.reduceNeg, Int.reduceAdd, Int.reduceSub, Int.reduceMul, ↓reduceIte, Int.reduceBEq, Int.reduceBNe, isv]
  · have hr : alteredM c o = ([], (knownM c o []).2) := by unfold alteredM; rw [if_neg hk]
    rw [hr]
    simp -implicitDefEqProofs (maxSteps := 2000000) (disch := omega) only [go_sem, reduceCtorEq, Nat.reduceAdd, Nat.reduceSub, Nat.reduceMul, Nat.reduceLT, Nat.reduceLeDiff, Nat.reduceEqDiff, Nat.reduceBEq, Int.reduceToNat, Int.reduceLT, Int.reduceLE, Int.reduceEq, Int.reduceNeg, Int.reduceAdd, Int.reduceSub, Int.reduceMul, ↓reduceIte, Int.reduceBEq, Int.reduceBNe, Cat_eta, Old_eta, hc, ho, hk, isv]
end Go.Proofs
