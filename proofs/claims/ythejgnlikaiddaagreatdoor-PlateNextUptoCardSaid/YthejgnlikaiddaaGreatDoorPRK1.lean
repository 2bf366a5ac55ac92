/- Texts of a proof: lemmas. -/
import Derived.Test.YthejgnlikaiddaaGreatDoorPX2
import Derived.Test.YthejgnlikaiddaaGreatDoorPRF
import Derived.Test.YthejgnlikaiddaaGreatDoorPW1
set_option linter.unusedSimpArgs false
set_option linter.unusedVariables false
set_option maxRecDepth 100000
namespace Go.Proofs
open Go Go.Mu

def yearsM (c : Cat) (o : Old) : Rng × Int :=
  if (knownM c o []).2 = 0 then (⟨tg (valuesZ Made.year (truthsM c o)) 0, tg (valuesZ Made.year (truthsM c o)) ((valuesZ Made.year (truthsM c o)).length - 1)⟩, 0) else (⟨0, 0⟩, (knownM c o []).2)
theorem rngE_plain {x : Rng} {e : Int} : Plain (.tup [x.av, .int .i64 e]) := .tup (by simp; exact ⟨Rng.plain _, .int⟩)
set_option maxHeartbeats 4000000 in
theorem pYears_p (c : Cat) (o : Old) (hc : okCat c) (ho : okOld o) : PureV Tryz.prog 26 [c.av, o.av] (.tup [(yearsM c o).1.av, .int .i64 (yearsM c o).2]) := by
  refine PureV.of_ev (E := Tryz.E 31 Tryz.ord26 fs12) (Tryz.envOK 31 Tryz.ord26 fs12 fs12_ok) (rngE_plain) Tryz.kp26 Tryz.func26 rfl (by kernel_rfl) (by simp [Tryz.E]) (Callable.of Tryz.func26 (by kernel_rfl) (by kernel_rfl)) (by kernel_rfl) ?_
  intro σ
  simp only [Cat.av, Old.av]
  by_cases hk : (knownM c o []).2 = 0
  · obtain ⟨hv, hne, hke⟩ := knownM_ok hk
    have hlen := truthsM_len (o := o) (okO_of_ck hv).1
    have hr : yearsM c o = (⟨tg (valuesZ Made.year (truthsM c o)) 0, tg (valuesZ Made.year (truthsM c o)) ((valuesZ Made.year (truthsM c o)).length - 1)⟩, 0) := by unfold yearsM; rw [if_pos hk]
    rw [hr]
    simp -implicitDefEqProofs (maxSteps := 2000000) (disch := omega) only [go_sem, reduceCtorEq, Nat.reduceAdd, Nat.reduceSub, Nat.reduceMul, Nat.reduceLT, Nat.reduceLeDiff, Nat.reduceEqDiff, Nat.reduceBEq, Int.reduceToNat, Int.reduceLT, Int.reduceLE, Int.reduceEq, Int.reduceNeg, Int.reduceAdd, Int.reduceSub, Int.reduceMul, ↓reduceIte, Int.reduceBEq, Int.reduceBNe, Cat_eta, Old_eta, hc, ho, hke]
    refine values_c Made.year _ hne (by omega) (fun x _ => Years1_v x) _ ?_
    have hvl : (valuesZ Made.year (truthsM c o)).length ≤ 16 := Nat.le_trans valuesZ_len hlen
    have hv0 : 0 < (valuesZ Made.year (truthsM c o)).length := List.length_pos_iff.2 (valuesZ_ne hne)
    generalize valuesZ Made.year (truthsM c o) = vs at hvl hv0 ⊢
    have h0 : idx (vs.map (AV.int .i64)) 0 = some (.int .i64 (tg vs 0)) := by
      have := idx_nat (l := vs) (f := AV.int .i64) hv0
      rw [show tg vs 0 = vs[0] from tgE hv0]; exact this
    have h1 : idx (vs.map (AV.int .i64)) ((vs.length : Int) - 1) = some (.int .i64 (tg vs ((vs.length : Int) - 1))) := by
      have e : ((vs.length : Int) - 1) = ((vs.length - 1 : Nat) : Int) := by omega
      rw [e, idx_nat (by omega), tgE (by omega)]
    simp -implicitDefEqProofs (maxSteps := 2000000) (disch := omega) only [go_sem, reduceCtorEq, Nat.reduceAdd, Nat.reduceSub, Nat.reduceMul, Nat.reduceLT, Nat.reduceLeDiff, Nat.reduceEqDiff, Nat.reduceBEq, Int.reduceToNat, Int.reduceLT, Int.reduceLE, Int.reduceEq, Int.reduceNeg, Int.reduceAdd, Int.reduceSub, Int.reduceMul, ↓reduceIte, Int.reduceBEq, Int.reduceBNe, isv, h0, h1, Rng.av]
  · have hr : yearsM c o = (⟨0, 0⟩, (knownM c o []).2) := by unfold yearsM; rw [if_neg hk]
    rw [hr]
    simp -implicitDefEqProofs (maxSteps := 2000000) (disch := omega) only [go_sem, reduceCtorEq, Nat.reduceAdd, Nat.reduceSub, Nat.reduceMul, Nat.reduceLT, Nat.reduceLeDiff, Nat.reduceEqDiff, Nat.reduceBEq, Int.reduceToNat, Int.reduceLT, Int.reduceLE, Int.reduceEq, Int.reduceNeg, Int.reduceAdd, Int.reduceSub, Int.reduceMul, ↓reduceIte, Int.reduceBEq, Int.reduceBNe, Cat_eta, Old_eta, hc, ho, hk, Rng.av]
def numS (x : Rng) (n : Int) : Rng := ⟨if n < x.lo then n else x.lo, if x.hi < n then n else x.hi⟩
def numF (pl : ByteArray) (x : Rng) (m : Made) : Rng := (numsP m.nums pl).foldl numS x
def numbersM (c : Cat) (o : Old) : Rng × Int :=
  if (knownM c o []).2 = 0 then ((truthsM c o).foldl (numF o.plate) ⟨10000, -1⟩, 0) else (⟨0, 0⟩, (knownM c o []).2)
theorem ints_inj : ∀ {a b : List Int}, a.map (AV.int .i64) = b.map (AV.int .i64) → a = b
  | [], [], _ => rfl
  | [], _ :: _, h => by simp at h
  | _ :: _, [], h => by simp at h
  | x :: a, y :: b, h => by
    simp only [List.map_cons, List.cons.injEq, AV.int.injEq, true_and] at h
    rw [h.1, ints_inj h.2]
set_option maxHeartbeats 40000000 in
theorem pNumbers_p (c : Cat) (o : Old) (hc : okCat c) (ho : okOld o) : PureV Tryz.prog 28 [c.av, o.av] (.tup [(numbersM c o).1.av, .int .i64 (numbersM c o).2]) := by
  refine PureV.of_ev (E := Tryz.E 45 (fun _ => ([], [])) fs12) (Tryz.envOK 45 (fun _ => ([], [])) fs12 fs12_ok) (rngE_plain) Tryz.kp28 Tryz.func28 rfl (by kernel_rfl) (by simp [Tryz.E]) (Callable.of Tryz.func28 (by kernel_rfl) (by kernel_rfl)) (by kernel_rfl) ?_
  intro σ
  simp only [Cat.av, Old.av]
  by_cases hk : (knownM c o []).2 = 0
  · obtain ⟨hv, hne, hke⟩ := knownM_ok hk
    have hlen := truthsM_len (o := o) (okO_of_ck hv).1
    have hr : numbersM c o = ((truthsM c o).foldl (numF o.plate) ⟨10000, -1⟩, 0) := by unfold numbersM; rw [if_pos hk]
    rw [hr]
    obtain ⟨hC, hO⟩ := okO_of_ck hv
    have hpl := hO.plate
    have hmo : ∀ m ∈ truthsM c o, okMade m := fun m hm => allMade_ok hC m (mem_truths.1 hm).1
    simp -implicitDefEqProofs (maxSteps := 2000000) (disch := omega) only [go_sem, reduceCtorEq, Nat.reduceAdd, Nat.reduceSub, Nat.reduceMul, Nat.reduceLT, Nat.reduceLeDiff, Nat.reduceEqDiff, Nat.reduceBEq, Int.reduceToNat, Int.reduceLT, Int.reduceLE, Int.reduceEq, Int.reduceNeg, Int.reduceAdd, Int.reduceSub, Int.reduceMul, ↓reduceIte, Int.reduceBEq, Int.reduceBNe, Cat_eta, Old_eta, hc, ho, hke]
    clear hke hr hne hv hk
    generalize truthsM c o = L at hlen hmo ⊢
    refine ARun.countG (Tryz.envOK 45 (fun _ => ([], [])) fs12 fs12_ok) L.length (fun i τ => σ.length + 4 ≤ τ.length ∧ (∀ q, q < σ.length → hget τ q = hget σ q) ∧ hget τ (σ.length + 1) = some (.cells [isv o.seen, .str o.plate, .int .i64 o.changed]) ∧ (∃ cs, hget τ (σ.length + 2) = some (.cells cs) ∧ cs.length = 2) ∧ hget τ (σ.length + 3) = some (.cells [.int .i64 ((L.take i).foldl (numF o.plate) ⟨10000, -1⟩).lo, .int .i64 ((L.take i).foldl (numF o.plate) ⟨10000, -1⟩).hi])) (fun i => [(25, .int .i64 i)]) (by kernel_rfl) (by kernel_rfl) (by simp [upd, ins, subF, lookA]) ⟨by simp, fun q hq => hget_app hq, by simp [hget_at], ⟨_, by rw [hget_at]; rfl, rfl⟩, by simp [hget_at]⟩ ?_ ?_
    · rintro K Q' hK i τ hi ⟨g1, g2, g3, g4, g5⟩ ih
      have hma : L[i].av = .agg [.int .i64 L[i].model, .int .i64 L[i].year, .int .i64 L[i].a, .int .i64 L[i].b, .int .i64 L[i].c, .int .i64 L[i].d, .int .i64 L[i].nums.lo, .int .i64 L[i].nums.hi] := rfl
      have hmi := hmo _ (List.getElem_mem hi)
      rw [foldl_take _ _ _ _ hi] at ih
      generalize (L.take i).foldl (numF o.plate) ⟨10000, -1⟩ = x at g5 ih
      have hidx : idx (L.map Made.av) (i : Int) = some L[i].av := idx_nat hi
      generalize L[i] = m at hma hmi ih hidx
      have hpm : hget (τ ++ [.cells [.int .i64 m.model, .int .i64 m.year, .int .i64 m.a, .int .i64 m.b, .int .i64 m.c, .int .i64 m.d, .int .i64 m.nums.lo, .int .i64 m.nums.hi]]) (σ.length + 1) = some (.cells [isv o.seen, .str o.plate, .int .i64 o.changed]) := by rw [hget_app (by omega)]; exact g3
      simp -implicitDefEqProofs (maxSteps := 2000000) (disch := omega) only [go_sem, reduceCtorEq, Nat.reduceAdd, Nat.reduceSub, Nat.reduceMul, Nat.reduceLT, Nat.reduceLeDiff, Nat.reduceEqDiff, Nat.reduceBEq, Int.reduceToNat, Int.reduceLT, Int.reduceLE, Int.reduceEq, Int.reduceNeg, Int.reduceAdd, Int.reduceSub, Int.reduceMul, ↓reduceIte, Int.reduceBEq, Int.reduceBNe, hma, hidx, g3, hpm]
      rw [← hma]
      refine plates_c m o.plate hpl hmi _ _ fun hI => ?_
      simp only [List.append_assoc, List.cons_append, List.nil_append, List.length_append, List.length_cons, List.length_nil, Nat.zero_add, Nat.reduceAdd, Nat.add_assoc] at hI ⊢
      simp -implicitDefEqProofs (maxSteps := 2000000) (disch := omega) only [go_sem, reduceCtorEq, Nat.reduceAdd, Nat.reduceSub, Nat.reduceMul, Nat.reduceLT, Nat.reduceLeDiff, Nat.reduceEqDiff, Nat.reduceBEq, Int.reduceToNat, Int.reduceLT, Int.reduceLE, Int.reduceEq, Int.reduceNeg, Int.reduceAdd, Int.reduceSub, Int.reduceMul, ↓reduceIte, Int.reduceBEq, Int.reduceBNe]
      refine ARun.rangeIterF (g := 98) (p := []) (L := (numsP m.nums o.plate).map (AV.int .i64)) (by simp [aeval, Fr.get, lookA, Tryz.kp28]) hI (fun k hk => ⟨rfl, by simp; omega⟩) ⟨33, rfl, by simp [Tryz.EN]⟩
        (fun k => k = σ.length + 3) (fun k hk => ⟨by omega, by simp; omega⟩) (fun D τ' => ∃ Ds : List Int, D = Ds.map (AV.int .i64) ∧ hget τ' (σ.length + 3) = some (.cells [.int .i64 (Ds.foldl numS x).lo, .int .i64 (Ds.foldl numS x).hi])) (fun _ _ => False)
        ⟨[], rfl, by rw [hget_app (by omega)]; exact g5⟩ (fun {D τ1 τ2} hc hk => by obtain ⟨Ds, e, h1⟩ := hc; exact ⟨Ds, e, by rw [hk _ rfl]; exact h1⟩) (fun {j τ1 τ2} hc _ => hc) ?_ ?_ (fun τ1 j _ _ hc => hc.elim)
      · rintro D v R fn τ1 hD ⟨Ds, rfl, c1⟩ hlt hrec
        simp only [List.length_append, List.length_cons, List.length_nil, Nat.zero_add, Nat.reduceAdd] at hrec hlt ⊢
        obtain ⟨n, hn, rfl⟩ : ∃ n ∈ numsP m.nums o.plate, AV.int .i64 n = v := List.mem_map.1 (by rw [hD]; simp)
        generalize hy : Ds.foldl numS x = y at c1
        refine ev_sound (Tryz.envOK 45 (fun _ => ([], [])) fs12 fs12_ok) (n := 1000) (by kernel_rfl) ?_
        simp -implicitDefEqProofs (maxSteps := 2000000) (disch := omega) only [go_sem, reduceCtorEq, Nat.reduceAdd, Nat.reduceSub, Nat.reduceMul, Nat.reduceLT, Nat.reduceLeDiff, Nat.reduceEqDiff, Nat.reduceBEq, Int.reduceToNat, Int.reduceLT, Int.reduceLE, Int.reduceEq, Int.reduceNeg, Int.reduceAdd, Int.reduceSub, Int.reduceMul, ↓reduceIte, Int.reduceBEq, Int.reduceBNe, frIn]
        refine ARun.beginRound' (by simpa using hrec) fun τ2 hl2 hs2 hr2 => ?_
        have k1 : hget τ2 (σ.length + 3) = some (.cells [.int .i64 y.lo, .int .i64 y.hi]) := by rw [hs2 _ (by omega)]; exact c1
        refine ev_sound (Tryz.envOK 45 (fun _ => ([], [])) fs12 fs12_ok) (n := 1000) (by kernel_rfl) ?_
        simp -implicitDefEqProofs (maxSteps := 2000000) (disch := omega) only [go_sem, reduceCtorEq, Nat.reduceAdd, Nat.reduceSub, Nat.reduceMul, Nat.reduceLT, Nat.reduceLeDiff, Nat.reduceEqDiff, Nat.reduceBEq, Int.reduceToNat, Int.reduceLT, Int.reduceLE, Int.reduceEq, Int.reduceNeg, Int.reduceAdd, Int.reduceSub, Int.reduceMul, ↓reduceIte, Int.reduceBEq, Int.reduceBNe, k1]
        refine ⟨⟨by rw [length_hset]; omega, fun q hq hm => by rw [hget_ne (by omega), hs2 q (by omega)]⟩, ⟨none, by rw [hget_ne (by omega)]; exact hr2⟩, .inl ⟨Ds ++ [n], by simp, ?_⟩⟩
        rw [hget_set k1, List.foldl_append, hy]; rfl
      · rintro τ1 hlt hold ⟨Ds, e, c1⟩
        have he : Ds = numsP m.nums o.plate := ints_inj e.symm
        subst he
        have hF : (numsP m.nums o.plate).foldl numS x = numF o.plate x m := rfl
        rw [hF] at c1
        simp only [List.length_append, List.length_cons, List.length_nil, Nat.zero_add, Nat.reduceAdd] at hold hlt
        have hj : σ.length + 4 ≤ τ1.length ∧ (∀ q, q < σ.length → hget τ1 q = hget σ q) ∧ hget τ1 (σ.length + 1) = some (.cells [isv o.seen, .str o.plate, .int .i64 o.changed]) ∧ (∃ cs, hget τ1 (σ.length + 2) = some (.cells cs) ∧ cs.length = 2) ∧ hget τ1 (σ.length + 3) = some (.cells [.int .i64 (numF o.plate x m).lo, .int .i64 (numF o.plate x m).hi]) :=
          ⟨by omega, fun q hq => by rw [hold q (by omega) (by omega), hget_app (by omega)]; exact g2 q hq, by rw [hold _ (by omega) (by omega), hget_app (by omega)]; exact g3, by rw [hold _ (by omega) (by omega), hget_app (by omega)]; exact g4, c1⟩
        refine ev_sound (Tryz.envOK 45 (fun _ => ([], [])) fs12 fs12_ok) (n := 1000) (by repeat (first | exact hK | (rw [todoOK_cons, Bool.and_eq_true]; refine ⟨by kernel_rfl, ?_⟩))) ?_
        simp -implicitDefEqProofs (maxSteps := 2000000) (disch := omega) only [go_sem, reduceCtorEq, Nat.reduceAdd, Nat.reduceSub, Nat.reduceMul, Nat.reduceLT, Nat.reduceLeDiff, Nat.reduceEqDiff, Nat.reduceBEq, Int.reduceToNat, Int.reduceLT, Int.reduceLE, Int.reduceEq, Int.reduceNeg, Int.reduceAdd, Int.reduceSub, Int.reduceMul, ↓reduceIte, Int.reduceBEq, Int.reduceBNe]
        exact (ih τ1 hj).castS rfl (by simp [upd, ins, subF, lookA])
    · rintro τ ⟨g1, g2, g3, ⟨cs, g4, g4l⟩, g5⟩
      rw [List.take_length] at g5
      generalize L.foldl (numF o.plate) ⟨10000, -1⟩ = x at g5 ⊢
      have k4 : ∀ a b, hget (hset τ (σ.length + 2) (.cells [a, b])) (σ.length + 2) = some (.cells [a, b]) := fun a b => hget_set g4 _
      obtain ⟨c1, c2, rfl⟩ : ∃ a b, cs = [a, b] := by
        match cs, g4l with
        | [a, b], _ => exact ⟨a, b, rfl⟩
      simp -implicitDefEqProofs (maxSteps := 2000000) (disch := omega) only [go_sem, reduceCtorEq, Nat.reduceAdd, Nat.reduceSub, Nat.reduceMul, Nat.reduceLT, Nat.reduceLeDiff, Nat.reduceEqDiff, Nat.reduceBEq, Int.reduceToNat, Int.reduceLT, Int.reduceLE, Int.reduceEq, Int.reduceNeg, Int.reduceAdd, Int.reduceSub, Int.reduceMul, ↓reduceIte, Int.reduceBEq, Int.reduceBNe, g5, g4, k4]
      exact gives_same (by rw [length_hset]; omega) (fun q hq => by rw [hget_ne (by omega)]; exact g2 q hq) (by simp [wk, wkL, wk1, wk0, Rng.av])
  · have hr : numbersM c o = (⟨0, 0⟩, (knownM c o []).2) := by unfold numbersM; rw [if_neg hk]
    rw [hr]
    simp -implicitDefEqProofs (maxSteps := 2000000) (disch := omega) only [go_sem, reduceCtorEq, Nat.reduceAdd, Nat.reduceSub, Nat.reduceMul, Nat.reduceLT, Nat.reduceLeDiff, Nat.reduceEqDiff, Nat.reduceBEq, Int.reduceToNat, Int.reduceLT, Int.reduceLE, Int.reduceEq, Int.reduceNeg, Int.reduceAdd, Int.reduceSub, Int.reduceMul, ↓reduceIte, Int.reduceBEq, Int.reduceBNe, Cat_eta, Old_eta, hc, ho, hk, Rng.av]
/-- The verdict on what is so of some in all. -/
def vdN (n all : Nat) : Int := if n = all then 1 else if n = 0 then 2 else 3
def altN (s : Int) (f : Nat) (L : List Made) : Nat := (L.filter fun m => decide (0 < s) && decide (s ≠ tg m.look (f : Int))).length
def altP (S : List Int) (L : List Made) (n : Nat) : List Int := (List.range n).map fun (f : Nat) => vdN (altN (tg S (f : Int)) f L) L.length
def alteredM (c : Cat) (o : Old) : List Int × Int :=
  if (knownM c o []).2 = 0 then (altP o.seen (truthsM c o) o.seen.length, 0) else ([], (knownM c o []).2)
theorem altN_le {s : Int} {f : Nat} {L : List Made} : altN s f L ≤ L.length := List.length_filter_le _ _
set_option maxHeartbeats 40000000 in
theorem pAltered_p (c : Cat) (o : Old) (hc : okCat c) (ho : okOld o) : PureV Tryz.prog 32 [c.av, o.av] (.tup [isv (alteredM c o).1, .int .i64 (alteredM c o).2]) := by
  refine PureV.of_ev (E := Tryz.E 68 (fun _ => ([], [])) fs12) (Tryz.envOK 68 (fun _ => ([], [])) fs12 fs12_ok) (isvI_plain) Tryz.kp32 Tryz.func32 rfl (by kernel_rfl) (by simp [Tryz.E]) (Callable.of Tryz.func32 (by kernel_rfl) (by kernel_rfl)) (by kernel_rfl) ?_
  intro σ
  simp only [Cat.av, Old.av]
  by_cases hk : (knownM c o []).2 = 0
  · obtain ⟨hv, hne, hke⟩ := knownM_ok hk
    have hlen := truthsM_len (o := o) (okO_of_ck hv).1
    have hr : alteredM c o = (altP o.seen (truthsM c o) o.seen.length, 0) := by unfold alteredM; rw [if_pos hk]
    rw [hr]
    obtain ⟨hC, hO⟩ := okO_of_ck hv
    have hs4 := seen_len hC hO
    simp -implicitDefEqProofs (maxSteps := 2000000) (disch := omega) only [go_sem, reduceCtorEq, Nat.reduceAdd, Nat.reduceSub, Nat.reduceMul, Nat.reduceLT, Nat.reduceLeDiff, Nat.reduceEqDiff, Nat.reduceBEq, Int.reduceToNat, Int.reduceLT, Int.reduceLE, Int.reduceEq, Int.reduceNeg, Int.reduceAdd, Int.reduceSub, Int.reduceMul, ↓reduceIte, Int.reduceBEq, Int.reduceBNe, Cat_eta, Old_eta, hc, ho, hke]
    clear hke hr hne hv hk hO
    generalize truthsM c o = L at hlen ⊢
    generalize o.seen = S at hs4 ⊢
    have hisv : isv S = .list .no 1 (S.map (.int .i64)) := rfl
    rw [hisv]
    simp -implicitDefEqProofs (maxSteps := 2000000) (disch := omega) only [go_sem, reduceCtorEq, Nat.reduceAdd, Nat.reduceSub, Nat.reduceMul, Nat.reduceLT, Nat.reduceLeDiff, Nat.reduceEqDiff, Nat.reduceBEq, Int.reduceToNat, Int.reduceLT, Int.reduceLE, Int.reduceEq, Int.reduceNeg, Int.reduceAdd, Int.reduceSub, Int.reduceMul, ↓reduceIte, Int.reduceBEq, Int.reduceBNe]
    refine ARun.ghost 8 1 (sz0 := 0) rfl (by simp [lookA]) ?_
    simp only [ins, ↓reduceIte, List.append_assoc, List.cons_append, List.nil_append, List.length_append, List.length_cons, List.length_nil, Nat.zero_add, Nat.reduceEqDiff]
    have hAl : ∀ i, (altP S L i).length = i := fun i => by simp [altP]
    have hAs : ∀ i, altP S L (i + 1) = altP S L i ++ [vdN (altN (tg S (i : Int)) i L) L.length] := fun i => by simp [altP, List.range_succ]
    have hA0 : altP S L 0 = [] := rfl
    generalize altP S L = A at hAl hAs hA0 ⊢
    refine ARun.forG (Tryz.envOK 68 (fun _ => ([], [])) fs12 fs12_ok) S.length (fun _ => True) (fun i => [(8, .list (.own (σ.length + 2)) 1 ((A i).map (.int .i64))), (26, .int .i64 i)]) (fun i j => σ ++ (.cells [.int .i64 c.features, .list .no 3 (c.models.map Model.av)] :: .cells [.list .no 1 (S.map (.int .i64)), .str o.plate, .int .i64 o.changed] :: .tail i 1 :: j)) [] (by kernel_rfl) (by kernel_rfl) rfl (by simp [upd, ins, subF, lookA, hA0]) trivial ?_ ?_
    · intro K Q' hK i j hi _ ih
      have hsi : idx (S.map (AV.int .i64)) (i : Int) = some (.int .i64 (tg S i)) := by rw [idx_nat hi, tgE hi]
      rw [hAs] at ih
      have hAi := hAl i
      generalize A i = B at ih hAi ⊢
      generalize tg S (i : Int) = x at hsi ih
      simp -implicitDefEqProofs (maxSteps := 2000000) (disch := omega) only [go_sem, reduceCtorEq, Nat.reduceAdd, Nat.reduceSub, Nat.reduceMul, Nat.reduceLT, Nat.reduceLeDiff, Nat.reduceEqDiff, Nat.reduceBEq, Int.reduceToNat, Int.reduceLT, Int.reduceLE, Int.reduceEq, Int.reduceNeg, Int.reduceAdd, Int.reduceSub, Int.reduceMul, ↓reduceIte, Int.reduceBEq, Int.reduceBNe, hsi]
      have hcs : ∀ k, (h : k < L.length) → altN x i (L.take (k + 1)) = altN x i (L.take k) + if (0 < x ∧ x ≠ tg L[k].look (i : Int)) then 1 else 0 := fun k h => by
        unfold altN
        rw [List.take_succ_eq_append_getElem h, List.filter_append, List.length_append]
        by_cases h1 : 0 < x <;> by_cases h2 : x = tg L[k].look (i : Int) <;> simp [h1, h2]
      refine ARun.forG (Tryz.envOK 68 (fun _ => ([], [])) fs12 fs12_ok) L.length (fun _ => True) (fun k => [(11, .int .i64 (altN x i (L.take k))), (33, .int .i64 k)]) (fun _ j2 => σ ++ (.cells [.int .i64 c.features, .list .no 3 (c.models.map Model.av)] :: .cells [.list .no 1 (S.map (.int .i64)), .str o.plate, .int .i64 o.changed] :: .tail i 1 :: (j ++ j2))) [] (by kernel_rfl) (by repeat (first | exact hK | (rw [todoOK_cons, Bool.and_eq_true]; refine ⟨by kernel_rfl, ?_⟩))) (by simp) (by simp [upd, ins, subF, lookA, altN]) trivial ?_ ?_
      · intro K2 Q2 hK2 k j2 hk _ ih2
        have hma : L[k].av = .agg [.int .i64 L[k].model, .int .i64 L[k].year, .int .i64 L[k].a, .int .i64 L[k].b, .int .i64 L[k].c, .int .i64 L[k].d, .int .i64 L[k].nums.lo, .int .i64 L[k].nums.hi] := rfl
        have hidx : idx (L.map Made.av) (k : Int) = some L[k].av := idx_nat hk
        have hle := @altN_le x i (L.take k)
        rw [List.length_take] at hle
        rw [hcs k hk] at ih2
        generalize altN x i (L.take k) = n at hle ih2 ⊢
        have h4 := @get4 L[k].a L[k].b L[k].c L[k].d i (by omega)
        have hlk : L[k].look = [L[k].a, L[k].b, L[k].c, L[k].d] := rfl
        have h5 : [AV.int .i64 L[k].model, .int .i64 L[k].year, .int .i64 L[k].a, .int .i64 L[k].b, .int .i64 L[k].c, .int .i64 L[k].d, .int .i64 L[k].nums.lo, .int .i64 L[k].nums.hi][2 + i]? = some (.int .i64 (tg L[k].look (i : Int))) := by
          rw [hlk]
          have : i = 0 ∨ i = 1 ∨ i = 2 ∨ i = 3 := by omega
          rcases this with rfl | rfl | rfl | rfl <;> rfl
        generalize tg L[k].look (i : Int) = y at ih2 h5
        clear hcs h4 hlk
        by_cases h1 : 0 < x
        · by_cases h2 : x = y
          · simp -implicitDefEqProofs (maxSteps := 2000000) (disch := omega) only [go_sem, reduceCtorEq, Nat.reduceAdd, Nat.reduceSub, Nat.reduceMul, Nat.reduceLT, Nat.reduceLeDiff, Nat.reduceEqDiff, Nat.reduceBEq, Int.reduceToNat, Int.reduceLT, Int.reduceLE, Int.reduceEq, Int.reduceNeg, Int.reduceAdd, Int.reduceSub, Int.reduceMul, ↓reduceIte, Int.reduceBEq, Int.reduceBNe, hma, hidx, h5]
            exact (ih2 trivial (j2 ++ [_])).castS (by simp; rfl) (by simp [upd, ins, subF, lookA, h1, h2])
          · simp -implicitDefEqProofs (maxSteps := 2000000) (disch := omega) only [go_sem, reduceCtorEq, Nat.reduceAdd, Nat.reduceSub, Nat.reduceMul, Nat.reduceLT, Nat.reduceLeDiff, Nat.reduceEqDiff, Nat.reduceBEq, Int.reduceToNat, Int.reduceLT, Int.reduceLE, Int.reduceEq, Int.reduceNeg, Int.reduceAdd, Int.reduceSub, Int.reduceMul, ↓reduceIte, Int.reduceBEq, Int.reduceBNe, hma, hidx, h5]
            exact (ih2 trivial (j2 ++ [_])).castS (by simp; rfl) (by simp [upd, ins, subF, lookA, h1, h2])
        · simp -implicitDefEqProofs (maxSteps := 2000000) (disch := omega) only [go_sem, reduceCtorEq, Nat.reduceAdd, Nat.reduceSub, Nat.reduceMul, Nat.reduceLT, Nat.reduceLeDiff, Nat.reduceEqDiff, Nat.reduceBEq, Int.reduceToNat, Int.reduceLT, Int.reduceLE, Int.reduceEq, Int.reduceNeg, Int.reduceAdd, Int.reduceSub, Int.reduceMul, ↓reduceIte, Int.reduceBEq, Int.reduceBNe, hma, hidx, h5]
          exact (ih2 trivial (j2 ++ [_])).castS (by simp; rfl) (by simp [upd, ins, subF, lookA, h1])
      · intro j2 _
        rw [List.take_length]
        clear hcs
        have hvd : vdN (altN x i L) L.length = if altN x i L = L.length then 1 else if altN x i L = 0 then 2 else 3 := rfl
        rw [hvd] at ih
        have hle := @altN_le x i L
        generalize altN x i L = n at hle ih ⊢
        by_cases h1 : n = L.length
        · simp -implicitDefEqProofs (maxSteps := 2000000) (disch := omega) only [go_sem, reduceCtorEq, Nat.reduceAdd, Nat.reduceSub, Nat.reduceMul, Nat.reduceLT, Nat.reduceLeDiff, Nat.reduceEqDiff, Nat.reduceBEq, Int.reduceToNat, Int.reduceLT, Int.reduceLE, Int.reduceEq, Int.reduceNeg, Int.reduceAdd, Int.reduceSub, Int.reduceMul, ↓reduceIte, Int.reduceBEq, Int.reduceBNe]
          exact (ih trivial (j ++ j2)).castS (by simp [hAi]) (by simp [upd, ins, subF, lookA, h1])
        · by_cases h2 : n = 0
          · have h3 : ¬ 0 = L.length := by omega
            simp -implicitDefEqProofs (maxSteps := 2000000) (disch := omega) only [go_sem, reduceCtorEq, Nat.reduceAdd, Nat.reduceSub, Nat.reduceMul, Nat.reduceLT, Nat.reduceLeDiff, Nat.reduceEqDiff, Nat.reduceBEq, Int.reduceToNat, Int.reduceLT, Int.reduceLE, Int.reduceEq, Int.reduceNeg, Int.reduceAdd, Int.reduceSub, Int.reduceMul, ↓reduceIte, Int.reduceBEq, Int.reduceBNe]
            exact (ih trivial (j ++ j2)).castS (by simp [hAi]) (by simp [upd, ins, subF, lookA, h1, h2, h3])
          · simp -implicitDefEqProofs (maxSteps := 2000000) (disch := omega) only [go_sem, reduceCtorEq, Nat.reduceAdd, Nat.reduceSub, Nat.reduceMul, Nat.reduceLT, Nat.reduceLeDiff, Nat.reduceEqDiff, Nat.reduceBEq, Int.reduceToNat, Int.reduceLT, Int.reduceLE, Int.reduceEq, Int.reduceNeg, Int.reduceAdd, Int.reduceSub, Int.reduceMul, ↓reduceIte, Int.reduceBEq, Int.reduceBNe]
            exact (ih trivial (j ++ j2)).castS (by simp [hAi]) (by simp [upd, ins, subF, lookA, h1, h2])
    · intro j _
      simp -implicitDefEqProofs (maxSteps := 2000000) (disch := omega) only [go_sem, reduceCtorEq, Nat.reduceAdd, Nat.reduceSub, Nat.reduceMul, Nat.reduceLT, Nat.reduceLeDiff, Nat.reduceEqDiff, Nat.reduceBEq, Int.reduceToNat, Int.reduceLT, Int.reduceLE, Int.reduceEq, Int.reduceNeg, Int.reduceAdd, Int.reduceSub, Int.reduceMul, ↓reduceIte, Int.reduceBEq, Int.reduceBNe, isv]
  · have hr : alteredM c o = ([], (knownM c o []).2) := by unfold alteredM; rw [if_neg hk]
    rw [hr]
    simp -implicitDefEqProofs (maxSteps := 2000000) (disch := omega) only [go_sem, reduceCtorEq, Nat.reduceAdd, Nat.reduceSub, Nat.reduceMul, Nat.reduceLT, Nat.reduceLeDiff, Nat.reduceEqDiff, Nat.reduceBEq, Int.reduceToNat, Int.reduceLT, Int.reduceLE, Int.reduceEq, Int.reduceNeg, Int.reduceAdd, Int.reduceSub, Int.reduceMul, ↓reduceIte, Int.reduceBEq, Int.reduceBNe, Cat_eta, Old_eta, hc, ho, hk, isv]
end Go.Proofs
set_option linter.unusedSimpArgs false
set_option linter.unusedVariables false
set_option maxRecDepth 100000
namespace Go.Proofs
open Go Go.Mu

/-! The reference's Years. -/
def yF (x : Rng) (y : Int) : Rng := ⟨if y < x.lo then y else x.lo, if x.hi < y then y else x.hi⟩
theorem yF_spec : ∀ (l : List Int) (x : Rng), ((l.foldl yF x).lo = x.lo ∨ (l.foldl yF x).lo ∈ l) ∧ (l.foldl yF x).lo ≤ x.lo ∧ (∀ y ∈ l, (l.foldl yF x).lo ≤ y) ∧ ((l.foldl yF x).hi = x.hi ∨ (l.foldl yF x).hi ∈ l) ∧ x.hi ≤ (l.foldl yF x).hi ∧ (∀ y ∈ l, y ≤ (l.foldl yF x).hi)
  | [], x => by simp
  | a :: l, x => by
    obtain ⟨h1, h2, h3, h4, h5, h6⟩ := yF_spec l (yF x a)
    rw [List.foldl_cons]
    generalize l.foldl yF (yF x a) = z at h1 h2 h3 h4 h5 h6
    have e1 : (yF x a).lo = if a < x.lo then a else x.lo := rfl
    have e2 : (yF x a).hi = if x.hi < a then a else x.hi := rfl
    rw [e1] at h1 h2
    rw [e2] at h4 h5
    refine ⟨?_, ?_, ?_, ?_, ?_, ?_⟩
    · split at h1
      · rcases h1 with h | h
        · exact .inr (by rw [h]; simp)
        · exact .inr (List.mem_cons_of_mem _ h)
      · rcases h1 with h | h
        · exact .inl h
        · exact .inr (List.mem_cons_of_mem _ h)
    · split at h2 <;> omega
    · intro y hy
      rcases List.mem_cons.1 hy with rfl | hy
      · split at h2 <;> omega
      · exact h3 y hy
    · split at h4
      · rcases h4 with h | h
        · exact .inr (by rw [h]; simp)
        · exact .inr (List.mem_cons_of_mem _ h)
      · rcases h4 with h | h
        · exact .inl h
        · exact .inr (List.mem_cons_of_mem _ h)
    · split at h5 <;> omega
    · intro y hy
      rcases List.mem_cons.1 hy with rfl | hy
      · split at h5 <;> omega
      · exact h6 y hy
theorem sorted_get {vs : List Int} (h : vs.Pairwise (· < ·)) {i j : Nat} (hij : i ≤ j) (hj : j < vs.length) : vs[i]'(by omega) ≤ vs[j] := by
  rcases Nat.lt_or_eq_of_le hij with h1 | rfl
  · exact Int.le_of_lt (List.pairwise_iff_getElem.1 h i j (by omega) hj h1)
  · exact Int.le_refl _
theorem years_eq {L : List Made} {m : Made} {L' : List Made} (hL : L = m :: L') :
    (L.map Made.year).foldl yF ⟨m.year, m.year⟩ = ⟨tg (valuesZ Made.year L) 0, tg (valuesZ Made.year L) (((valuesZ Made.year L).length : Int) - 1)⟩ := by
  obtain ⟨h1, h2, h3, h4, h5, h6⟩ := yF_spec (L.map Made.year) ⟨m.year, m.year⟩
  have hne : L ≠ [] := by rw [hL]; simp
  have hp := List.length_pos_iff.2 (valuesZ_ne (num := Made.year) hne)
  have hs := valuesZ_lt (num := Made.year) (l := L)
  have hm : ∀ x, x ∈ valuesZ Made.year L ↔ x ∈ L.map Made.year := fun x => by rw [valuesZ_mem, List.mem_map]
  have hmy : m.year ∈ L.map Made.year := by rw [hL]; simp
  have h1' : ((L.map Made.year).foldl yF ⟨m.year, m.year⟩).lo ∈ L.map Made.year := by
    rcases h1 with h | h
    · rw [h]; exact hmy
    · exact h
  have h4' : ((L.map Made.year).foldl yF ⟨m.year, m.year⟩).hi ∈ L.map Made.year := by
    rcases h4 with h | h
    · rw [h]; exact hmy
    · exact h
  generalize (L.map Made.year).foldl yF ⟨m.year, m.year⟩ = z at h1' h4' h3 h6 ⊢
  generalize valuesZ Made.year L = vs at hp hs hm
  have e : ((vs.length : Int) - 1) = ((vs.length - 1 : Nat) : Int) := by omega
  have t0 : tg vs 0 = vs[0] := tgE hp
  have t1 : tg vs ((vs.length - 1 : Nat) : Int) = vs[vs.length - 1] := tgE (by omega)
  rw [e, t0, t1]
  obtain ⟨i, hi, ei⟩ := List.mem_iff_getElem.1 ((hm _).2 h1')
  obtain ⟨j, hj, ej⟩ := List.mem_iff_getElem.1 ((hm _).2 h4')
  have a1 := sorted_get hs (Nat.zero_le i) hi
  have a2 := sorted_get hs (show j ≤ vs.length - 1 by omega) (by omega)
  have a3 := h3 _ ((hm _).1 (List.getElem_mem hp))
  have a4 := h6 _ ((hm _).1 (List.getElem_mem (show vs.length - 1 < vs.length by omega)))
  obtain ⟨lo, hi'⟩ := z
  simp only at ei ej a3 a4 ⊢
  rw [Rng.mk.injEq]
  exact ⟨by omega, by omega⟩
theorem idx_one {a b : AV} {l : List AV} : idx (a :: b :: l) 1 = some b := rfl
set_option maxHeartbeats 40000000 in
theorem rYears_p (c : Cat) (o : Old) (hc : okCat c) (ho : okOld o) : PureV Tryz.prog 27 [c.av, o.av] (.tup [(yearsM c o).1.av, .int .i64 (yearsM c o).2]) := by
  refine PureV.of_ev (E := Tryz.E 57 Tryz.ord27 fs109) (Tryz.envOK 57 Tryz.ord27 fs109 fs109_ok) (rngE_plain) Tryz.kp27 Tryz.func27 rfl (by kernel_rfl) (by simp [Tryz.E]) (Callable.of Tryz.func27 (by kernel_rfl) (by kernel_rfl)) (by kernel_rfl) ?_
  intro σ
  simp only [Cat.av, Old.av]
  by_cases hk : (knownM c o []).2 = 0
  · obtain ⟨hv, hne, hke⟩ := knownM_ok hk
    have hlen := truthsM_len (o := o) (okO_of_ck hv).1
    obtain ⟨m, L', hL⟩ : ∃ m L', truthsM c o = m :: L' := by cases h : truthsM c o with
      | nil => exact absurd h hne
      | cons m L' => exact ⟨m, L', rfl⟩
    have hr : yearsM c o = (((truthsM c o).map Made.year).foldl yF ⟨m.year, m.year⟩, 0) := by unfold yearsM; rw [if_pos hk, years_eq hL]
    have hf : fitsM c o = ((truthsM c o).map Made.pair, 0) := by unfold fitsM; rw [if_pos hk]
    rw [hr]
    generalize truthsM c o = L at hlen hf hL ⊢
    have h00 : idx ((L.map Made.pair).map isv) 0 = some (.list .no 1 [.int .i64 m.model, .int .i64 m.year]) := by rw [hL]; rfl
    have hlm : ((L.map Made.pair).map isv).length = L.length := by simp
    simp -implicitDefEqProofs (maxSteps := 2000000) (disch := omega) only [go_sem, reduceCtorEq, Nat.reduceAdd, Nat.reduceSub, Nat.reduceMul, Nat.reduceLT, Nat.reduceLeDiff, Nat.reduceEqDiff, Nat.reduceBEq, Int.reduceToNat, Int.reduceLT, Int.reduceLE, Int.reduceEq, Int.reduceNeg, Int.reduceAdd, Int.reduceSub, Int.reduceMul, ↓reduceIte, Int.reduceBEq, Int.reduceBNe, Cat_eta, Old_eta, hc, ho, hf, h00, idx_one, hlm]
    refine ARun.forG (Tryz.envOK 57 Tryz.ord27 fs109 fs109_ok) L.length (fun _ => True) (fun i => [(9, .int .i64 i)]) (fun i j => σ ++ (.cells [.int .i64 c.features, .list .no 3 (c.models.map Model.av)] :: .cells [isv o.seen, .str o.plate, .int .i64 o.changed] :: .cells [.int .i64 0, .int .i64 0] :: .cells [.int .i64 (((L.take i).map Made.year).foldl yF ⟨m.year, m.year⟩).lo, .int .i64 (((L.take i).map Made.year).foldl yF ⟨m.year, m.year⟩).hi] :: j)) [] (by kernel_rfl) (by kernel_rfl) (by simp [isv]) (by simp [upd, ins, subF, lookA]) trivial ?_ ?_
    · intro K Q' hK i j hi _ ih
      rw [List.take_succ_eq_append_getElem hi, List.map_append, List.map_singleton, List.foldl_append, List.foldl_cons, List.foldl_nil] at ih
      have hidx : idx ((L.map Made.pair).map isv) (i : Int) = some (.list .no 1 [.int .i64 L[i].model, .int .i64 L[i].year]) := by
        have h2 : i < (L.map Made.pair).length := by rw [List.length_map]; exact hi
        rw [idx_nat h2]; simp [Made.pair, isv]
      generalize ((L.take i).map Made.year).foldl yF ⟨m.year, m.year⟩ = x at ih ⊢
      generalize L[i].model = a at hidx
      generalize L[i].year = y at ih hidx
      simp -implicitDefEqProofs (maxSteps := 2000000) (disch := omega) only [go_sem, reduceCtorEq, Nat.reduceAdd, Nat.reduceSub, Nat.reduceMul, Nat.reduceLT, Nat.reduceLeDiff, Nat.reduceEqDiff, Nat.reduceBEq, Int.reduceToNat, Int.reduceLT, Int.reduceLE, Int.reduceEq, Int.reduceNeg, Int.reduceAdd, Int.reduceSub, Int.reduceMul, ↓reduceIte, Int.reduceBEq, Int.reduceBNe, hidx, idx_one, hlm, minA, minL, maxA, maxL]
      exact (ih trivial j).castS (by simp [yF]) (by simp [upd, ins, subF, lookA])
    · intro j _
      rw [List.take_length]
      simp -implicitDefEqProofs (maxSteps := 2000000) (disch := omega) only [go_sem, reduceCtorEq, Nat.reduceAdd, Nat.reduceSub, Nat.reduceMul, Nat.reduceLT, Nat.reduceLeDiff, Nat.reduceEqDiff, Nat.reduceBEq, Int.reduceToNat, Int.reduceLT, Int.reduceLE, Int.reduceEq, Int.reduceNeg, Int.reduceAdd, Int.reduceSub, Int.reduceMul, ↓reduceIte, Int.reduceBEq, Int.reduceBNe, hlm, Rng.av]
  · have hr : yearsM c o = (⟨0, 0⟩, (knownM c o []).2) := by unfold yearsM; rw [if_neg hk]
    have hf := @fits_known c o
    rw [hr]
    simp -implicitDefEqProofs (maxSteps := 2000000) (disch := omega) only [go_sem, reduceCtorEq, Nat.reduceAdd, Nat.reduceSub, Nat.reduceMul, Nat.reduceLT, Nat.reduceLeDiff, Nat.reduceEqDiff, Nat.reduceBEq, Int.reduceToNat, Int.reduceLT, Int.reduceLE, Int.reduceEq, Int.reduceNeg, Int.reduceAdd, Int.reduceSub, Int.reduceMul, ↓reduceIte, Int.reduceBEq, Int.reduceBNe, Cat_eta, Old_eta, hc, ho, hf, hk, Rng.av]
def rYears_s := spw2 tyCat.w tyOld.w fun c o => if okCat c ∧ okOld o then some (.tup [.agg [.int .i64 (yearsM c o).1.lo, .int .i64 (yearsM c o).1.hi], .int .i64 (yearsM c o).2]) else none
theorem rYears_ok : ∀ xs v, rYears_s xs = some v → PureV Tryz.prog 27 xs v :=
  spw2_ok fun c o v h => by have h := someIf h; rw [← h.2]; exact rYears_p c o h.1.1 h.1.2
end Go.Proofs
set_option linter.unusedSimpArgs false
set_option linter.unusedVariables false
set_option maxRecDepth 100000
namespace Go.Proofs
open Go Go.Mu

/-! The reference's Numbers. -/
theorem numS_ends {l : List Int} (hs : l.Pairwise (· < ·)) (hne : l ≠ []) (x : Rng) : l.foldl numS x = ⟨if (endsP l).lo < x.lo then (endsP l).lo else x.lo, if x.hi < (endsP l).hi then (endsP l).hi else x.hi⟩ := by
  have hy : l.foldl numS x = l.foldl yF x := rfl
  rw [hy]
  obtain ⟨h1, h2, h3, h4, h5, h6⟩ := yF_spec l x
  generalize l.foldl yF x = z at h1 h2 h3 h4 h5 h6
  have hp := List.length_pos_iff.2 hne
  have e1 : (endsP l).lo = l[0] := by unfold endsP; cases l with
    | nil => exact absurd rfl hne
    | cons a l => rfl
  have e2 : (endsP l).hi = l[l.length - 1] := by
    unfold endsP
    simp only [List.getLastD_eq_getLast?, List.getLast?_eq_getElem?, List.getElem?_eq_getElem (show l.length - 1 < l.length by omega), Option.getD_some]
  have m1 : l[0] ∈ l := List.getElem_mem hp
  have m2 : l[l.length - 1] ∈ l := List.getElem_mem (by omega)
  have a1 := h3 _ m1
  have a2 := h6 _ m2
  have b1 : ∀ y ∈ l, l[0] ≤ y := fun y hy => by
    obtain ⟨i, hi, rfl⟩ := List.mem_iff_getElem.1 hy; exact sorted_get hs (Nat.zero_le i) hi
  have b2 : ∀ y ∈ l, y ≤ l[l.length - 1] := fun y hy => by
    obtain ⟨i, hi, rfl⟩ := List.mem_iff_getElem.1 hy; exact sorted_get hs (show i ≤ l.length - 1 by omega) (by omega)
  rw [e1, e2]
  obtain ⟨lo, hi⟩ := z
  simp only at h1 h2 h4 h5 a1 a2
  rw [Rng.mk.injEq]
  constructor
  · split
    · rcases h1 with h | h
      · omega
      · have := b1 _ h; omega
    · rcases h1 with h | h
      · omega
      · have := b1 _ h; omega
  · split
    · rcases h4 with h | h
      · omega
      · have := b2 _ h; omega
    · rcases h4 with h | h
      · omega
      · have := b2 _ h; omega
end Go.Proofs
set_option linter.unusedSimpArgs false
set_option linter.unusedVariables false
set_option maxRecDepth 100000
namespace Go.Proofs
open Go Go.Mu

theorem numsP_lt {x : Rng} {pl : ByteArray} : (numsP x pl).Pairwise (· < ·) := by
  unfold numsP
  refine List.Pairwise.filter _ (List.pairwise_map.2 (List.pairwise_lt_range.imp ?_))
  intro a b h; omega
theorem numsP_mem {x : Rng} {pl : ByteArray} {n : Int} (h : n ∈ numsP x pl) : x.lo ≤ n ∧ n ≤ x.hi := by
  unfold numsP at h
  obtain ⟨k, hk, rfl⟩ := List.mem_map.1 (List.mem_filter.1 h).1
  rw [List.mem_range] at hk; omega
theorem endsP_mem {l : List Int} (h : l ≠ []) : (endsP l).lo ∈ l ∧ (endsP l).hi ∈ l := by
  unfold endsP
  cases l with
  | nil => exact absurd rfl h
  | cons a l =>
    refine ⟨by simp, ?_⟩
    rw [List.getLastD_eq_getLast?, List.getLast?_eq_some_getLast (by simp)]
    exact List.getLast_mem _
theorem fits_ne {x : Rng} {pl : ByteArray} (h : fitsP x pl = true) : numsP x pl ≠ [] := by
  unfold fitsP at h; intro e; rw [e] at h; simp at h
theorem numF_first {m : Made} {pl : ByteArray} (h : numsP m.nums pl ≠ []) (hm : 0 ≤ m.nums.lo ∧ m.nums.hi ≤ 9999) : numF pl ⟨10000, -1⟩ m = endsP (numsP m.nums pl) := by
  unfold numF
  rw [numS_ends numsP_lt h]
  obtain ⟨h1, h2⟩ := endsP_mem h
  have a1 := numsP_mem h1
  have a2 := numsP_mem h2
  generalize endsP (numsP m.nums pl) = z at a1 a2 ⊢
  obtain ⟨lo, hi⟩ := z
  simp only at a1 a2 ⊢
  rw [if_pos (by omega), if_pos (by omega)]
/-- What stands in the result's cell ahead of a round. -/
def numX (pl : ByteArray) (L : List Made) (i : Nat) : Rng := if i = 0 then ⟨0, 0⟩ else (L.take i).foldl (numF pl) ⟨10000, -1⟩
theorem numX_zero {pl : ByteArray} {L : List Made} : numX pl L 0 = ⟨0, 0⟩ := rfl
theorem numX_one {pl : ByteArray} {L : List Made} (h : 0 < L.length) : numX pl L 1 = numF pl ⟨10000, -1⟩ L[0] := by
  unfold numX; rw [if_neg (by decide), foldl_take _ _ _ _ h]; rfl
theorem numX_succ {pl : ByteArray} {L : List Made} {i : Nat} (h0 : i ≠ 0) (h : i < L.length) : numX pl L (i + 1) = numF pl (numX pl L i) L[i] := by
  unfold numX; rw [if_neg (by omega), if_neg h0, foldl_take _ _ _ _ h]
theorem numX_all {pl : ByteArray} {L : List Made} (h : L ≠ []) : numX pl L L.length = L.foldl (numF pl) ⟨10000, -1⟩ := by
  unfold numX; rw [if_neg (fun e => h (List.length_eq_zero_iff.1 e)), List.take_length]
def Tryz.ordN : Nat → List Nat × List (Nat × List Nat)
  | 8 => Tryz.ord29 8
  | 9 => ([0, 1, 0, 4, 0, 0, 48, 112, 240, 496, 0, 1024, 4080, 8188, 16380, 32767, 65535, 131071, 131071, 0, 786431, 2097151], [(0, []), (1, []), (2, []), (3, []), (4, []), (5, []), (6, []), (7, []), (8, []), (9, []), (10, []), (11, []), (12, []), (13, []), (14, []), (15, [15]), (16, []), (17, []), (18, []), (19, []), (20, []), (21, [])])
  | _ => ([], [])
theorem Tryz.ordN_8 : Tryz.ordN 8 = Tryz.ord29 8 := rfl
theorem Tryz.ordN_9 : Tryz.ordN 9 = ([0, 1, 0, 4, 0, 0, 48, 112, 240, 496, 0, 1024, 4080, 8188, 16380, 32767, 65535, 131071, 131071, 0, 786431, 2097151], [(0, []), (1, []), (2, []), (3, []), (4, []), (5, []), (6, []), (7, []), (8, []), (9, []), (10, []), (11, []), (12, []), (13, []), (14, []), (15, [15]), (16, []), (17, []), (18, []), (19, []), (20, []), (21, [])]) := rfl
attribute [go_sem] Tryz.ordN_8 Tryz.ordN_9
set_option maxHeartbeats 40000000 in
theorem rNumbers_p (c : Cat) (o : Old) (hc : okCat c) (ho : okOld o) : PureV Tryz.prog 29 [c.av, o.av] (.tup [(numbersM c o).1.av, .int .i64 (numbersM c o).2]) := by
  refine PureV.of_ev (E := Tryz.Ev 73 Tryz.ordN fs109) (Tryz.envOKV 73 Tryz.ordN fs109 fs109_ok) (rngE_plain) Tryz.kp29 Tryz.func29 rfl (by kernel_rfl) (by simp [Tryz.Ev]) (Callable.of Tryz.func29 (by kernel_rfl) (by kernel_rfl)) (by kernel_rfl) ?_
  intro σ
  simp only [Cat.av, Old.av]
  by_cases hk : (knownM c o []).2 = 0
  · obtain ⟨hv, hne, hke⟩ := knownM_ok hk
    obtain ⟨hC, hO⟩ := okO_of_ck hv
    have hlen := truthsM_len (o := o) hC
    have hpl : o.plate.size ≤ 4 := hO.plate.1
    have hmo : ∀ m ∈ truthsM c o, okMade m ∧ fitsP m.nums o.plate = true ∧ ∃ q k : Nat, q < c.models.length ∧ k < (c.models.getD q default).looks.length ∧ m = madeOf q (c.models.getD q default) k := fun m hm => by
      obtain ⟨h1, h2⟩ := mem_truths.1 hm
      exact ⟨allMade_ok hC m h1, (isTrue_iff.1 h2).2, all_mem h1⟩
    have hr : numbersM c o = ((truthsM c o).foldl (numF o.plate) ⟨10000, -1⟩, 0) := by unfold numbersM; rw [if_pos hk]
    have hf : fitsM c o = ((truthsM c o).map Made.pair, 0) := by unfold fitsM; rw [if_pos hk]
    rw [hr]
    clear hr hk hv hke
    generalize truthsM c o = L at hlen hf hmo hne ⊢
    have hlm : ((L.map Made.pair).map isv).length = L.length := by simp
    rw [← numX_all hne]
    simp -implicitDefEqProofs (maxSteps := 2000000) (disch := omega) only [go_sem, reduceCtorEq, Nat.reduceAdd, Nat.reduceSub, Nat.reduceMul, Nat.reduceLT, Nat.reduceLeDiff, Nat.reduceEqDiff, Nat.reduceBEq, Int.reduceToNat, Int.reduceLT, Int.reduceLE, Int.reduceEq, Int.reduceNeg, Int.reduceAdd, Int.reduceSub, Int.reduceMul, ↓reduceIte, Int.reduceBEq, Int.reduceBNe, Cat_eta, Old_eta, hc, ho, hf, hlm]
    refine ARun.forG (Tryz.envOKV 73 Tryz.ordN fs109 fs109_ok) L.length (fun _ => True) (fun i => [(9, .int .i64 i)]) (fun i j => σ ++ (.cells [.int .i64 c.features, .list .no 3 (c.models.map Model.av)] :: .cells [isv o.seen, .str o.plate, .int .i64 o.changed] :: .cells [.int .i64 0, .int .i64 0] :: .cells [.int .i64 (numX o.plate L i).lo, .int .i64 (numX o.plate L i).hi] :: j)) [] (by kernel_rfl) (by kernel_rfl) (by simp [isv, numX]) (by simp [upd, ins, subF, lookA]) trivial ?_ ?_
    · intro K Q' hK i j hi _ ih
      obtain ⟨hm1, hm2, q, k, hq, hkq, hm3⟩ := hmo _ (List.getElem_mem hi)
      have hgd : c.models.getD q default = c.models[q] := by simp [List.getD, List.getElem?_eq_getElem hq]
      rw [hgd] at hkq hm3
      have hM := hC.model _ (List.getElem_mem hq)
      have hid : idx (c.models.map Model.av) (q : Int) = some (c.models[q]).av := idx_nat hq
      have hmav : (c.models[q]).av = .agg [.int .i64 (c.models[q]).first, .list .no 1 ((c.models[q]).looks.map isv), .list .no 2 ((c.models[q]).nums.map Rng.av)] := rfl
      have hidx : idx ((L.map Made.pair).map isv) (i : Int) = some (.list .no 1 [.int .i64 L[i].model, .int .i64 L[i].year]) := by
        have h2 : i < (L.map Made.pair).length := by rw [List.length_map]; exact hi
        rw [idx_nat h2]; simp [Made.pair, isv]
      have e1 : L[i].model = (q : Int) := by rw [hm3]; rfl
      have e2 : L[i].year = (c.models[q]).first + (k : Int) := by rw [hm3]; rfl
      have e3 : L[i].nums = (c.models[q]).nums.getD k default := by rw [hm3]; rfl
      have hst : i ≠ 0 → numX o.plate L (i + 1) = numF o.plate (numX o.plate L i) L[i] := fun h0 => numX_succ h0 hi
      have hs0 : i = 0 → numX o.plate L (i + 1) = numF o.plate ⟨10000, -1⟩ L[i] := fun h0 => by subst h0; exact numX_one hi
      have hnf := fits_ne hm2
      have hma : 0 ≤ L[i].nums.lo := hm1.1
      have hmb : L[i].nums.hi ≤ 9999 := hm1.2
      have hff : numF o.plate ⟨10000, -1⟩ L[i] = endsP (numsP L[i].nums o.plate) := numF_first hnf hm1
      have hfx : ∀ x, numF o.plate x L[i] = _ := fun x => numS_ends numsP_lt hnf x
      rw [e1, e2] at hidx
      have hfir := hM.first
      have hnm := hM.nums
      have hlk := hM.looks
      have hk2 : k < (c.models[q]).nums.length := by omega
      have hkn : idx ((c.models[q]).nums.map Rng.av) ((c.models[q]).first + (k : Int) - (c.models[q]).first) = some L[i].nums.av := by
        rw [show (c.models[q]).first + (k : Int) - (c.models[q]).first = (k : Int) by omega, idx_nat hk2, e3]; simp [List.getD, List.getElem?_eq_getElem hk2]
      have hnav : L[i].nums.av = .agg [.int .i64 L[i].nums.lo, .int .i64 L[i].nums.hi] := rfl
      have hend : endsP (numsP L[i].nums o.plate) = endsP (numsP L[i].nums o.plate) := rfl
      clear hmo hm3 e1 e2 e3 hgd hf hnf
      generalize hT : numX o.plate L (i + 1) = T at ih hst hs0
      generalize numX o.plate L i = x at ih hst hfx ⊢
      generalize c.models[q] = M at hid hmav hkn hM hfir hnm hlk hk2 hidx hkq
      generalize L[i] = m at hst hs0 hff hfx hm1 hm2 hma hmb hkn hnav
      generalize hE : endsP (numsP m.nums o.plate) = E at hff hfx
      by_cases h0 : i = 0
      · have hT2 : T = E := by rw [hs0 h0, hff]
        rw [hT2] at ih
        have h0i : ((i : Int) = 0) = True := eq_true (by omega)
        simp -implicitDefEqProofs (maxSteps := 2000000) (disch := omega) only [go_sem, reduceCtorEq, Nat.reduceAdd, Nat.reduceSub, Nat.reduceMul, Nat.reduceLT, Nat.reduceLeDiff, Nat.reduceEqDiff, Nat.reduceBEq, Int.reduceToNat, Int.reduceLT, Int.reduceLE, Int.reduceEq, Int.reduceNeg, Int.reduceAdd, Int.reduceSub, Int.reduceMul, ↓reduceIte, Int.reduceBEq, Int.reduceBNe, hidx, idx_zero, idx_one, hlm, hid, hmav, hkn, hnav, hE, hm2, hma, hmb, hpl, h0i, Int.lt_irrefl, if_false, minA, minL, maxA, maxL]
        exact (ih trivial (j ++ (.cells [.int .i64 M.first, .list .no 1 (M.looks.map isv), .list .no 2 (M.nums.map Rng.av)] :: [.cells [.int .i64 E.lo, .int .i64 E.hi]]))).castS (by simp) (by simp [upd, ins, subF, lookA])
      · have hT2 := (hst h0).trans (hfx x)
        subst hT2
        have h0i : ¬ (i : Int) = 0 := by omega
        simp -implicitDefEqProofs (maxSteps := 2000000) (disch := omega) only [go_sem, reduceCtorEq, Nat.reduceAdd, Nat.reduceSub, Nat.reduceMul, Nat.reduceLT, Nat.reduceLeDiff, Nat.reduceEqDiff, Nat.reduceBEq, Int.reduceToNat, Int.reduceLT, Int.reduceLE, Int.reduceEq, Int.reduceNeg, Int.reduceAdd, Int.reduceSub, Int.reduceMul, ↓reduceIte, Int.reduceBEq, Int.reduceBNe, hidx, idx_zero, idx_one, hlm, hid, hmav, hkn, hnav, hE, hm2, hma, hmb, hpl, h0i, minA, minL, maxA, maxL]
        exact (ih trivial (j ++ (.cells [.int .i64 M.first, .list .no 1 (M.looks.map isv), .list .no 2 (M.nums.map Rng.av)] :: [.cells [.int .i64 E.lo, .int .i64 E.hi]]))).castS (by simp) (by simp [upd, ins, subF, lookA])
    · intro j _
      simp -implicitDefEqProofs (maxSteps := 2000000) (disch := omega) only [go_sem, reduceCtorEq, Nat.reduceAdd, Nat.reduceSub, Nat.reduceMul, Nat.reduceLT, Nat.reduceLeDiff, Nat.reduceEqDiff, Nat.reduceBEq, Int.reduceToNat, Int.reduceLT, Int.reduceLE, Int.reduceEq, Int.reduceNeg, Int.reduceAdd, Int.reduceSub, Int.reduceMul, ↓reduceIte, Int.reduceBEq, Int.reduceBNe, hlm, Rng.av]
  · have hr : numbersM c o = (⟨0, 0⟩, (knownM c o []).2) := by unfold numbersM; rw [if_neg hk]
    have hf := @fits_known c o
    rw [hr]
    simp -implicitDefEqProofs (maxSteps := 2000000) (disch := omega) only [go_sem, reduceCtorEq, Nat.reduceAdd, Nat.reduceSub, Nat.reduceMul, Nat.reduceLT, Nat.reduceLeDiff, Nat.reduceEqDiff, Nat.reduceBEq, Int.reduceToNat, Int.reduceLT, Int.reduceLE, Int.reduceEq, Int.reduceNeg, Int.reduceAdd, Int.reduceSub, Int.reduceMul, ↓reduceIte, Int.reduceBEq, Int.reduceBNe, Cat_eta, Old_eta, hc, ho, hf, hk, Rng.av]
def rNumbers_s := spw2 tyCat.w tyOld.w fun c o => if okCat c ∧ okOld o then some (.tup [.agg [.int .i64 (numbersM c o).1.lo, .int .i64 (numbersM c o).1.hi], .int .i64 (numbersM c o).2]) else none
theorem rNumbers_ok : ∀ xs v, rNumbers_s xs = some v → PureV Tryz.prog 29 xs v :=
  spw2_ok fun c o v h => by have h := someIf h; rw [← h.2]; exact rNumbers_p c o h.1.1 h.1.2
end Go.Proofs
set_option linter.unusedSimpArgs false
set_option linter.unusedVariables false
set_option maxRecDepth 100000
namespace Go.Proofs
open Go Go.Mu

def cfM (c : Cat) (o : Old) (f : Int) : Int := if ckOld c o ≠ 0 then ckOld c o else featE c f
set_option maxHeartbeats 4000000 in
theorem rcheckF_p (c : Cat) (o : Old) (f : Int) (hc : okCat c) (ho : okOld o) : PureV Tryz.prog 68 [c.av, o.av, .int .i64 f] (.int .i64 (cfM c o f)) := by
  refine PureV.of_ev (E := Tryz.E 20 (fun _ => ([], [])) fs109) (Tryz.envOK 20 (fun _ => ([], [])) fs109 fs109_ok) (.int) Tryz.kp68 Tryz.func68 rfl (by kernel_rfl) (by simp [Tryz.E]) (Callable.of Tryz.func68 (by kernel_rfl) (by kernel_rfl)) (by kernel_rfl) ?_
  intro σ
  simp only [Cat.av, Old.av]
  unfold cfM
  by_cases hv : ckOld c o = 0
  · obtain ⟨hC, hO⟩ := okO_of_ck hv
    have hfe := hC.features
    rw [if_neg (by simp [hv])]
    unfold featE
    by_cases hf : 0 ≤ f ∧ f ≤ c.features - 1
    · rw [if_pos hf]
      simp -implicitDefEqProofs (maxSteps := 2000000) (disch := omega) only [go_sem, reduceCtorEq, Nat.reduceAdd, Nat.reduceSub, Nat.reduceMul, Nat.reduceLT, Nat.reduceLeDiff, Nat.reduceEqDiff, Nat.reduceBEq, Int.reduceToNat, Int.reduceLT, Int.reduceLE, Int.reduceEq, Int.reduceNeg, Int.reduceAdd, Int.reduceSub, Int.reduceMul, ↓reduceIte, Int.reduceBEq, Int.reduceBNe, Cat_eta, Old_eta, hc, ho, hv, hf.1, hf.2]
    · rw [if_neg hf]
      simp -implicitDefEqProofs (maxSteps := 2000000) (disch := omega) only [go_sem, reduceCtorEq, Nat.reduceAdd, Nat.reduceSub, Nat.reduceMul, Nat.reduceLT, Nat.reduceLeDiff, Nat.reduceEqDiff, Nat.reduceBEq, Int.reduceToNat, Int.reduceLT, Int.reduceLE, Int.reduceEq, Int.reduceNeg, Int.reduceAdd, Int.reduceSub, Int.reduceMul, ↓reduceIte, Int.reduceBEq, Int.reduceBNe, Cat_eta, Old_eta, hc, ho, hv]
      exact fun h1 h2 => absurd ⟨h1, h2⟩ hf
  · rw [if_pos hv]
    simp -implicitDefEqProofs (maxSteps := 2000000) (disch := omega) only [go_sem, reduceCtorEq, Nat.reduceAdd, Nat.reduceSub, Nat.reduceMul, Nat.reduceLT, Nat.reduceLeDiff, Nat.reduceEqDiff, Nat.reduceBEq, Int.reduceToNat, Int.reduceLT, Int.reduceLE, Int.reduceEq, Int.reduceNeg, Int.reduceAdd, Int.reduceSub, Int.reduceMul, ↓reduceIte, Int.reduceBEq, Int.reduceBNe, Cat_eta, Old_eta, hc, ho, hv]
end Go.Proofs
set_option linter.unusedSimpArgs false
set_option linter.unusedVariables false
set_option maxRecDepth 100000
namespace Go.Proofs
open Go Go.Mu

theorem rLooks_p (c : Cat) (q k : Nat) (hC : OkC c) (hq : q < c.models.length) (hk : k < (c.models[q]).looks.length) : PureV Tryz.prog 71 [c.av, .list .no 1 [.int .i64 q, .int .i64 ((c.models[q]).first + k)]] (isv ((c.models[q]).looks[k])) := by
  refine PureV.of_ev (E := Tryz.E 23 Tryz.ord71 fs109) (Tryz.envOK 23 Tryz.ord71 fs109 fs109_ok) (isv_plain _) Tryz.kp71 Tryz.func71 rfl (by kernel_rfl) (by simp [Tryz.E]) (Callable.of Tryz.func71 (by kernel_rfl) (by kernel_rfl)) (by kernel_rfl) ?_
  intro σ
  simp only [Cat.av]
  have hM := hC.model _ (List.getElem_mem hq)
  have hid : idx (c.models.map Model.av) (q : Int) = some (c.models[q]).av := idx_nat hq
  have hmav : (c.models[q]).av = .agg [.int .i64 (c.models[q]).first, .list .no 1 ((c.models[q]).looks.map isv), .list .no 2 ((c.models[q]).nums.map Rng.av)] := rfl
  have hfir := hM.first
  have hlk := hM.looks
  have hkn : idx ((c.models[q]).looks.map isv) ((c.models[q]).first + (k : Int) - (c.models[q]).first) = some (isv (c.models[q]).looks[k]) := by
    rw [show (c.models[q]).first + (k : Int) - (c.models[q]).first = (k : Int) by omega, idx_nat hk]
  generalize (c.models[q]).looks[k] = r at hkn ⊢
  generalize c.models[q] = M at hid hmav hkn hM hfir hlk hk ⊢
  simp -implicitDefEqProofs (maxSteps := 2000000) (disch := omega) only [go_sem, reduceCtorEq, Nat.reduceAdd, Nat.reduceSub, Nat.reduceMul, Nat.reduceLT, Nat.reduceLeDiff, Nat.reduceEqDiff, Nat.reduceBEq, Int.reduceToNat, Int.reduceLT, Int.reduceLE, Int.reduceEq, Int.reduceNeg, Int.reduceAdd, Int.reduceSub, Int.reduceMul, ↓reduceIte, Int.reduceBEq, Int.reduceBNe, idx_zero, idx_one, hid, hmav, hkn]
  simp [isv, wk, wk1, wk0, wkL]
end Go.Proofs
set_option linter.unusedSimpArgs false
set_option linter.unusedVariables false
set_option maxRecDepth 100000
namespace Go.Proofs
open Go Go.Mu

def modAt (c : Cat) (t : List Int) : Model := c.models.getD (tg t 0).toNat default
def lookAt (c : Cat) (t : List Int) : List Int := (modAt c t).looks.getD (tg t 1 - (modAt c t).first).toNat []
def rLooks_s := spw2 tyCat.w tyIs.w fun c t => if OkC c ∧ t.length = 2 ∧ (0 ≤ tg t 0 ∧ tg t 0 < c.models.length) ∧ (0 ≤ tg t 1 - (modAt c t).first ∧ tg t 1 - (modAt c t).first < (modAt c t).looks.length) then some (isv (lookAt c t)) else none
theorem rLooks_ok : ∀ xs v, rLooks_s xs = some v → PureV Tryz.prog 71 xs v :=
  spw2_ok fun c t v h => by
    have h := someIf h
    obtain ⟨⟨hC, hl, h0, h1⟩, rfl⟩ := h
    match t, hl with
    | [a, b], _ =>
      have ea : tg [a, b] 0 = a := rfl
      have eb : tg [a, b] 1 = b := rfl
      unfold lookAt
      rw [ea] at h0
      rw [eb] at h1 ⊢
      have hq : a.toNat < c.models.length := by omega
      have hM : modAt c [a, b] = c.models[a.toNat] := by unfold modAt; rw [ea]; simp [List.getD, List.getElem?_eq_getElem hq]
      rw [hM] at h1 ⊢
      have hk : (b - (c.models[a.toNat]).first).toNat < (c.models[a.toNat]).looks.length := by omega
      have := rLooks_p c a.toNat (b - (c.models[a.toNat]).first).toNat hC hq hk
      rw [show ((a.toNat : Nat) : Int) = a by omega, show (c.models[a.toNat]).first + (((b - (c.models[a.toNat]).first).toNat : Nat) : Int) = b by omega] at this
      have hg : (c.models[a.toNat]).looks.getD (b - (c.models[a.toNat]).first).toNat [] = (c.models[a.toNat]).looks[(b - (c.models[a.toNat]).first).toNat] := by simp [List.getD, List.getElem?_eq_getElem hk]
      rw [hg]
      exact this
end Go.Proofs
