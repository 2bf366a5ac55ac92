/- Texts of a proof: lemmas. -/
import Derived.Test.YthejgnlikaiddaaDoorPE1
set_option linter.unusedSimpArgs false
set_option linter.unusedVariables false
set_option maxRecDepth 100000
namespace Go.Proofs
open Go Go.Mu

theorem made_inj : ∀ {a b : List Made}, a.map Made.av = b.map Made.av → a = b
  | [], [], _ => rfl
  | [], _ :: _, h => by simp at h
  | _ :: _, [], h => by simp at h
  | x :: a, y :: b, h => by
    simp only [List.map_cons, List.cons.injEq] at h
    have h1 : some x = some y := by rw [← decMade_av (m := x), h.1, decMade_av]
    rw [made_inj h.2, Option.some.inj h1]
set_option maxHeartbeats 4000000 in
theorem truths_p (c : Cat) (o : Old) (hc : OkC c) (ho : OkO c o) : PureV Tryd.prog 48 [c.av, o.av] (.list .no 8 ((truthsM c o).map Made.av)) := by
  refine PureV.of_ev (E := Tryd.E 29 Tryd.ord48 fs8) (Tryd.envOK 29 Tryd.ord48 fs8 fs8_ok) (mades_plain _) Tryd.kp48 Tryd.func48 rfl (by kernel_rfl) (by simp [Tryd.E]) (Callable.of Tryd.func48 (by kernel_rfl) (by kernel_rfl)) (by kernel_rfl) ?_
  intro σ
  simp only [Cat.av, Old.av]
  simp -implicitDefEqProofs (maxSteps := 2000000) (disch := omega) only [go_sem, reduceCtorEq, Nat.reduceAdd, Nat.reduceSub, Nat.reduceMul, Nat.reduceLT, Nat.reduceLeDiff, Nat.reduceEqDiff, Nat.reduceBEq, Int.reduceToNat, Int.reduceLT, Int.reduceLE, Int.reduceEq, Int.reduceNeg, Int.reduceAdd, Int.reduceSub, Int.reduceMul, ↓reduceIte, Int.reduceBEq, Int.reduceBNe, Cat_eta]
  have hcav : c.av = .agg [.int .i64 c.features, .list .no 3 (c.models.map Model.av)] := rfl
  rw [← hcav]
  refine all_c c hc _ _ fun hI => ?_
  simp only [List.append_assoc, List.cons_append, List.nil_append, List.length_append, List.length_cons, List.length_nil, Nat.zero_add, Nat.reduceAdd, Nat.add_assoc] at hI ⊢
  simp -implicitDefEqProofs (maxSteps := 2000000) (disch := omega) only [go_sem, reduceCtorEq, Nat.reduceAdd, Nat.reduceSub, Nat.reduceMul, Nat.reduceLT, Nat.reduceLeDiff, Nat.reduceEqDiff, Nat.reduceBEq, Int.reduceToNat, Int.reduceLT, Int.reduceLE, Int.reduceEq, Int.reduceNeg, Int.reduceAdd, Int.reduceSub, Int.reduceMul, ↓reduceIte, Int.reduceBEq, Int.reduceBNe]
  refine ARun.ghostC (σ.length + 2) 8 (sz0 := 0) (by simp [hget_at]) ?_
  simp only [hset_at, List.set_cons_succ, List.set_cons_zero, List.append_assoc, List.cons_append, List.nil_append, List.length_append, List.length_cons, List.length_nil, Nat.zero_add, Nat.reduceAdd]
  have hsn : o.seen.length ≤ 4 := by have := ho.seen.1; have := hc.features; omega
  have hpl := ho.plate
  have hmo := allMade_ok hc
  have hml := allMade_len hc
  refine ARun.rangeIterF (g := 91) (p := []) (L := (allMade c).map Made.av) (by simp [aeval, Fr.get, lookA, Tryd.kp48]) hI (fun k hk => ⟨?_, by simp; omega⟩) ⟨9, rfl, by simp [Tryd.EN]⟩
    (fun k => k = σ.length + 1 ∨ k = σ.length + 2 ∨ k = σ.length + 4) (fun k hk => ⟨by omega, by simp; omega⟩) (fun D τ => ∃ Ds, D = Ds.map Made.av ∧ Ds.length ≤ 16 ∧ hget τ (σ.length + 1) = some (.cells [isv o.seen, .str o.plate, .int .i64 o.changed]) ∧ hget τ (σ.length + 2) = some (.cells [.list (.own (σ.length + 4)) 8 ((Ds.filter (isTrue o)).map Made.av)]) ∧ hget τ (σ.length + 4) = some (.tail (Ds.filter (isTrue o)).length 8)) (fun _ _ => False)
    ⟨[], rfl, by simp, by simp [hget_at], by simp [hget_at], by simp [hget_at]⟩ (fun {D τ τ'} hc hk => by obtain ⟨Ds, e, hl, e1, e2, e3⟩ := hc; exact ⟨Ds, e, hl, by rw [hk _ (.inl rfl)]; exact e1, by rw [hk _ (.inr (.inl rfl))]; exact e2, by rw [hk _ (.inr (.inr rfl))]; exact e3⟩) (fun {j τ τ'} hc _ => hc) ?_ ?_ (fun τ j _ _ hc => hc.elim)
  · subst hk; simp [hget_at]
  · rintro D v R fn τ hD ⟨Ds, rfl, hDl, c1, c2, c3⟩ hlt hrec
    simp only [List.length_append, List.length_cons, List.length_nil, Nat.zero_add, Nat.reduceAdd] at hrec hlt ⊢
    obtain ⟨m, hm, rfl⟩ : ∃ m ∈ allMade c, m.av = v := List.mem_map.1 (by rw [hD]; simp)
    have hDn : (Ds ++ [m]).length ≤ 16 := by have := congrArg List.length hD; simp at this ⊢; omega
    have hom := hmo m hm
    have hit : isTrue o m = (decide ((changedN [m.a, m.b, m.c, m.d] o.seen : Int) ≤ o.changed) && fitsP m.nums o.plate) := rfl
    have hfe : (Ds ++ [m]).filter (isTrue o) = Ds.filter (isTrue o) ++ if isTrue o m then [m] else [] := by
      rw [List.filter_append]; cases h : isTrue o m <;> simp [h]
    have hfl : (Ds.filter (isTrue o)).length ≤ 16 := Nat.le_trans (List.length_filter_le _ _) hDl
    generalize Ds.filter (isTrue o) = Fs at c2 c3 hfe hfl
    rw [hit] at hfe
    refine ev_sound (Tryd.envOK 29 Tryd.ord48 fs8 fs8_ok) (n := 1000) (by kernel_rfl) ?_
    have hma : m.av = .agg [.int .i64 m.model, .int .i64 m.year, .int .i64 m.a, .int .i64 m.b, .int .i64 m.c, .int .i64 m.d, .int .i64 m.nums.lo, .int .i64 m.nums.hi] := rfl
    simp -implicitDefEqProofs (maxSteps := 2000000) (disch := omega) only [go_sem, reduceCtorEq, Nat.reduceAdd, Nat.reduceSub, Nat.reduceMul, Nat.reduceLT, Nat.reduceLeDiff, Nat.reduceEqDiff, Nat.reduceBEq, Int.reduceToNat, Int.reduceLT, Int.reduceLE, Int.reduceEq, Int.reduceNeg, Int.reduceAdd, Int.reduceSub, Int.reduceMul, ↓reduceIte, Int.reduceBEq, Int.reduceBNe, frIn, hma]
    refine ARun.beginRound' (by rw [hget_app hlt]; exact hrec) fun τ2 hl2 hs2 hr2 => ?_
    rw [List.length_append, List.length_singleton] at hl2
    have k1 : hget τ2 (σ.length + 1) = some (.cells [isv o.seen, .str o.plate, .int .i64 o.changed]) := by rw [hs2 _ (by omega), hget_app (by omega)]; exact c1
    have k2 : hget τ2 (σ.length + 2) = some (.cells [.list (.own (σ.length + 4)) 8 (Fs.map Made.av)]) := by rw [hs2 _ (by omega), hget_app (by omega)]; exact c2
    have k3 : hget τ2 (σ.length + 4) = some (.tail Fs.length 8) := by rw [hs2 _ (by omega), hget_app (by omega)]; exact c3
    have k4 : hget τ2 τ.length = some (.cells m.cells) := by rw [hs2 _ (by omega)]; exact hget_at0
    refine ev_sound (Tryd.envOK 29 Tryd.ord48 fs8 fs8_ok) (n := 1000) (by kernel_rfl) ?_
    have k5 : ∀ x, hget (hset τ2 (σ.length + 4) x) (σ.length + 2) = some (.cells [.list (.own (σ.length + 4)) 8 (Fs.map Made.av)]) := fun x => by rw [hget_ne (by omega)]; exact k2
    have hlen2 : Ds.map Made.av ++ [m.av] = (Ds ++ [m]).map Made.av := by simp
    rw [hma] at hlen2
    have hsm : ∀ q, q < τ.length → q ≠ σ.length + 5 → hget τ2 q = hget τ q := fun q hq hm => by rw [hs2 _ hm, hget_app hq]
    by_cases hch : (changedN [m.a, m.b, m.c, m.d] o.seen : Int) ≤ o.changed
    · cases hb : fitsP m.nums o.plate
      · have hz : (decide ((changedN [m.a, m.b, m.c, m.d] o.seen : Int) ≤ o.changed) && fitsP m.nums o.plate) = false := by rw [hb, Bool.and_false]
        rw [hz] at hfe
        simp -implicitDefEqProofs (maxSteps := 2000000) (disch := omega) only [go_sem, reduceCtorEq, Nat.reduceAdd, Nat.reduceSub, Nat.reduceMul, Nat.reduceLT, Nat.reduceLeDiff, Nat.reduceEqDiff, Nat.reduceBEq, Int.reduceToNat, Int.reduceLT, Int.reduceLE, Int.reduceEq, Int.reduceNeg, Int.reduceAdd, Int.reduceSub, Int.reduceMul, ↓reduceIte, Int.reduceBEq, Int.reduceBNe, k1, k2, k3, k4, Made.cells, hpl, hom, hb, hch]
        exact ⟨⟨by omega, fun q hq hm => hsm q hq (by omega)⟩, ⟨none, hr2⟩, .inl ⟨Ds ++ [m], hlen2, hDn, by rw [hfe]; simp, by rw [hfe]; simp⟩⟩
      · have hz : (decide ((changedN [m.a, m.b, m.c, m.d] o.seen : Int) ≤ o.changed) && fitsP m.nums o.plate) = true := by rw [hb, decide_eq_true hch]; rfl
        rw [hz] at hfe
        simp -implicitDefEqProofs (maxSteps := 2000000) (disch := omega) only [go_sem, reduceCtorEq, Nat.reduceAdd, Nat.reduceSub, Nat.reduceMul, Nat.reduceLT, Nat.reduceLeDiff, Nat.reduceEqDiff, Nat.reduceBEq, Int.reduceToNat, Int.reduceLT, Int.reduceLE, Int.reduceEq, Int.reduceNeg, Int.reduceAdd, Int.reduceSub, Int.reduceMul, ↓reduceIte, Int.reduceBEq, Int.reduceBNe, k1, k2, k3, k4, k5, Made.cells, hpl, hom, hb, hch]
        refine ⟨⟨by simp only [length_hset]; omega, fun q hq hm => ?_⟩, ⟨none, ?_⟩, .inl ⟨Ds ++ [m], hlen2, hDn, ?_, ?_, ?_⟩⟩
        · rw [hget_ne (by omega), hget_ne (by omega)]; exact hsm q hq (by omega)
        · rw [hget_ne (by omega), hget_ne (by omega)]; exact hr2
        · rw [hget_ne (by omega), hget_ne (by omega)]; exact k1
        · rw [hfe, hget_set (k5 _)]; simp [hma]
        · rw [hfe, hget_ne (by omega), hget_set k3]; simp
    · have hz : (decide ((changedN [m.a, m.b, m.c, m.d] o.seen : Int) ≤ o.changed) && fitsP m.nums o.plate) = false := by rw [decide_eq_false hch, Bool.false_and]
      rw [hz] at hfe
      simp -implicitDefEqProofs (maxSteps := 2000000) (disch := omega) only [go_sem, reduceCtorEq, Nat.reduceAdd, Nat.reduceSub, Nat.reduceMul, Nat.reduceLT, Nat.reduceLeDiff, Nat.reduceEqDiff, Nat.reduceBEq, Int.reduceToNat, Int.reduceLT, Int.reduceLE, Int.reduceEq, Int.reduceNeg, Int.reduceAdd, Int.reduceSub, Int.reduceMul, ↓reduceIte, Int.reduceBEq, Int.reduceBNe, k1, k2, k3, k4, Made.cells, hpl, hom, hch]
      exact ⟨⟨by omega, fun q hq hm => hsm q hq (by omega)⟩, ⟨none, hr2⟩, .inl ⟨Ds ++ [m], hlen2, hDn, by rw [hfe]; simp, by rw [hfe]; simp⟩⟩
  · rintro τ hlt hold ⟨Ds, e, hl, c1, c2, c3⟩
    have he : Ds = allMade c := made_inj e.symm
    refine ev_sound (Tryd.envOK 29 Tryd.ord48 fs8 fs8_ok) (n := 1000) (by kernel_rfl) ?_
    simp -implicitDefEqProofs (maxSteps := 2000000) (disch := omega) only [go_sem, reduceCtorEq, Nat.reduceAdd, Nat.reduceSub, Nat.reduceMul, Nat.reduceLT, Nat.reduceLeDiff, Nat.reduceEqDiff, Nat.reduceBEq, Int.reduceToNat, Int.reduceLT, Int.reduceLE, Int.reduceEq, Int.reduceNeg, Int.reduceAdd, Int.reduceSub, Int.reduceMul, ↓reduceIte, Int.reduceBEq, Int.reduceBNe, c2]
    rw [he]
    simp only [List.length_append, List.length_cons, List.length_nil] at hlt hold
    exact gives_same (by omega) (fun q hq => by rw [hold q (by omega) (by omega)]; exact hget_app hq) ⟨rfl, .inl rfl, .inl rfl⟩
instance (f : Int) (m : Model) : Decidable (OkM f m) :=
  decidable_of_iff ((1800 ≤ m.first ∧ m.first ≤ 1999) ∧ (1 ≤ m.looks.length ∧ m.looks.length ≤ 4) ∧ m.nums.length = m.looks.length ∧ (∀ l ∈ m.looks, (l.length : Int) = f ∧ ∀ x ∈ l, 1 ≤ x ∧ x ≤ 3) ∧ ∀ x ∈ m.nums, 0 ≤ x.lo ∧ x.lo ≤ x.hi ∧ x.hi ≤ 9999)
    ⟨fun ⟨a, b, c, d, e⟩ => ⟨a, b, c, d, e⟩, fun ⟨a, b, c, d, e⟩ => ⟨a, b, c, d, e⟩⟩
instance (c : Cat) : Decidable (OkC c) :=
  decidable_of_iff ((1 ≤ c.features ∧ c.features ≤ 4) ∧ (1 ≤ c.models.length ∧ c.models.length ≤ 4) ∧ ∀ m ∈ c.models, OkM c.features m) ⟨fun ⟨a, b, c⟩ => ⟨a, b, c⟩, fun ⟨a, b, c⟩ => ⟨a, b, c⟩⟩
instance (c : Cat) (o : Old) : Decidable (OkO c o) :=
  decidable_of_iff (((o.seen.length : Int) = c.features ∧ ∀ x ∈ o.seen, 0 ≤ x ∧ x ≤ 3) ∧ okPlate o.plate ∧ (o.plate.size = 0 ∨ o.plate.size = 4) ∧ (0 ≤ o.changed ∧ o.changed ≤ 4)) ⟨fun ⟨a, b, c, d⟩ => ⟨a, b, c, d⟩, fun ⟨a, b, c, d⟩ => ⟨a, b, c, d⟩⟩
def ptruths_s := spw2 tyCat.w tyOld.w fun c o => if OkC c ∧ OkO c o then some (.list .no 8 ((truthsM c o).map Made.av)) else none
theorem ptruths_ok : ∀ xs v, ptruths_s xs = some v → PureV Tryd.prog 48 xs v :=
  spw2_ok fun c o v h => by have h := someIf h; rw [← h.2]; exact truths_p c o h.1.1 h.1.2
end Go.Proofs
