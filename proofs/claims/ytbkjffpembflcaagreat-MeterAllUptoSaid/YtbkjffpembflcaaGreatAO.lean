/- Texts of a proof: lemmas. -/
import Derived.Test.YtbkjffpembflcaaGreatA2
import Derived.Test.YtbkjffpembflcaaGreatMu3
set_option linter.unusedSimpArgs false
set_option linter.unusedVariables false
set_option maxRecDepth 100000
namespace Go.Proofs
open Go Go.Mu

theorem appendSeq_c {g : FuncId} {p q L : List AV} {σ : List AObj} (hI : Iter Tryz.prog g p q σ L) (hL : L.length ≤ 4294967296) (hf : ∀ v ∈ L, ∃ cs, v = .agg cs ∧ cs.length = 3) (hp : Plain (.list .no 3 L)) {Q : AV → List AObj → Prop} (h : Q (.list .no 3 L) σ) :
    ACalls Tryz.prog 107 [.list .full 0 [], .fn (.func g) p q] σ Q := by
  refine ACalls.clean_ev (E := Tryz.E 13 (fun _ => ([], [])) fs0) (Tryz.envOK 13 (fun _ => ([], [])) fs0 fs0_ok) (hp _) (h) Tryz.kp107 Tryz.func107 rfl (by kernel_rfl) (by simp [Tryz.E]) (Callable.of Tryz.func107 (by kernel_rfl) (by kernel_rfl)) (by kernel_rfl) ?_
  simp -implicitDefEqProofs (maxSteps := 2000000) (disch := omega) only [go_sem, reduceCtorEq, Nat.reduceAdd, Nat.reduceSub, Nat.reduceMul, Nat.reduceLT, Nat.reduceLeDiff, Nat.reduceEqDiff, Nat.reduceBEq, Int.reduceToNat, Int.reduceLT, Int.reduceLE, Int.reduceEq, Int.reduceNeg, Int.reduceAdd, Int.reduceSub, Int.reduceMul, ↓reduceIte, Int.reduceBEq, Int.reduceBNe]
  refine ARun.ghostC σ.length 3 (sz0 := 0) (by simp [hget_at0]) ?_
  simp only [hset_at0, List.set_cons_zero, List.append_assoc, List.cons_append, List.nil_append, List.length_append, List.length_cons, List.length_nil, Nat.zero_add]
  refine ARun.rangeIter (g := g) (p := p) (q := q) (L := L) (σ0 := σ) (by simp [aeval, Fr.get, lookA, Tryz.kp107]) hI (by simp) (fun k hk => hget_app hk) ⟨7, rfl, by simp [Tryz.EN]⟩
    (fun k => k = σ.length ∨ k = σ.length + 1) (fun k hk => by simp; omega) (fun D τ => hget τ σ.length = some (.cells [.list (.own (σ.length + 1)) 3 D]) ∧ hget τ (σ.length + 1) = some (.tail D.length 3)) (fun _ _ => False)
    (by simp [hget_at0, hget_at]) (fun {D τ τ'} hc hk => by rw [hk _ (.inl rfl), hk _ (.inr rfl)]; exact hc) (fun {j τ τ'} hc _ => hc) ?_ ?_ (fun τ j _ _ hc => hc.elim)
  · rintro D v R fn τ hD ⟨c1, c2⟩ hlt hrec
    have hlen : (σ ++ [AObj.cells [.list (.own (σ.length + 1)) 3 []], .tail 0 3]).length = σ.length + 2 := by simp
    rw [hlen] at hrec hlt ⊢
    obtain ⟨cs, rfl, hcs⟩ := hf v (by rw [hD]; simp)
    have hcs' : List.take 3 cs = cs := List.take_of_length_le (by omega)
    have hDl : D.length + 1 ≤ 4294967296 := by have := congrArg List.length hD; simp at this; omega
    refine ev_sound (Tryz.envOK 13 (fun _ => ([], [])) fs0 fs0_ok) (n := 1000) (by kernel_rfl) ?_
    have e0 : ∀ x y z : AV, putAt 0 cs [x, y, z] = cs := fun x y z => by simp [putAt, hcs]
    simp -implicitDefEqProofs (maxSteps := 2000000) (disch := omega) only [go_sem, reduceCtorEq, Nat.reduceAdd, Nat.reduceSub, Nat.reduceMul, Nat.reduceLT, Nat.reduceLeDiff, Nat.reduceEqDiff, Nat.reduceBEq, Int.reduceToNat, Int.reduceLT, Int.reduceLE, Int.reduceEq, Int.reduceNeg, Int.reduceAdd, Int.reduceSub, Int.reduceMul, ↓reduceIte, Int.reduceBEq, Int.reduceBNe, frIn, hcs, e0]
    refine ARun.beginRound' (by rw [hget_app (by omega)]; exact hrec) fun τ2 hl2 hs2 hr2 => ?_
    rw [List.length_append, List.length_singleton] at hl2
    have k1 : hget τ2 σ.length = some (.cells [.list (.own (σ.length + 1)) 3 D]) := by rw [hs2 _ (by omega), hget_app (by omega)]; exact c1
    have k2 : hget τ2 (σ.length + 1) = some (.tail D.length 3) := by rw [hs2 _ (by omega), hget_app (by omega)]; exact c2
    have k3 : hget τ2 τ.length = some (.cells cs) := by rw [hs2 _ (by omega)]; exact hget_at0
    refine ev_sound (Tryz.envOK 13 (fun _ => ([], [])) fs0 fs0_ok) (n := 1000) (by kernel_rfl) ?_
    simp -implicitDefEqProofs (maxSteps := 2000000) (disch := omega) only [go_sem, reduceCtorEq, Nat.reduceAdd, Nat.reduceSub, Nat.reduceMul, Nat.reduceLT, Nat.reduceLeDiff, Nat.reduceEqDiff, Nat.reduceBEq, Int.reduceToNat, Int.reduceLT, Int.reduceLE, Int.reduceEq, Int.reduceNeg, Int.reduceAdd, Int.reduceSub, Int.reduceMul, ↓reduceIte, Int.reduceBEq, Int.reduceBNe, k1, k2, k3, hcs, hcs', hDl, hget_hset]
    refine ⟨⟨by simp only [length_hset]; omega, fun q hq hm => ?_⟩, none, hr2⟩
    rw [hget_ne (by omega), hget_ne (by omega), hs2 q (by omega), hget_app hq]
  · rintro τ hlt hold ⟨c1, c2⟩
    refine ev_sound (Tryz.envOK 13 (fun _ => ([], [])) fs0 fs0_ok) (n := 1000) (by kernel_rfl) ?_
    simp -implicitDefEqProofs (maxSteps := 2000000) (disch := omega) only [go_sem, reduceCtorEq, Nat.reduceAdd, Nat.reduceSub, Nat.reduceMul, Nat.reduceLT, Nat.reduceLeDiff, Nat.reduceEqDiff, Nat.reduceBEq, Int.reduceToNat, Int.reduceLT, Int.reduceLE, Int.reduceEq, Int.reduceNeg, Int.reduceAdd, Int.reduceSub, Int.reduceMul, ↓reduceIte, Int.reduceBEq, Int.reduceBNe, c1]
    simp only [List.length_append, List.length_cons, List.length_nil] at hlt hold
    exact gives_same (by omega) (fun q hq => by rw [hold q (by omega) (by omega)]; exact hget_app hq) ⟨rfl, .inl rfl, .inl rfl⟩
theorem collect_c {g : FuncId} {p q L : List AV} {σ : List AObj} (hI : Iter Tryz.prog g p q σ L) (hL : L.length ≤ 4294967296) (hf : ∀ v ∈ L, ∃ cs, v = .agg cs ∧ cs.length = 3) (hp : Plain (.list .no 3 L)) {Q : AV → List AObj → Prop} (h : Q (.list .no 3 L) σ) :
    ACalls Tryz.prog 93 [.fn (.func g) p q] σ Q := by
  refine ACalls.of_ev (E := Tryz.E 5 (fun _ => ([], [])) fs0) (Tryz.envOK 5 (fun _ => ([], [])) fs0 fs0_ok) Tryz.kp93 Tryz.func93 rfl (by kernel_rfl) (by simp [Tryz.E]) (Callable.of Tryz.func93 (by kernel_rfl) (by kernel_rfl)) (by kernel_rfl) ?_
  simp -implicitDefEqProofs (maxSteps := 2000000) (disch := omega) only [go_sem, reduceCtorEq, Nat.reduceAdd, Nat.reduceSub, Nat.reduceMul, Nat.reduceLT, Nat.reduceLeDiff, Nat.reduceEqDiff, Nat.reduceBEq, Int.reduceToNat, Int.reduceLT, Int.reduceLE, Int.reduceEq, Int.reduceNeg, Int.reduceAdd, Int.reduceSub, Int.reduceMul, ↓reduceIte, Int.reduceBEq, Int.reduceBNe]
  refine appendSeq_c hI hL hf hp ?_
  simp -implicitDefEqProofs (maxSteps := 2000000) (disch := omega) only [go_sem, reduceCtorEq, Nat.reduceAdd, Nat.reduceSub, Nat.reduceMul, Nat.reduceLT, Nat.reduceLeDiff, Nat.reduceEqDiff, Nat.reduceBEq, Int.reduceToNat, Int.reduceLT, Int.reduceLE, Int.reduceEq, Int.reduceNeg, Int.reduceAdd, Int.reduceSub, Int.reduceMul, ↓reduceIte, Int.reduceBEq, Int.reduceBNe, h]
end Go.Proofs
set_option linter.unusedSimpArgs false
set_option linter.unusedVariables false
set_option maxRecDepth 100000
namespace Go.Proofs
open Go Go.Mu

def Ear.cells (e : Ear) : List AV := [.int .i64 e.slack, .list .no 2 (e.tones.map Rng.av), .list .no 6 (e.rds.map Rd.av)]
/-- The objects that the search of truths needs. -/
structure TrO (e : Ear) (M : Nat → Prop) (r re rl ry rn : Nat) (τ : List AObj) : Prop where
  e1 : hget τ re = some (.cells e.cells)
  l1 : ∃ tk, hget τ rl = some (.cells [.list tk 1 (e.rds.map fun r => rdv r e.slack)])
  y1 : hget τ ry = some (.cells [.yield r])
  n1 : hget τ rn = some (.cells [.fn (.func 91) [] [.ptr re 0, .ptr rl 0, .ptr ry 0, .ptr rn 0]])
  m : ¬ M re ∧ ¬ M rl ∧ ¬ M ry ∧ ¬ M rn
theorem TrO.same {e : Ear} {M : Nat → Prop} {r re rl ry rn : Nat} {τ τ' : List AObj} (h : TrO e M r re rl ry rn τ) (hs : Same M τ τ') : TrO e M r re rl ry rn τ' :=
  ⟨hs.get h.e1 h.m.1, by obtain ⟨tk, h1⟩ := h.l1; exact ⟨tk, hs.get h1 h.m.2.1⟩, hs.get h.y1 h.m.2.2.1, hs.get h.n1 h.m.2.2.2, h.m⟩
def GiveN {P : Program} {r : Nat} {L : List AV} (T : Taker P r L) (τ : List AObj) (D : List AV) (v : AV) (τ' : List AObj) : Prop :=
  Same T.M τ τ' ∧ (v = .bool true ∧ T.C D τ' ∨ v = .bool false ∧ ∃ D' v' R', L = D' ++ v' :: R' ∧ T.St (D' ++ [v']) τ')
set_option maxHeartbeats 1000000 in
theorem next_c (e : Ear) (he : OkE e) : ∀ (m : Nat) (t : List Int) (a : Nat), t.length = 3 → small t → a + m = e.tones.length → ∀ {r re rl ry rn : Nat} {L : List AV} (T : Taker Tryz.prog r L) {τ : List AObj} (D Rest : List AV), TrO e T.M r re rl ry rn τ → T.C D τ → L = D ++ (allT e m t a).map tav ++ Rest →
    ACalls Tryz.prog 91 [tav t, .int .i64 a, .ptr re 0, .ptr rl 0, .ptr ry 0, .ptr rn 0] τ (GiveN T τ (D ++ (allT e m t a).map tav)) := by
  intro m
  induction m with
  | zero =>
    intro t a ht hs ha r re rl ry rn L T τ D Rest hT hC hL
    refine ACalls.of_ev (E := Tryz.E 56 (fun _ => ([], [])) fs5) (Tryz.envOK 56 (fun _ => ([], [])) fs5 fs5_ok) Tryz.kp91 Tryz.func91 rfl (by kernel_rfl) (by simp [Tryz.E]) (Callable.of Tryz.func91 (by kernel_rfl) (by kernel_rfl)) (by kernel_rfl) ?_
    simp only [tav]
    have q1 : ∀ l, hget (τ ++ l) re = some (.cells e.cells) := fun l => by rw [hget_app (hget_lt hT.e1)]; exact hT.e1
    obtain ⟨tk, hl1⟩ := hT.l1
    have q2 : ∀ l, hget (τ ++ l) rl = some (.cells [.list tk 1 (e.rds.map fun r => rdv r e.slack)]) := fun l => by rw [hget_app (hget_lt hl1)]; exact hl1
    have hlen := he.len
    have hrl := he.rl
    have q3 : ∀ l, hget (τ ++ l) ry = some (.cells [.yield r]) := fun l => by rw [hget_app (hget_lt hT.y1)]; exact hT.y1
    simp -implicitDefEqProofs (maxSteps := 2000000) (disch := omega) only [go_sem, reduceCtorEq, Nat.reduceAdd, Nat.reduceSub, Nat.reduceMul, Nat.reduceLT, Nat.reduceLeDiff, Nat.reduceEqDiff, Nat.reduceBEq, Int.reduceToNat, Int.reduceLT, Int.reduceLE, Int.reduceEq, Int.reduceNeg, Int.reduceAdd, Int.reduceSub, Int.reduceMul, ↓reduceIte, Int.reduceBEq, Int.reduceBNe, q1, q2, Ear.cells]
    refine ARun.forS (Tryz.envOK 56 (fun _ => ([], [])) fs5 fs5_ok) e.rds.length (fun i => (e.rds.take i).all (fun r => isR r e.slack t) = true) (fun i => [(19, .int .i64 i)]) (fun _ _ => τ ++ [.cells (t.map (AV.int .i64))]) [] (by kernel_rfl) rfl (by simp [upd, ins, subF, lookA]) (by simp) ?_ ?_
    · intro i j hi hp ih'
      have hri := he.rd _ (List.getElem_mem hi)
      have hinv := @invoke_is 56 (fun x => ([], [])) fs5 (fun _ => ⟨rfl, rfl, rfl⟩) e.rds[i] e.slack t
      have hcl : (rdv e.rds[i] e.slack).cells = [rdv e.rds[i] e.slack] := by unfold rdv; split; rfl; split <;> rfl
      cases hb : isR e.rds[i] e.slack t
      · simp -implicitDefEqProofs (maxSteps := 2000000) (disch := omega) only [go_sem, reduceCtorEq, Nat.reduceAdd, Nat.reduceSub, Nat.reduceMul, Nat.reduceLT, Nat.reduceLeDiff, Nat.reduceEqDiff, Nat.reduceBEq, Int.reduceToNat, Int.reduceLT, Int.reduceLE, Int.reduceEq, Int.reduceNeg, Int.reduceAdd, Int.reduceSub, Int.reduceMul, ↓reduceIte, Int.reduceBEq, Int.reduceBNe, q1, q2, Ear.cells, hcl, hinv hri he.sl ht hs, hb]
        have : allT e 0 t a = [] := by
          simp only [allT]; rw [if_neg]; intro h; have := List.all_eq_true.1 h _ (List.getElem_mem hi); rw [hb] at this; cases this
        rw [this, List.map_nil, List.append_nil]
        exact ⟨Same.app, .inl ⟨rfl, T.keep hC (SameOn.app fun q hq => T.lt hC hq)⟩⟩
      · simp -implicitDefEqProofs (maxSteps := 2000000) (disch := omega) only [go_sem, reduceCtorEq, Nat.reduceAdd, Nat.reduceSub, Nat.reduceMul, Nat.reduceLT, Nat.reduceLeDiff, Nat.reduceEqDiff, Nat.reduceBEq, Int.reduceToNat, Int.reduceLT, Int.reduceLE, Int.reduceEq, Int.reduceNeg, Int.reduceAdd, Int.reduceSub, Int.reduceMul, ↓reduceIte, Int.reduceBEq, Int.reduceBNe, q1, q2, Ear.cells, hcl, hinv hri he.sl ht hs, hb]
        refine (ih' ?_ []).castS rfl (by simp [upd, ins, subF, lookA])
        rw [List.take_succ_eq_append_getElem hi, List.all_append, hp]; simp [hb]
    · intro j hp
      rw [List.take_length] at hp
      have hall : allT e 0 t a = [t] := by simp only [allT]; rw [if_pos hp]
      rw [hall] at hL ⊢
      simp -implicitDefEqProofs (maxSteps := 2000000) (disch := omega) only [go_sem, reduceCtorEq, Nat.reduceAdd, Nat.reduceSub, Nat.reduceMul, Nat.reduceLT, Nat.reduceLeDiff, Nat.reduceEqDiff, Nat.reduceBEq, Int.reduceToNat, Int.reduceLT, Int.reduceLE, Int.reduceEq, Int.reduceNeg, Int.reduceAdd, Int.reduceSub, Int.reduceMul, ↓reduceIte, Int.reduceBEq, Int.reduceBNe, q3, take_map]
      refine (T.take (D := D) (R := Rest) (by rw [hL]; simp [tav]) (T.keep hC (SameOn.app fun q hq => T.lt hC hq))).mono fun v τ' hv => ?_
      rcases hv with ⟨h1, ⟨rfl, h2⟩ | ⟨rfl, h2⟩⟩
      · simp -implicitDefEqProofs (maxSteps := 2000000) (disch := omega) only [go_sem, reduceCtorEq, Nat.reduceAdd, Nat.reduceSub, Nat.reduceMul, Nat.reduceLT, Nat.reduceLeDiff, Nat.reduceEqDiff, Nat.reduceBEq, Int.reduceToNat, Int.reduceLT, Int.reduceLE, Int.reduceEq, Int.reduceNeg, Int.reduceAdd, Int.reduceSub, Int.reduceMul, ↓reduceIte, Int.reduceBEq, Int.reduceBNe]
        exact ⟨Same.app.trans h1, .inl ⟨rfl, h2⟩⟩
      · simp -implicitDefEqProofs (maxSteps := 2000000) (disch := omega) only [go_sem, reduceCtorEq, Nat.reduceAdd, Nat.reduceSub, Nat.reduceMul, Nat.reduceLT, Nat.reduceLeDiff, Nat.reduceEqDiff, Nat.reduceBEq, Int.reduceToNat, Int.reduceLT, Int.reduceLE, Int.reduceEq, Int.reduceNeg, Int.reduceAdd, Int.reduceSub, Int.reduceMul, ↓reduceIte, Int.reduceBEq, Int.reduceBNe]
        exact ⟨Same.app.trans h1, .inr ⟨rfl, D, tav t, Rest, by rw [hL]; simp, h2⟩⟩
  | succ m ih =>
    intro t a ht hs ha r re rl ry rn L T τ D Rest hT hC hL
    have hlen := he.len
    have hal : a < e.tones.length := by omega
    have hx := he.tone _ (List.getElem_mem hal)
    have hgd : e.tones.getD a default = e.tones[a] := by simp [List.getD, List.getElem?_eq_getElem hal]
    generalize hxe : e.tones[a] = x at hx hgd
    have hall : allT e (m + 1) t a = (List.range (x.hi - x.lo + 1).toNat).flatMap fun (k : Nat) => allT e m (setI t a (x.lo + k)) (a + 1) := by simp only [allT, hgd]
    rw [hall] at hL ⊢
    refine ACalls.of_ev (E := Tryz.E 56 (fun _ => ([], [])) fs5) (Tryz.envOK 56 (fun _ => ([], [])) fs5 fs5_ok) Tryz.kp91 Tryz.func91 rfl (by kernel_rfl) (by simp [Tryz.E]) (Callable.of Tryz.func91 (by kernel_rfl) (by kernel_rfl)) (by kernel_rfl) ?_
    simp only [tav]
    have hre := hget_lt hT.e1
    have hrn := hget_lt hT.n1
    have q1 : ∀ l, hget (τ ++ l) re = some (.cells e.cells) := fun l => by rw [hget_app hre]; exact hT.e1
    simp -implicitDefEqProofs (maxSteps := 2000000) (disch := omega) only [go_sem, reduceCtorEq, Nat.reduceAdd, Nat.reduceSub, Nat.reduceMul, Nat.reduceLT, Nat.reduceLeDiff, Nat.reduceEqDiff, Nat.reduceBEq, Int.reduceToNat, Int.reduceLT, Int.reduceLE, Int.reduceEq, Int.reduceNeg, Int.reduceAdd, Int.reduceSub, Int.reduceMul, ↓reduceIte, Int.reduceBEq, Int.reduceBNe, q1, Ear.cells, Rng.av, hxe]
    refine ARun.forJ (Tryz.envOK 56 (fun _ => ([], [])) fs5 fs5_ok) (x.hi - x.lo + 1).toNat (fun i σ' => ∃ ti : List Int, ti.length = 3 ∧ small ti ∧ (∀ z, setI ti a z = setI t a z) ∧ hget σ' τ.length = some (.cells (ti.map (AV.int .i64))) ∧ Same (fun q => T.M q ∨ q = τ.length) (τ ++ [.cells (t.map (AV.int .i64))]) σ' ∧ T.C (D ++ ((List.range i).flatMap fun (k : Nat) => allT e m (setI t a (x.lo + k)) (a + 1)).map tav) σ') (fun i => [(11, .int .i64 (x.lo + i))]) (by kernel_rfl) (by simp [upd, ins, subF, lookA]) ?_ ?_ ?_
    · exact ⟨t, ht, hs, fun _ => rfl, hget_at0, Same.refl, by simpa using T.keep hC (SameOn.app fun q hq => T.lt hC hq)⟩
    · rintro i σ' hi ⟨ti, h1, h2, h3, h4, h5, h6⟩ ih'
      have hs1 : Same (fun q => T.M q ∨ q = τ.length) τ σ' := Same.app.trans h5
      have ho : ∀ {q o}, hget τ q = some o → ¬ T.M q → hget σ' q = some o := fun h hm => hs1.get h (fun h' => by rcases h' with h' | h'; exact hm h'; have := hget_lt h; omega)
      have p1 := ho hT.e1 hT.m.1
      have p5 : ∀ o, hget (hset σ' τ.length o) τ.length = some o := fun o => hget_set h4 o
      have p6 : ∀ o, hget (hset σ' τ.length o) rn = some (.cells [.fn (.func 91) [] [.ptr re 0, .ptr rl 0, .ptr ry 0, .ptr rn 0]]) := fun o => by rw [hget_ne (by omega)]; exact ho hT.n1 hT.m.2.2.2
      have hset3 := @putAt_set ti (a : Int) (x.lo + i) (by omega) (by omega)
      rw [h3] at hset3
      have hl3 : (setI t a (x.lo + i)).length = 3 := by rw [setI_len]; exact ht
      simp -implicitDefEqProofs (maxSteps := 2000000) (disch := omega) only [go_sem, reduceCtorEq, Nat.reduceAdd, Nat.reduceSub, Nat.reduceMul, Nat.reduceLT, Nat.reduceLeDiff, Nat.reduceEqDiff, Nat.reduceBEq, Int.reduceToNat, Int.reduceLT, Int.reduceLE, Int.reduceEq, Int.reduceNeg, Int.reduceAdd, Int.reduceSub, Int.reduceMul, ↓reduceIte, Int.reduceBEq, Int.reduceBNe, p1, Ear.cells, Rng.av, hxe, h4, p5, p6, h1, h3, setI_len]
      obtain ⟨X, hX⟩ := flatMap_part (fun (k : Nat) => allT e m (setI t a (x.lo + k)) (a + 1)) hi
      have hs2 : Same (fun q => T.M q ∨ q = τ.length) τ (hset σ' τ.length (.cells ((setI t a (x.lo + i)).map (AV.int .i64)))) := hs1.trans ⟨by rw [length_hset]; omega, fun q hq hm => by rw [hget_ne (by omega)]⟩
      have ho2 : ∀ {q o}, hget τ q = some o → ¬ T.M q → hget (hset σ' τ.length (.cells ((setI t a (x.lo + i)).map (AV.int .i64)))) q = some o := fun h hm => hs2.get h (fun h' => by rcases h' with h' | h'; exact hm h'; have := hget_lt h; omega)
      have hMt : ¬ T.M τ.length := fun h => by have := T.lt hC h; omega
      refine ACalls.mono (ih (setI t a (x.lo + i)) (a + 1) hl3 (setI_small hs (by omega)) (by omega) T (D ++ ((List.range i).flatMap fun (k : Nat) => allT e m (setI t a (x.lo + k)) (a + 1)).map tav) (X.map tav ++ Rest) ⟨ho2 hT.e1 hT.m.1, by obtain ⟨tk, h⟩ := hT.l1; exact ⟨tk, ho2 h hT.m.2.1⟩, ho2 hT.y1 hT.m.2.2.1, ho2 hT.n1 hT.m.2.2.2, hT.m⟩
        (T.keep h6 ⟨by rw [length_hset]; omega, fun q hq => hget_ne (fun e => hMt (e ▸ hq))⟩) (by rw [hL, hX]; simp)) fun v τ' hv => ?_
      have hsf : Same (fun q => T.M q ∨ q = τ.length) (hset σ' τ.length (.cells ((setI t a (x.lo + i)).map (AV.int .i64)))) τ' := ⟨hv.1.1, fun q hq hm => hv.1.2 q hq (fun h => hm (.inl h))⟩
      have hlen' : τ.length < σ'.length := hget_lt h4
      rcases hv with ⟨g1, ⟨rfl, g2⟩ | ⟨rfl, g2⟩⟩
      · simp -implicitDefEqProofs (maxSteps := 2000000) (disch := omega) only [go_sem, reduceCtorEq, Nat.reduceAdd, Nat.reduceSub, Nat.reduceMul, Nat.reduceLT, Nat.reduceLeDiff, Nat.reduceEqDiff, Nat.reduceBEq, Int.reduceToNat, Int.reduceLT, Int.reduceLE, Int.reduceEq, Int.reduceNeg, Int.reduceAdd, Int.reduceSub, Int.reduceMul, ↓reduceIte, Int.reduceBEq, Int.reduceBNe]
        refine (ih' τ' ⟨setI t a (x.lo + i), hl3, setI_small hs (by omega), fun z => setI_setI, ?_, ?_, ?_⟩).castS rfl (by simp [upd, ins, subF, lookA, Int.add_assoc])
        · rw [g1.2 _ (by rw [length_hset]; exact hlen') hMt]; exact hget_set h4 _
        · refine ⟨by have := g1.1; rw [length_hset] at this; have := h5.1; omega, fun q hq hm => ?_⟩
          rw [hsf.2 q (by rw [length_hset]; have := h5.1; omega) hm, hget_ne (fun e => hm (.inr e.symm)), h5.2 q hq hm]
        · rw [flatMap_succ]; simpa using g2
      · simp -implicitDefEqProofs (maxSteps := 2000000) (disch := omega) only [go_sem, reduceCtorEq, Nat.reduceAdd, Nat.reduceSub, Nat.reduceMul, Nat.reduceLT, Nat.reduceLeDiff, Nat.reduceEqDiff, Nat.reduceBEq, Int.reduceToNat, Int.reduceLT, Int.reduceLE, Int.reduceEq, Int.reduceNeg, Int.reduceAdd, Int.reduceSub, Int.reduceMul, ↓reduceIte, Int.reduceBEq, Int.reduceBNe]
        refine ⟨⟨by have := g1.1; rw [length_hset] at this; have := hs1.1; omega, fun q hq hm => ?_⟩, .inr ⟨rfl, g2⟩⟩
        rw [g1.2 q (by rw [length_hset]; have := hs1.1; omega) hm, hs2.2 q hq (fun h => by rcases h with h | h; exact hm h; omega)]
    · rintro σ' ⟨ti, h1, h2, h3, h4, h5, h6⟩
      have hs1 : Same (fun q => T.M q ∨ q = τ.length) τ σ' := Same.app.trans h5
      have ho : ∀ {q o}, hget τ q = some o → ¬ T.M q → hget σ' q = some o := fun h hm => hs1.get h (fun h' => by rcases h' with h' | h'; exact hm h'; have := hget_lt h; omega)
      have p1 := ho hT.e1 hT.m.1
      simp -implicitDefEqProofs (maxSteps := 2000000) (disch := omega) only [go_sem, reduceCtorEq, Nat.reduceAdd, Nat.reduceSub, Nat.reduceMul, Nat.reduceLT, Nat.reduceLeDiff, Nat.reduceEqDiff, Nat.reduceBEq, Int.reduceToNat, Int.reduceLT, Int.reduceLE, Int.reduceEq, Int.reduceNeg, Int.reduceAdd, Int.reduceSub, Int.reduceMul, ↓reduceIte, Int.reduceBEq, Int.reduceBNe, p1, Ear.cells, Rng.av, hxe]
      exact ⟨⟨hs1.1, fun q hq hm => hs1.2 q hq (fun h => by rcases h with h | h; exact hm h; omega)⟩, .inl ⟨rfl, h6⟩⟩
end Go.Proofs
set_option linter.unusedSimpArgs false
set_option linter.unusedVariables false
set_option maxRecDepth 100000
namespace Go.Proofs
open Go Go.Mu

/-- All truths of an ear. -/
def truthsL (e : Ear) : List (List Int) := allT e e.tones.length [0, 0, 0] 0
theorem allT_ok (e : Ear) (he : OkE e) : ∀ (m : Nat) (t : List Int) (a : Nat), t.length = 3 → small t → a + m = e.tones.length → ∀ u ∈ allT e m t a, u.length = 3 ∧ small u := by
  intro m
  induction m with
  | zero =>
    intro t a h1 h2 h3 u hu
    simp only [allT] at hu
    split at hu
    · simp at hu; subst hu; exact ⟨h1, h2⟩
    · simp at hu
  | succ m ih =>
    intro t a h1 h2 h3 u hu
    simp only [allT, List.mem_flatMap, List.mem_range] at hu
    obtain ⟨k, hk, hu⟩ := hu
    have hal : a < e.tones.length := by omega
    have hx := he.tone _ (List.getElem_mem hal)
    have hgd : e.tones.getD a default = e.tones[a] := by simp [List.getD, List.getElem?_eq_getElem hal]
    rw [hgd] at hk hu
    exact ih _ _ (by rw [setI_len]; exact h1) (setI_small h2 (by omega)) (by omega) u hu
theorem truthsL_ok {e : Ear} (he : OkE e) : ∀ u ∈ truthsL e, u.length = 3 ∧ small u := allT_ok e he _ _ _ rfl (by intro x hx; simp at hx; subst hx; omega) (by omega)
theorem truths1_c (e : Ear) (he : OkE e) {r re rl : Nat} {L : List AV} (T : Taker Tryz.prog r L) {τ : List AObj} (h1 : hget τ re = some (.cells e.cells)) (h2 : ∃ tk, hget τ rl = some (.cells [.list tk 1 (e.rds.map fun r => rdv r e.slack)])) (hm : ¬ T.M re ∧ ¬ T.M rl) (hC : T.C [] τ) (hL : L = (truthsL e).map tav) :
    ACalls Tryz.prog 90 [.yield r, .ptr re 0, .ptr rl 0] τ fun _ τ' => Same T.M τ τ' ∧ (T.C L τ' ∨ ∃ D v R, L = D ++ v :: R ∧ T.St (D ++ [v]) τ') := by
  subst hL
  refine ACalls.of_ev (E := Tryz.E 9 (fun _ => ([], [])) fs5) (Tryz.envOK 9 (fun _ => ([], [])) fs5 fs5_ok) Tryz.kp90 Tryz.func90 rfl (by kernel_rfl) (by simp [Tryz.E]) (Callable.of Tryz.func90 (by kernel_rfl) (by kernel_rfl)) (by kernel_rfl) ?_
  simp -implicitDefEqProofs (maxSteps := 2000000) (disch := omega) only [go_sem, reduceCtorEq, Nat.reduceAdd, Nat.reduceSub, Nat.reduceMul, Nat.reduceLT, Nat.reduceLeDiff, Nat.reduceEqDiff, Nat.reduceBEq, Int.reduceToNat, Int.reduceLT, Int.reduceLE, Int.reduceEq, Int.reduceNeg, Int.reduceAdd, Int.reduceSub, Int.reduceMul, ↓reduceIte, Int.reduceBEq, Int.reduceBNe]
  have hlt : ∀ q, T.M q → q < τ.length := fun q hq => T.lt hC hq
  obtain ⟨tk, h2⟩ := h2
  have hb1 := hget_lt h1
  have hb2 := hget_lt h2
  refine (next_c e he e.tones.length [0, 0, 0] 0 rfl (by intro x hx; simp at hx; subst hx; omega) (by omega) T (r := r) (re := re) (rl := rl) (ry := τ.length) (rn := τ.length + 1) [] [] ⟨by rw [hget_app hb1]; exact h1, ⟨tk, by rw [hget_app hb2]; exact h2⟩, hget_at0, hget_at, hm.1, hm.2, fun h => by have := hlt _ h; omega, fun h => by have := hlt _ h; omega⟩ (T.keep hC (SameOn.app hlt)) (by simp [truthsL])).mono fun v τ' hv => ?_
  simp -implicitDefEqProofs (maxSteps := 2000000) (disch := omega) only [go_sem, reduceCtorEq, Nat.reduceAdd, Nat.reduceSub, Nat.reduceMul, Nat.reduceLT, Nat.reduceLeDiff, Nat.reduceEqDiff, Nat.reduceBEq, Int.reduceToNat, Int.reduceLT, Int.reduceLE, Int.reduceEq, Int.reduceNeg, Int.reduceAdd, Int.reduceSub, Int.reduceMul, ↓reduceIte, Int.reduceBEq, Int.reduceBNe]
  refine ⟨Same.app.trans hv.1, ?_⟩
  rcases hv with ⟨_, ⟨_, g⟩ | ⟨_, D, v', R, g1, g2⟩⟩
  · left; simpa [truthsL] using g
  · right; exact ⟨D, v', R, g1, g2⟩
theorem giveB_rdv {X : AV → List AObj → Prop} {σ : List AObj} {r : Rd} {sl : Int} : giveB X σ (some (rdv r sl)) = X (rdv r sl) σ := by rw [giveB_eq]; rfl
theorem truths_c (e : Ear) (he : OkE e) (σ : List AObj) (Q : AV → List AObj → Prop) (h : ∀ re rl junk, Iter Tryz.prog 90 [] [.ptr re 0, .ptr rl 0] (σ ++ junk) ((truthsL e).map tav) → Q (.fn (.func 90) [] [.ptr re 0, .ptr rl 0]) (σ ++ junk)) :
    ACalls Tryz.prog 50 [e.av] σ Q := by
  refine ACalls.of_ev (E := Tryz.E 22 Tryz.ord50 fs5) (Tryz.envOK 22 Tryz.ord50 fs5 fs5_ok) Tryz.kp50 Tryz.func50 rfl (by kernel_rfl) (by simp [Tryz.E]) (Callable.of Tryz.func50 (by kernel_rfl) (by kernel_rfl)) (by kernel_rfl) ?_
  have hrl := he.rl
  simp only [Ear.av]
  simp -implicitDefEqProofs (maxSteps := 2000000) (disch := omega) only [go_sem, reduceCtorEq, Nat.reduceAdd, Nat.reduceSub, Nat.reduceMul, Nat.reduceLT, Nat.reduceLeDiff, Nat.reduceEqDiff, Nat.reduceBEq, Int.reduceToNat, Int.reduceLT, Int.reduceLE, Int.reduceEq, Int.reduceNeg, Int.reduceAdd, Int.reduceSub, Int.reduceMul, ↓reduceIte, Int.reduceBEq, Int.reduceBNe]
  refine ARun.ghostC (σ.length + 1) 1 (sz0 := 0) (by simp [hget_at]) ?_
  simp only [hset_at, List.set_cons_succ, List.set_cons_zero, List.append_assoc, List.cons_append, List.nil_append, List.length_append, List.length_cons, List.length_nil, Nat.zero_add]
  refine ARun.forS (Tryz.envOK 22 Tryz.ord50 fs5 fs5_ok) e.rds.length (fun _ => True) (fun i => [(9, .int .i64 i)]) (fun i j => σ ++ (.cells e.cells :: .cells [.list (.own (σ.length + 2)) 1 ((e.rds.take i).map fun r => rdv r e.slack)] :: .tail i 1 :: j)) [] (by kernel_rfl) (by simp [Ear.cells]) (by simp [upd, ins, subF, lookA]) trivial ?_ ?_
  · intro i j hi _ ih
    have hcl : ∀ r, (rdv r e.slack).cells = [rdv r e.slack] := fun r => by unfold rdv; split; rfl; split <;> rfl
    have hfl : ∀ r, (rdv r e.slack).flat = true := fun r => by unfold rdv; split; rfl; split <;> rfl
    have htl : (List.take i e.rds).length = i := by rw [List.length_take]; omega
    simp -implicitDefEqProofs (maxSteps := 2000000) (disch := omega) only [go_sem, reduceCtorEq, Nat.reduceAdd, Nat.reduceSub, Nat.reduceMul, Nat.reduceLT, Nat.reduceLeDiff, Nat.reduceEqDiff, Nat.reduceBEq, Int.reduceToNat, Int.reduceLT, Int.reduceLE, Int.reduceEq, Int.reduceNeg, Int.reduceAdd, Int.reduceSub, Int.reduceMul, ↓reduceIte, Int.reduceBEq, Int.reduceBNe, Ear.cells, Rd.av, hcl, hfl, htl, giveB_rdv]
    refine (ih trivial (j ++ [_])).castS (by rw [List.take_succ_eq_append_getElem hi, List.map_append]; rfl) (by simp [upd, ins, subF, lookA])
  · intro j _
    simp -implicitDefEqProofs (maxSteps := 2000000) (disch := omega) only [go_sem, reduceCtorEq, Nat.reduceAdd, Nat.reduceSub, Nat.reduceMul, Nat.reduceLT, Nat.reduceLeDiff, Nat.reduceEqDiff, Nat.reduceBEq, Int.reduceToNat, Int.reduceLT, Int.reduceLE, Int.reduceEq, Int.reduceNeg, Int.reduceAdd, Int.reduceSub, Int.reduceMul, ↓reduceIte, Int.reduceBEq, Int.reduceBNe, Ear.cells]
    refine h _ _ _ fun r T σ' hk hl hC => ?_
    have := truths1_c e he T (re := σ.length) (rl := σ.length + 1) (τ := σ') (by rw [(hk _ (by simp)).1]; simp [hget_at0, Ear.cells]) ⟨_, by rw [(hk _ (by simp)).1, hget_at, List.take_length]; rfl⟩ ⟨(hk _ (by simp)).2, (hk _ (by simp)).2⟩ hC rfl
    simpa using this
theorem tavs_agg {e : Ear} (he : OkE e) : ∀ v ∈ (truthsL e).map tav, ∃ cs, v = .agg cs ∧ cs.length = 3 := by
  intro v hv
  obtain ⟨t, ht, rfl⟩ := List.mem_map.1 hv
  exact ⟨_, rfl, by simpa using (truthsL_ok he t ht).1⟩
end Go.Proofs
