/- Texts of a proof: lemmas. -/
import Derived.Test.YtpodkdondibbfaaAC
set_option linter.unusedSimpArgs false
set_option linter.unusedVariables false
set_option maxRecDepth 100000
namespace Go.Proofs
open Go Go.Mu

def Ear.cells (e : Ear) : List AV := [.int .i64 e.slack, .list .no 2 (e.tones.map Rng.av), .list .no 6 (e.rds.map Rd.av)]
/-- The objects that the search of truths needs. -/
structure TrO (e : Ear) (M : Nat → Prop) (r re rl ry rn : Nat) (τ : List AObj) : Prop where
  e1 : hget τ re = some (.cells e.cells)
  l1 : ∃ tk, hget τ rl = some (.cells [.list tk 1 (e.rds.map fun r => rdv r e.slack)])
  y1 : hget τ ry = some (.cells [.yield r])
  n1 : hget τ rn = some (.cells [.fn (.func 69) [] [.ptr re 0, .ptr rl 0, .ptr ry 0, .ptr rn 0]])
  m : ¬ M re ∧ ¬ M rl ∧ ¬ M ry ∧ ¬ M rn
theorem TrO.same {e : Ear} {M : Nat → Prop} {r re rl ry rn : Nat} {τ τ' : List AObj} (h : TrO e M r re rl ry rn τ) (hs : Same M τ τ') : TrO e M r re rl ry rn τ' :=
  ⟨hs.get h.e1 h.m.1, by obtain ⟨tk, h1⟩ := h.l1; exact ⟨tk, hs.get h1 h.m.2.1⟩, hs.get h.y1 h.m.2.2.1, hs.get h.n1 h.m.2.2.2, h.m⟩
def GiveN {P : Program} {r : Nat} {L : List AV} (T : Taker P r L) (τ : List AObj) (D : List AV) (v : AV) (τ' : List AObj) : Prop :=
  Same T.M τ τ' ∧ (v = .bool true ∧ T.C D τ' ∨ v = .bool false ∧ ∃ D' v' R', L = D' ++ v' :: R' ∧ T.St (D' ++ [v']) τ')
set_option maxHeartbeats 1000000 in
theorem next_c (e : Ear) (he : OkE e) : ∀ (m : Nat) (t : List Int) (a : Nat), t.length = 3 → small t → a + m = e.tones.length → ∀ {r re rl ry rn : Nat} {L : List AV} (T : Taker Try.prog r L) {τ : List AObj} (D Rest : List AV), TrO e T.M r re rl ry rn τ → T.C D τ → L = D ++ (allT e m t a).map tav ++ Rest →
    ACalls Try.prog 69 [tav t, .int .i64 a, .ptr re 0, .ptr rl 0, .ptr ry 0, .ptr rn 0] τ (GiveN T τ (D ++ (allT e m t a).map tav)) := by
  intro m
  induction m with
  | zero =>
    intro t a ht hs ha r re rl ry rn L T τ D Rest hT hC hL
    refine ACalls.of_ev (E := Try.E 56 (fun _ => ([], [])) fs5) (Try.envOK 56 (fun _ => ([], [])) fs5 fs5_ok) Try.kp69 Try.func69 rfl (by kernel_rfl) (by simp [Try.E]) (Callable.of Try.func69 (by kernel_rfl) (by kernel_rfl)) (by kernel_rfl) ?_
    simp only [tav]
    have q1 : ∀ l, hget (τ ++ l) re = some (.cells e.cells) := fun l => by rw [hget_app (hget_lt hT.e1)]; exact hT.e1
    obtain ⟨tk, hl1⟩ := hT.l1
    have q2 : ∀ l, hget (τ ++ l) rl = some (.cells [.list tk 1 (e.rds.map fun r => rdv r e.slack)]) := fun l => by rw [hget_app (hget_lt hl1)]; exact hl1
    have hlen := he.len
    have hrl := he.rl
    have q3 : ∀ l, hget (τ ++ l) ry = some (.cells [.yield r]) := fun l => by rw [hget_app (hget_lt hT.y1)]; exact hT.y1
    simp -implicitDefEqProofs (maxSteps := 2000000) (disch := omega) only [go_sem, reduceCtorEq, Nat.reduceAdd, Nat.reduceSub, Nat.reduceMul, Nat.reduceLT, Nat.reduceLeDiff, Nat.reduceEqDiff, Nat.reduceBEq, Int.reduceToNat, Int.reduceLT, Int.reduceLE, Int.reduceEq, Int.reduceNeg, Int.reduceAdd, Int.reduceSub, Int.reduceMul, ↓reduceIte, Int.reduceBEq, Int.reduceBNe, q1, q2, Ear.cells]
    refine ARun.forS (Try.envOK 56 (fun _ => ([], [])) fs5 fs5_ok) e.rds.length (fun i => (e.rds.take i).all (fun r => isR r e.slack t) = true) (fun i => [(19, .int .i64 i)]) (fun _ _ => τ ++ [.cells (t.map (AV.int .i64))]) [] (by kernel_rfl) rfl (by simp [upd, ins, subF, lookA]) (by simp) ?_ ?_
    · intro i j hi hp ih'
      have hri := he.rd _ (List.getElem_mem hi)
      have hinv := @invoke_is 56 (fun x => ([], [])) fs5 (fun _ => ⟨rfl, rfl, rfl⟩) e.rds[i] e.slack t
      have hcl : (rdv e.rds[i] e.slack).cells = [rdv e.rds[i] e.slack] := by unfold rdv; split; rfl; split <;> rfl
      cases hb : isR e.rds[i] e.slack t
      · simp -implicitDefEqProofs (maxSteps := 2000000) (disch := omega) only [go_sem, reduceCtorEq, Nat.reduceAdd, Nat.reduceSub, Nat.reduceMul, Nat.reduceLT, Nat.reduceLeDiff, Nat.reduceEqDiff, Nat.reduceBEq, Int.reduceToNat, Int.reduceLT, Int.reduceLE, Int.reduceEq, Int.reduceNeg, Int.reduceAdd, Int.reduceSub, Int.reduceMul, ↓reduceIte, Int.reduceBEq, Int.reduceBNe, q1, q2, Ear.cells, hcl, hinv hri he.sl ht hs, hb]
        have : allT e 0 t a = [] := by
          simp only [allT]; rw [if_neg]; intro h; have := List.all_eq_true.1 h _ (List.getElem_mem hi); rw [hb] at this; cases this
        rw [this, List.map_nil, List.append_nil]
        exact ⟨Same.app, .inl ⟨rfl, T.keep hC (SameOn.app fun q hq => T.lt hC hq)⟩⟩
      · simp -implicitDefEqProofs (maxSteps := 2000000) (disch := omega) only [go_sem, reduceCtorEq, Nat.reduceAdd, Nat.reduceSub, Nat.reduceMul, Nat.reduceLT, Nat.reduceLeDiff, Nat.reduceEqDiff, Nat.reduceBEq, Int.reduceToNat, Int.reduceLT, Int.reduceLE, Int.reduceEq, Int.reduceNeg, Int.reduceAdd, Int.reduceSub, Int.reduceMul, ↓reduceIte, Int.reduceBEq, Int.reduceBNe, q1, q2, Ear.cells, hcl, hinv hri he.sl ht hs, hb]
        refine (ih' ?_ []).castS rfl (by simp [upd, ins, subF, lookA])
        rw [List.take_succ_eq_append_getElem hi, List.all_append, hp]; simp [hb]
    · intro j hp
      rw [List.take_length] at hp
      have hall : allT e 0 t a = [t] := by simp only [allT]; rw [if_pos hp]
      rw [hall] at hL ⊢
      simp -implicitDefEqProofs (maxSteps := 2000000) (disch := omega) only [go_sem, reduceCtorEq, Nat.reduceAdd, Nat.reduceSub, Nat.reduceMul, Nat.reduceLT, Nat.reduceLeDiff, Nat.reduceEqDiff, Nat.reduceBEq, Int.reduceToNat, Int.reduceLT, Int.reduceLE, Int.reduceEq, Int.reduceNeg, Int.reduceAdd, Int.reduceSub, Int.reduceMul, ↓reduceIte, Int.reduceBEq, Int.reduceBNe, q3, take_map]
      refine (T.take (D := D) (R := Rest) (by rw [hL]; simp [tav]) (T.keep hC (SameOn.app fun q hq => T.lt hC hq))).mono fun v τ' hv => ?_
      rcases hv with ⟨h1, ⟨rfl, h2⟩ | ⟨rfl, h2⟩⟩
      · simp -implicitDefEqProofs (maxSteps := 2000000) (disch := omega) only [go_sem, reduceCtorEq, Nat.reduceAdd, Nat.reduceSub, Nat.reduceMul, Nat.reduceLT, Nat.reduceLeDiff, Nat.reduceEqDiff, Nat.reduceBEq, Int.reduceToNat, Int.reduceLT, Int.reduceLE, Int.reduceEq, Int.reduceNeg, Int.reduceAdd, Int.reduceSub, Int.reduceMul, ↓reduceIte, Int.reduceBEq, Int.reduceBNe]
        exact ⟨Same.app.trans h1, .inl ⟨rfl, h2⟩⟩
      · simp -implicitDefEqProofs (maxSteps := 2000000) (disch := omega) only [go_sem, reduceCtorEq, Nat.reduceAdd, Nat.reduceSub, Nat.reduceMul, Nat.reduceLT, Nat.reduceLeDiff, Nat.reduceEqDiff, Nat.reduceBEq, Int.reduceToNat, Int.reduceLT, Int.reduceLE, Int.reduceEq, Int.reduceNeg, Int.reduceAdd, Int.reduceSub, Int.reduceMul, ↓reduceIte, Int.reduceBEq, Int.reduceBNe]
        exact ⟨Same.app.trans h1, .inr ⟨rfl, D, tav t, Rest, by rw [hL]; simp, h2⟩⟩
  | succ m ih =>
    intro t a ht hs ha r re rl ry rn L T τ D Rest hT hC hL
    have hlen := he.len
    have hal : a < e.tones.length := by omega
    have hx := he.tone _ (List.getElem_mem hal)
    have hgd : e.tones.getD a default = e.tones[a] := by simp [List.getD, List.getElem?_eq_getElem hal]
    generalize hxe : e.tones[a] = x at hx hgd
    have hall : allT e (m + 1) t a = (List.range (x.hi - x.lo + 1).toNat).flatMap fun (k : Nat) => allT e m (setI t a (x.lo + k)) (a + 1) := by simp only [allT, hgd]
    rw [hall] at hL ⊢
    refine ACalls.of_ev (E := Try.E 56 (fun _ => ([], [])) fs5) (Try.envOK 56 (fun _ => ([], [])) fs5 fs5_ok) Try.kp69 Try.func69 rfl (by kernel_rfl) (by simp [Try.E]) (Callable.of Try.func69 (by kernel_rfl) (by kernel_rfl)) (by kernel_rfl) ?_
    simp only [tav]
    have hre := hget_lt hT.e1
    have hrn := hget_lt hT.n1
    have q1 : ∀ l, hget (τ ++ l) re = some (.cells e.cells) := fun l => by rw [hget_app hre]; exact hT.e1
    simp -implicitDefEqProofs (maxSteps := 2000000) (disch := omega) only [go_sem, reduceCtorEq, Nat.reduceAdd, Nat.reduceSub, Nat.reduceMul, Nat.reduceLT, Nat.reduceLeDiff, Nat.reduceEqDiff, Nat.reduceBEq, Int.reduceToNat, Int.reduceLT, Int.reduceLE, Int.reduceEq, Int.reduceNeg, Int.reduceAdd, Int.reduceSub, Int.reduceMul, ↓reduceIte, Int.reduceBEq, Int.reduceBNe, q1, Ear.cells, Rng.av, hxe]
    refine ARun.forJ (Try.envOK 56 (fun _ => ([], [])) fs5 fs5_ok) (x.hi - x.lo + 1).toNat (fun i σ' => ∃ ti : List Int, ti.length = 3 ∧ small ti ∧ (∀ z, setI ti a z = setI t a z) ∧ hget σ' τ.length = some (.cells (ti.map (AV.int .i64))) ∧ Same (fun q => T.M q ∨ q = τ.length) (τ ++ [.cells (t.map (AV.int .i64))]) σ' ∧ T.C (D ++ ((List.range i).flatMap fun (k : Nat) => allT e m (setI t a (x.lo + k)) (a + 1)).map tav) σ') (fun i => [(11, .int .i64 (x.lo + i))]) (by kernel_rfl) (by simp [upd, ins, subF, lookA]) ?_ ?_ ?_
    · exact ⟨t, ht, hs, fun _ => rfl, hget_at0, Same.refl, by simpa using T.keep hC (SameOn.app fun q hq => T.lt hC hq)⟩
    · rintro i σ' hi ⟨ti, h1, h2, h3, h4, h5, h6⟩ ih'
      have hs1 : Same (fun q => T.M q ∨ q = τ.length) τ σ' := Same.app.trans h5
      have ho : ∀ {q o}, hget τ q = some o → ¬ T.M q → hget σ' q = some o := fun h hm => hs1.get h (fun h' => by rcases h' with h' | h'; exact hm h'; have := hget_lt h; omega)
      have p1 := ho hT.e1 hT.m.1
      have p5 : ∀ o, hget (hset σ' τ.length o) τ.length = some o := fun o => hget_set h4 o
      have p6 : ∀ o, hget (hset σ' τ.length o) rn = some (.cells [.fn (.func 69) [] [.ptr re 0, .ptr rl 0, .ptr ry 0, .ptr rn 0]]) := fun o => by rw [hget_ne (by omega)]; exact ho hT.n1 hT.m.2.2.2
      have hset3 := @putAt_set ti (a : Int) (x.lo + i) (by omega) (by omega)
      rw [h3] at hset3
      have hl3 : (setI t a (x.lo + i)).length = 3 := by rw [setI_len]; exact ht
      simp -implicitDefEqProofs (maxSteps := 2000000) (disch := omega) only [go_sem, reduceCtorEq, Nat.reduceAdd, Nat.reduceSub, Nat.reduceMul, Nat.reduceLT, Nat.reduceLeDiff, Nat.reduceEqDiff, Nat.reduceBEq, Int.reduceToNat, Int.reduceLT, Int.reduceLE, Int.reduceEq, Int.reduceNeg, Int.reduceAdd, Int.reduceSub, Int.reduceMul, ↓reduceIte, Int.reduceBEq, Int.reduceBNe, p1, Ear.cells, Rng.av, hxe, h4, p5, p6, h1, h3, setI_len]
      obtain ⟨X, hX⟩ := flatMap_part (fun (k : Nat) => allT e m (setI t a (x.lo + k)) (a + 1)) hi
      have hs2 : Same (fun q => T.M q ∨ q = τ.length) τ (hset σ' τ.length (.cells ((setI t a (x.lo + i)).map (AV.int .i64)))) := hs1.trans ⟨by rw [length_hset]; omega, fun q hq hm => by rw [hget_ne (by omega)]⟩
      have ho2 : ∀ {q o}, hget τ q = some o → ¬ T.M q → hget (hset σ' τ.length (.cells ((setI t a (x.lo + i)).map (AV.int .i64)))) q = some o := fun h hm => hs2.get h (fun h' => by rcases h' with h' | h'; exact hm h'; have := hget_lt h; omega)
      have hMt : ¬ T.M τ.length := fun h => by have := T.lt hC h; omega
      refine ACalls.mono (ih (setI t a (x.lo + i)) (a + 1) hl3 (setI_small hs (by omega)) (by omega) T (D ++ ((List.range i).flatMap fun (k : Nat) => allT e m (setI t a (x.lo + k)) (a + 1)).map tav) (X.map tav ++ Rest) ⟨ho2 hT.e1 hT.m.1, by obtain ⟨tk, h⟩ := hT.l1; exact ⟨tk, ho2 h hT.m.2.1⟩, ho2 hT.y1 hT.m.2.2.1, ho2 hT.n1 hT.m.2.2.2, hT.m⟩
        (T.keep h6 ⟨by rw [length_hset]; omega, fun q hq => hget_ne (fun e => hMt (e ▸ hq))⟩) (by rw [hL, hX]; simp)) fun v τ' hv => ?_
      have hsf : Same (fun q => T.M q ∨ q = τ.length) (hset σ' τ.length (.cells ((setI t a (x.lo + i)).map (AV.int .i64)))) τ' := ⟨hv.1.1, fun q hq hm => hv.1.2 q hq (fun h => hm (.inl h))⟩
      have hlen' : τ.length < σ'.length := hget_lt h4
      rcases hv with ⟨g1, ⟨rfl, g2⟩ | ⟨rfl, g2⟩⟩
      · simp -implicitDefEqProofs (maxSteps := 2000000) (disch := omega) only [go_sem, reduceCtorEq, Nat.reduceAdd, Nat.reduceSub, Nat.reduceMul, Nat.reduceLT, Nat.reduceLeDiff, Nat.reduceEqDiff, Nat.reduceBEq, Int.reduceToNat, Int.reduceLT, Int.reduceLE, Int.reduceEq, Int.reduceNeg, Int.reduceAdd, Int.reduceSub, Int.reduceMul, ↓reduceIte, Int.reduceBEq, Int.reduceBNe]
        refine (ih' τ' ⟨setI t a (x.lo + i), hl3, setI_small hs (by omega), fun z => setI_setI, ?_, ?_, ?_⟩).castS rfl (by simp [upd, ins, subF, lookA, Int.add_assoc])
        · rw [g1.2 _ (by rw [length_hset]; exact hlen') hMt]; exact hget_set h4 _
        · refine ⟨by have := g1.1; rw [length_hset] at this; have := h5.1; omega, fun q hq hm => ?_⟩
          rw [hsf.2 q (by rw [length_hset]; have := h5.1; omega) hm, hget_ne (fun e => hm (.inr e.symm)), h5.2 q hq hm]
        · rw [flatMap_succ]; simpa using g2
      · simp -implicitDefEqProofs (maxSteps := 2000000) (disch := omega) only [go_sem, reduceCtorEq, Nat.reduceAdd, Nat.reduceSub, Nat.reduceMul, Nat.reduceLT, Nat.reduceLeDiff, Nat.reduceEqDiff, Nat.reduceBEq, Int.reduceToNat, Int.reduceLT, Int.reduceLE, Int.reduceEq, Int.reduceNeg, Int.reduceAdd, Int.reduceSub, Int.reduceMul, ↓reduceIte, Int.reduceBEq, Int.reduceBNe]
        refine ⟨⟨by have := g1.1; rw [length_hset] at this; have := hs1.1; omega, fun q hq hm => ?_⟩, .inr ⟨rfl, g2⟩⟩
        rw [g1.2 q (by rw [length_hset]; have := hs1.1; omega) hm, hs2.2 q hq (fun h => by rcases h with h | h; exact hm h; omega)]
    · rintro σ' ⟨ti, h1, h2, h3, h4, h5, h6⟩
      have hs1 : Same (fun q => T.M q ∨ q = τ.length) τ σ' := Same.app.trans h5
      have ho : ∀ {q o}, hget τ q = some o → ¬ T.M q → hget σ' q = some o := fun h hm => hs1.get h (fun h' => by rcases h' with h' | h'; exact hm h'; have := hget_lt h; omega)
      have p1 := ho hT.e1 hT.m.1
      simp -implicitDefEqProofs (maxSteps := 2000000) (disch := omega) only [go_sem, reduceCtorEq, Nat.reduceAdd, Nat.reduceSub, Nat.reduceMul, Nat.reduceLT, Nat.reduceLeDiff, Nat.reduceEqDiff, Nat.reduceBEq, Int.reduceToNat, Int.reduceLT, Int.reduceLE, Int.reduceEq, Int.reduceNeg, Int.reduceAdd, Int.reduceSub, Int.reduceMul, ↓reduceIte, Int.reduceBEq, Int.reduceBNe, p1, Ear.cells, Rng.av, hxe]
      exact ⟨⟨hs1.1, fun q hq hm => hs1.2 q hq (fun h => by rcases h with h | h; exact hm h; omega)⟩, .inl ⟨rfl, h6⟩⟩
end Go.Proofs
