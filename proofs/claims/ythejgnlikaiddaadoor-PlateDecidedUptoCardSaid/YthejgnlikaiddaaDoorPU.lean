/- Texts of a proof: lemmas. -/
import Derived.Test.YthejgnlikaiddaaDoorPS
import Derived.Test.YthejgnlikaiddaaDoorMu3
import Derived.Test.YthejgnlikaiddaaDoorV1
set_option linter.unusedSimpArgs false
set_option linter.unusedVariables false
set_option maxRecDepth 100000
namespace Go.Proofs
open Go Go.Mu

theorem intsV_c (l : List Int) (tk : Tok) (hl : l.length ≤ 4294967296) (σ : List AObj) (Q : AV → List AObj → Prop) (h : Q (.vec σ.length l.length) (σ ++ [.vec 1 (l.map (.int .i64))])) :
    ACalls Tryd.prog 44 [.list tk 1 (l.map (.int .i64))] σ Q := by
  refine ACalls.of_ev (E := Tryd.Ev 6 (fun _ => ([], [])) fs0) (Tryd.envOKV 6 (fun _ => ([], [])) fs0 fs0_ok) Tryd.kp44 Tryd.func44 rfl (by kernel_rfl) (by simp [Tryd.Ev]) (Callable.of Tryd.func44 (by kernel_rfl) (by kernel_rfl)) (by kernel_rfl) ?_
  simp -implicitDefEqProofs (maxSteps := 2000000) (disch := omega) only [go_sem, reduceCtorEq, Nat.reduceAdd, Nat.reduceSub, Nat.reduceMul, Nat.reduceLT, Nat.reduceLeDiff, Nat.reduceEqDiff, Nat.reduceBEq, Int.reduceToNat, Int.reduceLT, Int.reduceLE, Int.reduceEq, Int.reduceNeg, Int.reduceAdd, Int.reduceSub, Int.reduceMul, ↓reduceIte, Int.reduceBEq, Int.reduceBNe]
  exact h
theorem ACalls.wkW {P : Program} {f : FuncId} {args : List AV} {σ : List AObj} {Q : AV → List AObj → Prop} (h : ACalls P f args σ fun v σ' => ∃ v', Weak v v' ∧ Q v' σ') : ACalls P f args σ Q :=
  ⟨h.1, fun K w cargs hR hA => (h.2 K w cargs hR hA).mono fun e w' ⟨v, c, σ', K', h1, ⟨v', hw, hq⟩, hv, h3⟩ => ⟨v', c, σ', K', h1, hq, hw K' _ _ hv, h3⟩⟩
theorem decs_app {α : Type} {f : AV → Option α} : ∀ {xs : List AV} {ms : List α} {v : AV} {m : α}, decs f xs = some ms → f v = some m → decs f (xs ++ [v]) = some (ms ++ [m])
  | [], ms, v, m, h, hv => by
    simp only [decs, Option.some.injEq] at h; subst h
    simp only [List.nil_append, decs, hv]
  | x :: xs, ms, v, m, h, hv => by
    simp only [decs] at h
    split at h
    · rename_i a l h1 h2
      simp only [Option.some.injEq] at h; subst h
      have ih := decs_app (v := v) h2 hv
      simp only [List.cons_append, decs, h1, ih]
    · cases h
theorem ARun.slotNo1 {E : Env} {ro : Option Nat} {todo : List Item} {kp : Nat → Bool} {tm sl : List (Nat × AV)} {σ : List AObj} {Q : Post} (d : Nat) {t : Tok} {l : List Int} (hd : kp d = true) (hl : lookA sl d = some (.list t 1 (l.map (.int .i64))))
    (h : ARun E ro todo ⟨kp, [], ins sl d (isv l)⟩ σ Q) : ARun E ro todo ⟨kp, tm, sl⟩ σ Q :=
  ARun.slotW d hd hl Weak.no h
theorem set_len {α : Type} {j l : List α} {x y : α} : (j ++ x :: l).set j.length y = j ++ y :: l := by
  rw [List.set_append_right _ _ (Nat.le_refl _), Nat.sub_self]; rfl
theorem get_len {α : Type} {j l : List α} {x : α} : (j ++ x :: l)[j.length]? = some x := by
  rw [List.getElem?_append_right (Nat.le_refl _), Nat.sub_self]; rfl
theorem ARun.loopH {E : Env} (hE : EnvOK E) {ro : Option Nat} {c : Code} {k : List Item} {kp : Nat → Bool} {tm sl : List (Nat × AV)} {σ : List AObj} {Q : Post} {α : Type} (m : α → Nat) (J : α → List AObj → Prop) (lv : α → List (Nat × AV)) (x0 : α)
    (hO : todoOK E [.code c, .inLoop c] = true) (hk : todoOK E k = true) (h0 : subF (upd sl (lv x0)) sl) (hJ : J x0 σ)
    (hs : ∀ (K : List Item) (Q : Post), todoOK E K = true → ∀ x τ, J x τ → 0 < m x → (∀ y τ', m y < m x → J y τ' → ARun E ro (.inLoop c :: K) ⟨kp, [], upd sl (lv y)⟩ τ' Q) → ev E ro 100000 (.code c :: .inLoop c :: K) ⟨kp, [], upd sl (lv x)⟩ τ Q)
    (he : todoOK E (.code c :: .inLoop c :: k) = true → ∀ x τ, J x τ → m x = 0 → ARun E ro (.code c :: .inLoop c :: k) ⟨kp, [], upd sl (lv x)⟩ τ Q) : ARun E ro (.code (.loop c) :: k) ⟨kp, tm, sl⟩ σ Q := by
  have hok := todoOK_two hO hk
  have key : ∀ n x τ, m x = n → J x τ → ARun E ro (.code c :: .inLoop c :: k) ⟨kp, [], upd sl (lv x)⟩ τ Q := by
    intro n
    induction n using Nat.strongRecOn with
    | _ n ih =>
      intro x τ hm hj
      rcases Nat.eq_zero_or_pos (m x) with h | h
      · exact he hok x τ hj h
      · exact ev_sound hE hok (hs k Q hk x τ hj h fun y τ' hlt hy => .inLoop (ih (m y) (by omega) y τ' rfl hy))
  exact .loop (ARun.sub (key _ x0 σ rfl hJ) h0)
set_option maxHeartbeats 400000000 in
theorem catalogueOf_c (r : Nat) (f m : Int) (hf : 1 ≤ f ∧ f ≤ 4) (hm : 1 ≤ m ∧ m ≤ 4) (σ : List AObj) (hp : PotAt σ r) (Q : AV → List AObj → Prop) (h : ∀ s' c junk, OkC c → c.features ≤ f → (c.models.length : Int) ≤ m → Q c.av (pw σ r s' ++ junk)) :
    ACalls Tryd.prog 12 [.ptr r 0, .int .i64 f, .int .i64 m] σ Q := by
  refine ACalls.wkW ?_
  refine ACalls.of_ev (E := Tryd.E 109 Tryd.ord12 fs0) (Tryd.envOK 109 Tryd.ord12 fs0 fs0_ok) Tryd.kp12 Tryd.func12 rfl (by kernel_rfl) (by simp [Tryd.E]) (Callable.of Tryd.func12 (by kernel_rfl) (by kernel_rfl)) (by kernel_rfl) ?_
  have hr := hp.lt
  simp -implicitDefEqProofs (maxSteps := 2000000) (disch := omega) only [go_sem, reduceCtorEq, Nat.reduceAdd, Nat.reduceSub, Nat.reduceMul, Nat.reduceLT, Nat.reduceLeDiff, Nat.reduceEqDiff, Nat.reduceBEq, Int.reduceToNat, Int.reduceLT, Int.reduceLE, Int.reduceEq, Int.reduceNeg, Int.reduceAdd, Int.reduceSub, Int.reduceMul, ↓reduceIte, Int.reduceBEq, Int.reduceBNe, length_pw, hget_pw0, hget_pw, hset_pw0, hset_pw]
  refine within_c r 1 f (by omega) (by omega) _ hp.app _ fun s1 F hF1 hF2 => ?_
  rw [pw_app hr]
  have hF : 1 ≤ F ∧ F ≤ f := by omega
  clear hF1 hF2
  simp -implicitDefEqProofs (maxSteps := 2000000) (disch := omega) only [go_sem, reduceCtorEq, Nat.reduceAdd, Nat.reduceSub, Nat.reduceMul, Nat.reduceLT, Nat.reduceLeDiff, Nat.reduceEqDiff, Nat.reduceBEq, Int.reduceToNat, Int.reduceLT, Int.reduceLE, Int.reduceEq, Int.reduceNeg, Int.reduceAdd, Int.reduceSub, Int.reduceMul, ↓reduceIte, Int.reduceBEq, Int.reduceBNe, length_pw, hget_pw0, hget_pw, hset_pw0, hset_pw]
  refine within_c r 1 m (by omega) (by omega) _ (hp.pw _).app _ fun s2 N0 hN1 hN2 => ?_
  rw [pw_pwa hr]
  obtain ⟨N, rfl⟩ : ∃ N : Nat, N0 = N := ⟨N0.toNat, by omega⟩
  have hN : 1 ≤ N ∧ N ≤ 4 ∧ (N : Int) ≤ m := by omega
  clear hN1 hN2
  simp -implicitDefEqProofs (maxSteps := 2000000) (disch := omega) only [go_sem, reduceCtorEq, Nat.reduceAdd, Nat.reduceSub, Nat.reduceMul, Nat.reduceLT, Nat.reduceLeDiff, Nat.reduceEqDiff, Nat.reduceBEq, Int.reduceToNat, Int.reduceLT, Int.reduceLE, Int.reduceEq, Int.reduceNeg, Int.reduceAdd, Int.reduceSub, Int.reduceMul, ↓reduceIte, Int.reduceBEq, Int.reduceBNe, length_pw, hget_pw0, hget_pw, hset_pw0, hset_pw]
  refine ARun.ghostK (σ.length + 1) 1 3 (by rw [hget_pw]; rfl) rfl ?_
  simp only [hset_pw, List.set_cons_succ, List.set_cons_zero, List.append_assoc, List.cons_append, List.nil_append, List.length_append, List.length_cons, List.length_nil, Nat.zero_add, Nat.reduceAdd, length_pw]
  refine ARun.loopG (Tryd.envOK 109 Tryd.ord12 fs0 fs0_ok) (α := Nat × List AV × List Model) (fun a => N - a.1)
    (fun a τ => (∃ s j, τ = pw σ r s ++ (.cells [.int .i64 0, .list .full 0 []] :: .cells [.int .i64 F, .list (.own (σ.length + 2)) 3 a.2.1] :: .tail a.2.1.length 3 :: j)) ∧ a.1 ≤ N ∧ a.2.1.length = a.1 ∧ a.2.2.length = a.1 ∧ decs decModel a.2.1 = some a.2.2 ∧ ∀ x ∈ a.2.2, OkM F x)
    (fun a => [(8, .int .i64 ((N : Int) - a.1))]) (0, [], []) (by kernel_rfl) (by kernel_rfl) (by simp [upd, ins, subF, lookA]) ⟨⟨s2, [], by simp⟩, by simp, rfl, rfl, rfl, by simp⟩ ?_ ?_
  · rintro K Q' hK ⟨k, xs, ms⟩ τ ⟨⟨s3, j, rfl⟩, hk, hx, hms, hdec, hok⟩ hlt ih
    simp only at hk hx hms hdec hok hlt ih
    simp -implicitDefEqProofs (maxSteps := 2000000) (disch := omega) only [go_sem, reduceCtorEq, Nat.reduceAdd, Nat.reduceSub, Nat.reduceMul, Nat.reduceLT, Nat.reduceLeDiff, Nat.reduceEqDiff, Nat.reduceBEq, Int.reduceToNat, Int.reduceLT, Int.reduceLE, Int.reduceEq, Int.reduceNeg, Int.reduceAdd, Int.reduceSub, Int.reduceMul, ↓reduceIte, Int.reduceBEq, Int.reduceBNe, length_pw, hget_pw0, hget_pw, hset_pw0, hset_pw]
    refine upto_c r 6 (by omega) _ (hp.pw _).app _ fun s4 u hu1 hu2 => ?_
    rw [pw_pwa hr]
    have hu : 0 ≤ u ∧ u ≤ 6 := by omega
    clear hu1 hu2
    simp -implicitDefEqProofs (maxSteps := 2000000) (disch := omega) only [go_sem, reduceCtorEq, Nat.reduceAdd, Nat.reduceSub, Nat.reduceMul, Nat.reduceLT, Nat.reduceLeDiff, Nat.reduceEqDiff, Nat.reduceBEq, Int.reduceToNat, Int.reduceLT, Int.reduceLE, Int.reduceEq, Int.reduceNeg, Int.reduceAdd, Int.reduceSub, Int.reduceMul, ↓reduceIte, Int.reduceBEq, Int.reduceBNe, length_pw, hget_pw0, hget_pw, hset_pw0, hset_pw]
    refine upto_c r 9000 (by omega) _ (hp.pw _).app _ fun s5 v hv1 hv2 => ?_
    rw [pw_pwa hr]
    have hv : 0 ≤ v ∧ v ≤ 9000 := by omega
    clear hv1 hv2
    simp -implicitDefEqProofs (maxSteps := 2000000) (disch := omega) only [go_sem, reduceCtorEq, Nat.reduceAdd, Nat.reduceSub, Nat.reduceMul, Nat.reduceLT, Nat.reduceLeDiff, Nat.reduceEqDiff, Nat.reduceBEq, Int.reduceToNat, Int.reduceLT, Int.reduceLE, Int.reduceEq, Int.reduceNeg, Int.reduceAdd, Int.reduceSub, Int.reduceMul, ↓reduceIte, Int.reduceBEq, Int.reduceBNe, length_pw, hget_pw0, hget_pw, hset_pw0, hset_pw]
    refine of_c r [0, 100, v] .full (by simp) _ (hp.pw _).app _ fun s6 fr hfr => ?_
    rw [pw_pwa hr]
    have hfr0 : 0 ≤ fr ∧ fr ≤ 9000 := by simp at hfr; omega
    clear hfr hv
    simp -implicitDefEqProofs (maxSteps := 2000000) (disch := omega) only [go_sem, reduceCtorEq, Nat.reduceAdd, Nat.reduceSub, Nat.reduceMul, Nat.reduceLT, Nat.reduceLeDiff, Nat.reduceEqDiff, Nat.reduceBEq, Int.reduceToNat, Int.reduceLT, Int.reduceLE, Int.reduceEq, Int.reduceNeg, Int.reduceAdd, Int.reduceSub, Int.reduceMul, ↓reduceIte, Int.reduceBEq, Int.reduceBNe, length_pw, hget_pw0, hget_pw, hset_pw0, hset_pw]
    refine within_c r 1 4 (by omega) (by omega) _ (hp.pw _).app _ fun s7 L0 hL1 hL2 => ?_
    rw [pw_pwa hr]
    obtain ⟨L, rfl⟩ : ∃ L : Nat, L0 = L := ⟨L0.toNat, by omega⟩
    have hL : 1 ≤ L ∧ L ≤ 4 := by omega
    clear hL1 hL2
    simp -implicitDefEqProofs (maxSteps := 2000000) (disch := omega) only [go_sem, reduceCtorEq, Nat.reduceAdd, Nat.reduceSub, Nat.reduceMul, Nat.reduceLT, Nat.reduceLeDiff, Nat.reduceEqDiff, Nat.reduceBEq, Int.reduceToNat, Int.reduceLT, Int.reduceLE, Int.reduceEq, Int.reduceNeg, Int.reduceAdd, Int.reduceSub, Int.reduceMul, ↓reduceIte, Int.reduceBEq, Int.reduceBNe, length_pw, hget_pw0, hget_pw, hset_pw0, hset_pw]
    refine ARun.ghostK (σ.length + (j.length + 1 + 1 + 1)) 1 1 (sz0 := 0) (cs := [.int .i64 (1900 + u), .list .full 0 [], .list .full 0 []]) (by rw [hget_pw]; simp) rfl ?_
    simp only [hset_pw, List.set_cons_succ, List.set_cons_zero, set_len, List.append_assoc, List.cons_append, List.nil_append, List.length_append, List.length_cons, List.length_nil, Nat.zero_add, length_pw]
    refine ARun.ghostK (σ.length + (j.length + 1 + 1 + 1)) 2 2 (sz0 := 0) (cs := [.int .i64 (1900 + u), .list (.own (σ.length + (j.length + 1 + 1 + 1 + 1))) 1 [], .list .full 0 []]) (by rw [hget_pw]; simp) rfl ?_
    simp only [hset_pw, List.set_cons_succ, List.set_cons_zero, set_len, List.append_assoc, List.cons_append, List.nil_append, List.length_append, List.length_cons, List.length_nil, Nat.zero_add, length_pw]
    refine ARun.loopG (Tryd.envOK 109 Tryd.ord12 fs0 fs0_ok) (α := Nat × List (List Int) × List Rng × Int) (fun a => L - a.1)
      (fun a τ => (∃ s j2, τ = pw σ r s ++ (.cells [.int .i64 0, .list .full 0 []] :: .cells [.int .i64 F, .list (.own (σ.length + 2)) 3 xs] :: .tail xs.length 3 :: (j ++ (.cells [.int .i64 (1900 + u), .list (.own (σ.length + (j.length + 1 + 1 + 1 + 1))) 1 (a.2.1.map isv), .list (.own (σ.length + (j.length + 1 + 1 + 1 + 1 + 1))) 2 (a.2.2.1.map Rng.av)] :: .tail a.2.1.length 1 :: .tail a.2.2.1.length 2 :: j2)))) ∧ a.1 ≤ L ∧ a.2.1.length = a.1 ∧ a.2.2.1.length = a.1 ∧ (∀ l ∈ a.2.1, (l.length : Int) = F ∧ ∀ x ∈ l, 1 ≤ x ∧ x ≤ 3) ∧ (∀ x ∈ a.2.2.1, 0 ≤ x.lo ∧ x.lo ≤ x.hi ∧ x.hi ≤ 9999) ∧ 0 ≤ a.2.2.2 ∧ a.2.2.2 ≤ 9999)
      (fun a => [(10, .int .i64 a.2.2.2), (11, .int .i64 ((L : Int) - a.1))]) (0, [], [], fr) (by kernel_rfl) (by first | exact hK | simpa [todoOK, itemOK] using hK) (by simp [upd, ins, subF, lookA]) ⟨⟨s7, [], by simp⟩, by simp, rfl, rfl, by simp, by simp, by simp only; omega⟩ ?_ ?_
    · rintro K2 Q2 hK2 ⟨k2, ls, ns, fr2⟩ τ ⟨⟨s8, j2, rfl⟩, hk2, hls, hns, hlo, hno, hfr2⟩ hlt2 ih2
      simp only at hk2 hls hns hlo hno hfr2 hlt2 ih2
      clear ih
      simp -implicitDefEqProofs (maxSteps := 2000000) (disch := omega) only [go_sem, reduceCtorEq, Nat.reduceAdd, Nat.reduceSub, Nat.reduceMul, Nat.reduceLT, Nat.reduceLeDiff, Nat.reduceEqDiff, Nat.reduceBEq, Int.reduceToNat, Int.reduceLT, Int.reduceLE, Int.reduceEq, Int.reduceNeg, Int.reduceAdd, Int.reduceSub, Int.reduceMul, ↓reduceIte, Int.reduceBEq, Int.reduceBNe, length_pw, hget_pw0, hget_pw, hset_pw0, hset_pw]
      refine ARun.ghost 12 1 (sz0 := 0) rfl (by simp [lookA]) ?_
      simp only [ins, ↓reduceIte, Nat.reduceEqDiff, hset_pw, List.set_cons_succ, List.set_cons_zero, set_len, List.append_assoc, List.cons_append, List.nil_append, List.length_append, List.length_cons, List.length_nil, Nat.zero_add, length_pw]
      refine ARun.loopH (Tryd.envOK 109 Tryd.ord12 fs0 fs0_ok) (α := Nat × List Int) (fun a => F.toNat - a.1)
        (fun a τ => (∃ s j3, τ = pw σ r s ++ (.cells [.int .i64 0, .list .full 0 []] :: .cells [.int .i64 F, .list (.own (σ.length + 2)) 3 xs] :: .tail xs.length 3 :: (j ++ (.cells [.int .i64 (1900 + u), .list (.own (σ.length + (j.length + 1 + 1 + 1 + 1))) 1 (ls.map isv), .list (.own (σ.length + (j.length + 1 + 1 + 1 + 1 + 1))) 2 (ns.map Rng.av)] :: .tail ls.length 1 :: .tail ns.length 2 :: (j2 ++ (.tail a.2.length 1 :: j3)))))) ∧ a.1 ≤ F.toNat ∧ a.2.length = a.1 ∧ (∀ x ∈ a.2, 1 ≤ x ∧ x ≤ 3))
        (fun a => [(12, .list (.own (σ.length + (j.length + (j2.length + 1 + 1 + 1) + 1 + 1 + 1))) 1 (a.2.map (.int .i64))), (13, .int .i64 (a.1 : Int))]) (0, []) (by kernel_rfl) (by repeat (first | exact hK2 | (rw [todoOK_cons, Bool.and_eq_true]; refine ⟨by kernel_rfl, ?_⟩))) (by simp [upd, ins, subF, lookA]) ⟨⟨s8, [], by simp⟩, by simp, by simp, by simp⟩ ?_ ?_
      · rintro K3 Q3 hK3 ⟨k3, l⟩ τ ⟨⟨s9, j3, rfl⟩, hk3, hl3, hb3⟩ hlt3 ih3
        simp only at hk3 hl3 hb3 hlt3 ih3
        clear ih2 hlo hno
        have hk3F : (k3 : Int) < F := by omega
        simp -implicitDefEqProofs (maxSteps := 2000000) (disch := omega) only [go_sem, reduceCtorEq, Nat.reduceAdd, Nat.reduceSub, Nat.reduceMul, Nat.reduceLT, Nat.reduceLeDiff, Nat.reduceEqDiff, Nat.reduceBEq, Int.reduceToNat, Int.reduceLT, Int.reduceLE, Int.reduceEq, Int.reduceNeg, Int.reduceAdd, Int.reduceSub, Int.reduceMul, ↓reduceIte, Int.reduceBEq, Int.reduceBNe, length_pw, hget_pw0, hget_pw, hset_pw0, hset_pw]
        refine within_c r 1 3 (by omega) (by omega) _ (hp.pw _).app _ fun s10 v hv1 hv2 => ?_
        rw [pw_pwa hr]
        simp -implicitDefEqProofs (maxSteps := 2000000) (disch := omega) only [go_sem, reduceCtorEq, Nat.reduceAdd, Nat.reduceSub, Nat.reduceMul, Nat.reduceLT, Nat.reduceLeDiff, Nat.reduceEqDiff, Nat.reduceBEq, Int.reduceToNat, Int.reduceLT, Int.reduceLE, Int.reduceEq, Int.reduceNeg, Int.reduceAdd, Int.reduceSub, Int.reduceMul, ↓reduceIte, Int.reduceBEq, Int.reduceBNe, length_pw, hget_pw0, hget_pw, hset_pw0, hset_pw]
        refine (ih3 (k3 + 1, l ++ [v]) _ (by simp only; omega) ⟨⟨s10, j3, rfl⟩, by simp only; omega, by simp [hl3], fun x hx => ?_⟩).castS (by simp) (by simp [upd, ins, subF, lookA])
        rcases List.mem_append.1 hx with hx | hx
        · exact hb3 x hx
        · simp only [List.mem_singleton] at hx; omega
      · rintro hO3 ⟨k3, l⟩ τ ⟨⟨s9, j3, rfl⟩, hk3, hl3, hb3⟩ h03
        simp only at hk3 hl3 hb3 h03
        have hlF : (k3 : Int) = F := by omega
        have hfin : ∀ l' : List Int, l'.length = l.length → (∀ x ∈ l', 1 ≤ x ∧ x ≤ 3) → ∀ y ∈ ls ++ [l'], (y.length : Int) = F ∧ ∀ x ∈ y, 1 ≤ x ∧ x ≤ 3 := fun l' e1 e2 y hy => by
          rcases List.mem_append.1 hy with hy | hy
          · exact hlo y hy
          · simp only [List.mem_singleton] at hy; subst hy; exact ⟨by omega, e2⟩
        have hgin : ∀ to : Int, fr2 ≤ to ∧ to ≤ 9999 → ∀ y ∈ ns ++ [⟨fr2, to⟩], 0 ≤ y.lo ∧ y.lo ≤ y.hi ∧ y.hi ≤ 9999 := fun to e y hy => by
          rcases List.mem_append.1 hy with hy | hy
          · exact hno y hy
          · simp only [List.mem_singleton] at hy; subst hy; simp only; omega
        have hfin0 := hlo
        clear hlo hno
        by_cases hk0 : k2 = 0
        · refine ev_sound (Tryd.envOK 109 Tryd.ord12 fs0 fs0_ok) (n := 100000) hO3 ?_
          simp -implicitDefEqProofs (maxSteps := 2000000) (disch := omega) only [go_sem, reduceCtorEq, Nat.reduceAdd, Nat.reduceSub, Nat.reduceMul, Nat.reduceLT, Nat.reduceLeDiff, Nat.reduceEqDiff, Nat.reduceBEq, Int.reduceToNat, Int.reduceLT, Int.reduceLE, Int.reduceEq, Int.reduceNeg, Int.reduceAdd, Int.reduceSub, Int.reduceMul, ↓reduceIte, Int.reduceBEq, Int.reduceBNe, length_pw, hget_pw0, hget_pw, hset_pw0, hset_pw]
          refine upto_c r 80 (by omega) _ (hp.pw _).app _ fun s12 w hw1 hw2 => ?_
          rw [pw_pwa hr]
          simp -implicitDefEqProofs (maxSteps := 2000000) (disch := omega) only [go_sem, reduceCtorEq, Nat.reduceAdd, Nat.reduceSub, Nat.reduceMul, Nat.reduceLT, Nat.reduceLeDiff, Nat.reduceEqDiff, Nat.reduceBEq, Int.reduceToNat, Int.reduceLT, Int.reduceLE, Int.reduceEq, Int.reduceNeg, Int.reduceAdd, Int.reduceSub, Int.reduceMul, ↓reduceIte, Int.reduceBEq, Int.reduceBNe, length_pw, hget_pw0, hget_pw, hset_pw0, hset_pw]
          generalize hto : (if fr2 + w < 9999 then fr2 + w else 9999) = to
          have hto2 : fr2 ≤ to ∧ to ≤ 9999 := by split at hto <;> omega
          clear hto hw1 hw2
          refine upto_c r 2 (by omega) _ (hp.pw _).app _ fun s13 w2 hw1 hw2 => ?_
          rw [pw_pwa hr]
          simp -implicitDefEqProofs (maxSteps := 2000000) (disch := omega) only [go_sem, reduceCtorEq, Nat.reduceAdd, Nat.reduceSub, Nat.reduceMul, Nat.reduceLT, Nat.reduceLeDiff, Nat.reduceEqDiff, Nat.reduceBEq, Int.reduceToNat, Int.reduceLT, Int.reduceLE, Int.reduceEq, Int.reduceNeg, Int.reduceAdd, Int.reduceSub, Int.reduceMul, ↓reduceIte, Int.reduceBEq, Int.reduceBNe, length_pw, hget_pw0, hget_pw, hset_pw0, hset_pw]
          generalize hfr3 : (if to + w2 < 9999 then to + w2 else 9999) = fr3
          have hfr4 : 0 ≤ fr3 ∧ fr3 ≤ 9999 := by split at hfr3 <;> omega
          clear hfr3 hw1 hw2
          refine (ih2 (k2 + 1, ls ++ [l], ns ++ [⟨fr2, to⟩], fr3) _ (by simp only; omega) ⟨⟨s13, j2 ++ (.tail l.length 1 :: j3), rfl⟩, by simp only; omega, by simp [hls], by simp [hns], hfin l rfl hb3, hgin to hto2, hfr4⟩).castS (by simp [isv, Rng.av]) (by simp [upd, ins, subF, lookA]; omega)
        · have hlp : 0 < ls.length := by omega
          refine ev_sound (Tryd.envOK 109 Tryd.ord12 fs0 fs0_ok) (n := 13) hO3 ?_
          simp -implicitDefEqProofs (maxSteps := 2000000) (disch := omega) only [go_sem, reduceCtorEq, Nat.reduceAdd, Nat.reduceSub, Nat.reduceMul, Nat.reduceLT, Nat.reduceLeDiff, Nat.reduceEqDiff, Nat.reduceBEq, Int.reduceToNat, Int.reduceLT, Int.reduceLE, Int.reduceEq, Int.reduceNeg, Int.reduceAdd, Int.reduceSub, Int.reduceMul, ↓reduceIte, Int.reduceBEq, Int.reduceBNe, length_pw, hget_pw0, hget_pw, hset_pw0, hset_pw]
          refine odds_c r 1 2 (by omega) (by omega) _ (hp.pw _).app _ fun s10 b => ?_
          rw [pw_pwa hr]
          cases b
          · simp -implicitDefEqProofs (maxSteps := 2000000) (disch := omega) only [go_sem, reduceCtorEq, Nat.reduceAdd, Nat.reduceSub, Nat.reduceMul, Nat.reduceLT, Nat.reduceLeDiff, Nat.reduceEqDiff, Nat.reduceBEq, Int.reduceToNat, Int.reduceLT, Int.reduceLE, Int.reduceEq, Int.reduceNeg, Int.reduceAdd, Int.reduceSub, Int.reduceMul, ↓reduceIte, Int.reduceBEq, Int.reduceBNe, length_pw, hget_pw0, hget_pw, hset_pw0, hset_pw]
            refine upto_c r 80 (by omega) _ (hp.pw _).app _ fun s12 w hw1 hw2 => ?_
            rw [pw_pwa hr]
            simp -implicitDefEqProofs (maxSteps := 2000000) (disch := omega) only [go_sem, reduceCtorEq, Nat.reduceAdd, Nat.reduceSub, Nat.reduceMul, Nat.reduceLT, Nat.reduceLeDiff, Nat.reduceEqDiff, Nat.reduceBEq, Int.reduceToNat, Int.reduceLT, Int.reduceLE, Int.reduceEq, Int.reduceNeg, Int.reduceAdd, Int.reduceSub, Int.reduceMul, ↓reduceIte, Int.reduceBEq, Int.reduceBNe, length_pw, hget_pw0, hget_pw, hset_pw0, hset_pw]
            change ARun _ _ _ _ _ _
            refine ev_sound (Tryd.envOK 109 Tryd.ord12 fs0 fs0_ok) (n := 100000) (by repeat (first | exact hK2 | (rw [todoOK_cons, Bool.and_eq_true]; refine ⟨by kernel_rfl, ?_⟩))) ?_
            simp -implicitDefEqProofs (maxSteps := 2000000) (disch := omega) only [go_sem, reduceCtorEq, Nat.reduceAdd, Nat.reduceSub, Nat.reduceMul, Nat.reduceLT, Nat.reduceLeDiff, Nat.reduceEqDiff, Nat.reduceBEq, Int.reduceToNat, Int.reduceLT, Int.reduceLE, Int.reduceEq, Int.reduceNeg, Int.reduceAdd, Int.reduceSub, Int.reduceMul, ↓reduceIte, Int.reduceBEq, Int.reduceBNe, length_pw, hget_pw0, hget_pw, hset_pw0, hset_pw]
            generalize hto : (if fr2 + w < 9999 then fr2 + w else 9999) = to
            have hto2 : fr2 ≤ to ∧ to ≤ 9999 := by split at hto <;> omega
            clear hto hw1 hw2
            refine upto_c r 2 (by omega) _ (hp.pw _).app _ fun s13 w2 hw1 hw2 => ?_
            rw [pw_pwa hr]
            simp -implicitDefEqProofs (maxSteps := 2000000) (disch := omega) only [go_sem, reduceCtorEq, Nat.reduceAdd, Nat.reduceSub, Nat.reduceMul, Nat.reduceLT, Nat.reduceLeDiff, Nat.reduceEqDiff, Nat.reduceBEq, Int.reduceToNat, Int.reduceLT, Int.reduceLE, Int.reduceEq, Int.reduceNeg, Int.reduceAdd, Int.reduceSub, Int.reduceMul, ↓reduceIte, Int.reduceBEq, Int.reduceBNe, length_pw, hget_pw0, hget_pw, hset_pw0, hset_pw]
            generalize hfr3 : (if to + w2 < 9999 then to + w2 else 9999) = fr3
            have hfr4 : 0 ≤ fr3 ∧ fr3 ≤ 9999 := by split at hfr3 <;> omega
            clear hfr3 hw1 hw2
            refine (ih2 (k2 + 1, ls ++ [l], ns ++ [⟨fr2, to⟩], fr3) _ (by simp only; omega) ⟨⟨s13, j2 ++ (.tail l.length 1 :: j3), rfl⟩, by simp only; omega, by simp [hls], by simp [hns], hfin l rfl hb3, hgin to hto2, hfr4⟩).castS (by simp [isv, Rng.av]) (by simp [upd, ins, subF, lookA]; omega)
          · obtain ⟨l0, hl0, hidx⟩ : ∃ l0, l0 ∈ ls ∧ idx (ls.map isv) ((ls.length : Int) - 1) = some (isv l0) := by
              have hb : ls.length - 1 < ls.length := by omega
              refine ⟨ls[ls.length - 1], List.getElem_mem hb, ?_⟩
              have e : ((ls.length : Int) - 1) = ((ls.length - 1 : Nat) : Int) := by omega
              rw [e]; exact idx_nat hb
            have hl0' := hfin0 l0 hl0
            simp -implicitDefEqProofs (maxSteps := 2000000) (disch := omega) only [go_sem, reduceCtorEq, Nat.reduceAdd, Nat.reduceSub, Nat.reduceMul, Nat.reduceLT, Nat.reduceLeDiff, Nat.reduceEqDiff, Nat.reduceBEq, Int.reduceToNat, Int.reduceLT, Int.reduceLE, Int.reduceEq, Int.reduceNeg, Int.reduceAdd, Int.reduceSub, Int.reduceMul, ↓reduceIte, Int.reduceBEq, Int.reduceBNe, length_pw, hget_pw0, hget_pw, hset_pw0, hset_pw, hidx]
            refine intsV_c l0 .no (by omega) _ _ ?_
            simp -implicitDefEqProofs (maxSteps := 2000000) (disch := omega) only [go_sem, reduceCtorEq, Nat.reduceAdd, Nat.reduceSub, Nat.reduceMul, Nat.reduceLT, Nat.reduceLeDiff, Nat.reduceEqDiff, Nat.reduceBEq, Int.reduceToNat, Int.reduceLT, Int.reduceLE, Int.reduceEq, Int.reduceNeg, Int.reduceAdd, Int.reduceSub, Int.reduceMul, ↓reduceIte, Int.reduceBEq, Int.reduceBNe, length_pw, hget_pw0, hget_pw, hset_pw0, hset_pw]
            refine upto_c r _ (by omega) _ (hp.pw _).app _ fun s11 pl hp1 hp2 => ?_
            rw [pw_pwa hr]
            simp -implicitDefEqProofs (maxSteps := 2000000) (disch := omega) only [go_sem, reduceCtorEq, Nat.reduceAdd, Nat.reduceSub, Nat.reduceMul, Nat.reduceLT, Nat.reduceLeDiff, Nat.reduceEqDiff, Nat.reduceBEq, Int.reduceToNat, Int.reduceLT, Int.reduceLE, Int.reduceEq, Int.reduceNeg, Int.reduceAdd, Int.reduceSub, Int.reduceMul, ↓reduceIte, Int.reduceBEq, Int.reduceBNe, length_pw, hget_pw0, hget_pw, hset_pw0, hset_pw]
            refine within_c r 1 3 (by omega) (by omega) _ (hp.pw _).app _ fun s12 nv hv1 hv2 => ?_
            rw [pw_pwa hr]
            have hpl : 0 ≤ pl ∧ pl < l0.length := by omega
            simp -implicitDefEqProofs (maxSteps := 2000000) (disch := omega) only [go_sem, reduceCtorEq, Nat.reduceAdd, Nat.reduceSub, Nat.reduceMul, Nat.reduceLT, Nat.reduceLeDiff, Nat.reduceEqDiff, Nat.reduceBEq, Int.reduceToNat, Int.reduceLT, Int.reduceLE, Int.reduceEq, Int.reduceNeg, Int.reduceAdd, Int.reduceSub, Int.reduceMul, ↓reduceIte, Int.reduceBEq, Int.reduceBNe, length_pw, hget_pw0, hget_pw, hset_pw0, hset_pw]
            change ARun _ _ _ _ _ _
            refine ARun.freeze 12 (r := σ.length + (j.length + (j2.length + (j3.length + 1) + 1 + 1 + 1) + 1 + 1 + 1)) (n := l0.length) (sz := 1) (xs := (l0.set pl.toNat nv).map (.int .i64)) rfl (by simp [upd, ins, lookA]) (by simp only [hget_pw, List.getElem?_cons_succ, List.getElem?_cons_zero, getElem?_at, getElem?_at', List.map_set]) (by simp) ?_
            simp only [hset_pw, List.set_cons_succ, List.set_cons_zero, set_at, set_at', ins, ↓reduceIte, Nat.reduceEqDiff]
            have hfinB := hfin (l0.set pl.toNat nv) (by rw [List.length_set]; omega) (fun x hx => by
              rcases List.mem_or_eq_of_mem_set hx with hx | rfl
              · exact hl0'.2 x hx
              · omega)
            refine ev_sound (Tryd.envOK 109 Tryd.ord12 fs0 fs0_ok) (n := 100000) (by repeat (first | exact hK2 | (rw [todoOK_cons, Bool.and_eq_true]; refine ⟨by kernel_rfl, ?_⟩))) ?_
            simp -implicitDefEqProofs (maxSteps := 2000000) (disch := omega) only [go_sem, reduceCtorEq, Nat.reduceAdd, Nat.reduceSub, Nat.reduceMul, Nat.reduceLT, Nat.reduceLeDiff, Nat.reduceEqDiff, Nat.reduceBEq, Int.reduceToNat, Int.reduceLT, Int.reduceLE, Int.reduceEq, Int.reduceNeg, Int.reduceAdd, Int.reduceSub, Int.reduceMul, ↓reduceIte, Int.reduceBEq, Int.reduceBNe, length_pw, hget_pw0, hget_pw, hset_pw0, hset_pw]
            refine upto_c r 80 (by omega) _ (hp.pw _).app _ fun s12 w hw1 hw2 => ?_
            rw [pw_pwa hr]
            simp -implicitDefEqProofs (maxSteps := 2000000) (disch := omega) only [go_sem, reduceCtorEq, Nat.reduceAdd, Nat.reduceSub, Nat.reduceMul, Nat.reduceLT, Nat.reduceLeDiff, Nat.reduceEqDiff, Nat.reduceBEq, Int.reduceToNat, Int.reduceLT, Int.reduceLE, Int.reduceEq, Int.reduceNeg, Int.reduceAdd, Int.reduceSub, Int.reduceMul, ↓reduceIte, Int.reduceBEq, Int.reduceBNe, length_pw, hget_pw0, hget_pw, hset_pw0, hset_pw]
            generalize hto : (if fr2 + w < 9999 then fr2 + w else 9999) = to
            have hto2 : fr2 ≤ to ∧ to ≤ 9999 := by split at hto <;> omega
            clear hto hw1 hw2
            refine upto_c r 2 (by omega) _ (hp.pw _).app _ fun s13 w2 hw1 hw2 => ?_
            rw [pw_pwa hr]
            simp -implicitDefEqProofs (maxSteps := 2000000) (disch := omega) only [go_sem, reduceCtorEq, Nat.reduceAdd, Nat.reduceSub, Nat.reduceMul, Nat.reduceLT, Nat.reduceLeDiff, Nat.reduceEqDiff, Nat.reduceBEq, Int.reduceToNat, Int.reduceLT, Int.reduceLE, Int.reduceEq, Int.reduceNeg, Int.reduceAdd, Int.reduceSub, Int.reduceMul, ↓reduceIte, Int.reduceBEq, Int.reduceBNe, length_pw, hget_pw0, hget_pw, hset_pw0, hset_pw]
            generalize hfr3 : (if to + w2 < 9999 then to + w2 else 9999) = fr3
            have hfr4 : 0 ≤ fr3 ∧ fr3 ≤ 9999 := by split at hfr3 <;> omega
            clear hfr3 hw1 hw2
            refine (ih2 (k2 + 1, ls ++ [l0.set pl.toNat nv], ns ++ [⟨fr2, to⟩], fr3) _ (by simp only; omega) ⟨⟨s13, j2 ++ (.tail l.length 1 :: (j3 ++ [.dead])), rfl⟩, by simp only; omega, by simp [hls], by simp [hns], hfinB, hgin to hto2, hfr4⟩).castS (by simp [isv, Rng.av]) (by simp [upd, ins, subF, lookA]; omega)
    · rintro ⟨k2, ls, ns, fr2⟩ τ ⟨⟨s8, j2, rfl⟩, hk2, hls, hns, hlo, hno, hfr2⟩ h02
      simp only at hk2 hls hns hlo hno hfr2 h02
      have hke2 : k2 = L := by omega
      subst hke2
      simp -implicitDefEqProofs (maxSteps := 2000000) (disch := omega) only [go_sem, reduceCtorEq, Nat.reduceAdd, Nat.reduceSub, Nat.reduceMul, Nat.reduceLT, Nat.reduceLeDiff, Nat.reduceEqDiff, Nat.reduceBEq, Int.reduceToNat, Int.reduceLT, Int.reduceLE, Int.reduceEq, Int.reduceNeg, Int.reduceAdd, Int.reduceSub, Int.reduceMul, ↓reduceIte, Int.reduceBEq, Int.reduceBNe, length_pw, hget_pw0, hget_pw, hset_pw0, hset_pw]
      have hdm : decModel (.agg [.int .i64 (1900 + u), .list (.own (σ.length + (j.length + 1 + 1 + 1 + 1))) 1 (ls.map isv), .list (.own (σ.length + (j.length + 1 + 1 + 1 + 1 + 1))) 2 (ns.map Rng.av)]) = some ⟨1900 + u, ls, ns⟩ := by
        have h2 : ∀ t, decL 2 decRng (.list t 2 (ns.map Rng.av)) = some ns := fun t => decL_self (f := Rng.av) fun _ => decRng_av _
        simp only [decModel, decL_iss, h2, Option.bind_some]
      refine (ih (k + 1, xs ++ [_], ms ++ [⟨1900 + u, ls, ns⟩]) _ (by simp only; omega) ⟨⟨s8, j ++ (.cells [.int .i64 (1900 + u), .list (.own (σ.length + (j.length + 1 + 1 + 1 + 1))) 1 (ls.map isv), .list (.own (σ.length + (j.length + 1 + 1 + 1 + 1 + 1))) 2 (ns.map Rng.av)] :: .tail ls.length 1 :: .tail ns.length 2 :: j2), rfl⟩, by simp only; omega, by simp [hx], by simp [hms], decs_app hdec hdm, fun x hx => ?_⟩).castS (by simp) (by simp [upd, ins, subF, lookA]; omega)
      rcases List.mem_append.1 hx with hx | hx
      · exact hok x hx
      · simp only [List.mem_singleton] at hx; subst hx
        exact ⟨by simp only; omega, by simp only; omega, by simp only; omega, hlo, hno⟩
  · rintro ⟨k, xs, ms⟩ τ ⟨⟨s3, j, rfl⟩, hk, hx, hms, hdec, hok⟩ h0
    simp only at hk hx hms hdec hok h0
    have hke : k = N := by omega
    subst hke
    simp -implicitDefEqProofs (maxSteps := 2000000) (disch := omega) only [go_sem, reduceCtorEq, Nat.reduceAdd, Nat.reduceSub, Nat.reduceMul, Nat.reduceLT, Nat.reduceLeDiff, Nat.reduceEqDiff, Nat.reduceBEq, Int.reduceToNat, Int.reduceLT, Int.reduceLE, Int.reduceEq, Int.reduceNeg, Int.reduceAdd, Int.reduceSub, Int.reduceMul, ↓reduceIte, Int.reduceBEq, Int.reduceBNe, length_pw, hget_pw0, hget_pw, hset_pw0, hset_pw]
    have hdc : decCat (.agg [.int .i64 F, .list (.own (σ.length + 2)) 3 xs]) = some ⟨F, ms⟩ := by
      have h3 : decL 3 decModel (.list (.own (σ.length + 2)) 3 xs) = some ms := by
        show (if 3 = 3 ∨ xs = [] then decs decModel xs else none) = _
        rw [if_pos (.inl rfl), hdec]
      simp only [decCat, h3, Option.bind_some]
    have hw := (tyCat.inv (show tyCat.dec (.agg [.int .i64 F, .list (.own (σ.length + 2)) 3 xs]) = some ⟨F, ms⟩ from hdc)).1
    exact ⟨_, hw, h s3 ⟨F, ms⟩ _ ⟨by simp only; omega, by simp only; omega, hok⟩ (by simp only; omega) (by simp only; omega)⟩
end Go.Proofs
