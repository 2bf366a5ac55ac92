/- Texts of a proof: lemmas. -/
import Derived.Test.YthejgnlikaiddaaDoorPW1
set_option linter.unusedSimpArgs false
set_option linter.unusedVariables false
set_option maxRecDepth 100000
namespace Go.Proofs
open Go Go.Mu

/-- What Fits gives with so many changes less one. -/
def befL (c : Cat) (S : List Int) (P : ByteArray) : Nat → List (List Int)
  | 0 => []
  | i + 1 => (truthsM c ⟨S, P, i⟩).map Made.pair
theorem bef_mono {c : Cat} {S : List Int} {P : ByteArray} : ∀ {i : Nat}, ∀ t ∈ befL c S P i, t ∈ befL c S P (i + 1)
  | 0, t, h => by simp [befL] at h
  | i + 1, t, h => by
    simp only [befL] at h ⊢
    obtain ⟨m, hm, rfl⟩ := List.mem_map.1 h
    exact List.mem_map.2 ⟨m, truths_mono (c := c) (o := ⟨S, P, i⟩) (o' := ⟨S, P, ((i + 1 : Nat) : Int)⟩) (fun _ _ h => by simp only at h ⊢; omega) (fun n h => h) m hm, rfl⟩
theorem bef_len {c : Cat} {S : List Int} {P : ByteArray} (hC : OkC c) : ∀ {i : Nat}, (befL c S P i).length ≤ 16
  | 0 => by simp [befL]
  | i + 1 => by simp only [befL, List.length_map]; exact truthsM_len hC
theorem bef_two {c : Cat} {S : List Int} {P : ByteArray} : ∀ {i : Nat}, ∀ t ∈ befL c S P i, t.length ≤ 4294967296
  | 0, t, h => by simp [befL] at h
  | i + 1, t, h => by
    simp only [befL] at h
    obtain ⟨m, hm, rfl⟩ := List.mem_map.1 h
    simp [Made.pair]
set_option maxHeartbeats 400000000 in
theorem plateLeast_c (nums : List Int) (hl : nums.length ≤ 4294967296) (σ : List AObj) : ACalls Tryd.prog 3 [.list .no 1 (nums.map (.int .i64))] σ (fun v _ => v = .bool true) := by
  refine ACalls.of_ev (E := Tryd.E 103 (fun _ => ([], [])) fs19) (Tryd.envOK 103 (fun _ => ([], [])) fs19 fs19_ok) Tryd.kp3 Tryd.func3 rfl (by kernel_rfl) (by simp [Tryd.E]) (Callable.of Tryd.func3 (by kernel_rfl) (by kernel_rfl)) (by kernel_rfl) ?_
  simp -implicitDefEqProofs (maxSteps := 2000000) (disch := omega) only [go_sem, reduceCtorEq, Nat.reduceAdd, Nat.reduceSub, Nat.reduceMul, Nat.reduceLT, Nat.reduceLeDiff, Nat.reduceEqDiff, Nat.reduceBEq, Int.reduceToNat, Int.reduceLT, Int.reduceLE, Int.reduceEq, Int.reduceNeg, Int.reduceAdd, Int.reduceSub, Int.reduceMul, ↓reduceIte, Int.reduceBEq, Int.reduceBNe]
  refine newPot_c nums .no hl _ _ fun s0 junk0 => ?_
  have hp : PotAt (σ ++ (.cells [.int .u64 s0] :: junk0)) σ.length := ⟨s0, by rw [hget_at0]; rfl⟩
  generalize σ ++ (.cells [.int .u64 s0] :: junk0) = σ1 at hp ⊢
  generalize σ.length = r at hp ⊢
  simp -implicitDefEqProofs (maxSteps := 2000000) (disch := omega) only [go_sem, reduceCtorEq, Nat.reduceAdd, Nat.reduceSub, Nat.reduceMul, Nat.reduceLT, Nat.reduceLeDiff, Nat.reduceEqDiff, Nat.reduceBEq, Int.reduceToNat, Int.reduceLT, Int.reduceLE, Int.reduceEq, Int.reduceNeg, Int.reduceAdd, Int.reduceSub, Int.reduceMul, ↓reduceIte, Int.reduceBEq, Int.reduceBNe]
  refine catalogueOf_c r 4 3 (by omega) (by omega) _ hp _ fun s1 c junk1 hC _ _ => ?_
  replace hp : PotAt (pw σ1 r s1 ++ junk1) r := (hp.pw s1).app
  generalize pw σ1 r s1 ++ junk1 = σ2 at hp ⊢
  clear junk0 junk1
  have hr := hp.lt
  have hcat := okCat_of hC
  have hcav : c.av = .agg [.int .i64 c.features, .list .no 3 (c.models.map Model.av)] := rfl
  simp -implicitDefEqProofs (maxSteps := 2000000) (disch := omega) only [go_sem, reduceCtorEq, Nat.reduceAdd, Nat.reduceSub, Nat.reduceMul, Nat.reduceLT, Nat.reduceLeDiff, Nat.reduceEqDiff, Nat.reduceBEq, Int.reduceToNat, Int.reduceLT, Int.reduceLE, Int.reduceEq, Int.reduceNeg, Int.reduceAdd, Int.reduceSub, Int.reduceMul, ↓reduceIte, Int.reduceBEq, Int.reduceBNe, length_pw, hget_pw0, hget_pw, hset_pw0, hset_pw, hcav]
  rw [← hcav]
  refine oldOf_c r c hC _ hp.app _ fun s2 o i1 k1 n1 junk2 hO => ?_
  rw [pw_app hr]
  have hOo := hO.ok
  clear hO
  obtain ⟨S, pl, ch⟩ := o
  have hcav2 : (.agg [.int .i64 c.features, .list .no 3 (c.models.map Model.av)] : AV) = c.av := rfl
  simp only [Old.av]
  simp -implicitDefEqProofs (maxSteps := 2000000) (disch := omega) only [go_sem, reduceCtorEq, Nat.reduceAdd, Nat.reduceSub, Nat.reduceMul, Nat.reduceLT, Nat.reduceLeDiff, Nat.reduceEqDiff, Nat.reduceBEq, Int.reduceToNat, Int.reduceLT, Int.reduceLE, Int.reduceEq, Int.reduceNeg, Int.reduceAdd, Int.reduceSub, Int.reduceMul, ↓reduceIte, Int.reduceBEq, Int.reduceBNe, length_pw, hget_pw0, hget_pw, hset_pw0, hset_pw]
  refine odds_c r 1 3 (by omega) (by omega) _ (hp.pw _).app _ fun s4 b => ?_
  rw [pw_pwa hr]
  refine' ARun.cutP (α := ByteArray × Int × List AObj) (fun a => OkO c ⟨S, a.1, ch⟩) (fun a => [(2, .bool false), (4, .ptr σ2.length 0), (5, .ptr (σ2.length + (junk2.length + 1)) 0), (11, .int .i64 (leastM c ⟨S, a.1, ch⟩).1), (12, .int .i64 (leastM c ⟨S, a.1, ch⟩).2), (13, .list .full 0 []), (14, .int .i64 0)])
    (fun a => pw σ2 r a.2.1 ++ (.cells [.int .i64 c.features, .list .no 3 (c.models.map Model.av)] :: (junk2 ++ (.cells [isv S, .str a.1, .int .i64 ch] :: a.2.2)))) (fun hG => ?way) ?rest
  case way =>
    cases b
    · have hko := okOld_of hC hOo
      simp -implicitDefEqProofs (maxSteps := 2000000) (disch := omega) only [go_sem, reduceCtorEq, Nat.reduceAdd, Nat.reduceSub, Nat.reduceMul, Nat.reduceLT, Nat.reduceLeDiff, Nat.reduceEqDiff, Nat.reduceBEq, Int.reduceToNat, Int.reduceLT, Int.reduceLE, Int.reduceEq, Int.reduceNeg, Int.reduceAdd, Int.reduceSub, Int.reduceMul, ↓reduceIte, Int.reduceBEq, Int.reduceBNe, length_pw, hget_pw0, hget_pw, hset_pw0, hset_pw, Cat_eta, hcat, hko]
      exact (hG (pl, s4, []) hOo).castS (by first | rfl | simp) (by simp [upd, ins, subF, lookA])
    · simp -implicitDefEqProofs (maxSteps := 2000000) (disch := omega) only [go_sem, reduceCtorEq, Nat.reduceAdd, Nat.reduceSub, Nat.reduceMul, Nat.reduceLT, Nat.reduceLeDiff, Nat.reduceEqDiff, Nat.reduceBEq, Int.reduceToNat, Int.reduceLT, Int.reduceLE, Int.reduceEq, Int.reduceNeg, Int.reduceAdd, Int.reduceSub, Int.reduceMul, ↓reduceIte, Int.reduceBEq, Int.reduceBNe, length_pw, hget_pw0, hget_pw, hset_pw0, hset_pw, hcav]
      rw [hcav2]
      refine oldOf_c r c hC _ (hp.pw _).app _ fun s3 x i2 k2 n2 junk3 hX => ?_
      rw [pw_pwa hr]
      have hXo := hX.ok
      clear hX
      obtain ⟨S', pl', ch'⟩ := x
      simp only [Old.av, List.append_assoc, List.cons_append, List.nil_append]
      have hNo : OkO c ⟨S, pl', ch⟩ := ⟨hOo.seen, hXo.plate, hXo.psize, hOo.changed⟩
      have hko := okOld_of hC hNo
      simp -implicitDefEqProofs (maxSteps := 2000000) (disch := omega) only [go_sem, reduceCtorEq, Nat.reduceAdd, Nat.reduceSub, Nat.reduceMul, Nat.reduceLT, Nat.reduceLeDiff, Nat.reduceEqDiff, Nat.reduceBEq, Int.reduceToNat, Int.reduceLT, Int.reduceLE, Int.reduceEq, Int.reduceNeg, Int.reduceAdd, Int.reduceSub, Int.reduceMul, ↓reduceIte, Int.reduceBEq, Int.reduceBNe, length_pw, hget_pw0, hget_pw, hset_pw0, hset_pw, Cat_eta, hcat, hko]
      exact (hG (pl', s3, _) hNo).castS (by first | rfl | simp) (by simp [upd, ins, subF, lookA])
  case rest =>
  rintro ⟨P, s5, j0⟩ hPo
  simp only at hPo ⊢
  have hv := ck_of_okO hC hPo
  have hle := leastM_err hv
  have hli := fun (k : Nat) (h : k ≤ 4) => least_iff (c := c) (S := S) (P := P) (ch := ch) hv (k := (k : Int)) (by omega)
  have hkc : ∀ k : Nat, k ≤ 4 → OkO c ⟨S, P, k⟩ := fun k hk => ⟨hPo.seen, hPo.plate, hPo.psize, by simp only; omega⟩
  have hSl : S.length ≤ 4294967296 := (okOld_of hC hPo).1
  generalize (leastM c ⟨S, P, ch⟩).1 = n at hli ⊢
  generalize (leastM c ⟨S, P, ch⟩).2 = e at hle hli ⊢
  refine ARun.slotW 13 rfl (by simp [lookA]) (v' := .list .no 1 []) (Weak.nil (t := .full) (sz := 0)) ?_
  simp only [ins, ↓reduceIte, Nat.reduceEqDiff]
  refine ARun.forG (Tryd.envOK 103 (fun _ => ([], [])) fs19 fs19_ok) 5 (fun _ => True) (fun i => [(13, .list .no 1 ((befL c S P i).map isv)), (14, .int .i64 i)]) (fun _ j => pw σ2 r s5 ++ (.cells [.int .i64 c.features, .list .no 3 (c.models.map Model.av)] :: (junk2 ++ (.cells [isv S, .str P, .int .i64 ch] :: j)))) j0 (by kernel_rfl) (by kernel_rfl) rfl (by simp [upd, ins, subF, lookA, befL]) trivial ?_ ?_
  · intro K Q' hK i j hi _ ih
    have hko := okOld_of hC (hkc i (by omega))
    have hff := fitsM_val (ck_of_okO hC (hkc i (by omega)))
    obtain ⟨fe, hfe, hfq⟩ : ∃ fe : Int, fitsM c ⟨S, P, i⟩ = (befL c S P (i + 1), fe) ∧ ((fe = 0 ∧ e = 0 ∧ n ≤ i) ∨ (fe = 9 ∧ e = 0 ∧ ¬ n ≤ i) ∨ (fe = 9 ∧ e = 9)) := by
      have h2 := hli i (by omega)
      by_cases ht : truthsM c ⟨S, P, i⟩ = []
      · rw [if_pos ht] at hff
        refine ⟨9, by rw [hff]; simp [befL, ht], ?_⟩
        by_cases he : e = 0
        · exact .inr (.inl ⟨rfl, he, fun h => h2.2 ⟨he, h⟩ ht⟩)
        · exact .inr (.inr ⟨rfl, by omega⟩)
      · rw [if_neg ht] at hff
        exact ⟨0, hff, .inl ⟨rfl, h2.1 ht⟩⟩
    have hmo := bef_mono (c := c) (S := S) (P := P) (i := i)
    have hl1 := bef_len (c := c) (S := S) (P := P) hC (i := i)
    have hl2 := bef_len (c := c) (S := S) (P := P) hC (i := i + 1)
    have ht1 := bef_two (c := c) (S := S) (P := P) (i := i)
    have ht2 := bef_two (c := c) (S := S) (P := P) (i := i + 1)
    clear hff hli hkc hle
    generalize befL c S P i = B at *
    generalize befL c S P (i + 1) = B' at *
    refine (?f : ?G → _) ?g
    case f =>
      intro hG
      rcases hfq with ⟨h1, h2, h3⟩ | ⟨h1, h2, h3⟩ | ⟨h1, h2⟩
      all_goals
        simp -implicitDefEqProofs (maxSteps := 2000000) (disch := omega) only [go_sem, reduceCtorEq, Nat.reduceAdd, Nat.reduceSub, Nat.reduceMul, Nat.reduceLT, Nat.reduceLeDiff, Nat.reduceEqDiff, Nat.reduceBEq, Int.reduceToNat, Int.reduceLT, Int.reduceLE, Int.reduceEq, Int.reduceNeg, Int.reduceAdd, Int.reduceSub, Int.reduceMul, ↓reduceIte, Int.reduceBEq, Int.reduceBNe, length_pw, hget_pw0, hget_pw, hset_pw0, hset_pw, Cat_eta, hcat, hko, hSl, hfe]
        exact hG
    refine ARun.forG (Tryd.envOK 103 (fun _ => ([], [])) fs19 fs19_ok) B.length (fun _ => True) (fun k => [(18, .int .i64 k)]) (fun _ j2 => pw σ2 r s5 ++ (.cells [.int .i64 c.features, .list .no 3 (c.models.map Model.av)] :: (junk2 ++ (.cells [isv S, .str P, .int .i64 ch] :: (j ++ j2))))) _ (by kernel_rfl) (by repeat (first | exact hK | (rw [todoOK_cons, Bool.and_eq_true]; refine ⟨by kernel_rfl, ?_⟩))) rfl (by simp [upd, ins, subF, lookA]) trivial ?_ ?_
    · intro K2 Q2 hK2 k j2 hk _ ih2
      have hid : idx (B.map isv) (k : Int) = some (isv B[k]) := idx_nat hk
      have hmm := hmo _ (List.getElem_mem hk)
      have htt := ht1 _ (List.getElem_mem hk)
      have ht2e : (∀ x ∈ B', x.length ≤ 4294967296) = True := eq_true ht2
      have hbl : B'.length ≤ 4294967296 := by omega
      simp -implicitDefEqProofs (maxSteps := 2000000) (disch := omega) only [go_sem, reduceCtorEq, Nat.reduceAdd, Nat.reduceSub, Nat.reduceMul, Nat.reduceLT, Nat.reduceLeDiff, Nat.reduceEqDiff, Nat.reduceBEq, Int.reduceToNat, Int.reduceLT, Int.reduceLE, Int.reduceEq, Int.reduceNeg, Int.reduceAdd, Int.reduceSub, Int.reduceMul, ↓reduceIte, Int.reduceBEq, Int.reduceBNe, length_pw, hget_pw0, hget_pw, hset_pw0, hset_pw, hid, ht2e, hbl, htt, hmm]
      exact (ih2 trivial j2).castS rfl (by simp [upd, ins, subF, lookA])
    · intro j2 _
      simp -implicitDefEqProofs (maxSteps := 2000000) (disch := omega) only [go_sem, reduceCtorEq, Nat.reduceAdd, Nat.reduceSub, Nat.reduceMul, Nat.reduceLT, Nat.reduceLeDiff, Nat.reduceEqDiff, Nat.reduceBEq, Int.reduceToNat, Int.reduceLT, Int.reduceLE, Int.reduceEq, Int.reduceNeg, Int.reduceAdd, Int.reduceSub, Int.reduceMul, ↓reduceIte, Int.reduceBEq, Int.reduceBNe, length_pw, hget_pw0, hget_pw, hset_pw0, hset_pw]
      exact (ih trivial _).castS rfl (by simp [upd, ins, subF, lookA])
  · intro j _
    have he : e = 0 ∨ e = 9 := hle
    rcases he with he | he
    all_goals simp -implicitDefEqProofs (maxSteps := 2000000) (disch := omega) only [go_sem, reduceCtorEq, Nat.reduceAdd, Nat.reduceSub, Nat.reduceMul, Nat.reduceLT, Nat.reduceLeDiff, Nat.reduceEqDiff, Nat.reduceBEq, Int.reduceToNat, Int.reduceLT, Int.reduceLE, Int.reduceEq, Int.reduceNeg, Int.reduceAdd, Int.reduceSub, Int.reduceMul, ↓reduceIte, Int.reduceBEq, Int.reduceBNe, length_pw, hget_pw0, hget_pw, hset_pw0, hset_pw]
end Go.Proofs
