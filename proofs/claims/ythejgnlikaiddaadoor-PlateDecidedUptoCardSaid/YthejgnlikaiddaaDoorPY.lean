/- Texts of a proof: lemmas. -/
import Derived.Test.YthejgnlikaiddaaDoorPW1
set_option linter.unusedSimpArgs false
set_option linter.unusedVariables false
set_option maxRecDepth 100000
namespace Go.Proofs
open Go Go.Mu

def fs20 (f : FuncId) (xs : List AV) : Option AV := if f = 19 then dusty_s xs else fs18 f xs
theorem fs20_ok : ∀ f xs v, fs20 f xs = some v → PureV Tryd.prog f xs v := by
  intro f xs v h
  unfold fs20 at h
  split at h
  · rename_i e; subst e; exact dusty_ok _ _ h
  exact fs18_ok _ _ _ h
attribute [go_sem] fs20 dusty_s
theorem copyOldV_c (o : Old) (hl : o.seen.length ≤ 4294967296) (σ : List AObj) (Q : AV → List AObj → Prop) (h : Q (.agg [.vec (σ.length + 2) o.seen.length, .str o.plate, .int .i64 o.changed]) (σ ++ [.cells [.vec (σ.length + 2) o.seen.length, .str o.plate, .int .i64 o.changed], .cells [.vec (σ.length + 2) o.seen.length, .str o.plate, .int .i64 o.changed], .vec 1 (o.seen.map (.int .i64))])) :
    ACalls Tryd.prog 16 [o.av] σ Q := by
  refine ACalls.of_ev (E := Tryd.Ev 8 (fun _ => ([], [])) fs0) (Tryd.envOKV 8 (fun _ => ([], [])) fs0 fs0_ok) Tryd.kp16 Tryd.func16 rfl (by kernel_rfl) (by simp [Tryd.Ev]) (Callable.of Tryd.func16 (by kernel_rfl) (by kernel_rfl)) (by kernel_rfl) ?_
  simp only [Old.av, isv]
  simp -implicitDefEqProofs (maxSteps := 2000000) (disch := omega) only [go_sem, reduceCtorEq, Nat.reduceAdd, Nat.reduceSub, Nat.reduceMul, Nat.reduceLT, Nat.reduceLeDiff, Nat.reduceEqDiff, Nat.reduceBEq, Int.reduceToNat, Int.reduceLT, Int.reduceLE, Int.reduceEq, Int.reduceNeg, Int.reduceAdd, Int.reduceSub, Int.reduceMul, ↓reduceIte, Int.reduceBEq, Int.reduceBNe]
  refine intsV_c o.seen .no hl _ _ ?_
  simp -implicitDefEqProofs (maxSteps := 2000000) (disch := omega) only [go_sem, reduceCtorEq, Nat.reduceAdd, Nat.reduceSub, Nat.reduceMul, Nat.reduceLT, Nat.reduceLeDiff, Nat.reduceEqDiff, Nat.reduceBEq, Int.reduceToNat, Int.reduceLT, Int.reduceLE, Int.reduceEq, Int.reduceNeg, Int.reduceAdd, Int.reduceSub, Int.reduceMul, ↓reduceIte, Int.reduceBEq, Int.reduceBNe]
  simpa using h
/-- A digit of a plate more. -/
def digP (P : ByteArray) (i : Nat) (d : UInt8) : ByteArray := (P.extract 0 i ++ { data := #[d] }) ++ P.extract (i + 1) 4
theorem digP_list {P : ByteArray} {i : Nat} {d : UInt8} (h4 : P.size = 4) (hi : i < 4) : (digP P i d).data.toList = P.data.toList.set i d := by
  have hl : P.data.toList.length = 4 := by rw [Array.length_toList]; exact h4
  unfold digP
  rw [app_list, app_list, ext_list, ext_list]
  generalize P.data.toList = L at hl
  match L, hl with
  | [a, b, c, e], _ =>
    have : i = 0 ∨ i = 1 ∨ i = 2 ∨ i = 3 := by omega
    rcases this with rfl | rfl | rfl | rfl <;> rfl
/-- What is seen more of a plate. -/
structure Nar (P P' : ByteArray) : Prop where
  ok : okPlate P'
  size : P'.size = 0 ∨ P'.size = 4
  reads : ∀ n, readsP P' n = true → readsP P n = true
theorem digP_nar {P : ByteArray} {i : Nat} {d : UInt8} (h4 : P.size = 4) (hi : i < 4) (hp : okPlate P) (hq : P.data.toList.getD i 0 = 63) (hd : okByte d = true) : Nar P (digP P i d) := by
  have hz : (digP P i d).size = 4 := by
    show (digP P i d).data.size = 4
    rw [← Array.length_toList, digP_list h4 hi, List.length_set, Array.length_toList]; exact h4
  have hl : P.data.toList.length = 4 := by rw [Array.length_toList]; exact h4
  refine ⟨⟨by rw [hz]; omega, ?_⟩, .inr hz, fun n h => readsP_set (i := i) (by rw [hz, h4]) (fun k hk hki => ?_) hq h⟩
  · rw [digP_list h4 hi, List.all_eq_true]
    intro b hb
    rcases List.mem_or_eq_of_mem_set hb with hb | rfl
    · exact List.all_eq_true.1 hp.2 b hb
    · exact hd
  · rw [digP_list h4 hi]
    simp only [List.getD]; rw [List.getElem?_set, if_neg (fun e => hki e.symm)]
set_option maxHeartbeats 400000000 in
theorem plateNarrowed_c (nums : List Int) (hl : nums.length ≤ 4294967296) (σ : List AObj) : ACalls Tryd.prog 5 [.list .no 1 (nums.map (.int .i64))] σ (fun v _ => v = .bool true) := by
  refine ACalls.of_ev (E := Tryd.E 139 Tryd.ord5 fs20) (Tryd.envOK 139 Tryd.ord5 fs20 fs20_ok) Tryd.kp5 Tryd.func5 rfl (by kernel_rfl) (by simp [Tryd.E]) (Callable.of Tryd.func5 (by kernel_rfl) (by kernel_rfl)) (by kernel_rfl) ?_
  simp -implicitDefEqProofs (maxSteps := 2000000) (disch := omega) only [go_sem, reduceCtorEq, Nat.reduceAdd, Nat.reduceSub, Nat.reduceMul, Nat.reduceLT, Nat.reduceLeDiff, Nat.reduceEqDiff, Nat.reduceBEq, Int.reduceToNat, Int.reduceLT, Int.reduceLE, Int.reduceEq, Int.reduceNeg, Int.reduceAdd, Int.reduceSub, Int.reduceMul, ↓reduceIte, Int.reduceBEq, Int.reduceBNe]
  refine newPot_c nums .no hl _ _ fun s0 junk0 => ?_
  have hp : PotAt (σ ++ (.cells [.int .u64 s0] :: junk0)) σ.length := ⟨s0, by rw [hget_at0]; rfl⟩
  generalize σ ++ (.cells [.int .u64 s0] :: junk0) = σ1 at hp ⊢
  generalize σ.length = r at hp ⊢
  simp -implicitDefEqProofs (maxSteps := 2000000) (disch := omega) only [go_sem, reduceCtorEq, Nat.reduceAdd, Nat.reduceSub, Nat.reduceMul, Nat.reduceLT, Nat.reduceLeDiff, Nat.reduceEqDiff, Nat.reduceBEq, Int.reduceToNat, Int.reduceLT, Int.reduceLE, Int.reduceEq, Int.reduceNeg, Int.reduceAdd, Int.reduceSub, Int.reduceMul, ↓reduceIte, Int.reduceBEq, Int.reduceBNe]
  refine catalogueOf_c r 4 4 (by omega) (by omega) _ hp _ fun s1 c junk1 hC _ _ => ?_
  replace hp : PotAt (pw σ1 r s1 ++ junk1) r := (hp.pw s1).app
  generalize pw σ1 r s1 ++ junk1 = σ2 at hp ⊢
  clear junk0 junk1
  have hr := hp.lt
  have hcat := okCat_of hC
  have hcav : c.av = .agg [.int .i64 c.features, .list .no 3 (c.models.map Model.av)] := rfl
  simp -implicitDefEqProofs (maxSteps := 2000000) (disch := omega) only [go_sem, reduceCtorEq, Nat.reduceAdd, Nat.reduceSub, Nat.reduceMul, Nat.reduceLT, Nat.reduceLeDiff, Nat.reduceEqDiff, Nat.reduceBEq, Int.reduceToNat, Int.reduceLT, Int.reduceLE, Int.reduceEq, Int.reduceNeg, Int.reduceAdd, Int.reduceSub, Int.reduceMul, ↓reduceIte, Int.reduceBEq, Int.reduceBNe, length_pw, hget_pw0, hget_pw, hset_pw0, hset_pw, hcav]
  rw [← hcav]
  refine oldOf_c r c hC _ hp.app _ fun s2 o i k n1 junk2 hO => ?_
  rw [pw_app hr]
  obtain ⟨σ3, e3⟩ : ∃ σ3, σ3 = pw σ2 r s2 ++ [.cells [.int .i64 c.features, .list .no 3 (c.models.map Model.av)]] ++ junk2 := ⟨_, rfl⟩
  rw [← e3]
  replace hp : PotAt σ3 r := by rw [e3]; exact ((hp.pw s2).app).app
  have hgc : ∀ s l, hget (pw σ3 r s ++ l) σ2.length = some (.cells [.int .i64 c.features, .list .no 3 (c.models.map Model.av)]) := fun s l => by
    rw [pw_get (by rw [e3]; simp [length_pw]) (by omega), e3, List.append_assoc, hget_pw0]; rfl
  have hgc0 : hget σ3 σ2.length = some (.cells [.int .i64 c.features, .list .no 3 (c.models.map Model.av)]) := by rw [e3, List.append_assoc, hget_pw0]; rfl
  have hgl : σ2.length < σ3.length := hget_lt hgc0
  clear e3 hr
  have hr := hp.lt
  generalize σ2.length = a at hgc hgc0 hgl ⊢
  have hOo := hO.ok
  have htr := truth_mem hC hO
  have hi := hO.hi
  have hk := hO.hk
  clear hO
  obtain ⟨S, P, ch⟩ := o
  have hcav2 : (.agg [.int .i64 c.features, .list .no 3 (c.models.map Model.av)] : AV) = c.av := rfl
  have hM := hC.model _ (List.getElem_mem hi)
  have hgd : c.models.getD i default = c.models[i] := by simp [List.getD, List.getElem?_eq_getElem hi]
  have hid : idx (c.models.map Model.av) (i : Int) = some (c.models[i]).av := idx_nat hi
  have hmav : (c.models[i]).av = .agg [.int .i64 (c.models[i]).first, .list .no 1 ((c.models[i]).looks.map isv), .list .no 2 ((c.models[i]).nums.map Rng.av)] := rfl
  rw [hgd] at hk
  rw [hgd]
  have hne : truthsM c ⟨S, P, ch⟩ ≠ [] := List.ne_nil_of_mem htr
  clear htr hgd
  have hcm := hC.models
  have hfe := hC.features
  generalize c.models[i] = M at hM hid hmav hk ⊢
  have hlk := hM.looks
  have hfi := hM.first
  have hkd : idx (M.looks.map isv) (M.first + (k : Int) - M.first) = some (isv M.looks[k]) := by
    have : M.first + (k : Int) - M.first = k := by omega
    rw [this]; exact idx_nat hk
  have hll := hM.look _ (List.getElem_mem hk)
  generalize M.looks[k] = l at hkd hll
  have hso := hOo.seen
  have hSl : S.length ≤ 4294967296 := (okOld_of hC hOo).1
  have hi1 : ∀ a b : AV, idx [a, b] 1 = some b := fun _ _ => rfl
  simp only [Old.av, isv]
  have hgcl : ∀ l, hget (σ3 ++ l) a = some (.cells [.int .i64 c.features, .list .no 3 (c.models.map Model.av)]) := fun l => by rw [hget_app hgl]; exact hgc0
  simp -implicitDefEqProofs (maxSteps := 2000000) (disch := omega) only [go_sem, reduceCtorEq, Nat.reduceAdd, Nat.reduceSub, Nat.reduceMul, Nat.reduceLT, Nat.reduceLeDiff, Nat.reduceEqDiff, Nat.reduceBEq, Int.reduceToNat, Int.reduceLT, Int.reduceLE, Int.reduceEq, Int.reduceNeg, Int.reduceAdd, Int.reduceSub, Int.reduceMul, ↓reduceIte, Int.reduceBEq, Int.reduceBNe, length_pw, hget_pw0, hget_pw, hset_pw0, hset_pw, hid, hmav, idx_zero, hgcl, hgc0]
  have hoav : (.agg [.list .no 1 (S.map (.int .i64)), .str P, .int .i64 ch] : AV) = (Old.mk S P ch).av := rfl
  rw [hoav]
  refine copyOldV_c ⟨S, P, ch⟩ hSl _ _ ?_
  simp -implicitDefEqProofs (maxSteps := 2000000) (disch := omega) only [go_sem, reduceCtorEq, Nat.reduceAdd, Nat.reduceSub, Nat.reduceMul, Nat.reduceLT, Nat.reduceLeDiff, Nat.reduceEqDiff, Nat.reduceBEq, Int.reduceToNat, Int.reduceLT, Int.reduceLE, Int.reduceEq, Int.reduceNeg, Int.reduceAdd, Int.reduceSub, Int.reduceMul, ↓reduceIte, Int.reduceBEq, Int.reduceBNe, length_pw, hget_pw0, hget_pw, hset_pw0, hset_pw]
  obtain ⟨s3, es⟩ := pw_self hp
  rw [← es]
  simp only [length_pw]
  have hsz : c.features = S.length := hso.1.symm
  have hll2 : l.length = S.length := by have := hll.1; omega
  have hS4 : S.length ≤ 4 := by omega
  refine ARun.loopH (Tryd.envOK 139 Tryd.ord5 fs20 fs20_ok) (α := Nat × List Int) (fun a => S.length - a.1)
    (fun b τ => (∃ s, τ = pw σ3 r s ++ [.cells [.list .no 1 (S.map (.int .i64)), .str P, .int .i64 ch], .cells [.int .i64 M.first, .list .no 1 (M.looks.map isv), .list .no 2 (M.nums.map Rng.av)], .cells [.vec (σ3.length + 4) S.length, .str P, .int .i64 ch], .cells [.vec (σ3.length + 4) S.length, .str P, .int .i64 ch], .vec 1 (b.2.map (.int .i64)), .cells [.vec (σ3.length + 4) S.length, .str P, .int .i64 ch]]) ∧ b.1 ≤ S.length ∧ b.2.length = S.length ∧ (∀ y ∈ b.2, 0 ≤ y ∧ y ≤ 3) ∧ (∀ g : Nat, g < S.length → tg S g = 0 ∨ tg S g = tg b.2 g) ∧ (∀ g : Nat, b.1 ≤ g → g < S.length → tg b.2 g = tg S g))
    (fun b => [(10, .int .i64 (b.1 : Int))]) (0, S) (by kernel_rfl) (by kernel_rfl) (by simp [upd, ins, subF, lookA]) ⟨⟨s3, rfl⟩, by simp, rfl, hso.2, fun g hg => .inr rfl, fun g _ _ => rfl⟩ ?_ ?_
  · rintro K Q' hK ⟨f, S'⟩ τ ⟨⟨s4, rfl⟩, hf, hS, hSb, hg1, hg2⟩ hlt ih
    simp only at hf hS hSb hg1 hg2 hlt ih
    have hfl : f < S.length := by omega
    have hSf : (S'.map (AV.int .i64))[f]? = some (.int .i64 (tg S' f)) := by rw [tgE (by omega)]; simp [List.getElem?_eq_getElem (show f < S'.length by omega)]
    have hlf : idx (l.map (AV.int .i64)) (f : Int) = some (.int .i64 (tg l f)) := by rw [idx_nat (by omega), tgE (by omega)]
    have hlb : 1 ≤ tg l f ∧ tg l f ≤ 3 := by rw [tgE (by omega)]; exact hll.2 _ (List.getElem_mem (by omega))
    have hsame := hg2 f (Nat.le_refl _) hfl
    have hkeep : ∀ g : Nat, f + 1 ≤ g → g < S.length → tg S' g = tg S g := fun g h1 h2 => hg2 g (by omega) h2
    have hset : tg S' f = 0 → ((S'.set f (tg l f)).length = S.length ∧ (∀ y ∈ S'.set f (tg l f), 0 ≤ y ∧ y ≤ 3) ∧ (∀ g : Nat, g < S.length → tg S g = 0 ∨ tg S g = tg (S'.set f (tg l f)) g) ∧ (∀ g : Nat, f + 1 ≤ g → g < S.length → tg (S'.set f (tg l f)) g = tg S g)) := fun hz => by
      refine ⟨by rw [List.length_set]; exact hS, fun y hy => ?_, fun g hg => ?_, fun g h1 h2 => ?_⟩
      · rcases List.mem_or_eq_of_mem_set hy with hy | rfl
        · exact hSb y hy
        · omega
      · rw [tg_set (by omega)]
        by_cases e : g = f
        · subst e; left; omega
        · rw [if_neg e]; exact hg1 g hg
      · rw [tg_set (by omega), if_neg (by omega)]; exact hkeep g h1 h2
    have hisl : isv l = .list .no 1 (l.map (.int .i64)) := rfl
    rw [hisl] at hkd
    clear hg2 hsame
    by_cases hz : tg S' f = 0
    · obtain ⟨q1, q2, q3, q4⟩ := hset hz
      simp -implicitDefEqProofs (maxSteps := 2000000) (disch := omega) only [go_sem, reduceCtorEq, Nat.reduceAdd, Nat.reduceSub, Nat.reduceMul, Nat.reduceLT, Nat.reduceLeDiff, Nat.reduceEqDiff, Nat.reduceBEq, Int.reduceToNat, Int.reduceLT, Int.reduceLE, Int.reduceEq, Int.reduceNeg, Int.reduceAdd, Int.reduceSub, Int.reduceMul, ↓reduceIte, Int.reduceBEq, Int.reduceBNe, length_pw, hget_pw0, hget_pw, hset_pw0, hset_pw, hgc, hSf]
      refine odds_c r 1 2 (by omega) (by omega) _ (hp.pw _).app _ fun s5 b => ?_
      rw [pw_pwa hr]
      cases b
      · simp -implicitDefEqProofs (maxSteps := 2000000) (disch := omega) only [go_sem, reduceCtorEq, Nat.reduceAdd, Nat.reduceSub, Nat.reduceMul, Nat.reduceLT, Nat.reduceLeDiff, Nat.reduceEqDiff, Nat.reduceBEq, Int.reduceToNat, Int.reduceLT, Int.reduceLE, Int.reduceEq, Int.reduceNeg, Int.reduceAdd, Int.reduceSub, Int.reduceMul, ↓reduceIte, Int.reduceBEq, Int.reduceBNe, length_pw, hget_pw0, hget_pw, hset_pw0, hset_pw, hgc, hSf]
        exact (ih (f + 1, S') _ (by simp only; omega) ⟨⟨s5, rfl⟩, by simp only; omega, hS, hSb, hg1, hkeep⟩).castS rfl (by simp [upd, ins, subF, lookA])
      · simp -implicitDefEqProofs (maxSteps := 2000000) (disch := omega) only [go_sem, reduceCtorEq, Nat.reduceAdd, Nat.reduceSub, Nat.reduceMul, Nat.reduceLT, Nat.reduceLeDiff, Nat.reduceEqDiff, Nat.reduceBEq, Int.reduceToNat, Int.reduceLT, Int.reduceLE, Int.reduceEq, Int.reduceNeg, Int.reduceAdd, Int.reduceSub, Int.reduceMul, ↓reduceIte, Int.reduceBEq, Int.reduceBNe, length_pw, hget_pw0, hget_pw, hset_pw0, hset_pw, hgc, hSf, hkd, hlf, hi1]
        exact (ih (f + 1, S'.set f (tg l f)) _ (by simp only; omega) ⟨⟨s5, rfl⟩, by simp only; omega, q1, q2, q3, q4⟩).castS (by simp [List.map_set]) (by simp [upd, ins, subF, lookA])
    · simp -implicitDefEqProofs (maxSteps := 2000000) (disch := omega) only [go_sem, reduceCtorEq, Nat.reduceAdd, Nat.reduceSub, Nat.reduceMul, Nat.reduceLT, Nat.reduceLeDiff, Nat.reduceEqDiff, Nat.reduceBEq, Int.reduceToNat, Int.reduceLT, Int.reduceLE, Int.reduceEq, Int.reduceNeg, Int.reduceAdd, Int.reduceSub, Int.reduceMul, ↓reduceIte, Int.reduceBEq, Int.reduceBNe, length_pw, hget_pw0, hget_pw, hset_pw0, hset_pw, hgc, hSf]
      exact (ih (f + 1, S') _ (by simp only; omega) ⟨⟨s4, rfl⟩, by simp only; omega, hS, hSb, hg1, hkeep⟩).castS rfl (by simp [upd, ins, subF, lookA])
  · rintro hO ⟨f, S'⟩ τ ⟨⟨s4, rfl⟩, hf, hS, hSb, hg1, _⟩ h0
    simp only at hf hS hSb hg1 h0
    clear hkd hll hlk hfi hid hmav hM
    have hPl := hOo.plate
    have hPz := hOo.psize
    simp only at hPl hPz
    refine' ARun.cutP (α := ByteArray × Int) (fun b => Nar P b.1) (fun b => [(2, .bool false), (3, .ptr r 0), (4, .ptr a 0), (5, .ptr σ3.length 0), (9, .ptr (σ3.length + 5) 0)])
      (fun b => pw σ3 r b.2 ++ [.cells [.list .no 1 (S.map (.int .i64)), .str P, .int .i64 ch], .cells [.int .i64 M.first, .list .no 1 (M.looks.map isv), .list .no 2 (M.nums.map Rng.av)], .cells [.vec (σ3.length + 4) S.length, .str P, .int .i64 ch], .cells [.vec (σ3.length + 4) S.length, .str P, .int .i64 ch], .vec 1 (S'.map (.int .i64)), .cells [.vec (σ3.length + 4) S.length, .str b.1, .int .i64 ch]]) (fun hG => ?way) ?rest
    case way =>
      by_cases hz : P.size = 0
      · have hq : (P.toList == ({ data := #[] } : ByteArray).toList) = true := by rw [beq_iff_eq, str_nil]; exact hz
        refine ev_sound (Tryd.envOK 139 Tryd.ord5 fs20 fs20_ok) (n := 10) hO ?_
        simp -implicitDefEqProofs (maxSteps := 2000000) (disch := omega) only [go_sem, reduceCtorEq, Nat.reduceAdd, Nat.reduceSub, Nat.reduceMul, Nat.reduceLT, Nat.reduceLeDiff, Nat.reduceEqDiff, Nat.reduceBEq, Int.reduceToNat, Int.reduceLT, Int.reduceLE, Int.reduceEq, Int.reduceNeg, Int.reduceAdd, Int.reduceSub, Int.reduceMul, ↓reduceIte, Int.reduceBEq, Int.reduceBNe, length_pw, hget_pw0, hget_pw, hset_pw0, hset_pw, hgc, hq]
        change ARun _ _ _ _ _ _
        exact (hG (P, s4) ⟨hPl, hPz, fun _ h => h⟩).castS (by first | rfl | simp) (by simp [upd, ins, subF, lookA])
      · have h4 : P.size = 4 := by omega
        have hq : (P.toList == ({ data := #[] } : ByteArray).toList) = false := by
          rw [Bool.eq_false_iff, ne_eq, beq_iff_eq, str_nil]; exact hz
        refine ev_sound (Tryd.envOK 139 Tryd.ord5 fs20 fs20_ok) (n := 15) hO ?_
        simp -implicitDefEqProofs (maxSteps := 2000000) (disch := omega) only [go_sem, reduceCtorEq, Nat.reduceAdd, Nat.reduceSub, Nat.reduceMul, Nat.reduceLT, Nat.reduceLeDiff, Nat.reduceEqDiff, Nat.reduceBEq, Int.reduceToNat, Int.reduceLT, Int.reduceLE, Int.reduceEq, Int.reduceNeg, Int.reduceAdd, Int.reduceSub, Int.reduceMul, ↓reduceIte, Int.reduceBEq, Int.reduceBNe, length_pw, hget_pw0, hget_pw, hset_pw0, hset_pw, hgc, hq]
        refine upto_c r 3 (by omega) _ (hp.pw _).app _ fun s5 i0 hi1 hi2 => ?_
        rw [pw_pwa hr]
        obtain ⟨i, rfl⟩ : ∃ i : Nat, i0 = i := ⟨i0.toNat, by omega⟩
        have hi : i < 4 := by omega
        have hgp : P[i]? = some (P.data.toList.getD i 0) := str_get (by omega)
        by_cases hb : P.data.toList.getD i 0 = 63
        · rw [hb] at hgp
          have hb3 : ((63 : UInt8).toNat : Int) = 63 := rfl
          simp -implicitDefEqProofs (maxSteps := 2000000) (disch := omega) only [go_sem, reduceCtorEq, Nat.reduceAdd, Nat.reduceSub, Nat.reduceMul, Nat.reduceLT, Nat.reduceLeDiff, Nat.reduceEqDiff, Nat.reduceBEq, Int.reduceToNat, Int.reduceLT, Int.reduceLE, Int.reduceEq, Int.reduceNeg, Int.reduceAdd, Int.reduceSub, Int.reduceMul, ↓reduceIte, Int.reduceBEq, Int.reduceBNe, length_pw, hget_pw0, hget_pw, hset_pw0, hset_pw, hgc, hq, hgp, hb3]
          refine upto_c r 9 (by omega) _ (hp.pw _).app _ fun s6 d hd1 hd2 => ?_
          rw [pw_pwa hr]
          have hd : 0 ≤ d ∧ d ≤ 9 := by omega
          clear hd1 hd2
          obtain ⟨D, hD⟩ : ∃ D : UInt8, UInt8.ofNat (48 + d).toNat = D := ⟨_, rfl⟩
          have hDn : (D.toNat : Int) = 48 + d := by rw [← hD, UInt8.toNat_ofNat']; omega
          have hDo : okByte D = true := by rw [okB_byte]; omega
          have hsn : strOfNums [IntKind.u8.wrap (48 + d)] = { data := #[D] } := by
            have hw : IntKind.u8.wrap (48 + d) = 48 + d := by
              have : IntKind.u8.wrap (48 + d) = (48 + d) % 256 := rfl
              rw [this]; omega
            rw [hw, ← hD]; rfl
          have ht : ((i : Int) + 1).toNat = i + 1 := by omega
          have e1 : (P.extract 0 i).size = i := by rw [ext_size (by omega)]; omega
          have e2 : ({ data := #[D] } : ByteArray).size = 1 := rfl
          have e3 : (P.extract 0 i ++ { data := #[D] }).size = i + 1 := by rw [ByteArray.size_append, e1, e2]
          have e4 : (P.extract (i + 1) 4).size = 3 - i := by rw [ext_size (by omega)]; omega
          have e5 : (P.extract 0 i ++ { data := #[D] }) ++ P.extract (i + 1) 4 = digP P i D := rfl
          clear hD hDn
          simp -implicitDefEqProofs (maxSteps := 2000000) (disch := omega) only [go_sem, reduceCtorEq, Nat.reduceAdd, Nat.reduceSub, Nat.reduceMul, Nat.reduceLT, Nat.reduceLeDiff, Nat.reduceEqDiff, Nat.reduceBEq, Int.reduceToNat, Int.reduceLT, Int.reduceLE, Int.reduceEq, Int.reduceNeg, Int.reduceAdd, Int.reduceSub, Int.reduceMul, ↓reduceIte, Int.reduceBEq, Int.reduceBNe, length_pw, hget_pw0, hget_pw, hset_pw0, hset_pw, hgc, hq, hgp, hb3, hsn, ht, e1, e2, e3, e4, e5, h4]
          change ARun _ _ _ _ _ _
          exact (hG (digP P i D, s6) (digP_nar h4 hi hPl hb hDo)).castS (by first | rfl | simp) (by simp [upd, ins, subF, lookA])
        · have hbt : ¬ (((P.data.toList.getD i 0).toNat : Nat) : Int) = 63 := fun e => hb (by rw [← UInt8.toNat_inj]; show _ = 63; omega)
          generalize P.data.toList.getD i 0 = bt at hgp hbt
          simp -implicitDefEqProofs (maxSteps := 2000000) (disch := omega) only [go_sem, reduceCtorEq, Nat.reduceAdd, Nat.reduceSub, Nat.reduceMul, Nat.reduceLT, Nat.reduceLeDiff, Nat.reduceEqDiff, Nat.reduceBEq, Int.reduceToNat, Int.reduceLT, Int.reduceLE, Int.reduceEq, Int.reduceNeg, Int.reduceAdd, Int.reduceSub, Int.reduceMul, ↓reduceIte, Int.reduceBEq, Int.reduceBNe, length_pw, hget_pw0, hget_pw, hset_pw0, hset_pw, hgc, hq, hgp]
          change ARun _ _ _ _ _ _
          exact (hG (P, s5) ⟨hPl, hPz, fun _ h => h⟩).castS (by first | rfl | simp) (by simp [upd, ins, subF, lookA])
    case rest =>
    rintro ⟨P', s6⟩ hN
    simp only at hN ⊢
    have hcp : ch < 9223372036854775807 := by have := hOo.changed; simp only at this; omega
    refine ARun.freezeK (σ3.length + 5) 0 (r := σ3.length + 4) (n := S.length) (sz := 1) (xs := S'.map (.int .i64)) (cs := [.vec (σ3.length + 4) S.length, .str P', .int .i64 ch]) (by rw [hget_pw]; rfl) rfl (by rw [hget_pw]; rfl) (by simp [hS]) ?_
    simp only [hset_pw, List.set_cons_succ, List.set_cons_zero]
    refine ev_sound (Tryd.envOK 139 Tryd.ord5 fs20 fs20_ok) (n := 100000) (by kernel_rfl) ?_
    simp -implicitDefEqProofs (maxSteps := 2000000) (disch := omega) only [go_sem, reduceCtorEq, Nat.reduceAdd, Nat.reduceSub, Nat.reduceMul, Nat.reduceLT, Nat.reduceLeDiff, Nat.reduceEqDiff, Nat.reduceBEq, Int.reduceToNat, Int.reduceLT, Int.reduceLE, Int.reduceEq, Int.reduceNeg, Int.reduceAdd, Int.reduceSub, Int.reduceMul, ↓reduceIte, Int.reduceBEq, Int.reduceBNe, length_pw, hget_pw0, hget_pw, hset_pw0, hset_pw, hgc]
    refine upto_c r ch hcp _ (hp.pw _).app _ fun s7 ch' hc1 hc2 => ?_
    rw [pw_pwa hr]
    have hcc := hOo.changed
    simp only at hcc
    have hch : 0 ≤ ch' ∧ ch' ≤ ch := by omega
    clear hc1 hc2
    have hisS : isv S = .list .no 1 (S.map (.int .i64)) := rfl
    have hXo : OkO c ⟨S', P', ch'⟩ := ⟨⟨by simp only; omega, hSb⟩, hN.ok, hN.size, by simp only; omega⟩
    have hko := okOld_of hC hOo
    have hkx := okOld_of hC hXo
    have g1 : fitsM c ⟨S, P, ch⟩ = ((truthsM c ⟨S, P, ch⟩).map Made.pair, 0) := by rw [fitsM_val (ck_of_okO hC hOo), if_neg hne]
    have g2 := fitsM_val (ck_of_okO hC hXo)
    have hsub : ∀ m ∈ truthsM c ⟨S', P', ch'⟩, m ∈ truthsM c ⟨S, P, ch⟩ := truths_mono (fun m _ h => by
      have := changedN_mono (x := m.look) (S := S) (S' := S') hS.symm hg1
      simp only at h ⊢; omega) (fun n h => hN.reads n h)
    obtain ⟨fe, hfe, hfq⟩ : ∃ fe : Int, fitsM c ⟨S', P', ch'⟩ = ((truthsM c ⟨S', P', ch'⟩).map Made.pair, fe) ∧ (fe = 0 ∨ fe = 9) := by
      by_cases ht : truthsM c ⟨S', P', ch'⟩ = []
      · rw [if_pos ht] at g2; exact ⟨9, by rw [g2, ht]; rfl, .inr rfl⟩
      · rw [if_neg ht] at g2; exact ⟨0, g2, .inl rfl⟩
    have hl1 := truthsM_len (o := ⟨S, P, ch⟩) hC
    have hl2 := truthsM_len (o := ⟨S', P', ch'⟩) hC
    have hmo : ∀ t ∈ (truthsM c ⟨S', P', ch'⟩).map Made.pair, t ∈ (truthsM c ⟨S, P, ch⟩).map Made.pair := fun t ht => by
      obtain ⟨m, hm, rfl⟩ := List.mem_map.1 ht
      exact List.mem_map.2 ⟨m, hsub m hm, rfl⟩
    have ht1 : ∀ x ∈ (truthsM c ⟨S, P, ch⟩).map Made.pair, x.length ≤ 4294967296 := fun t ht => by
      obtain ⟨m, hm, rfl⟩ := List.mem_map.1 ht; simp [Made.pair]
    have ht2 : ∀ x ∈ (truthsM c ⟨S', P', ch'⟩).map Made.pair, x.length ≤ 4294967296 := fun t ht => by
      obtain ⟨m, hm, rfl⟩ := List.mem_map.1 ht; simp [Made.pair]
    have hb1 : ((truthsM c ⟨S, P, ch⟩).map Made.pair).length ≤ 4294967296 := by rw [List.length_map]; omega
    have hb2 : ((truthsM c ⟨S', P', ch'⟩).map Made.pair).length ≤ 4294967296 := by rw [List.length_map]; omega
    clear hsub g2 hne hl1 hl2
    generalize (truthsM c ⟨S, P, ch⟩).map Made.pair = B' at *
    generalize (truthsM c ⟨S', P', ch'⟩).map Made.pair = B at *
    refine (?f : ?G → _) ?g
    case f =>
      intro hG
      rcases hfq with hfq | hfq
      all_goals
        simp -implicitDefEqProofs (maxSteps := 2000000) (disch := omega) only [go_sem, reduceCtorEq, Nat.reduceAdd, Nat.reduceSub, Nat.reduceMul, Nat.reduceLT, Nat.reduceLeDiff, Nat.reduceEqDiff, Nat.reduceBEq, Int.reduceToNat, Int.reduceLT, Int.reduceLE, Int.reduceEq, Int.reduceNeg, Int.reduceAdd, Int.reduceSub, Int.reduceMul, ↓reduceIte, Int.reduceBEq, Int.reduceBNe, length_pw, hget_pw0, hget_pw, hset_pw0, hset_pw, hgc, Cat_eta, hcat, hko, hkx, g1, hfe]
        exact hG
    refine ARun.forG (Tryd.envOK 139 Tryd.ord5 fs20 fs20_ok) B.length (fun _ => True) (fun k => [(16, .int .i64 k)]) (fun _ _ => _) [] (by kernel_rfl) (by kernel_rfl) rfl (by simp [upd, ins, subF, lookA]) trivial ?_ ?_
    · intro K2 Q2 hK2 k j2 hk _ ih2
      have hid : idx (B.map isv) (k : Int) = some (isv B[k]) := idx_nat hk
      have hmm := hmo _ (List.getElem_mem hk)
      have htt := ht2 _ (List.getElem_mem hk)
      have ht1e : (∀ x ∈ B', x.length ≤ 4294967296) = True := eq_true ht1
      simp -implicitDefEqProofs (maxSteps := 2000000) (disch := omega) only [go_sem, reduceCtorEq, Nat.reduceAdd, Nat.reduceSub, Nat.reduceMul, Nat.reduceLT, Nat.reduceLeDiff, Nat.reduceEqDiff, Nat.reduceBEq, Int.reduceToNat, Int.reduceLT, Int.reduceLE, Int.reduceEq, Int.reduceNeg, Int.reduceAdd, Int.reduceSub, Int.reduceMul, ↓reduceIte, Int.reduceBEq, Int.reduceBNe, length_pw, hget_pw0, hget_pw, hset_pw0, hset_pw, hid, ht1e, hb1, htt, hmm]
      exact (ih2 trivial j2).castS rfl (by simp [upd, ins, subF, lookA])
    · intro j2 _
      simp -implicitDefEqProofs (maxSteps := 2000000) (disch := omega) only [go_sem, reduceCtorEq, Nat.reduceAdd, Nat.reduceSub, Nat.reduceMul, Nat.reduceLT, Nat.reduceLeDiff, Nat.reduceEqDiff, Nat.reduceBEq, Int.reduceToNat, Int.reduceLT, Int.reduceLE, Int.reduceEq, Int.reduceNeg, Int.reduceAdd, Int.reduceSub, Int.reduceMul, ↓reduceIte, Int.reduceBEq, Int.reduceBNe, length_pw, hget_pw0, hget_pw, hset_pw0, hset_pw]
end Go.Proofs
