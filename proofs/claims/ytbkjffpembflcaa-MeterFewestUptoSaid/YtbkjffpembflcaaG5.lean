/- Texts of a proof: lemmas. -/
import Derived.Test.YtbkjffpembflcaaGA
import Derived.Test.YtbkjffpembflcaaMV
set_option linter.unusedSimpArgs false
set_option linter.unusedVariables false
set_option maxRecDepth 100000
namespace Go.Proofs
open Go Go.Mu

/-- A reading that is valid if one of sides shows nothing. -/
def okU (m : Nat) (r : Rd) : Prop := ckR (if r.kind = 3 then ⟨r.kind, r.a, r.b, r.sec, ⟨0, 0⟩⟩ else r) m = 0
theorem okU_of {m : Nat} {r : Rd} (h : ckR r m = 0) : okU m r := by
  unfold okU
  split
  · rename_i hk
    simp only [ckR] at h ⊢
    grind
  · exact h
theorem okU_shown {m : Nat} {r : Rd} {a : Int} (h : ckR r m = 0) (ha : 0 ≤ a ∧ a ≤ 3) : okU m ⟨r.kind, r.a, r.b, r.sec, ⟨a, 3⟩⟩ := by
  unfold okU
  simp only
  split
  · rename_i hk
    simp only [ckR] at h ⊢
    grind
  · simp only [ckR] at h ⊢
    grind
theorem ck_rds {e : Ear} {R : List Rd} (h : ck e = 0) (hl : R.length = e.rds.length) (hR : ∀ r ∈ R, ckR r e.tones.length = 0) : ck ⟨e.slack, e.tones, R⟩ = 0 := by
  have h2 : firstE (fun r => ckR r e.tones.length) R = 0 := firstE_zero fun i hi => hR _ (List.getElem_mem hi)
  simp only [ck, hl] at h ⊢
  rw [h2]
  grind
set_option maxHeartbeats 8000000 in
theorem meterFewest_c (nums : List Int) (hl : nums.length ≤ 4294967296) (σ : List AObj) : ACalls Try.prog 12 [.list .no 1 (nums.map (.int .i64))] σ (fun v _ => v = .bool true) := by
  refine ACalls.of_ev (E := Try.E 166 Try.ord12 fs41) (Try.envOK 166 Try.ord12 fs41 fs41_ok) Try.kp12 Try.func12 rfl (by kernel_rfl) (by simp [Try.E]) (Callable.of Try.func12 (by kernel_rfl) (by kernel_rfl)) (by kernel_rfl) ?_
  simp -implicitDefEqProofs (maxSteps := 2000000) (disch := omega) only [go_sem, reduceCtorEq, Nat.reduceAdd, Nat.reduceSub, Nat.reduceMul, Nat.reduceLT, Nat.reduceLeDiff, Nat.reduceEqDiff, Nat.reduceBEq, Int.reduceToNat, Int.reduceLT, Int.reduceLE, Int.reduceEq, Int.reduceNeg, Int.reduceAdd, Int.reduceSub, Int.reduceMul, ↓reduceIte, Int.reduceBEq, Int.reduceBNe]
  refine newPot_c nums .no hl _ _ fun s0 junk0 => ?_
  have hp : PotAt (σ ++ (.cells [.int .u64 s0] :: junk0)) σ.length := ⟨s0, by rw [hget_at0]; rfl⟩
  generalize σ ++ (.cells [.int .u64 s0] :: junk0) = σ1 at hp ⊢
  generalize σ.length = r at hp ⊢
  simp -implicitDefEqProofs (maxSteps := 2000000) (disch := omega) only [go_sem, reduceCtorEq, Nat.reduceAdd, Nat.reduceSub, Nat.reduceMul, Nat.reduceLT, Nat.reduceLeDiff, Nat.reduceEqDiff, Nat.reduceBEq, Int.reduceToNat, Int.reduceLT, Int.reduceLE, Int.reduceEq, Int.reduceNeg, Int.reduceAdd, Int.reduceSub, Int.reduceMul, ↓reduceIte, Int.reduceBEq, Int.reduceBNe]
  refine shaken_c r 3 5 3 (by omega) (by omega) (by omega) _ hp _ fun s1 e junk1 q hck hlo hhi hrs hq hv => ?_
  obtain ⟨sl, ts, rs⟩ := e
  simp only at hlo hhi hrs hv
  replace hp : PotAt (pw σ1 r s1 ++ junk1) r := (hp.pw s1).app
  generalize pw σ1 r s1 ++ junk1 = σ2 at hp hv ⊢
  clear junk0 junk1 hq
  have hr := hp.lt
  have hql := hget_lt hv
  have hqr : r ≠ q := fun e => by obtain ⟨s, hs⟩ := hp; rw [e, hv] at hs; cases hs
  have hvq : ∀ s X, hget (pw σ2 r s ++ X) q = some (.vec 6 (rs.map Rd.av)) := fun s X => by
    rw [hget_app (by rw [length_pw]; exact hql)]; unfold pw; rw [hget_ne hqr]; exact hv
  have hvx : ∀ X, hget (σ2 ++ X) q = some (.vec 6 (rs.map Rd.av)) := fun X => by rw [hget_app hql]; exact hv
  by_cases hn1 : 1 < rs.length
  · simp -implicitDefEqProofs (maxSteps := 2000000) (disch := omega) only [go_sem, reduceCtorEq, Nat.reduceAdd, Nat.reduceSub, Nat.reduceMul, Nat.reduceLT, Nat.reduceLeDiff, Nat.reduceEqDiff, Nat.reduceBEq, Int.reduceToNat, Int.reduceLT, Int.reduceLE, Int.reduceEq, Int.reduceNeg, Int.reduceAdd, Int.reduceSub, Int.reduceMul, ↓reduceIte, Int.reduceBEq, Int.reduceBNe, length_pw, hget_pw0, hget_pw, hset_pw0, hset_pw, hvx, hvq]
    refine odds_c r 1 3 (by omega) (by omega) _ hp.app _ fun s2 b => ?_
    rw [pw_app hr]
    cases b
    · simp -implicitDefEqProofs (maxSteps := 2000000) (disch := omega) only [go_sem, reduceCtorEq, Nat.reduceAdd, Nat.reduceSub, Nat.reduceMul, Nat.reduceLT, Nat.reduceLeDiff, Nat.reduceEqDiff, Nat.reduceBEq, Int.reduceToNat, Int.reduceLT, Int.reduceLE, Int.reduceEq, Int.reduceNeg, Int.reduceAdd, Int.reduceSub, Int.reduceMul, ↓reduceIte, Int.reduceBEq, Int.reduceBNe, length_pw, hget_pw0, hget_pw, hset_pw0, hset_pw, hvx, hvq]
      have h4 : hget (pw σ2 r s2 ++ [AObj.cells [.int .i64 sl, .list .no 2 (ts.map Rng.av), .vec q rs.length]]) σ2.length = some (.cells [.int .i64 sl, .list .no 2 (ts.map Rng.av), .vec q rs.length]) := by rw [hget_pw0]; rfl
      have hvR := hvq s2 [AObj.cells [.int .i64 sl, .list .no 2 (ts.map Rng.av), .vec q rs.length]]
      generalize pw σ2 r s2 ++ [AObj.cells [.int .i64 sl, .list .no 2 (ts.map Rng.av), .vec q rs.length]] = τ at h4 hvR ⊢
      clear hvq hvx hv hp hqr hql hr
      generalize σ2.length = R4 at h4 ⊢
      generalize rs = R at hck h4 hvR hn1 ⊢
      have hckR := hck
      clear hck
      as_aux_lemma =>
        refine ACalls.freezeA R4 2 (xs := R.map Rd.av) h4 rfl hvR (by simp) ?_
        simp only [List.set_cons_succ, List.set_cons_zero]
        have h4f : ∀ X, hget (hset (hset τ q .dead) R4 (.cells [.int .i64 sl, .list .no 2 (ts.map Rng.av), .list .no 6 (R.map Rd.av)]) ++ X) R4 = some (.cells [.int .i64 sl, .list .no 2 (ts.map Rng.av), .list .no 6 (R.map Rd.av)]) := fun X => by
          have h0 : hget (hset τ q .dead) R4 = some (.cells [.int .i64 sl, .list .no 2 (ts.map Rng.av), .vec q R.length]) := by rw [hget_ne (fun e => by rw [e, h4] at hvR; cases hvR)]; exact h4
          have h := hget_set h0 (.cells [.int .i64 sl, .list .no 2 (ts.map Rng.av), .list .no 6 (R.map Rd.av)])
          rw [hget_app (hget_lt h)]; exact h
        have h4g := h4f []
        rw [List.append_nil] at h4g
        generalize hset (hset τ q .dead) R4 (.cells [.int .i64 sl, .list .no 2 (ts.map Rng.av), .list .no 6 (R.map Rd.av)]) = τ2 at h4f h4g ⊢
        have hrn := ck_rn hckR
        have hrR : R.length ≤ 6 := hrn
        have hts : ts.length ≤ 3 := (okE_of_ck hckR).len
        obtain ⟨kk, hk1, hk2, hk3⟩ := few_ex hckR
        have hfL := fewL_eq hk2 hk1 hk3
        have hfe : falseL ⟨sl, ts, R⟩ = ((fewL ⟨sl, ts, R⟩).headD [], 0) := by unfold falseL; rw [if_pos hckR]
        have hde : doubtL ⟨sl, ts, R⟩ = ((List.range R.length).map fun (i : Nat) => verd (hasN (fewL ⟨sl, ts, R⟩) (i : Int)) (fewL ⟨sl, ts, R⟩).length, 0) := by unfold doubtL; rw [if_pos hckR]
        have hll := fewL_len hckR
        obtain ⟨kk2, hm1, hm2⟩ := fewL_mem hckR
        have hel : ∀ l ∈ fewL ⟨sl, ts, R⟩, l.length ≤ 6 := fun l hl => by rw [(comb_mem (hm2 l hl)).1]; omega
        have hpos : 0 < (fewL ⟨sl, ts, R⟩).length := List.length_pos_iff.2 (fewL_ne hckR)
        have hx0 : idx ((fewL ⟨sl, ts, R⟩).map isv) 0 = some (isv ((fewL ⟨sl, ts, R⟩).headD [])) := by
          have := idx_iss (L := fewL ⟨sl, ts, R⟩) (i := 0) hpos
          rw [head_get hpos]; exact this
        have hh6 : ((fewL ⟨sl, ts, R⟩).headD []).length ≤ 6 := by rw [head_get hpos]; exact hel _ (List.getElem_mem hpos)
        generalize fewL ⟨sl, ts, R⟩ = L at hfL hfe hde hll hm2 hel hpos hx0 hh6
        clear hm1 hm2
        obtain ⟨V, hV⟩ : ∃ V, ((List.range R.length).map fun (i : Nat) => verd (hasN L (i : Int)) L.length) = V := ⟨_, rfl⟩
        have hVl : V.length = R.length := by rw [← hV]; simp
        have hVi : ∀ i (h : i < V.length), V[i] = if ((hasN L (i : Int) : Nat) : Int) = (L.length : Int) then 1 else if ((hasN L (i : Int) : Nat) : Int) = 0 then 2 else 3 := fun i h => by
          subst hV
          rw [List.getElem_map, List.getElem_range]; exact verd_int
        rw [hV] at hde
        clear hV
        generalize L.headD [] = H0 at hfe hx0 hh6
        simp only [isv] at hx0
        refine PureV.weaken (l' := [(⟨sl, ts, R⟩ : Ear).av]) (by simp [wkL, wk, wk1, wk0, Ear.av]) (false_p ⟨sl, ts, R⟩ (by simp only; omega) (by simp only; omega)) _ _ ?_
        rw [hfe]
        clear h4 hvR hn1
        simp -implicitDefEqProofs (maxSteps := 2000000) (disch := omega) only [go_sem, reduceCtorEq, Nat.reduceAdd, Nat.reduceSub, Nat.reduceMul, Nat.reduceLT, Nat.reduceLeDiff, Nat.reduceEqDiff, Nat.reduceBEq, Int.reduceToNat, Int.reduceLT, Int.reduceLE, Int.reduceEq, Int.reduceNeg, Int.reduceAdd, Int.reduceSub, Int.reduceMul, ↓reduceIte, Int.reduceBEq, Int.reduceBNe, h4g, hde, hVl]
        refine ARun.loopJ (Try.envOK 166 Try.ord12 fs41 fs41_ok) (α := Nat) (fun i => R.length + 1 - i) (fun i τ' => (∃ j, τ' = τ2 ++ j) ∧ i ≤ kk) (fun i => [(11, .int .i64 i)]) 0 (by kernel_rfl) (by simp [upd, ins, subF, lookA]) ⟨⟨[], by simp⟩, by omega⟩ ?_
        rintro i τ' ⟨⟨j, rfl⟩, hik⟩ ih
        obtain ⟨f, hf⟩ : ∃ f : List Int → Bool, f = fun l => mayL (without ⟨sl, ts, R⟩ l) := ⟨_, rfl⟩
        have hfa : fewAt ⟨sl, ts, R⟩ i = (comb R.length i 0).filter f := by rw [hf]; rfl
        have hcl : (comb R.length i 0).length ≤ 117649 := comb_len6 (by omega) (by omega)
        have hcm : ∀ l ∈ comb R.length i 0, l.length ≤ 6 := fun l hl => by rw [(comb_mem hl).1]; omega
        simp only at hk1
        simp -implicitDefEqProofs (maxSteps := 2000000) (disch := omega) only [go_sem, reduceCtorEq, Nat.reduceAdd, Nat.reduceSub, Nat.reduceMul, Nat.reduceLT, Nat.reduceLeDiff, Nat.reduceEqDiff, Nat.reduceBEq, Int.reduceToNat, Int.reduceLT, Int.reduceLE, Int.reduceEq, Int.reduceNeg, Int.reduceAdd, Int.reduceSub, Int.reduceMul, ↓reduceIte, Int.reduceBEq, Int.reduceBNe, h4f, Int.toNat_natCast, Int.toNat_zero, tss]
        refine ARun.ghost 13 1 (sz0 := 0) rfl (by simp [lookA, upd, ins]) ?_
        simp only [ins, upd, ↓reduceIte, List.append_assoc, List.cons_append, List.nil_append, List.length_append, List.length_cons, List.length_nil, Nat.zero_add, Nat.reduceEqDiff, Nat.reduceAdd]
        generalize comb R.length i 0 = C at hfa hcl hcm ⊢
        refine ARun.forG (Try.envOK 166 Try.ord12 fs41 fs41_ok) C.length (fun _ => True) (fun k => [(13, .list (.own (τ2.length + j.length)) 1 (((C.take k).filter f).map isv)), (14, .int .i64 k)]) (fun k j2 => τ2 ++ (j ++ .tail ((C.take k).filter f).length 1 :: j2)) [] (by kernel_rfl) (by kernel_rfl) (by simp) (by simp [upd, ins, subF, lookA]) trivial ?_ ?_
        · intro K Q' hK k j2 hk _ ih2
          have hrk := idx_iss hk
          have hTl := hcm _ (List.getElem_mem hk)
          have hst : (C.take (k + 1)).filter f = (C.take k).filter f ++ (if f C[k] = true then [C[k]] else []) := by
            rw [List.take_succ_eq_append_getElem hk, List.filter_append]
            congr 1
            simp only [List.filter_cons, List.filter_nil]
          have hBl : ((C.take k).filter f).length ≤ 117649 := Nat.le_trans (List.length_filter_le _ _) (by rw [List.length_take]; omega)
          have hfk : f C[k] = mayL (without ⟨sl, ts, R⟩ C[k]) := by rw [hf]
          have hckw := ck_without (l := C[k]) hckR
          rw [hst] at ih2
          obtain ⟨⟨s', t', r'⟩, hW⟩ : ∃ W, without ⟨sl, ts, R⟩ C[k] = W := ⟨_, rfl⟩
          rw [hW] at hfk hckw
          have htn : truthsN ⟨s', t', r'⟩ = (((truthsL ⟨s', t', r'⟩).length : Int), 0) := by unfold truthsN; rw [if_pos hckw]
          have htl := truthsL_len (okE_of_ck hckw)
          have hwt := (okE_of_ck hckw).len
          have hwr := ck_rn hckw
          simp only at hwt hwr
          unfold mayL at hfk
          clear hst hf hcm hfa ih hk2 hk3 hVi hel hfe hde hckR hckw
          generalize ((C.take k).filter f) = B at hBl ih2 ⊢
          generalize C[k] = T at hW hTl hfk hrk ih2
          generalize truthsL ⟨s', t', r'⟩ = TL at hfk htn htl
          simp only [isv] at hrk
          cases hb : f T
          · rw [hb] at hfk ih2
            rw [if_neg (by simp), List.append_nil] at ih2
            have hTL : TL = [] := by simpa using hfk
            subst hTL
            simp -implicitDefEqProofs (maxSteps := 2000000) (disch := omega) only [go_sem, reduceCtorEq, Nat.reduceAdd, Nat.reduceSub, Nat.reduceMul, Nat.reduceLT, Nat.reduceLeDiff, Nat.reduceEqDiff, Nat.reduceBEq, Int.reduceToNat, Int.reduceLT, Int.reduceLE, Int.reduceEq, Int.reduceNeg, Int.reduceAdd, Int.reduceSub, Int.reduceMul, ↓reduceIte, Int.reduceBEq, Int.reduceBNe, h4f, hrk, hW, Ear.av, htn]
            exact (ih2 trivial j2).castS rfl (by simp [upd, ins, subF, lookA])
          · rw [hb] at hfk ih2
            rw [if_pos rfl] at ih2
            have hTL : 0 < TL.length := by cases TL with | nil => simp at hfk | cons a b => simp
            simp -implicitDefEqProofs (maxSteps := 2000000) (disch := omega) only [go_sem, reduceCtorEq, Nat.reduceAdd, Nat.reduceSub, Nat.reduceMul, Nat.reduceLT, Nat.reduceLeDiff, Nat.reduceEqDiff, Nat.reduceBEq, Int.reduceToNat, Int.reduceLT, Int.reduceLE, Int.reduceEq, Int.reduceNeg, Int.reduceAdd, Int.reduceSub, Int.reduceMul, ↓reduceIte, Int.reduceBEq, Int.reduceBNe, h4f, hrk, hW, Ear.av, htn]
            exact (ih2 trivial j2).castS (by simp) (by simp [upd, ins, subF, lookA, isv])
        · intro j2 _
          rw [List.take_length, ← hfa]
          have hBl : (fewAt ⟨sl, ts, R⟩ i).length ≤ 117649 := by rw [hfa]; exact Nat.le_trans (List.length_filter_le _ _) hcl
          by_cases hn : fewAt ⟨sl, ts, R⟩ i = []
          · have hik2 : i < kk := by
              rcases Nat.lt_or_ge i kk with h | h
              · exact h
              · have : i = kk := by omega
                subst this; exact absurd hn hk3
            rw [hn]
            clear hVi hel hfe hde hfa hBl
            simp -implicitDefEqProofs (maxSteps := 2000000) (disch := omega) only [go_sem, reduceCtorEq, Nat.reduceAdd, Nat.reduceSub, Nat.reduceMul, Nat.reduceLT, Nat.reduceLeDiff, Nat.reduceEqDiff, Nat.reduceBEq, Int.reduceToNat, Int.reduceLT, Int.reduceLE, Int.reduceEq, Int.reduceNeg, Int.reduceAdd, Int.reduceSub, Int.reduceMul, ↓reduceIte, Int.reduceBEq, Int.reduceBNe, List.map_nil, h4f]
            exact (ih (i + 1) _ (by omega) ⟨⟨j ++ .tail 0 1 :: j2, by simp⟩, by omega⟩).castS rfl (by simp [upd, ins, subF, lookA])
          · have hik2 : i = kk := by
              rcases Nat.lt_or_ge i kk with h | h
              · exact absurd (hk2 i h) hn
              · omega
            subst hik2
            rw [← hfL]
            clear hk2 hk3 hn hfL hfa hcm hf hBl ih hfe hde
            simp -implicitDefEqProofs (maxSteps := 2000000) (disch := omega) only [go_sem, reduceCtorEq, Nat.reduceAdd, Nat.reduceSub, Nat.reduceMul, Nat.reduceLT, Nat.reduceLeDiff, Nat.reduceEqDiff, Nat.reduceBEq, Int.reduceToNat, Int.reduceLT, Int.reduceLE, Int.reduceEq, Int.reduceNeg, Int.reduceAdd, Int.reduceSub, Int.reduceMul, ↓reduceIte, Int.reduceBEq, Int.reduceBNe, h4f]
            refine ARun.forG (Try.envOK 166 Try.ord12 fs41 fs41_ok) V.length (fun _ => True) (fun a => [(17, .int .i64 a)]) (fun _ _ => τ2 ++ (j ++ .tail L.length 1 :: j2)) [] (by kernel_rfl) (by kernel_rfl) rfl (by simp [upd, ins, subF, lookA]) trivial ?_ ?_
            · intro K Q' hK a j3 ha _ ih3
              have hva : idx (V.map (AV.int .i64)) (a : Int) = some (.int .i64 V[a]) := by rw [idx_nat ha]
              have hvv := hVi a ha
              clear hVi
              simp -implicitDefEqProofs (maxSteps := 2000000) (disch := omega) only [go_sem, reduceCtorEq, Nat.reduceAdd, Nat.reduceSub, Nat.reduceMul, Nat.reduceLT, Nat.reduceLeDiff, Nat.reduceEqDiff, Nat.reduceBEq, Int.reduceToNat, Int.reduceLT, Int.reduceLE, Int.reduceEq, Int.reduceNeg, Int.reduceAdd, Int.reduceSub, Int.reduceMul, ↓reduceIte, Int.reduceBEq, Int.reduceBNe]
              refine ARun.forG (Try.envOK 166 Try.ord12 fs41 fs41_ok) L.length (fun _ => True) (fun k => [(18, .int .i64 (hasN (L.take k) (a : Int))), (19, .int .i64 k)]) (fun _ _ => τ2 ++ (j ++ .tail L.length 1 :: j2)) [] (by kernel_rfl) (by simp only [todoOK_cons, hK, Bool.and_true]; kernel_rfl) rfl (by simp [upd, ins, subF, lookA, hasN]) trivial ?_ ?_
              · clear hK ih3 hvv hva
                intro K Q' hK k j4 hk _ ih4
                have hrk := idx_iss hk
                have hTl := hel _ (List.getElem_mem hk)
                have hst : hasN (L.take (k + 1)) (a : Int) = hasN (L.take k) (a : Int) + (if L[k].contains (a : Int) = true then 1 else 0) := filter_take_succ hk
                have hHl : hasN (L.take k) (a : Int) ≤ 117649 := Nat.le_trans (List.length_filter_le _ _) (by rw [List.length_take]; omega)
                rw [hst] at ih4
                clear hst hel
                generalize hasN (L.take k) (a : Int) = H at hHl ih4 ⊢
                generalize L[k] = T at hrk hTl ih4
                simp only [isv] at hrk
                have hpn := place_nonneg (l := T) (x := (a : Int))
                obtain ⟨z, hz⟩ : ∃ z, placeL T (a : Int) = z := ⟨_, rfl⟩
                rw [hz] at hpn
                by_cases h0 : 0 ≤ z
                · rw [← hpn, decide_eq_true h0, if_pos rfl] at ih4
                  clear hpn
                  simp -implicitDefEqProofs (maxSteps := 2000000) (disch := omega) only [go_sem, reduceCtorEq, Nat.reduceAdd, Nat.reduceSub, Nat.reduceMul, Nat.reduceLT, Nat.reduceLeDiff, Nat.reduceEqDiff, Nat.reduceBEq, Int.reduceToNat, Int.reduceLT, Int.reduceLE, Int.reduceEq, Int.reduceNeg, Int.reduceAdd, Int.reduceSub, Int.reduceMul, ↓reduceIte, Int.reduceBEq, Int.reduceBNe, hrk, hz]
                  exact (ih4 trivial j4).castS rfl (by simp [upd, ins, subF, lookA])
                · rw [← hpn, decide_eq_false h0, if_neg (by simp)] at ih4
                  clear hpn
                  simp -implicitDefEqProofs (maxSteps := 2000000) (disch := omega) only [go_sem, reduceCtorEq, Nat.reduceAdd, Nat.reduceSub, Nat.reduceMul, Nat.reduceLT, Nat.reduceLeDiff, Nat.reduceEqDiff, Nat.reduceBEq, Int.reduceToNat, Int.reduceLT, Int.reduceLE, Int.reduceEq, Int.reduceNeg, Int.reduceAdd, Int.reduceSub, Int.reduceMul, ↓reduceIte, Int.reduceBEq, Int.reduceBNe, hrk, hz]
                  exact (ih4 trivial j4).castS rfl (by simp [upd, ins, subF, lookA])
              · intro j4 _
                rw [List.take_length]
                have hHl : hasN L (a : Int) ≤ 117649 := Nat.le_trans (List.length_filter_le _ _) hll
                generalize hasN L (a : Int) = H at hHl hvv ⊢
                obtain ⟨z, hz⟩ : ∃ z, (if (H : Int) = (L.length : Int) then (1 : Int) else if (H : Int) = 0 then 2 else 3) = z := ⟨_, rfl⟩
                rw [hz] at hvv
                rw [hvv] at hva
                clear hvv
                simp -implicitDefEqProofs (maxSteps := 2000000) (disch := omega) only [go_sem, reduceCtorEq, Nat.reduceAdd, Nat.reduceSub, Nat.reduceMul, Nat.reduceLT, Nat.reduceLeDiff, Nat.reduceEqDiff, Nat.reduceBEq, Int.reduceToNat, Int.reduceLT, Int.reduceLE, Int.reduceEq, Int.reduceNeg, Int.reduceAdd, Int.reduceSub, Int.reduceMul, ↓reduceIte, Int.reduceBEq, Int.reduceBNe, hva, hz]
                exact (ih3 trivial j3).castS rfl (by simp [upd, ins, subF, lookA])
            · intro j3 _
              clear hVi hel
              simp -implicitDefEqProofs (maxSteps := 2000000) (disch := omega) only [go_sem, reduceCtorEq, Nat.reduceAdd, Nat.reduceSub, Nat.reduceMul, Nat.reduceLT, Nat.reduceLeDiff, Nat.reduceEqDiff, Nat.reduceBEq, Int.reduceToNat, Int.reduceLT, Int.reduceLE, Int.reduceEq, Int.reduceNeg, Int.reduceAdd, Int.reduceSub, Int.reduceMul, ↓reduceIte, Int.reduceBEq, Int.reduceBNe, hx0]
    · simp -implicitDefEqProofs (maxSteps := 2000000) (disch := omega) only [go_sem, reduceCtorEq, Nat.reduceAdd, Nat.reduceSub, Nat.reduceMul, Nat.reduceLT, Nat.reduceLeDiff, Nat.reduceEqDiff, Nat.reduceBEq, Int.reduceToNat, Int.reduceLT, Int.reduceLE, Int.reduceEq, Int.reduceNeg, Int.reduceAdd, Int.reduceSub, Int.reduceMul, ↓reduceIte, Int.reduceBEq, Int.reduceBNe, length_pw, hget_pw0, hget_pw, hset_pw0, hset_pw, hvx, hvq]
      refine upto_c r _ (by omega) _ (hp.pw _).app _ fun s3 kx hk1 hk2 => ?_
      rw [pw_pwa hr]
      have hkx : 0 ≤ kx ∧ kx < rs.length := by omega
      clear hk1 hk2
      simp -implicitDefEqProofs (maxSteps := 2000000) (disch := omega) only [go_sem, reduceCtorEq, Nat.reduceAdd, Nat.reduceSub, Nat.reduceMul, Nat.reduceLT, Nat.reduceLeDiff, Nat.reduceEqDiff, Nat.reduceBEq, Int.reduceToNat, Int.reduceLT, Int.reduceLE, Int.reduceEq, Int.reduceNeg, Int.reduceAdd, Int.reduceSub, Int.reduceMul, ↓reduceIte, Int.reduceBEq, Int.reduceBNe, length_pw, hget_pw0, hget_pw, hset_pw0, hset_pw, hvx, hvq]
      refine upto_c r 3 (by omega) _ (hp.pw _).app _ fun s4 u hu1 hu2 => ?_
      rw [pw_pwa hr]
      have hu : 0 ≤ u ∧ u ≤ 3 := by omega
      clear hu1 hu2
      have hrk : (rs.map Rd.av)[kx.toNat]? = some rs[kx.toNat].av := by simp [List.getElem?_eq_getElem (show kx.toNat < rs.length by omega)]
      have hrv : ckR rs[kx.toNat] ts.length = 0 := ck_rd hck _ (List.getElem_mem _)
      generalize hy : rs[kx.toNat] = y at hrk hrv
      obtain ⟨y1, y2, y3, y4, ⟨y5, y6⟩⟩ := y
      have hoy := okU_shown hrv hu
      simp only at hoy
      simp only [Rd.av] at hrk
      simp -implicitDefEqProofs (maxSteps := 2000000) (disch := omega) only [go_sem, reduceCtorEq, Nat.reduceAdd, Nat.reduceSub, Nat.reduceMul, Nat.reduceLT, Nat.reduceLeDiff, Nat.reduceEqDiff, Nat.reduceBEq, Int.reduceToNat, Int.reduceLT, Int.reduceLE, Int.reduceEq, Int.reduceNeg, Int.reduceAdd, Int.reduceSub, Int.reduceMul, ↓reduceIte, Int.reduceBEq, Int.reduceBNe, length_pw, hget_pw0, hget_pw, hset_pw0, hset_pw, hvx, hvq, hrk, Rng.av]
      have hL0 : (rs.map Rd.av).set kx.toNat (.agg [.int .i64 y1, .int .i64 y2, .int .i64 y3, .int .i64 y4, .int .i64 u, .int .i64 3]) = (rs.set kx.toNat ⟨y1, y2, y3, y4, ⟨u, 3⟩⟩).map Rd.av := by rw [List.map_set]; rfl
      rw [hL0]
      have h40 : hget (pw σ2 r s4 ++ [AObj.cells [.int .i64 sl, .list .no 2 (ts.map Rng.av), .vec q rs.length]]) σ2.length = some (.cells [.int .i64 sl, .list .no 2 (ts.map Rng.av), .vec q rs.length]) := by rw [hget_pw0]; rfl
      have hv0 := hvq s4 [AObj.cells [.int .i64 sl, .list .no 2 (ts.map Rng.av), .vec q rs.length]]
      have hn4 : q ≠ σ2.length := by omega
      generalize pw σ2 r s4 ++ [AObj.cells [.int .i64 sl, .list .no 2 (ts.map Rng.av), .vec q rs.length]] = τ0 at h40 hv0 ⊢
      clear hvq hvx hv hp hqr hql hr hL0 hrk
      generalize σ2.length = R4 at h40 hn4 ⊢
      have k4 : ∀ o, hget (hset τ0 q o) R4 = some (.cells [.int .i64 sl, .list .no 2 (ts.map Rng.av), .vec q rs.length]) := fun o => by rw [hget_ne hn4]; exact h40
      have kq : ∀ o, hget (hset τ0 q o) q = some o := fun o => hget_set hv0 o
      refine ARun.loopA (α := Nat × List Rd) (fun a => rs.length - a.1) (fun a τ => τ = hset τ0 q (.vec 6 (a.2.map Rd.av)) ∧ a.1 ≤ rs.length ∧ a.2.length = rs.length ∧ (∀ x ∈ a.2, okU ts.length x) ∧ ∀ j (h : j < a.2.length), j < a.1 → ckR a.2[j] ts.length = 0)
        (fun a => [(6, .int .i64 a.1)]) (0, rs.set kx.toNat ⟨y1, y2, y3, y4, ⟨u, 3⟩⟩) (by simp [upd, ins, subF, lookA]) ⟨rfl, by simp, by simp, fun x hx => ?_, fun j h1 h2 => absurd h2 (by simp)⟩ ?_
      · rcases List.mem_or_eq_of_mem_set hx with hm | hm
        · exact okU_of (ck_rd hck _ hm)
        · rw [hm]; exact hoy
      clear hoy hrv hy hv0 hn4 h40
      rintro ⟨i, R⟩ τ ⟨rfl, hi, hR, hU, hC⟩ ih
      simp only at hi hR hU hC ih ⊢
      by_cases hlt : i < rs.length
      · have hRi : (R.map Rd.av)[i]? = some (R[i]'(by omega)).av := by simp [List.getElem?_eq_getElem (show i < R.length by omega)]
        have hUi := hU _ (List.getElem_mem (show i < R.length by omega))
        generalize hz : R[i]'(by omega) = z at hRi hUi
        obtain ⟨z1, z2, z3, z4, ⟨z5, z6⟩⟩ := z
        simp only [Rd.av] at hRi
        refine ev_sound (Try.envOK 166 Try.ord12 fs41 fs41_ok) (n := 1000) (by kernel_rfl) ?_
        by_cases hz3 : z1 = 3
        · have hcz : ckR ⟨z1, z2, z3, z4, ⟨0, 0⟩⟩ ts.length = 0 := by unfold okU at hUi; simpa [hz3] using hUi
          simp -implicitDefEqProofs (maxSteps := 2000000) (disch := omega) only [go_sem, reduceCtorEq, Nat.reduceAdd, Nat.reduceSub, Nat.reduceMul, Nat.reduceLT, Nat.reduceLeDiff, Nat.reduceEqDiff, Nat.reduceBEq, Int.reduceToNat, Int.reduceLT, Int.reduceLE, Int.reduceEq, Int.reduceNeg, Int.reduceAdd, Int.reduceSub, Int.reduceMul, ↓reduceIte, Int.reduceBEq, Int.reduceBNe, k4, kq, hRi, Rng.av, hR]
          refine (ih (i + 1, R.set i ⟨z1, z2, z3, z4, ⟨0, 0⟩⟩) _ (by simp only; omega) ⟨rfl, by simp only; omega, by simpa using hR, fun x hx => ?_, fun j h1 h2 => ?_⟩).castS (by simp [List.map_set, Rd.av]) (by simp [upd, ins, subF, lookA])
          · rcases List.mem_or_eq_of_mem_set hx with hm | hm
            · exact hU x hm
            · rw [hm]; exact okU_of hcz
          · simp only [List.length_set] at h1 h2 ⊢
            rw [List.getElem_set]
            split
            · exact hcz
            · exact hC j h1 (by omega)
        · have hcz : ckR ⟨z1, z2, z3, z4, ⟨z5, z6⟩⟩ ts.length = 0 := by unfold okU at hUi; simpa [hz3] using hUi
          simp -implicitDefEqProofs (maxSteps := 2000000) (disch := omega) only [go_sem, reduceCtorEq, Nat.reduceAdd, Nat.reduceSub, Nat.reduceMul, Nat.reduceLT, Nat.reduceLeDiff, Nat.reduceEqDiff, Nat.reduceBEq, Int.reduceToNat, Int.reduceLT, Int.reduceLE, Int.reduceEq, Int.reduceNeg, Int.reduceAdd, Int.reduceSub, Int.reduceMul, ↓reduceIte, Int.reduceBEq, Int.reduceBNe, k4, kq, hRi, Rng.av, hR]
          refine (ih (i + 1, R) _ (by simp only; omega) ⟨rfl, by simp only; omega, hR, hU, fun j h1 h2 => ?_⟩).castS rfl (by simp [upd, ins, subF, lookA])
          by_cases hj : j = i
          · subst hj; rw [hz]; exact hcz
          · exact hC j h1 (by simp only at h2; omega)
      · have hie : i = rs.length := by omega
        subst hie
        clear ih
        have hckR : ck ⟨sl, ts, R⟩ = 0 := ck_rds hck hR fun x hx => by
          obtain ⟨j, hj, rfl⟩ := List.mem_iff_getElem.1 hx
          exact hC j hj (by omega)
        have h4 := k4 (.vec 6 (R.map Rd.av))
        have hvR := kq (.vec 6 (R.map Rd.av))
        generalize hset τ0 q (.vec 6 (R.map Rd.av)) = τ at h4 hvR ⊢
        clear k4 kq hU hC hck
        rw [← hR] at h4 hn1
        rw [← hR]
        refine ev_sound (Try.envOK 166 Try.ord12 fs41 fs41_ok) (n := 1000) (by kernel_rfl) ?_
        simp -implicitDefEqProofs (maxSteps := 2000000) (disch := omega) only [go_sem, reduceCtorEq, Nat.reduceAdd, Nat.reduceSub, Nat.reduceMul, Nat.reduceLT, Nat.reduceLeDiff, Nat.reduceEqDiff, Nat.reduceBEq, Int.reduceToNat, Int.reduceLT, Int.reduceLE, Int.reduceEq, Int.reduceNeg, Int.reduceAdd, Int.reduceSub, Int.reduceMul, ↓reduceIte, Int.reduceBEq, Int.reduceBNe, h4, hvR]
        clear hR hkx hu hi hlt
        as_aux_lemma =>
          refine ACalls.freezeA R4 2 (xs := R.map Rd.av) h4 rfl hvR (by simp) ?_
          simp only [List.set_cons_succ, List.set_cons_zero]
          have h4f : ∀ X, hget (hset (hset τ q .dead) R4 (.cells [.int .i64 sl, .list .no 2 (ts.map Rng.av), .list .no 6 (R.map Rd.av)]) ++ X) R4 = some (.cells [.int .i64 sl, .list .no 2 (ts.map Rng.av), .list .no 6 (R.map Rd.av)]) := fun X => by
            have h0 : hget (hset τ q .dead) R4 = some (.cells [.int .i64 sl, .list .no 2 (ts.map Rng.av), .vec q R.length]) := by rw [hget_ne (fun e => by rw [e, h4] at hvR; cases hvR)]; exact h4
            have h := hget_set h0 (.cells [.int .i64 sl, .list .no 2 (ts.map Rng.av), .list .no 6 (R.map Rd.av)])
            rw [hget_app (hget_lt h)]; exact h
          have h4g := h4f []
          rw [List.append_nil] at h4g
          generalize hset (hset τ q .dead) R4 (.cells [.int .i64 sl, .list .no 2 (ts.map Rng.av), .list .no 6 (R.map Rd.av)]) = τ2 at h4f h4g ⊢
          have hrn := ck_rn hckR
          have hrR : R.length ≤ 6 := hrn
          have hts : ts.length ≤ 3 := (okE_of_ck hckR).len
          obtain ⟨kk, hk1, hk2, hk3⟩ := few_ex hckR
          have hfL := fewL_eq hk2 hk1 hk3
          have hfe : falseL ⟨sl, ts, R⟩ = ((fewL ⟨sl, ts, R⟩).headD [], 0) := by unfold falseL; rw [if_pos hckR]
          have hde : doubtL ⟨sl, ts, R⟩ = ((List.range R.length).map fun (i : Nat) => verd (hasN (fewL ⟨sl, ts, R⟩) (i : Int)) (fewL ⟨sl, ts, R⟩).length, 0) := by unfold doubtL; rw [if_pos hckR]
          have hll := fewL_len hckR
          obtain ⟨kk2, hm1, hm2⟩ := fewL_mem hckR
          have hel : ∀ l ∈ fewL ⟨sl, ts, R⟩, l.length ≤ 6 := fun l hl => by rw [(comb_mem (hm2 l hl)).1]; omega
          have hpos : 0 < (fewL ⟨sl, ts, R⟩).length := List.length_pos_iff.2 (fewL_ne hckR)
          have hx0 : idx ((fewL ⟨sl, ts, R⟩).map isv) 0 = some (isv ((fewL ⟨sl, ts, R⟩).headD [])) := by
            have := idx_iss (L := fewL ⟨sl, ts, R⟩) (i := 0) hpos
            rw [head_get hpos]; exact this
          have hh6 : ((fewL ⟨sl, ts, R⟩).headD []).length ≤ 6 := by rw [head_get hpos]; exact hel _ (List.getElem_mem hpos)
          generalize fewL ⟨sl, ts, R⟩ = L at hfL hfe hde hll hm2 hel hpos hx0 hh6
          clear hm1 hm2
          obtain ⟨V, hV⟩ : ∃ V, ((List.range R.length).map fun (i : Nat) => verd (hasN L (i : Int)) L.length) = V := ⟨_, rfl⟩
          have hVl : V.length = R.length := by rw [← hV]; simp
          have hVi : ∀ i (h : i < V.length), V[i] = if ((hasN L (i : Int) : Nat) : Int) = (L.length : Int) then 1 else if ((hasN L (i : Int) : Nat) : Int) = 0 then 2 else 3 := fun i h => by
            subst hV
            rw [List.getElem_map, List.getElem_range]; exact verd_int
          rw [hV] at hde
          clear hV
          generalize L.headD [] = H0 at hfe hx0 hh6
          simp only [isv] at hx0
          refine PureV.weaken (l' := [(⟨sl, ts, R⟩ : Ear).av]) (by simp [wkL, wk, wk1, wk0, Ear.av]) (false_p ⟨sl, ts, R⟩ (by simp only; omega) (by simp only; omega)) _ _ ?_
          rw [hfe]
          clear h4 hvR hn1
          simp -implicitDefEqProofs (maxSteps := 2000000) (disch := omega) only [go_sem, reduceCtorEq, Nat.reduceAdd, Nat.reduceSub, Nat.reduceMul, Nat.reduceLT, Nat.reduceLeDiff, Nat.reduceEqDiff, Nat.reduceBEq, Int.reduceToNat, Int.reduceLT, Int.reduceLE, Int.reduceEq, Int.reduceNeg, Int.reduceAdd, Int.reduceSub, Int.reduceMul, ↓reduceIte, Int.reduceBEq, Int.reduceBNe, h4g, hde, hVl]
          refine ARun.loopJ (Try.envOK 166 Try.ord12 fs41 fs41_ok) (α := Nat) (fun i => R.length + 1 - i) (fun i τ' => (∃ j, τ' = τ2 ++ j) ∧ i ≤ kk) (fun i => [(11, .int .i64 i)]) 0 (by kernel_rfl) (by simp [upd, ins, subF, lookA]) ⟨⟨[], by simp⟩, by omega⟩ ?_
          rintro i τ' ⟨⟨j, rfl⟩, hik⟩ ih
          obtain ⟨f, hf⟩ : ∃ f : List Int → Bool, f = fun l => mayL (without ⟨sl, ts, R⟩ l) := ⟨_, rfl⟩
          have hfa : fewAt ⟨sl, ts, R⟩ i = (comb R.length i 0).filter f := by rw [hf]; rfl
          have hcl : (comb R.length i 0).length ≤ 117649 := comb_len6 (by omega) (by omega)
          have hcm : ∀ l ∈ comb R.length i 0, l.length ≤ 6 := fun l hl => by rw [(comb_mem hl).1]; omega
          simp only at hk1
          simp -implicitDefEqProofs (maxSteps := 2000000) (disch := omega) only [go_sem, reduceCtorEq, Nat.reduceAdd, Nat.reduceSub, Nat.reduceMul, Nat.reduceLT, Nat.reduceLeDiff, Nat.reduceEqDiff, Nat.reduceBEq, Int.reduceToNat, Int.reduceLT, Int.reduceLE, Int.reduceEq, Int.reduceNeg, Int.reduceAdd, Int.reduceSub, Int.reduceMul, ↓reduceIte, Int.reduceBEq, Int.reduceBNe, h4f, Int.toNat_natCast, Int.toNat_zero, tss]
          refine ARun.ghost 13 1 (sz0 := 0) rfl (by simp [lookA, upd, ins]) ?_
          simp only [ins, upd, ↓reduceIte, List.append_assoc, List.cons_append, List.nil_append, List.length_append, List.length_cons, List.length_nil, Nat.zero_add, Nat.reduceEqDiff, Nat.reduceAdd]
          generalize comb R.length i 0 = C at hfa hcl hcm ⊢
          refine ARun.forG (Try.envOK 166 Try.ord12 fs41 fs41_ok) C.length (fun _ => True) (fun k => [(13, .list (.own (τ2.length + j.length)) 1 (((C.take k).filter f).map isv)), (14, .int .i64 k)]) (fun k j2 => τ2 ++ (j ++ .tail ((C.take k).filter f).length 1 :: j2)) [] (by kernel_rfl) (by kernel_rfl) (by simp) (by simp [upd, ins, subF, lookA]) trivial ?_ ?_
          · intro K Q' hK k j2 hk _ ih2
            have hrk := idx_iss hk
            have hTl := hcm _ (List.getElem_mem hk)
            have hst : (C.take (k + 1)).filter f = (C.take k).filter f ++ (if f C[k] = true then [C[k]] else []) := by
              rw [List.take_succ_eq_append_getElem hk, List.filter_append]
              congr 1
              simp only [List.filter_cons, List.filter_nil]
            have hBl : ((C.take k).filter f).length ≤ 117649 := Nat.le_trans (List.length_filter_le _ _) (by rw [List.length_take]; omega)
            have hfk : f C[k] = mayL (without ⟨sl, ts, R⟩ C[k]) := by rw [hf]
            have hckw := ck_without (l := C[k]) hckR
            rw [hst] at ih2
            obtain ⟨⟨s', t', r'⟩, hW⟩ : ∃ W, without ⟨sl, ts, R⟩ C[k] = W := ⟨_, rfl⟩
            rw [hW] at hfk hckw
            have htn : truthsN ⟨s', t', r'⟩ = (((truthsL ⟨s', t', r'⟩).length : Int), 0) := by unfold truthsN; rw [if_pos hckw]
            have htl := truthsL_len (okE_of_ck hckw)
            have hwt := (okE_of_ck hckw).len
            have hwr := ck_rn hckw
            simp only at hwt hwr
            unfold mayL at hfk
            clear hst hf hcm hfa ih hk2 hk3 hVi hel hfe hde hckR hckw
            generalize ((C.take k).filter f) = B at hBl ih2 ⊢
            generalize C[k] = T at hW hTl hfk hrk ih2
            generalize truthsL ⟨s', t', r'⟩ = TL at hfk htn htl
            simp only [isv] at hrk
            cases hb : f T
            · rw [hb] at hfk ih2
              rw [if_neg (by simp), List.append_nil] at ih2
              have hTL : TL = [] := by simpa using hfk
              subst hTL
              simp -implicitDefEqProofs (maxSteps := 2000000) (disch := omega) only [go_sem, reduceCtorEq, Nat.reduceAdd, Nat.reduceSub, Nat.reduceMul, Nat.reduceLT, Nat.reduceLeDiff, Nat.reduceEqDiff, Nat.reduceBEq, Int.reduceToNat, Int.reduceLT, Int.reduceLE, Int.reduceEq, Int.reduceNeg, Int.reduceAdd, Int.reduceSub, Int.reduceMul, ↓reduceIte, Int.reduceBEq, Int.reduceBNe, h4f, hrk, hW, Ear.av, htn]
              exact (ih2 trivial j2).castS rfl (by simp [upd, ins, subF, lookA])
            · rw [hb] at hfk ih2
              rw [if_pos rfl] at ih2
              have hTL : 0 < TL.length := by cases TL with | nil => simp at hfk | cons a b => simp
              simp -implicitDefEqProofs (maxSteps := 2000000) (disch := omega) only [go_sem, reduceCtorEq, Nat.reduceAdd, Nat.reduceSub, Nat.reduceMul, Nat.reduceLT, Nat.reduceLeDiff, Nat.reduceEqDiff, Nat.reduceBEq, Int.reduceToNat, Int.reduceLT, Int.reduceLE, Int.reduceEq, Int.reduceNeg, Int.reduceAdd, Int.reduceSub, Int.reduceMul, ↓reduceIte, Int.reduceBEq, Int.reduceBNe, h4f, hrk, hW, Ear.av, htn]
              exact (ih2 trivial j2).castS (by simp) (by simp [upd, ins, subF, lookA, isv])
          · intro j2 _
            rw [List.take_length, ← hfa]
            have hBl : (fewAt ⟨sl, ts, R⟩ i).length ≤ 117649 := by rw [hfa]; exact Nat.le_trans (List.length_filter_le _ _) hcl
            by_cases hn : fewAt ⟨sl, ts, R⟩ i = []
            · have hik2 : i < kk := by
                rcases Nat.lt_or_ge i kk with h | h
                · exact h
                · have : i = kk := by omega
                  subst this; exact absurd hn hk3
              rw [hn]
              clear hVi hel hfe hde hfa hBl
              simp -implicitDefEqProofs (maxSteps := 2000000) (disch := omega) only [go_sem, reduceCtorEq, Nat.reduceAdd, Nat.reduceSub, Nat.reduceMul, Nat.reduceLT, Nat.reduceLeDiff, Nat.reduceEqDiff, Nat.reduceBEq, Int.reduceToNat, Int.reduceLT, Int.reduceLE, Int.reduceEq, Int.reduceNeg, Int.reduceAdd, Int.reduceSub, Int.reduceMul, ↓reduceIte, Int.reduceBEq, Int.reduceBNe, List.map_nil, h4f]
              exact (ih (i + 1) _ (by omega) ⟨⟨j ++ .tail 0 1 :: j2, by simp⟩, by omega⟩).castS rfl (by simp [upd, ins, subF, lookA])
            · have hik2 : i = kk := by
                rcases Nat.lt_or_ge i kk with h | h
                · exact absurd (hk2 i h) hn
                · omega
              subst hik2
              rw [← hfL]
              clear hk2 hk3 hn hfL hfa hcm hf hBl ih hfe hde
              simp -implicitDefEqProofs (maxSteps := 2000000) (disch := omega) only [go_sem, reduceCtorEq, Nat.reduceAdd, Nat.reduceSub, Nat.reduceMul, Nat.reduceLT, Nat.reduceLeDiff, Nat.reduceEqDiff, Nat.reduceBEq, Int.reduceToNat, Int.reduceLT, Int.reduceLE, Int.reduceEq, Int.reduceNeg, Int.reduceAdd, Int.reduceSub, Int.reduceMul, ↓reduceIte, Int.reduceBEq, Int.reduceBNe, h4f]
              refine ARun.forG (Try.envOK 166 Try.ord12 fs41 fs41_ok) V.length (fun _ => True) (fun a => [(17, .int .i64 a)]) (fun _ _ => τ2 ++ (j ++ .tail L.length 1 :: j2)) [] (by kernel_rfl) (by kernel_rfl) rfl (by simp [upd, ins, subF, lookA]) trivial ?_ ?_
              · intro K Q' hK a j3 ha _ ih3
                have hva : idx (V.map (AV.int .i64)) (a : Int) = some (.int .i64 V[a]) := by rw [idx_nat ha]
                have hvv := hVi a ha
                clear hVi
                simp -implicitDefEqProofs (maxSteps := 2000000) (disch := omega) only [go_sem, reduceCtorEq, Nat.reduceAdd, Nat.reduceSub, Nat.reduceMul, Nat.reduceLT, Nat.reduceLeDiff, Nat.reduceEqDiff, Nat.reduceBEq, Int.reduceToNat, Int.reduceLT, Int.reduceLE, Int.reduceEq, Int.reduceNeg, Int.reduceAdd, Int.reduceSub, Int.reduceMul, ↓reduceIte, Int.reduceBEq, Int.reduceBNe]
                refine ARun.forG (Try.envOK 166 Try.ord12 fs41 fs41_ok) L.length (fun _ => True) (fun k => [(18, .int .i64 (hasN (L.take k) (a : Int))), (19, .int .i64 k)]) (fun _ _ => τ2 ++ (j ++ .tail L.length 1 :: j2)) [] (by kernel_rfl) (by simp only [todoOK_cons, hK, Bool.and_true]; kernel_rfl) rfl (by simp [upd, ins, subF, lookA, hasN]) trivial ?_ ?_
                · clear hK ih3 hvv hva
                  intro K Q' hK k j4 hk _ ih4
                  have hrk := idx_iss hk
                  have hTl := hel _ (List.getElem_mem hk)
                  have hst : hasN (L.take (k + 1)) (a : Int) = hasN (L.take k) (a : Int) + (if L[k].contains (a : Int) = true then 1 else 0) := filter_take_succ hk
                  have hHl : hasN (L.take k) (a : Int) ≤ 117649 := Nat.le_trans (List.length_filter_le _ _) (by rw [List.length_take]; omega)
                  rw [hst] at ih4
                  clear hst hel
                  generalize hasN (L.take k) (a : Int) = H at hHl ih4 ⊢
                  generalize L[k] = T at hrk hTl ih4
                  simp only [isv] at hrk
                  have hpn := place_nonneg (l := T) (x := (a : Int))
                  obtain ⟨z, hz⟩ : ∃ z, placeL T (a : Int) = z := ⟨_, rfl⟩
                  rw [hz] at hpn
                  by_cases h0 : 0 ≤ z
                  · rw [← hpn, decide_eq_true h0, if_pos rfl] at ih4
                    clear hpn
                    simp -implicitDefEqProofs (maxSteps := 2000000) (disch := omega) only [go_sem, reduceCtorEq, Nat.reduceAdd, Nat.reduceSub, Nat.reduceMul, Nat.reduceLT, Nat.reduceLeDiff, Nat.reduceEqDiff, Nat.reduceBEq, Int.reduceToNat, Int.reduceLT, Int.reduceLE, Int.reduceEq, Int.reduceNeg, Int.reduceAdd, Int.reduceSub, Int.reduceMul, ↓reduceIte, Int.reduceBEq, Int.reduceBNe, hrk, hz]
                    exact (ih4 trivial j4).castS rfl (by simp [upd, ins, subF, lookA])
                  · rw [← hpn, decide_eq_false h0, if_neg (by simp)] at ih4
                    clear hpn
                    simp -implicitDefEqProofs (maxSteps := 2000000) (disch := omega) only [go_sem, reduceCtorEq, Nat.reduceAdd, Nat.reduceSub, Nat.reduceMul, Nat.reduceLT, Nat.reduceLeDiff, Nat.reduceEqDiff, Nat.reduceBEq, Int.reduceToNat, Int.reduceLT, Int.reduceLE, Int.reduceEq, Int.reduceNeg, Int.reduceAdd, Int.reduceSub, Int.reduceMul, ↓reduceIte, Int.reduceBEq, Int.reduceBNe, hrk, hz]
                    exact (ih4 trivial j4).castS rfl (by simp [upd, ins, subF, lookA])
                · intro j4 _
                  rw [List.take_length]
                  have hHl : hasN L (a : Int) ≤ 117649 := Nat.le_trans (List.length_filter_le _ _) hll
                  generalize hasN L (a : Int) = H at hHl hvv ⊢
                  obtain ⟨z, hz⟩ : ∃ z, (if (H : Int) = (L.length : Int) then (1 : Int) else if (H : Int) = 0 then 2 else 3) = z := ⟨_, rfl⟩
                  rw [hz] at hvv
                  rw [hvv] at hva
                  clear hvv
                  simp -implicitDefEqProofs (maxSteps := 2000000) (disch := omega) only [go_sem, reduceCtorEq, Nat.reduceAdd, Nat.reduceSub, Nat.reduceMul, Nat.reduceLT, Nat.reduceLeDiff, Nat.reduceEqDiff, Nat.reduceBEq, Int.reduceToNat, Int.reduceLT, Int.reduceLE, Int.reduceEq, Int.reduceNeg, Int.reduceAdd, Int.reduceSub, Int.reduceMul, ↓reduceIte, Int.reduceBEq, Int.reduceBNe, hva, hz]
                  exact (ih3 trivial j3).castS rfl (by simp [upd, ins, subF, lookA])
              · intro j3 _
                clear hVi hel
                simp -implicitDefEqProofs (maxSteps := 2000000) (disch := omega) only [go_sem, reduceCtorEq, Nat.reduceAdd, Nat.reduceSub, Nat.reduceMul, Nat.reduceLT, Nat.reduceLeDiff, Nat.reduceEqDiff, Nat.reduceBEq, Int.reduceToNat, Int.reduceLT, Int.reduceLE, Int.reduceEq, Int.reduceNeg, Int.reduceAdd, Int.reduceSub, Int.reduceMul, ↓reduceIte, Int.reduceBEq, Int.reduceBNe, hx0]
  · simp -implicitDefEqProofs (maxSteps := 2000000) (disch := omega) only [go_sem, reduceCtorEq, Nat.reduceAdd, Nat.reduceSub, Nat.reduceMul, Nat.reduceLT, Nat.reduceLeDiff, Nat.reduceEqDiff, Nat.reduceBEq, Int.reduceToNat, Int.reduceLT, Int.reduceLE, Int.reduceEq, Int.reduceNeg, Int.reduceAdd, Int.reduceSub, Int.reduceMul, ↓reduceIte, Int.reduceBEq, Int.reduceBNe, length_pw, hget_pw0, hget_pw, hset_pw0, hset_pw, hvx, hvq]
    have h4 : hget (σ2 ++ [AObj.cells [.int .i64 sl, .list .no 2 (ts.map Rng.av), .vec q rs.length]]) σ2.length = some (.cells [.int .i64 sl, .list .no 2 (ts.map Rng.av), .vec q rs.length]) := by rw [hget_at0]; rfl
    have hvR := hvx [AObj.cells [.int .i64 sl, .list .no 2 (ts.map Rng.av), .vec q rs.length]]
    generalize σ2 ++ [AObj.cells [.int .i64 sl, .list .no 2 (ts.map Rng.av), .vec q rs.length]] = τ at h4 hvR ⊢
    clear hvq hvx hv hp hqr hql hr
    generalize σ2.length = R4 at h4 ⊢
    generalize rs = R at hck h4 hvR hn1 ⊢
    have hckR := hck
    clear hck
    as_aux_lemma =>
      refine ACalls.freezeA R4 2 (xs := R.map Rd.av) h4 rfl hvR (by simp) ?_
      simp only [List.set_cons_succ, List.set_cons_zero]
      have h4f : ∀ X, hget (hset (hset τ q .dead) R4 (.cells [.int .i64 sl, .list .no 2 (ts.map Rng.av), .list .no 6 (R.map Rd.av)]) ++ X) R4 = some (.cells [.int .i64 sl, .list .no 2 (ts.map Rng.av), .list .no 6 (R.map Rd.av)]) := fun X => by
        have h0 : hget (hset τ q .dead) R4 = some (.cells [.int .i64 sl, .list .no 2 (ts.map Rng.av), .vec q R.length]) := by rw [hget_ne (fun e => by rw [e, h4] at hvR; cases hvR)]; exact h4
        have h := hget_set h0 (.cells [.int .i64 sl, .list .no 2 (ts.map Rng.av), .list .no 6 (R.map Rd.av)])
        rw [hget_app (hget_lt h)]; exact h
      have h4g := h4f []
      rw [List.append_nil] at h4g
      generalize hset (hset τ q .dead) R4 (.cells [.int .i64 sl, .list .no 2 (ts.map Rng.av), .list .no 6 (R.map Rd.av)]) = τ2 at h4f h4g ⊢
      have hrn := ck_rn hckR
      have hrR : R.length ≤ 6 := hrn
      have hts : ts.length ≤ 3 := (okE_of_ck hckR).len
      obtain ⟨kk, hk1, hk2, hk3⟩ := few_ex hckR
      have hfL := fewL_eq hk2 hk1 hk3
      have hfe : falseL ⟨sl, ts, R⟩ = ((fewL ⟨sl, ts, R⟩).headD [], 0) := by unfold falseL; rw [if_pos hckR]
      have hde : doubtL ⟨sl, ts, R⟩ = ((List.range R.length).map fun (i : Nat) => verd (hasN (fewL ⟨sl, ts, R⟩) (i : Int)) (fewL ⟨sl, ts, R⟩).length, 0) := by unfold doubtL; rw [if_pos hckR]
      have hll := fewL_len hckR
      obtain ⟨kk2, hm1, hm2⟩ := fewL_mem hckR
      have hel : ∀ l ∈ fewL ⟨sl, ts, R⟩, l.length ≤ 6 := fun l hl => by rw [(comb_mem (hm2 l hl)).1]; omega
      have hpos : 0 < (fewL ⟨sl, ts, R⟩).length := List.length_pos_iff.2 (fewL_ne hckR)
      have hx0 : idx ((fewL ⟨sl, ts, R⟩).map isv) 0 = some (isv ((fewL ⟨sl, ts, R⟩).headD [])) := by
        have := idx_iss (L := fewL ⟨sl, ts, R⟩) (i := 0) hpos
        rw [head_get hpos]; exact this
      have hh6 : ((fewL ⟨sl, ts, R⟩).headD []).length ≤ 6 := by rw [head_get hpos]; exact hel _ (List.getElem_mem hpos)
      generalize fewL ⟨sl, ts, R⟩ = L at hfL hfe hde hll hm2 hel hpos hx0 hh6
      clear hm1 hm2
      obtain ⟨V, hV⟩ : ∃ V, ((List.range R.length).map fun (i : Nat) => verd (hasN L (i : Int)) L.length) = V := ⟨_, rfl⟩
      have hVl : V.length = R.length := by rw [← hV]; simp
      have hVi : ∀ i (h : i < V.length), V[i] = if ((hasN L (i : Int) : Nat) : Int) = (L.length : Int) then 1 else if ((hasN L (i : Int) : Nat) : Int) = 0 then 2 else 3 := fun i h => by
        subst hV
        rw [List.getElem_map, List.getElem_range]; exact verd_int
      rw [hV] at hde
      clear hV
      generalize L.headD [] = H0 at hfe hx0 hh6
      simp only [isv] at hx0
      refine PureV.weaken (l' := [(⟨sl, ts, R⟩ : Ear).av]) (by simp [wkL, wk, wk1, wk0, Ear.av]) (false_p ⟨sl, ts, R⟩ (by simp only; omega) (by simp only; omega)) _ _ ?_
      rw [hfe]
      clear h4 hvR hn1
      simp -implicitDefEqProofs (maxSteps := 2000000) (disch := omega) only [go_sem, reduceCtorEq, Nat.reduceAdd, Nat.reduceSub, Nat.reduceMul, Nat.reduceLT, Nat.reduceLeDiff, Nat.reduceEqDiff, Nat.reduceBEq, Int.reduceToNat, Int.reduceLT, Int.reduceLE, Int.reduceEq, Int.reduceNeg, Int.reduceAdd, Int.reduceSub, Int.reduceMul, ↓reduceIte, Int.reduceBEq, Int.reduceBNe, h4g, hde, hVl]
      refine ARun.loopJ (Try.envOK 166 Try.ord12 fs41 fs41_ok) (α := Nat) (fun i => R.length + 1 - i) (fun i τ' => (∃ j, τ' = τ2 ++ j) ∧ i ≤ kk) (fun i => [(11, .int .i64 i)]) 0 (by kernel_rfl) (by simp [upd, ins, subF, lookA]) ⟨⟨[], by simp⟩, by omega⟩ ?_
      rintro i τ' ⟨⟨j, rfl⟩, hik⟩ ih
      obtain ⟨f, hf⟩ : ∃ f : List Int → Bool, f = fun l => mayL (without ⟨sl, ts, R⟩ l) := ⟨_, rfl⟩
      have hfa : fewAt ⟨sl, ts, R⟩ i = (comb R.length i 0).filter f := by rw [hf]; rfl
      have hcl : (comb R.length i 0).length ≤ 117649 := comb_len6 (by omega) (by omega)
      have hcm : ∀ l ∈ comb R.length i 0, l.length ≤ 6 := fun l hl => by rw [(comb_mem hl).1]; omega
      simp only at hk1
      simp -implicitDefEqProofs (maxSteps := 2000000) (disch := omega) only [go_sem, reduceCtorEq, Nat.reduceAdd, Nat.reduceSub, Nat.reduceMul, Nat.reduceLT, Nat.reduceLeDiff, Nat.reduceEqDiff, Nat.reduceBEq, Int.reduceToNat, Int.reduceLT, Int.reduceLE, Int.reduceEq, Int.reduceNeg, Int.reduceAdd, Int.reduceSub, Int.reduceMul, ↓reduceIte, Int.reduceBEq, Int.reduceBNe, h4f, Int.toNat_natCast, Int.toNat_zero, tss]
      refine ARun.ghost 13 1 (sz0 := 0) rfl (by simp [lookA, upd, ins]) ?_
      simp only [ins, upd, ↓reduceIte, List.append_assoc, List.cons_append, List.nil_append, List.length_append, List.length_cons, List.length_nil, Nat.zero_add, Nat.reduceEqDiff, Nat.reduceAdd]
      generalize comb R.length i 0 = C at hfa hcl hcm ⊢
      refine ARun.forG (Try.envOK 166 Try.ord12 fs41 fs41_ok) C.length (fun _ => True) (fun k => [(13, .list (.own (τ2.length + j.length)) 1 (((C.take k).filter f).map isv)), (14, .int .i64 k)]) (fun k j2 => τ2 ++ (j ++ .tail ((C.take k).filter f).length 1 :: j2)) [] (by kernel_rfl) (by kernel_rfl) (by simp) (by simp [upd, ins, subF, lookA]) trivial ?_ ?_
      · intro K Q' hK k j2 hk _ ih2
        have hrk := idx_iss hk
        have hTl := hcm _ (List.getElem_mem hk)
        have hst : (C.take (k + 1)).filter f = (C.take k).filter f ++ (if f C[k] = true then [C[k]] else []) := by
          rw [List.take_succ_eq_append_getElem hk, List.filter_append]
          congr 1
          simp only [List.filter_cons, List.filter_nil]
        have hBl : ((C.take k).filter f).length ≤ 117649 := Nat.le_trans (List.length_filter_le _ _) (by rw [List.length_take]; omega)
        have hfk : f C[k] = mayL (without ⟨sl, ts, R⟩ C[k]) := by rw [hf]
        have hckw := ck_without (l := C[k]) hckR
        rw [hst] at ih2
        obtain ⟨⟨s', t', r'⟩, hW⟩ : ∃ W, without ⟨sl, ts, R⟩ C[k] = W := ⟨_, rfl⟩
        rw [hW] at hfk hckw
        have htn : truthsN ⟨s', t', r'⟩ = (((truthsL ⟨s', t', r'⟩).length : Int), 0) := by unfold truthsN; rw [if_pos hckw]
        have htl := truthsL_len (okE_of_ck hckw)
        have hwt := (okE_of_ck hckw).len
        have hwr := ck_rn hckw
        simp only at hwt hwr
        unfold mayL at hfk
        clear hst hf hcm hfa ih hk2 hk3 hVi hel hfe hde hckR hckw
        generalize ((C.take k).filter f) = B at hBl ih2 ⊢
        generalize C[k] = T at hW hTl hfk hrk ih2
        generalize truthsL ⟨s', t', r'⟩ = TL at hfk htn htl
        simp only [isv] at hrk
        cases hb : f T
        · rw [hb] at hfk ih2
          rw [if_neg (by simp), List.append_nil] at ih2
          have hTL : TL = [] := by simpa using hfk
          subst hTL
          simp -implicitDefEqProofs (maxSteps := 2000000) (disch := omega) only [go_sem, reduceCtorEq, Nat.reduceAdd, Nat.reduceSub, Nat.reduceMul, Nat.reduceLT, Nat.reduceLeDiff, Nat.reduceEqDiff, Nat.reduceBEq, Int.reduceToNat, Int.reduceLT, Int.reduceLE, Int.reduceEq, Int.reduceNeg, Int.reduceAdd, Int.reduceSub, Int.reduceMul, ↓reduceIte, Int.reduceBEq, Int.reduceBNe, h4f, hrk, hW, Ear.av, htn]
          exact (ih2 trivial j2).castS rfl (by simp [upd, ins, subF, lookA])
        · rw [hb] at hfk ih2
          rw [if_pos rfl] at ih2
          have hTL : 0 < TL.length := by cases TL with | nil => simp at hfk | cons a b => simp
          simp -implicitDefEqProofs (maxSteps := 2000000) (disch := omega) only [go_sem, reduceCtorEq, Nat.reduceAdd, Nat.reduceSub, Nat.reduceMul, Nat.reduceLT, Nat.reduceLeDiff, Nat.reduceEqDiff, Nat.reduceBEq, Int.reduceToNat, Int.reduceLT, Int.reduceLE, Int.reduceEq, Int.reduceNeg, Int.reduceAdd, Int.reduceSub, Int.reduceMul, ↓reduceIte, Int.reduceBEq, Int.reduceBNe, h4f, hrk, hW, Ear.av, htn]
          exact (ih2 trivial j2).castS (by simp) (by simp [upd, ins, subF, lookA, isv])
      · intro j2 _
        rw [List.take_length, ← hfa]
        have hBl : (fewAt ⟨sl, ts, R⟩ i).length ≤ 117649 := by rw [hfa]; exact Nat.le_trans (List.length_filter_le _ _) hcl
        by_cases hn : fewAt ⟨sl, ts, R⟩ i = []
        · have hik2 : i < kk := by
            rcases Nat.lt_or_ge i kk with h | h
            · exact h
            · have : i = kk := by omega
              subst this; exact absurd hn hk3
          rw [hn]
          clear hVi hel hfe hde hfa hBl
          simp -implicitDefEqProofs (maxSteps := 2000000) (disch := omega) only [go_sem, reduceCtorEq, Nat.reduceAdd, Nat.reduceSub, Nat.reduceMul, Nat.reduceLT, Nat.reduceLeDiff, Nat.reduceEqDiff, Nat.reduceBEq, Int.reduceToNat, Int.reduceLT, Int.reduceLE, Int.reduceEq, Int.reduceNeg, Int.reduceAdd, Int.reduceSub, Int.reduceMul, ↓reduceIte, Int.reduceBEq, Int.reduceBNe, List.map_nil, h4f]
          exact (ih (i + 1) _ (by omega) ⟨⟨j ++ .tail 0 1 :: j2, by simp⟩, by omega⟩).castS rfl (by simp [upd, ins, subF, lookA])
        · have hik2 : i = kk := by
            rcases Nat.lt_or_ge i kk with h | h
            · exact absurd (hk2 i h) hn
            · omega
          subst hik2
          rw [← hfL]
          clear hk2 hk3 hn hfL hfa hcm hf hBl ih hfe hde
          simp -implicitDefEqProofs (maxSteps := 2000000) (disch := omega) only [go_sem, reduceCtorEq, Nat.reduceAdd, Nat.reduceSub, Nat.reduceMul, Nat.reduceLT, Nat.reduceLeDiff, Nat.reduceEqDiff, Nat.reduceBEq, Int.reduceToNat, Int.reduceLT, Int.reduceLE, Int.reduceEq, Int.reduceNeg, Int.reduceAdd, Int.reduceSub, Int.reduceMul, ↓reduceIte, Int.reduceBEq, Int.reduceBNe, h4f]
          refine ARun.forG (Try.envOK 166 Try.ord12 fs41 fs41_ok) V.length (fun _ => True) (fun a => [(17, .int .i64 a)]) (fun _ _ => τ2 ++ (j ++ .tail L.length 1 :: j2)) [] (by kernel_rfl) (by kernel_rfl) rfl (by simp [upd, ins, subF, lookA]) trivial ?_ ?_
          · intro K Q' hK a j3 ha _ ih3
            have hva : idx (V.map (AV.int .i64)) (a : Int) = some (.int .i64 V[a]) := by rw [idx_nat ha]
            have hvv := hVi a ha
            clear hVi
            simp -implicitDefEqProofs (maxSteps := 2000000) (disch := omega) only [go_sem, reduceCtorEq, Nat.reduceAdd, Nat.reduceSub, Nat.reduceMul, Nat.reduceLT, Nat.reduceLeDiff, Nat.reduceEqDiff, Nat.reduceBEq, Int.reduceToNat, Int.reduceLT, Int.reduceLE, Int.reduceEq, Int.reduceNeg, Int.reduceAdd, Int.reduceSub, Int.reduceMul, ↓reduceIte, Int.reduceBEq, Int.reduceBNe]
            refine ARun.forG (Try.envOK 166 Try.ord12 fs41 fs41_ok) L.length (fun _ => True) (fun k => [(18, .int .i64 (hasN (L.take k) (a : Int))), (19, .int .i64 k)]) (fun _ _ => τ2 ++ (j ++ .tail L.length 1 :: j2)) [] (by kernel_rfl) (by simp only [todoOK_cons, hK, Bool.and_true]; kernel_rfl) rfl (by simp [upd, ins, subF, lookA, hasN]) trivial ?_ ?_
            · clear hK ih3 hvv hva
              intro K Q' hK k j4 hk _ ih4
              have hrk := idx_iss hk
              have hTl := hel _ (List.getElem_mem hk)
              have hst : hasN (L.take (k + 1)) (a : Int) = hasN (L.take k) (a : Int) + (if L[k].contains (a : Int) = true then 1 else 0) := filter_take_succ hk
              have hHl : hasN (L.take k) (a : Int) ≤ 117649 := Nat.le_trans (List.length_filter_le _ _) (by rw [List.length_take]; omega)
              rw [hst] at ih4
              clear hst hel
              generalize hasN (L.take k) (a : Int) = H at hHl ih4 ⊢
              generalize L[k] = T at hrk hTl ih4
              simp only [isv] at hrk
              have hpn := place_nonneg (l := T) (x := (a : Int))
              obtain ⟨z, hz⟩ : ∃ z, placeL T (a : Int) = z := ⟨_, rfl⟩
              rw [hz] at hpn
              by_cases h0 : 0 ≤ z
              · rw [← hpn, decide_eq_true h0, if_pos rfl] at ih4
                clear hpn
                simp -implicitDefEqProofs (maxSteps := 2000000) (disch := omega) only [go_sem, reduceCtorEq, Nat.reduceAdd, Nat.reduceSub, Nat.reduceMul, Nat.reduceLT, Nat.reduceLeDiff, Nat.reduceEqDiff, Nat.reduceBEq, Int.reduceToNat, Int.reduceLT, Int.reduceLE, Int.reduceEq, Int.reduceNeg, Int.reduceAdd, Int.reduceSub, Int.reduceMul, ↓reduceIte, Int.reduceBEq, Int.reduceBNe, hrk, hz]
                exact (ih4 trivial j4).castS rfl (by simp [upd, ins, subF, lookA])
              · rw [← hpn, decide_eq_false h0, if_neg (by simp)] at ih4
                clear hpn
                simp -implicitDefEqProofs (maxSteps := 2000000) (disch := omega) only [go_sem, reduceCtorEq, Nat.reduceAdd, Nat.reduceSub, Nat.reduceMul, Nat.reduceLT, Nat.reduceLeDiff, Nat.reduceEqDiff, Nat.reduceBEq, Int.reduceToNat, Int.reduceLT, Int.reduceLE, Int.reduceEq, Int.reduceNeg, Int.reduceAdd, Int.reduceSub, Int.reduceMul, ↓reduceIte, Int.reduceBEq, Int.reduceBNe, hrk, hz]
                exact (ih4 trivial j4).castS rfl (by simp [upd, ins, subF, lookA])
            · intro j4 _
              rw [List.take_length]
              have hHl : hasN L (a : Int) ≤ 117649 := Nat.le_trans (List.length_filter_le _ _) hll
              generalize hasN L (a : Int) = H at hHl hvv ⊢
              obtain ⟨z, hz⟩ : ∃ z, (if (H : Int) = (L.length : Int) then (1 : Int) else if (H : Int) = 0 then 2 else 3) = z := ⟨_, rfl⟩
              rw [hz] at hvv
              rw [hvv] at hva
              clear hvv
              simp -implicitDefEqProofs (maxSteps := 2000000) (disch := omega) only [go_sem, reduceCtorEq, Nat.reduceAdd, Nat.reduceSub, Nat.reduceMul, Nat.reduceLT, Nat.reduceLeDiff, Nat.reduceEqDiff, Nat.reduceBEq, Int.reduceToNat, Int.reduceLT, Int.reduceLE, Int.reduceEq, Int.reduceNeg, Int.reduceAdd, Int.reduceSub, Int.reduceMul, ↓reduceIte, Int.reduceBEq, Int.reduceBNe, hva, hz]
              exact (ih3 trivial j3).castS rfl (by simp [upd, ins, subF, lookA])
          · intro j3 _
            clear hVi hel
            simp -implicitDefEqProofs (maxSteps := 2000000) (disch := omega) only [go_sem, reduceCtorEq, Nat.reduceAdd, Nat.reduceSub, Nat.reduceMul, Nat.reduceLT, Nat.reduceLeDiff, Nat.reduceEqDiff, Nat.reduceBEq, Int.reduceToNat, Int.reduceLT, Int.reduceLE, Int.reduceEq, Int.reduceNeg, Int.reduceAdd, Int.reduceSub, Int.reduceMul, ↓reduceIte, Int.reduceBEq, Int.reduceBNe, hx0]
end Go.Proofs
