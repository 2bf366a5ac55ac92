/- Texts of a proof: lemmas. -/
import Derived.Test.YtbkjffpembflcaaGreatBC
import Derived.Test.YtbkjffpembflcaaGreatIB
import Derived.Test.YtbkjffpembflcaaGreatA36
import Derived.Test.YtbkjffpembflcaaGreatK1
import Derived.Test.YtbkjffpembflcaaGreatMV
set_option linter.unusedSimpArgs false
set_option linter.unusedVariables false
set_option maxRecDepth 100000
namespace Go.Proofs
open Go Go.Mu

theorem rtruths_p (e : Ear) (h1 : e.tones.length ≤ 4294967296) (h2 : e.rds.length ≤ 4294967296) : PureV Tryz.prog 13 [e.av] (.tup [.int .i64 (truthsN e).1, .int .i64 (truthsN e).2]) := by
  refine PureV.of_ev (E := Tryz.E 13 (fun _ => ([], [])) fs111) (Tryz.envOK 13 (fun _ => ([], [])) fs111 fs111_ok) (ii_plain) Tryz.kp13 Tryz.func13 rfl (by kernel_rfl) (by simp [Tryz.E]) (Callable.of Tryz.func13 (by kernel_rfl) (by kernel_rfl)) (by kernel_rfl) ?_
  intro σ
  by_cases hc : ck e = 0
  · have hb' := truthsR_len (okE_of_ck hc)
    have hR : rallL e [] = truthsR e := rfl
    have hd : truthsN e = (((truthsR e).length : Int), 0) := by unfold truthsN; rw [if_pos hc, truthsR_length]
    rw [hd]
    obtain ⟨s, ts, rs⟩ := e
    simp only [Ear.av]
    simp only at h1 h2
    generalize truthsR ⟨s, ts, rs⟩ = L at hb' hR ⊢
    simp -implicitDefEqProofs (maxSteps := 2000000) (disch := omega) only [go_sem, reduceCtorEq, Nat.reduceAdd, Nat.reduceSub, Nat.reduceMul, Nat.reduceLT, Nat.reduceLeDiff, Nat.reduceEqDiff, Nat.reduceBEq, Int.reduceToNat, Int.reduceLT, Int.reduceLE, Int.reduceEq, Int.reduceNeg, Int.reduceAdd, Int.reduceSub, Int.reduceMul, ↓reduceIte, Int.reduceBEq, Int.reduceBNe, hc, small0, hR, tss]
  · have hd : truthsN e = (0, ck e) := by unfold truthsN; rw [if_neg hc]
    rw [hd]
    obtain ⟨s, ts, rs⟩ := e
    simp only [Ear.av]
    simp only at h1 h2
    generalize hq : ck ⟨s, ts, rs⟩ = q at hc
    simp -implicitDefEqProofs (maxSteps := 2000000) (disch := omega) only [go_sem, reduceCtorEq, Nat.reduceAdd, Nat.reduceSub, Nat.reduceMul, Nat.reduceLT, Nat.reduceLeDiff, Nat.reduceEqDiff, Nat.reduceBEq, Int.reduceToNat, Int.reduceLT, Int.reduceLE, Int.reduceEq, Int.reduceNeg, Int.reduceAdd, Int.reduceSub, Int.reduceMul, ↓reduceIte, Int.reduceBEq, Int.reduceBNe, hq]
def rtruths_s := spec1 tEar fun e => if e.tones.length ≤ 4294967296 ∧ e.rds.length ≤ 4294967296 then some (.tup [.int .i64 (truthsN e).1, .int .i64 (truthsN e).2]) else none
theorem rtruths_ok : ∀ xs v, rtruths_s xs = some v → PureV Tryz.prog 13 xs v :=
  spec1_ok fun e v h => by have h := someIf h; rw [← h.2]; exact rtruths_p e h.1.1 h.1.2
theorem tonesL_R {e : Ear} (hc : ck e = 0) (hn : truthsR e ≠ []) : tonesL e = ((List.range e.tones.length).map fun (i : Nat) => spanL (fun t => tg t i) (truthsR e), 0) := (allP hc hn).tones
theorem rtones_p (e : Ear) (h1 : e.tones.length ≤ 4294967296) (h2 : e.rds.length ≤ 4294967296) : PureV Tryz.prog 15 [e.av] (.tup [.list .no 2 ((tonesL e).1.map Rng.av), .int .i64 (tonesL e).2]) := by
  refine PureV.of_ev (E := Tryz.E 32 (fun _ => ([], [])) fs111) (Tryz.envOK 32 (fun _ => ([], [])) fs111 fs111_ok) (tonesL_p) Tryz.kp15 Tryz.func15 rfl (by kernel_rfl) (by simp [Tryz.E]) (Callable.of Tryz.func15 (by kernel_rfl) (by kernel_rfl)) (by kernel_rfl) ?_
  intro σ
  by_cases hc : ck e = 0
  · have he := okE_of_ck hc
    have hb' := truthsR_len he
    have hR : rallL e [] = truthsR e := rfl
    have hok := truthsR_ok he
    have hlen := he.len
    by_cases hn : truthsR e = []
    · have hd : tonesL e = ([], 9) := by
        have hk : knownL e = ([], 9) := by unfold knownL; rw [if_neg (by simp [hc]), if_pos (truthsR_nil.1 hn)]
        unfold tonesL; rw [hk, if_neg (by decide)]
      rw [hd]
      rw [hn] at hR
      obtain ⟨s, ts, rs⟩ := e
      simp only [Ear.av]
      simp only at h1 h2
      simp -implicitDefEqProofs (maxSteps := 2000000) (disch := omega) only [go_sem, reduceCtorEq, Nat.reduceAdd, Nat.reduceSub, Nat.reduceMul, Nat.reduceLT, Nat.reduceLeDiff, Nat.reduceEqDiff, Nat.reduceBEq, Int.reduceToNat, Int.reduceLT, Int.reduceLE, Int.reduceEq, Int.reduceNeg, Int.reduceAdd, Int.reduceSub, Int.reduceMul, ↓reduceIte, Int.reduceBEq, Int.reduceBNe, hc, small0, hR, tss, List.map_nil]
    · have hd := tonesL_R hc hn
      rw [hd]
      obtain ⟨s, ts, rs⟩ := e
      simp only [Ear.av]
      simp only at h1 h2 hok hlen
      generalize truthsR ⟨s, ts, rs⟩ = L at hb' hR hok hn ⊢
      have hL0 : ¬ L.length = 0 := fun h => hn (List.length_eq_zero_iff.1 h)
      have hLn : (L = []) = False := eq_false hn
      have hin : ∀ i : Nat, i < ts.length → inT (i : Int) L := fun i hi t ht => by rw [(hok t ht).1]; omega
      simp -implicitDefEqProofs (maxSteps := 2000000) (disch := omega) only [go_sem, reduceCtorEq, Nat.reduceAdd, Nat.reduceSub, Nat.reduceMul, Nat.reduceLT, Nat.reduceLeDiff, Nat.reduceEqDiff, Nat.reduceBEq, Int.reduceToNat, Int.reduceLT, Int.reduceLE, Int.reduceEq, Int.reduceNeg, Int.reduceAdd, Int.reduceSub, Int.reduceMul, ↓reduceIte, Int.reduceBEq, Int.reduceBNe, hc, small0, hR, tss]
      refine ARun.ghost 6 2 (sz0 := 0) rfl (by simp [lookA]) ?_
      simp only [ins, ↓reduceIte, List.append_assoc, List.cons_append, List.nil_append, List.length_append, List.length_cons, List.length_nil, Nat.zero_add, Nat.reduceEqDiff, Nat.reduceAdd]
      refine ARun.forS (Tryz.envOK 32 (fun _ => ([], [])) fs111 fs111_ok) ts.length (fun _ => True) (fun i => [(6, .list (.own (σ.length + 1)) 2 (((List.range i).map fun (i : Nat) => spanL (fun t => tg t i) L).map Rng.av)), (7, .int .i64 i)]) (fun i j => σ ++ (.cells [.int .i64 s, .list .no 2 (ts.map Rng.av), .list .no 6 (rs.map Rd.av)] :: .tail i 2 :: j)) [] (by kernel_rfl) (by simp) (by simp [upd, ins, subF, lookA]) trivial ?_ ?_
      · intro i j hi _ ih
        have hini := hin i hi
        rw [List.range_succ, List.map_append] at ih
        have hBl : ((List.range i).map fun (i : Nat) => spanL (fun t => tg t i) L).length = i := by simp
        generalize ((List.range i).map fun (i : Nat) => spanL (fun t => tg t i) L) = B at hBl ih ⊢
        obtain ⟨s1, s2, hsp⟩ : ∃ a b, spanL (fun t => tg t i) L = ⟨a, b⟩ := ⟨_, _, rfl⟩
        simp only [List.map_cons, List.map_nil, hsp] at ih
        simp -implicitDefEqProofs (maxSteps := 2000000) (disch := omega) only [go_sem, reduceCtorEq, Nat.reduceAdd, Nat.reduceSub, Nat.reduceMul, Nat.reduceLT, Nat.reduceLeDiff, Nat.reduceEqDiff, Nat.reduceBEq, Int.reduceToNat, Int.reduceLT, Int.reduceLE, Int.reduceEq, Int.reduceNeg, Int.reduceAdd, Int.reduceSub, Int.reduceMul, ↓reduceIte, Int.reduceBEq, Int.reduceBNe, hn, hini, hsp, tss, Rng.av]
        exact (ih trivial j).castS (by simp [hBl]) (by simp [upd, ins, subF, lookA, Rng.av])
      · intro j _
        simp -implicitDefEqProofs (maxSteps := 2000000) (disch := omega) only [go_sem, reduceCtorEq, Nat.reduceAdd, Nat.reduceSub, Nat.reduceMul, Nat.reduceLT, Nat.reduceLeDiff, Nat.reduceEqDiff, Nat.reduceBEq, Int.reduceToNat, Int.reduceLT, Int.reduceLE, Int.reduceEq, Int.reduceNeg, Int.reduceAdd, Int.reduceSub, Int.reduceMul, ↓reduceIte, Int.reduceBEq, Int.reduceBNe]
  · have hd : tonesL e = ([], ck e) := by
      have hk : knownL e = ([], ck e) := by unfold knownL; rw [if_pos hc]
      unfold tonesL; rw [hk, if_neg hc]
    rw [hd]
    obtain ⟨s, ts, rs⟩ := e
    simp only [Ear.av]
    simp only at h1 h2
    generalize hq : ck ⟨s, ts, rs⟩ = q at hc
    simp -implicitDefEqProofs (maxSteps := 2000000) (disch := omega) only [go_sem, reduceCtorEq, Nat.reduceAdd, Nat.reduceSub, Nat.reduceMul, Nat.reduceLT, Nat.reduceLeDiff, Nat.reduceEqDiff, Nat.reduceBEq, Int.reduceToNat, Int.reduceLT, Int.reduceLE, Int.reduceEq, Int.reduceNeg, Int.reduceAdd, Int.reduceSub, Int.reduceMul, ↓reduceIte, Int.reduceBEq, Int.reduceBNe, hq]
def rtones_s := spec1 tEar fun e => if e.tones.length ≤ 4294967296 ∧ e.rds.length ≤ 4294967296 then some (.tup [.list .no 2 ((tonesL e).1.map Rng.av), .int .i64 (tonesL e).2]) else none
theorem rtones_ok : ∀ xs v, rtones_s xs = some v → PureV Tryz.prog 15 xs v :=
  spec1_ok fun e v h => by have h := someIf h; rw [← h.2]; exact rtones_p e h.1.1 h.1.2
theorem values_plain {p : List Int × Int} : Plain (.tup [.list .no 1 (p.1.map (.int .i64)), .int .i64 p.2]) := .tup (by simp; exact ⟨.map fun x _ => .cells_int, .int⟩)
theorem anyTS {α : Type} {f : α → Bool} {l : List α} {i : Nat} (h : i < l.length) : (l.take (i + 1)).any f = ((l.take i).any f || f l[i]) := by
  rw [List.take_succ_eq_append_getElem h, List.any_append]; simp
set_option maxHeartbeats 4000000 in
theorem rvalues_p (e : Ear) (x : Int) (h1 : e.tones.length ≤ 4294967296) (h2 : e.rds.length ≤ 4294967296) : PureV Tryz.prog 17 [e.av, .int .i64 x] (.tup [.list .no 1 ((valuesL e x).1.map (.int .i64)), .int .i64 (valuesL e x).2]) := by
  refine PureV.of_ev (E := Tryz.E 63 (fun _ => ([], [])) fs111) (Tryz.envOK 63 (fun _ => ([], [])) fs111 fs111_ok) (values_plain) Tryz.kp17 Tryz.func17 rfl (by kernel_rfl) (by simp [Tryz.E]) (Callable.of Tryz.func17 (by kernel_rfl) (by kernel_rfl)) (by kernel_rfl) ?_
  intro σ
  have hbad : ∀ q, (askL e (oneE e x)).2 = q → q ≠ 0 → valuesL e x = ([], q) := fun q h1 h2 => by unfold valuesL; rw [h1, if_neg h2]
  by_cases hc : ck e = 0
  · have he := okE_of_ck hc
    have hb' := truthsR_len he
    have hR : rallL e [] = truthsR e := rfl
    have hok := truthsR_ok he
    have hlen := he.len
    have htn := he.tone
    by_cases hx : 0 ≤ x ∧ x ≤ (e.tones.length : Int) - 1
    · have h0 : oneE e x = 0 := by unfold oneE; rw [if_pos hx]
      by_cases hn : truthsR e = []
      · have hd := hbad 9 (by rw [h0]; unfold askL knownL; rw [if_neg (by simp [hc]), if_neg (by simp), if_neg (by simp [hc]), if_pos (truthsR_nil.1 hn)]) (by decide)
        rw [hd]
        rw [hn] at hR
        obtain ⟨s, ts, rs⟩ := e
        simp only [Ear.av]
        simp only at h1 h2 hx
        simp -implicitDefEqProofs (maxSteps := 2000000) (disch := omega) only [go_sem, reduceCtorEq, Nat.reduceAdd, Nat.reduceSub, Nat.reduceMul, Nat.reduceLT, Nat.reduceLeDiff, Nat.reduceEqDiff, Nat.reduceBEq, Int.reduceToNat, Int.reduceLT, Int.reduceLE, Int.reduceEq, Int.reduceNeg, Int.reduceAdd, Int.reduceSub, Int.reduceMul, ↓reduceIte, Int.reduceBEq, Int.reduceBNe, hc, small0, hR, tss, List.map_nil]
      · obtain ⟨k, rfl⟩ := Int.eq_ofNat_of_zero_le hx.1
        have hk : k < e.tones.length := by omega
        have hA := allP hc hn
        have hd := hA.vals k hk
        have hbk := fun t ht => (hA.ok t ht).2 k hk
        have htk := htn _ (List.getElem_mem hk)
        rw [hd]
        obtain ⟨s, ts, rs⟩ := e
        simp only [Ear.av]
        simp only at h1 h2 hx hok hlen hk hbk htk
        have hri : idx (ts.map Rng.av) (k : Int) = some ts[k].av := idx_map hk
        generalize ts[k] = w at hri hbk htk
        obtain ⟨lo, hi⟩ := w
        simp only at hbk htk
        simp only [Rng.av] at hri
        clear hA htn hbad he hd h0
        generalize truthsR ⟨s, ts, rs⟩ = L at hb' hR hok hn hbk ⊢
        have hL0 : ¬ L.length = 0 := fun h => hn (List.length_eq_zero_iff.1 h)
        have hVb : ∀ y ∈ valsL (fun t => tg t k) L, lo ≤ y ∧ y ≤ hi := fun y hy => by
          obtain ⟨t, ht, rfl⟩ := valsL_mem.1 hy; exact hbk t ht
        have hVl := valsL_len (fun t => tg t k) L
        have hVs := fun t => below_succ (V := valsL (fun t => tg t k) L) valsL_lt t
        have hVm : ∀ y, decide (y ∈ valsL (fun t => tg t k) L) = L.any fun t => decide (tg t k = y) := fun y => by
          rw [Bool.eq_iff_iff, decide_eq_true_eq, List.any_eq_true, valsL_mem]; simp
        generalize valsL (fun t => tg t k) L = V at hVb hVl hVs hVm ⊢
        simp -implicitDefEqProofs (maxSteps := 2000000) (disch := omega) only [go_sem, reduceCtorEq, Nat.reduceAdd, Nat.reduceSub, Nat.reduceMul, Nat.reduceLT, Nat.reduceLeDiff, Nat.reduceEqDiff, Nat.reduceBEq, Int.reduceToNat, Int.reduceLT, Int.reduceLE, Int.reduceEq, Int.reduceNeg, Int.reduceAdd, Int.reduceSub, Int.reduceMul, ↓reduceIte, Int.reduceBEq, Int.reduceBNe, hc, small0, hR, tss, hri]
        refine ARun.ghost 8 1 (sz0 := 0) rfl (by simp [lookA]) ?_
        simp only [ins, ↓reduceIte, List.append_assoc, List.cons_append, List.nil_append, List.length_append, List.length_cons, List.length_nil, Nat.zero_add, Nat.reduceEqDiff, Nat.reduceAdd]
        have hlo0 : belowL V (lo + (0 : Nat)) = [] := below_none fun y hy => by have := hVb y hy; omega
        refine ARun.forG (Tryz.envOK 63 (fun _ => ([], [])) fs111 fs111_ok) (hi - lo + 1).toNat (fun _ => True) (fun q => [(8, .list (.own (σ.length + 1)) 1 ((belowL V (lo + q)).map (.int .i64))), (9, .int .i64 (lo + q))]) (fun q j => σ ++ (.cells [.int .i64 s, .list .no 2 (ts.map Rng.av), .list .no 6 (rs.map Rd.av)] :: .tail (belowL V (lo + q)).length 1 :: j)) [] (by kernel_rfl) (by kernel_rfl) (by simp only [hlo0]; simp) (by rw [hlo0]; simp [upd, ins, subF, lookA]) trivial ?_ ?_
        · intro K Q' hK q j hq _ ih
          have hs := hVs (lo + q)
          have hm := hVm (lo + q)
          have e1 : lo + ((q + 1 : Nat) : Int) = lo + q + 1 := by omega
          rw [e1, hs] at ih
          have hBl : (belowL V (lo + q)).length ≤ 9261 := by have : (belowL V (lo + q)).length ≤ V.length := List.length_filter_le _ _; omega
          clear hs hVs hVm hVb
          generalize belowL V (lo + q) = B at ih hBl ⊢
          obtain ⟨y, hy⟩ : ∃ y, lo + (q : Int) = y := ⟨_, rfl⟩
          have hyb : lo ≤ y ∧ y ≤ hi := by omega
          rw [hy] at ih hm ⊢
          simp -implicitDefEqProofs (maxSteps := 2000000) (disch := omega) only [go_sem, reduceCtorEq, Nat.reduceAdd, Nat.reduceSub, Nat.reduceMul, Nat.reduceLT, Nat.reduceLeDiff, Nat.reduceEqDiff, Nat.reduceBEq, Int.reduceToNat, Int.reduceLT, Int.reduceLE, Int.reduceEq, Int.reduceNeg, Int.reduceAdd, Int.reduceSub, Int.reduceMul, ↓reduceIte, Int.reduceBEq, Int.reduceBNe, hri]
          refine ARun.forG (Tryz.envOK 63 (fun _ => ([], [])) fs111 fs111_ok) L.length (fun _ => True) (fun i => [(10, .bool ((L.take i).any fun t => decide (tg t k = y))), (11, .int .i64 i)]) (fun _ _ => σ ++ (.cells [.int .i64 s, .list .no 2 (ts.map Rng.av), .list .no 6 (rs.map Rd.av)] :: .tail B.length 1 :: j)) [] (by kernel_rfl) (by simp only [todoOK_cons, hK, Bool.and_true]; kernel_rfl) rfl (by simp [upd, ins, subF, lookA]) trivial ?_ ?_
          · clear hK
            intro K Q' hK i j2 hi2 _ ih2
            have hli : idx (L.map isv) (i : Int) = some (isv L[i]) := idx_iss hi2
            have hlt := (hok _ (List.getElem_mem hi2)).1
            have hra : idx (L[i].map (AV.int .i64)) (k : Int) = some (.int .i64 (tg L[i] k)) := idx_tg (by omega) (by omega)
            rw [anyTS hi2] at ih2
            clear ih hm hok
            generalize ((L.take i).any fun t => decide (tg t k = y)) = b at ih2 ⊢
            generalize tg L[i] k = z at hra ih2
            generalize L[i] = Ti at hli hra hlt
            simp only [isv] at hli
            cases b
            · by_cases hz : z = y
              · rw [decide_eq_true hz] at ih2
                simp -implicitDefEqProofs (maxSteps := 2000000) (disch := omega) only [go_sem, reduceCtorEq, Nat.reduceAdd, Nat.reduceSub, Nat.reduceMul, Nat.reduceLT, Nat.reduceLeDiff, Nat.reduceEqDiff, Nat.reduceBEq, Int.reduceToNat, Int.reduceLT, Int.reduceLE, Int.reduceEq, Int.reduceNeg, Int.reduceAdd, Int.reduceSub, Int.reduceMul, ↓reduceIte, Int.reduceBEq, Int.reduceBNe, hli, hra, hz]
                exact (ih2 trivial j2).castS rfl (by simp [upd, ins, subF, lookA])
              · rw [decide_eq_false hz] at ih2
                simp -implicitDefEqProofs (maxSteps := 2000000) (disch := omega) only [go_sem, reduceCtorEq, Nat.reduceAdd, Nat.reduceSub, Nat.reduceMul, Nat.reduceLT, Nat.reduceLeDiff, Nat.reduceEqDiff, Nat.reduceBEq, Int.reduceToNat, Int.reduceLT, Int.reduceLE, Int.reduceEq, Int.reduceNeg, Int.reduceAdd, Int.reduceSub, Int.reduceMul, ↓reduceIte, Int.reduceBEq, Int.reduceBNe, hli, hra, hz]
                exact (ih2 trivial j2).castS rfl (by simp [upd, ins, subF, lookA])
            · rw [Bool.true_or] at ih2
              simp -implicitDefEqProofs (maxSteps := 2000000) (disch := omega) only [go_sem, reduceCtorEq, Nat.reduceAdd, Nat.reduceSub, Nat.reduceMul, Nat.reduceLT, Nat.reduceLeDiff, Nat.reduceEqDiff, Nat.reduceBEq, Int.reduceToNat, Int.reduceLT, Int.reduceLE, Int.reduceEq, Int.reduceNeg, Int.reduceAdd, Int.reduceSub, Int.reduceMul, ↓reduceIte, Int.reduceBEq, Int.reduceBNe, hli, hra]
              exact (ih2 trivial j2).castS rfl (by simp [upd, ins, subF, lookA])
          · intro j2 _
            rw [List.take_length, ← hm]
            by_cases hv : y ∈ V
            · rw [if_pos hv] at ih
              rw [decide_eq_true hv]
              simp -implicitDefEqProofs (maxSteps := 2000000) (disch := omega) only [go_sem, reduceCtorEq, Nat.reduceAdd, Nat.reduceSub, Nat.reduceMul, Nat.reduceLT, Nat.reduceLeDiff, Nat.reduceEqDiff, Nat.reduceBEq, Int.reduceToNat, Int.reduceLT, Int.reduceLE, Int.reduceEq, Int.reduceNeg, Int.reduceAdd, Int.reduceSub, Int.reduceMul, ↓reduceIte, Int.reduceBEq, Int.reduceBNe]
              exact (ih trivial j).castS (by simp) (by simp [upd, ins, subF, lookA])
            · rw [if_neg hv] at ih
              rw [decide_eq_false hv]
              simp -implicitDefEqProofs (maxSteps := 2000000) (disch := omega) only [go_sem, reduceCtorEq, Nat.reduceAdd, Nat.reduceSub, Nat.reduceMul, Nat.reduceLT, Nat.reduceLeDiff, Nat.reduceEqDiff, Nat.reduceBEq, Int.reduceToNat, Int.reduceLT, Int.reduceLE, Int.reduceEq, Int.reduceNeg, Int.reduceAdd, Int.reduceSub, Int.reduceMul, ↓reduceIte, Int.reduceBEq, Int.reduceBNe]
              exact (ih trivial j).castS rfl (by simp [upd, ins, subF, lookA])
        · intro j _
          have e1 : lo + ((hi - lo + 1).toNat : Int) = hi + 1 := by omega
          rw [e1, below_all fun y hy => by have := hVb y hy; omega]
          simp -implicitDefEqProofs (maxSteps := 2000000) (disch := omega) only [go_sem, reduceCtorEq, Nat.reduceAdd, Nat.reduceSub, Nat.reduceMul, Nat.reduceLT, Nat.reduceLeDiff, Nat.reduceEqDiff, Nat.reduceBEq, Int.reduceToNat, Int.reduceLT, Int.reduceLE, Int.reduceEq, Int.reduceNeg, Int.reduceAdd, Int.reduceSub, Int.reduceMul, ↓reduceIte, Int.reduceBEq, Int.reduceBNe, hri]
    · have hw : oneE e x = 3 := by unfold oneE; rw [if_neg hx]
      have hd := hbad 3 (by rw [hw]; unfold askL; rw [if_neg (by simp [hc]), if_pos (by decide)]) (by decide)
      rw [hd]
      obtain ⟨s, ts, rs⟩ := e
      simp only [Ear.av]
      simp only at h1 h2 hx
      have hdx : decide (0 ≤ x ∧ x ≤ (ts.length : Int) - 1) = false := decide_eq_false hx
      simp -implicitDefEqProofs (maxSteps := 2000000) (disch := omega) only [go_sem, reduceCtorEq, Nat.reduceAdd, Nat.reduceSub, Nat.reduceMul, Nat.reduceLT, Nat.reduceLeDiff, Nat.reduceEqDiff, Nat.reduceBEq, Int.reduceToNat, Int.reduceLT, Int.reduceLE, Int.reduceEq, Int.reduceNeg, Int.reduceAdd, Int.reduceSub, Int.reduceMul, ↓reduceIte, Int.reduceBEq, Int.reduceBNe, hc, hx]
  · have hd := hbad (ck e) (by unfold askL; rw [if_pos hc]) hc
    rw [hd]
    obtain ⟨s, ts, rs⟩ := e
    simp only [Ear.av]
    simp only at h1 h2
    generalize hq : ck ⟨s, ts, rs⟩ = q at hc
    simp -implicitDefEqProofs (maxSteps := 2000000) (disch := omega) only [go_sem, reduceCtorEq, Nat.reduceAdd, Nat.reduceSub, Nat.reduceMul, Nat.reduceLT, Nat.reduceLeDiff, Nat.reduceEqDiff, Nat.reduceBEq, Int.reduceToNat, Int.reduceLT, Int.reduceLE, Int.reduceEq, Int.reduceNeg, Int.reduceAdd, Int.reduceSub, Int.reduceMul, ↓reduceIte, Int.reduceBEq, Int.reduceBNe, hq]
def rvalues_s := spec2 tEar tI fun e x => if e.tones.length ≤ 4294967296 ∧ e.rds.length ≤ 4294967296 then some (.tup [.list .no 1 ((valuesL e x).1.map (.int .i64)), .int .i64 (valuesL e x).2]) else none
theorem rvalues_ok : ∀ xs v, rvalues_s xs = some v → PureV Tryz.prog 17 xs v :=
  spec2_ok fun e x v h => by have h := someIf h; rw [← h.2]; exact rvalues_p e x h.1.1 h.1.2
end Go.Proofs
