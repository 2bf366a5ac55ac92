/- Texts of a proof: lemmas. -/
import Derived.Test.YtbkjffpembflcaaGreatA22
import Derived.Test.YtbkjffpembflcaaGreatMu3
set_option linter.unusedSimpArgs false
set_option linter.unusedVariables false
set_option maxRecDepth 100000
namespace Go.Proofs
open Go Go.Mu

def gC (gs : List Int) (a : Nat) : List Rd := gs.map fun s => ⟨1, a, 0, s, ⟨0, 0⟩⟩
def gB (gs : List Int) (a b : Nat) : List Rd := gs.map fun s => ⟨2, a, b, s, ⟨0, 0⟩⟩
def gH (a b : Nat) : Rd := ⟨3, a, b, 0, ⟨0, 0⟩⟩
def gBs (gs : List Int) (a k : Nat) : List Rd := (List.range k).flatMap fun j => gB gs a (a + 1 + j)
def gHs (a k : Nat) : List Rd := (List.range k).map fun j => gH a (a + 1 + j)
def gCC (gs : List Int) (i : Nat) : List Rd := (List.range i).flatMap (gC gs)
def gBB (gs : List Int) (m i : Nat) : List Rd := (List.range i).flatMap fun a => gBs gs a (m - 1 - a)
def gHH (m i : Nat) : List Rd := (List.range i).flatMap fun a => gHs a (m - 1 - a)
/-- All readings by gates, without what they show. -/
def byGatesL (m : Nat) (gs : List Int) : List Rd := gCC gs m ++ (gBB gs m m ++ gHH m m)
theorem flatMap_le {α : Type} (f : Nat → List α) (c : Nat) (h : ∀ a, (f a).length ≤ c) : ∀ i, ((List.range i).flatMap f).length ≤ i * c
  | 0 => by simp
  | i + 1 => by
    rw [List.range_succ, List.flatMap_append, List.length_append, Nat.add_mul]
    have := flatMap_le f c h i
    have := h i
    simp only [List.flatMap_cons, List.flatMap_nil, List.append_nil]; omega
theorem gBs_le {gs : List Int} (hg : gs.length ≤ 20) (a k : Nat) : (gBs gs a k).length ≤ k * 20 := flatMap_le _ 20 (fun b => by simp [gB]; exact hg) k
theorem byGates_le {m : Nat} {gs : List Int} (hm : m ≤ 3) (hg : gs.length ≤ 20) {i : Nat} (hi : i ≤ m) : (gCC gs i).length ≤ 60 ∧ (gBB gs m i).length ≤ 180 ∧ (gHH m i).length ≤ 9 := by
  refine ⟨?_, ?_, ?_⟩
  · have := flatMap_le (gC gs) 20 (fun a => by simp [gC]; exact hg) i
    unfold gCC; omega
  · have := flatMap_le (fun a => gBs gs a (m - 1 - a)) 60 (fun a => by have := gBs_le hg a (m - 1 - a); omega) i
    unfold gBB; omega
  · have := flatMap_le (fun a => gHs a (m - 1 - a)) 3 (fun a => by simp [gHs]; omega) i
    unfold gHH; omega
set_option maxHeartbeats 2000000 in
theorem byGates_p (m : Nat) (gs : List Int) (hm : m ≤ 3) (hg : gs.length ≤ 20) : PureV Tryz.prog 84 [.int .i64 m, .list .no 1 (gs.map (.int .i64))] (.list .no 6 ((byGatesL m gs).map Rd.av)) := by
  refine PureV.of_ev (E := Tryz.E 64 (fun _ => ([], [])) fs0) (Tryz.envOK 64 (fun _ => ([], [])) fs0 fs0_ok) (.map fun x _ => Rd.plain x) Tryz.kp84 Tryz.func84 rfl (by kernel_rfl) (by simp [Tryz.E]) (Callable.of Tryz.func84 (by kernel_rfl) (by kernel_rfl)) (by kernel_rfl) ?_
  intro σ
  simp -implicitDefEqProofs (maxSteps := 2000000) (disch := omega) only [go_sem, reduceCtorEq, Nat.reduceAdd, Nat.reduceSub, Nat.reduceMul, Nat.reduceLT, Nat.reduceLeDiff, Nat.reduceEqDiff, Nat.reduceBEq, Int.reduceToNat, Int.reduceLT, Int.reduceLE, Int.reduceEq, Int.reduceNeg, Int.reduceAdd, Int.reduceSub, Int.reduceMul, ↓reduceIte, Int.reduceBEq, Int.reduceBNe]
  refine ARun.ghost 5 6 (sz0 := 0) rfl (by simp [lookA]) ?_
  simp only [ins, ↓reduceIte, List.append_assoc, List.cons_append, List.nil_append, List.length_append, List.length_cons, List.length_nil, Nat.zero_add, Nat.reduceEqDiff]
  refine ARun.ghost 6 6 (sz0 := 0) rfl (by simp [lookA]) ?_
  simp only [ins, ↓reduceIte, List.append_assoc, List.cons_append, List.nil_append, List.length_append, List.length_cons, List.length_nil, Nat.zero_add, Nat.reduceEqDiff]
  refine ARun.ghost 7 6 (sz0 := 0) rfl (by simp [lookA]) ?_
  simp only [ins, ↓reduceIte, List.append_assoc, List.cons_append, List.nil_append, List.length_append, List.length_cons, List.length_nil, Nat.zero_add, Nat.reduceEqDiff, Nat.add_assoc, Nat.reduceAdd]
  refine ARun.forS (Tryz.envOK 64 (fun _ => ([], [])) fs0 fs0_ok) m (fun _ => True) (fun i => [(5, .list (.own σ.length) 6 ((gCC gs i).map Rd.av)), (6, .list (.own (σ.length + 1)) 6 ((gBB gs m i).map Rd.av)), (7, .list (.own (σ.length + 2)) 6 ((gHH m i).map Rd.av)), (15, .int .i64 i)])
    (fun i _ => σ ++ [.tail (gCC gs i).length 6, .tail (gBB gs m i).length 6, .tail (gHH m i).length 6]) [] (by kernel_rfl) rfl (by simp [upd, ins, subF, lookA, gCC, gBB, gHH]) trivial ?_ ?_
  · intro i j hi _ ih
    obtain ⟨b1, b2, b3⟩ := byGates_le hm hg (i := i) (by omega)
    have e1 : gCC gs (i + 1) = gCC gs i ++ gC gs i := by simp [gCC, List.range_succ]
    have e2 : gBB gs m (i + 1) = gBB gs m i ++ gBs gs i (m - 1 - i) := by simp [gBB, List.range_succ]
    have e3 : gHH m (i + 1) = gHH m i ++ gHs i (m - 1 - i) := by simp [gHH, List.range_succ]
    rw [e1, e2, e3] at ih
    generalize gCC gs i = C at b1 ih ⊢
    generalize gBB gs m i = B at b2 ih ⊢
    generalize gHH m i = H at b3 ih ⊢
    simp -implicitDefEqProofs (maxSteps := 2000000) (disch := omega) only [go_sem, reduceCtorEq, Nat.reduceAdd, Nat.reduceSub, Nat.reduceMul, Nat.reduceLT, Nat.reduceLeDiff, Nat.reduceEqDiff, Nat.reduceBEq, Int.reduceToNat, Int.reduceLT, Int.reduceLE, Int.reduceEq, Int.reduceNeg, Int.reduceAdd, Int.reduceSub, Int.reduceMul, ↓reduceIte, Int.reduceBEq, Int.reduceBNe]
    refine ARun.forS (Tryz.envOK 64 (fun _ => ([], [])) fs0 fs0_ok) gs.length (fun _ => True) (fun k => [(5, .list (.own σ.length) 6 ((C ++ gC (gs.take k) i).map Rd.av)), (20, .int .i64 k)])
      (fun k _ => σ ++ [.tail (C ++ gC (gs.take k) i).length 6, .tail B.length 6, .tail H.length 6]) [] (by kernel_rfl) (by simp [gC]) (by simp [upd, ins, subF, lookA, gC]) trivial ?_ ?_
    · intro k j hk _ ih2
      have e4 : C ++ gC (gs.take (k + 1)) i = (C ++ gC (gs.take k) i) ++ [⟨1, i, 0, gs[k], ⟨0, 0⟩⟩] := by
        rw [List.take_succ_eq_append_getElem hk]; simp only [gC, List.map_append, List.append_assoc]; rfl
      have e5 : (C ++ gC (gs.take k) i).length ≤ 80 := by simp [gC]; omega
      rw [e4] at ih2
      generalize C ++ gC (gs.take k) i = D at e5 ih2 ⊢
      simp -implicitDefEqProofs (maxSteps := 2000000) (disch := omega) only [go_sem, reduceCtorEq, Nat.reduceAdd, Nat.reduceSub, Nat.reduceMul, Nat.reduceLT, Nat.reduceLeDiff, Nat.reduceEqDiff, Nat.reduceBEq, Int.reduceToNat, Int.reduceLT, Int.reduceLE, Int.reduceEq, Int.reduceNeg, Int.reduceAdd, Int.reduceSub, Int.reduceMul, ↓reduceIte, Int.reduceBEq, Int.reduceBNe]
      exact (ih2 trivial []).castS (by simp) (by simp [upd, ins, subF, lookA, Rd.av])
    · intro j _
      rw [List.take_length]
      simp -implicitDefEqProofs (maxSteps := 2000000) (disch := omega) only [go_sem, reduceCtorEq, Nat.reduceAdd, Nat.reduceSub, Nat.reduceMul, Nat.reduceLT, Nat.reduceLeDiff, Nat.reduceEqDiff, Nat.reduceBEq, Int.reduceToNat, Int.reduceLT, Int.reduceLE, Int.reduceEq, Int.reduceNeg, Int.reduceAdd, Int.reduceSub, Int.reduceMul, ↓reduceIte, Int.reduceBEq, Int.reduceBNe]
      have l1 : (gC gs i).length ≤ 20 := by simpa [gC] using hg
      refine ARun.forS (Tryz.envOK 64 (fun _ => ([], [])) fs0 fs0_ok) (m - 1 - i) (fun _ => True) (fun k => [(6, .list (.own (σ.length + 1)) 6 ((B ++ gBs gs i k).map Rd.av)), (7, .list (.own (σ.length + 2)) 6 ((H ++ gHs i k).map Rd.av)), (11, .int .i64 ((i : Int) + 1 + k))])
        (fun k _ => σ ++ [.tail (C.length + (gC gs i).length) 6, .tail (B ++ gBs gs i k).length 6, .tail (H ++ gHs i k).length 6]) [] (by kernel_rfl) (by simp [gBs, gHs]) (by simp [upd, ins, subF, lookA, gBs, gHs]) trivial ?_ ?_
      · intro k j hk _ ih2
        have e4 : B ++ gBs gs i (k + 1) = (B ++ gBs gs i k) ++ gB gs i (i + 1 + k) := by simp [gBs, List.range_succ]
        have e5 : H ++ gHs i (k + 1) = (H ++ gHs i k) ++ [gH i (i + 1 + k)] := by simp [gHs, List.range_succ]
        have l2 : (B ++ gBs gs i k).length ≤ 300 := by rw [List.length_append]; have := gBs_le hg i k; omega
        have l3 : (H ++ gHs i k).length ≤ 300 := by simp [gHs]; omega
        rw [e4, e5] at ih2
        generalize B ++ gBs gs i k = B' at l2 ih2 ⊢
        generalize H ++ gHs i k = H' at l3 ih2 ⊢
        simp -implicitDefEqProofs (maxSteps := 2000000) (disch := omega) only [go_sem, reduceCtorEq, Nat.reduceAdd, Nat.reduceSub, Nat.reduceMul, Nat.reduceLT, Nat.reduceLeDiff, Nat.reduceEqDiff, Nat.reduceBEq, Int.reduceToNat, Int.reduceLT, Int.reduceLE, Int.reduceEq, Int.reduceNeg, Int.reduceAdd, Int.reduceSub, Int.reduceMul, ↓reduceIte, Int.reduceBEq, Int.reduceBNe]
        refine ARun.forS (Tryz.envOK 64 (fun _ => ([], [])) fs0 fs0_ok) gs.length (fun _ => True) (fun k' => [(6, .list (.own (σ.length + 1)) 6 ((B' ++ gB (gs.take k') i (i + 1 + k)).map Rd.av)), (40, .int .i64 k')])
          (fun k' _ => σ ++ [.tail (C.length + (gC gs i).length) 6, .tail (B' ++ gB (gs.take k') i (i + 1 + k)).length 6, .tail H'.length 6]) [] (by kernel_rfl) (by simp [gB]) (by simp [upd, ins, subF, lookA, gB]) trivial ?_ ?_
        · intro k' j hk' _ ih3
          have e6 : B' ++ gB (gs.take (k' + 1)) i (i + 1 + k) = (B' ++ gB (gs.take k') i (i + 1 + k)) ++ [⟨2, i, ((i + 1 + k : Nat) : Int), gs[k'], ⟨0, 0⟩⟩] := by
            rw [List.take_succ_eq_append_getElem hk']; simp only [gB, List.map_append, List.append_assoc]; rfl
          have l4 : (B' ++ gB (gs.take k') i (i + 1 + k)).length ≤ 400 := by simp [gB]; omega
          rw [e6] at ih3
          generalize B' ++ gB (gs.take k') i (i + 1 + k) = D at l4 ih3 ⊢
          simp -implicitDefEqProofs (maxSteps := 2000000) (disch := omega) only [go_sem, reduceCtorEq, Nat.reduceAdd, Nat.reduceSub, Nat.reduceMul, Nat.reduceLT, Nat.reduceLeDiff, Nat.reduceEqDiff, Nat.reduceBEq, Int.reduceToNat, Int.reduceLT, Int.reduceLE, Int.reduceEq, Int.reduceNeg, Int.reduceAdd, Int.reduceSub, Int.reduceMul, ↓reduceIte, Int.reduceBEq, Int.reduceBNe]
          exact (ih3 trivial []).castS (by simp) (by simp [upd, ins, subF, lookA, Rd.av])
        · intro j _
          rw [List.take_length]
          have l5 : (gB gs i (i + 1 + k)).length ≤ 20 := by simpa [gB] using hg
          simp -implicitDefEqProofs (maxSteps := 2000000) (disch := omega) only [go_sem, reduceCtorEq, Nat.reduceAdd, Nat.reduceSub, Nat.reduceMul, Nat.reduceLT, Nat.reduceLeDiff, Nat.reduceEqDiff, Nat.reduceBEq, Int.reduceToNat, Int.reduceLT, Int.reduceLE, Int.reduceEq, Int.reduceNeg, Int.reduceAdd, Int.reduceSub, Int.reduceMul, ↓reduceIte, Int.reduceBEq, Int.reduceBNe]
          exact (ih2 trivial []).castS (by simp) (by simp [upd, ins, subF, lookA, Rd.av, gH]; omega)
      · intro j _
        have l2 : (B ++ gBs gs i (m - 1 - i)).length ≤ 300 := by rw [List.length_append]; have := gBs_le hg i (m - 1 - i); omega
        simp -implicitDefEqProofs (maxSteps := 2000000) (disch := omega) only [go_sem, reduceCtorEq, Nat.reduceAdd, Nat.reduceSub, Nat.reduceMul, Nat.reduceLT, Nat.reduceLeDiff, Nat.reduceEqDiff, Nat.reduceBEq, Int.reduceToNat, Int.reduceLT, Int.reduceLE, Int.reduceEq, Int.reduceNeg, Int.reduceAdd, Int.reduceSub, Int.reduceMul, ↓reduceIte, Int.reduceBEq, Int.reduceBNe]
        exact (ih trivial []).castS (by simp) (by simp [upd, ins, subF, lookA, Rd.av, gH])
  · intro j _
    obtain ⟨b1, b2, b3⟩ := byGates_le hm hg (i := m) (by omega)
    simp -implicitDefEqProofs (maxSteps := 2000000) (disch := omega) only [go_sem, reduceCtorEq, Nat.reduceAdd, Nat.reduceSub, Nat.reduceMul, Nat.reduceLT, Nat.reduceLeDiff, Nat.reduceEqDiff, Nat.reduceBEq, Int.reduceToNat, Int.reduceLT, Int.reduceLE, Int.reduceEq, Int.reduceNeg, Int.reduceAdd, Int.reduceSub, Int.reduceMul, ↓reduceIte, Int.reduceBEq, Int.reduceBNe]
    refine concat_p [(.no, 6, gCC gs m), (.no, 6, gBB gs m m), (.no, 6, gHH m m)] (by simp) (by simp) (by simp only [List.flatMap_cons, List.flatMap_nil, List.append_nil, List.length_append]; omega) _ _ ?_
    simp -implicitDefEqProofs (maxSteps := 2000000) (disch := omega) only [go_sem, reduceCtorEq, Nat.reduceAdd, Nat.reduceSub, Nat.reduceMul, Nat.reduceLT, Nat.reduceLeDiff, Nat.reduceEqDiff, Nat.reduceBEq, Int.reduceToNat, Int.reduceLT, Int.reduceLE, Int.reduceEq, Int.reduceNeg, Int.reduceAdd, Int.reduceSub, Int.reduceMul, ↓reduceIte, Int.reduceBEq, Int.reduceBNe]
    simp [byGatesL]
def byGates_s := spec2 tI tIs fun m gs => if 0 ≤ m ∧ m ≤ 3 ∧ gs.length ≤ 20 then some (.list .no 6 ((byGatesL m.toNat gs).map Rd.av)) else none
theorem byGates_ok : ∀ xs v, byGates_s xs = some v → PureV Tryz.prog 84 xs v :=
  spec2_ok fun m gs v h => by
    have h := someIf h
    rw [← h.2]
    have := byGates_p m.toNat gs (by omega) h.1.2.2
    rw [Int.toNat_of_nonneg h.1.1] at this
    exact this
end Go.Proofs
set_option linter.unusedSimpArgs false
set_option linter.unusedVariables false
set_option maxRecDepth 100000
namespace Go.Proofs
open Go Go.Mu

def fs15 (f : FuncId) (xs : List AV) : Option AV := if f = 84 then byGates_s xs else fs14 f xs
theorem fs15_ok : ∀ f xs v, fs15 f xs = some v → PureV Tryz.prog f xs v := by
  intro f xs v h
  unfold fs15 at h
  split at h
  · rename_i e; subst e; exact byGates_ok _ _ h
  exact fs14_ok _ _ _ h
attribute [go_sem] fs15 byGates_s
theorem ckGates_ok {g : List Int} (h : ckGates g = 0) : g ≠ [] ∧ g.length ≤ 3 ∧ ∀ s ∈ g, 1 ≤ s ∧ s ≤ 20 := by
  unfold ckGates at h
  split at h
  · omega
  · rename_i h0
    split at h
    · omega
    · rename_i h1
      refine ⟨fun e => h0 (by rw [e]; rfl), by omega, fun s hs => ?_⟩
      obtain ⟨i, hi, rfl⟩ := List.mem_iff_getElem.1 hs
      have := firstE_all (f := ckG g) h i (by simpa using hi)
      simp only [ckG, tgE hi] at this
      grind
theorem byGatesL_ok {m : Nat} {gs : List Int} (hm : m ≤ 3) (hg : ∀ s ∈ gs, 1 ≤ s ∧ s ≤ 20) : ∀ r ∈ byGatesL m gs, okR r := by
  intro r hr
  simp only [byGatesL, gCC, gBB, gHH, gC, gBs, gHs, gB, gH, List.mem_append, List.mem_flatMap, List.mem_map, List.mem_range] at hr
  rcases hr with ⟨a, ha, s, hs, rfl⟩ | ⟨a, ha, b, hb, s, hs, rfl⟩ | ⟨a, ha, b, hb, rfl⟩
  · have := hg s hs
    simp only [okR]; omega
  · have := hg s hs
    simp only [okR]; omega
  · simp only [okR]; omega
theorem byGatesL_len {m : Nat} {gs : List Int} (hm : m ≤ 3) (hg : gs.length ≤ 20) : (byGatesL m gs).length ≤ 300 := by
  obtain ⟨b1, b2, b3⟩ := byGates_le hm hg (i := m) (by omega)
  simp only [byGatesL, List.length_append]; omega
theorem byGatesL_ne {m : Nat} {gs : List Int} (hm : 1 ≤ m) (hg : gs ≠ []) : byGatesL m gs ≠ [] := by
  obtain ⟨m, rfl⟩ : ∃ k, m = k + 1 := ⟨m - 1, by omega⟩
  obtain ⟨s, gs, rfl⟩ := List.exists_cons_of_ne_nil hg
  simp [byGatesL, gCC, gC, List.range_succ]
/-- The best reading, and what it leaves. -/
def bestOf (e : Ear) (gs : List Int) : Rd × Int := leastL (fun r => worstL r e.slack (truthsL e)) (byGatesL e.tones.length gs)
def bestL (e : Ear) (gs : List Int) : (Rd × Int) × Int := if (askL e (ckGates gs)).2 = 0 then (bestOf e gs, 0) else ((⟨0, 0, 0, 0, ⟨0, 0⟩⟩, 0), (askL e (ckGates gs)).2)
theorem best_p (e : Ear) (gs : List Int) (h1 : e.tones.length ≤ 4294967296) (h2 : e.rds.length ≤ 4294967296) (h3 : gs.length ≤ 4294967296) :
    PureV Tryz.prog 43 [e.av, .list .no 1 (gs.map (.int .i64))] (.tup [(bestL e gs).1.1.av, .int .i64 (bestL e gs).1.2, .int .i64 (bestL e gs).2]) := by
  refine PureV.of_ev (E := Tryz.E 31 Tryz.ord43 fs15) (Tryz.envOK 31 Tryz.ord43 fs15 fs15_ok) (.tup (by simp; exact ⟨Rd.plain _, .int, .int⟩)) Tryz.kp43 Tryz.func43 rfl (by kernel_rfl) (by simp [Tryz.E]) (Callable.of Tryz.func43 (by kernel_rfl) (by kernel_rfl)) (by kernel_rfl) ?_
  intro σ
  simp only [Ear.av]
  by_cases hk : (askL e (ckGates gs)).2 = 0
  · obtain ⟨hc, hw, hn, hke⟩ := askL_ok hk
    have he := okE_of_ck hc
    have hlen := he.len
    have htl := truthsL_len he
    obtain ⟨g1, g2, g3⟩ := ckGates_ok hw
    have hke' : askL ⟨e.slack, e.tones, e.rds⟩ (ckGates gs) = (truthsL e, 0) := hke
    simp -implicitDefEqProofs (maxSteps := 2000000) (disch := omega) only [go_sem, reduceCtorEq, Nat.reduceAdd, Nat.reduceSub, Nat.reduceMul, Nat.reduceLT, Nat.reduceLeDiff, Nat.reduceEqDiff, Nat.reduceBEq, Int.reduceToNat, Int.reduceLT, Int.reduceLE, Int.reduceEq, Int.reduceNeg, Int.reduceAdd, Int.reduceSub, Int.reduceMul, ↓reduceIte, Int.reduceBEq, Int.reduceBNe, hke', tavs]
    refine least_c (fun r => worstL r e.slack (truthsL e)) (byGatesL e.tones.length gs) (byGatesL_ne (by simp only [ck] at hc; grind) g1) (by have := byGatesL_len (m := e.tones.length) (gs := gs) hlen (by omega); omega)
      (fun x hx => best1_v (e := e) (l := truthsL e) (tk := .no) (by rw [hget_at]; rfl) (by rw [hget_at0]; rfl) he.sl (by omega) (fun t ht => truthsL_ok he t ht) (byGatesL_ok hlen g3 x hx)) _ ?_
    have hb : leastL (fun r => worstL r e.slack (truthsL e)) (byGatesL e.tones.length gs) = bestOf e gs := rfl
    rw [hb]
    have hb2 : (bestL e gs) = (bestOf e gs, 0) := by simp [bestL, hk]
    rw [hb2]
    generalize bestOf e gs = b
    simp -implicitDefEqProofs (maxSteps := 2000000) (disch := omega) only [go_sem, reduceCtorEq, Nat.reduceAdd, Nat.reduceSub, Nat.reduceMul, Nat.reduceLT, Nat.reduceLeDiff, Nat.reduceEqDiff, Nat.reduceBEq, Int.reduceToNat, Int.reduceLT, Int.reduceLE, Int.reduceEq, Int.reduceNeg, Int.reduceAdd, Int.reduceSub, Int.reduceMul, ↓reduceIte, Int.reduceBEq, Int.reduceBNe, tavs, Rd.av]
  · have hk' : ¬ (askL ⟨e.slack, e.tones, e.rds⟩ (ckGates gs)).2 = 0 := hk
    have hb2 : bestL e gs = ((⟨0, 0, 0, 0, ⟨0, 0⟩⟩, 0), (askL ⟨e.slack, e.tones, e.rds⟩ (ckGates gs)).2) := by simp only [bestL, hk, if_false]
    rw [hb2]
    generalize hq : askL ⟨e.slack, e.tones, e.rds⟩ (ckGates gs) = q at hk'
    simp -implicitDefEqProofs (maxSteps := 2000000) (disch := omega) only [go_sem, reduceCtorEq, Nat.reduceAdd, Nat.reduceSub, Nat.reduceMul, Nat.reduceLT, Nat.reduceLeDiff, Nat.reduceEqDiff, Nat.reduceBEq, Int.reduceToNat, Int.reduceLT, Int.reduceLE, Int.reduceEq, Int.reduceNeg, Int.reduceAdd, Int.reduceSub, Int.reduceMul, ↓reduceIte, Int.reduceBEq, Int.reduceBNe, hq, hk', tavs, Rd.av]
end Go.Proofs
set_option linter.unusedSimpArgs false
set_option linter.unusedVariables false
set_option maxRecDepth 100000
namespace Go.Proofs
open Go Go.Mu

/-- What is wrong with what is asked of Needs. -/
def needW (m x : Int) (w : Rng) (gs : List Int) : Int := if ckWant m x w = 0 then ckGates gs else ckWant m x w
def needsL (e : Ear) (x : Int) (w : Rng) (gs : List Int) : Int × Int :=
  if (askL e (needW e.tones.length x w gs)).2 = 0 then
    (if qin x w (truthsL e) = true then (0, 0) else if oneL x w (byGatesL e.tones.length gs) e.slack (truthsL e) = true then (1, 0) else if twoL x w (byGatesL e.tones.length gs) e.slack (truthsL e) = true then (2, 0) else (0, 11))
  else (0, (askL e (needW e.tones.length x w gs)).2)
theorem ckWant_ok {m : Nat} {x : Int} {w : Rng} (h : ckWant m x w = 0) : 0 ≤ x ∧ x ≤ m - 1 := by
  unfold ckWant at h; split at h <;> omega
attribute [go_sem] Int.toNat_natCast
set_option maxHeartbeats 2000000 in
theorem needs_p (e : Ear) (x : Int) (w : Rng) (gs : List Int) (h1 : e.tones.length ≤ 4294967296) (h2 : e.rds.length ≤ 4294967296) (h3 : gs.length ≤ 4294967296) :
    PureV Tryz.prog 45 [e.av, .int .i64 x, w.av, .list .no 1 (gs.map (.int .i64))] (.tup [.int .i64 (needsL e x w gs).1, .int .i64 (needsL e x w gs).2]) := by
  refine PureV.of_ev (E := Tryz.E 68 Tryz.ord45 fs15) (Tryz.envOK 68 Tryz.ord45 fs15 fs15_ok) (ii_plain) Tryz.kp45 Tryz.func45 rfl (by kernel_rfl) (by simp [Tryz.E]) (Callable.of Tryz.func45 (by kernel_rfl) (by kernel_rfl)) (by kernel_rfl) ?_
  intro σ
  simp only [Ear.av, Rng.av]
  by_cases hk : (askL e (needW e.tones.length x w gs)).2 = 0
  · obtain ⟨hc, hw, hn, hke⟩ := askL_ok hk
    have he := okE_of_ck hc
    have hlen := he.len
    have htl := truthsL_len he
    have hw1 : ckWant e.tones.length x w = 0 := by
      unfold needW at hw; split at hw
      · assumption
      · exact absurd hw (by assumption)
    have hw2 : ckGates gs = 0 := by unfold needW at hw; rw [if_pos hw1] at hw; exact hw
    obtain ⟨g1, g2, g3⟩ := ckGates_ok hw2
    have hx := ckWant_ok hw1
    have hx2 : 0 ≤ x ∧ x ≤ 2 := by omega
    have hr := byGatesL_ok (m := e.tones.length) (gs := gs) hlen g3
    have hrl := byGatesL_len (m := e.tones.length) (gs := gs) hlen (by omega)
    have hke' : askL ⟨e.slack, e.tones, e.rds⟩ 0 = (truthsL e, 0) := by rw [hw] at hke; exact hke
    have hdef : needsL e x w gs = (if qin x w (truthsL e) = true then (0, 0) else if oneL x w (byGatesL e.tones.length gs) e.slack (truthsL e) = true then (1, 0) else if twoL x w (byGatesL e.tones.length gs) e.slack (truthsL e) = true then (2, 0) else (0, 11)) := by unfold needsL; rw [if_pos hk]
    rw [hdef]
    have htr := truthsL_ok he
    have hsl := he.sl
    generalize truthsL e = T at htl hke' hn htr
    simp -implicitDefEqProofs (maxSteps := 2000000) (disch := omega) only [go_sem, reduceCtorEq, Nat.reduceAdd, Nat.reduceSub, Nat.reduceMul, Nat.reduceLT, Nat.reduceLeDiff, Nat.reduceEqDiff, Nat.reduceBEq, Int.reduceToNat, Int.reduceLT, Int.reduceLE, Int.reduceEq, Int.reduceNeg, Int.reduceAdd, Int.reduceSub, Int.reduceMul, ↓reduceIte, Int.reduceBEq, Int.reduceBNe, hke', hw1, hw2, tavs]
    refine ARun.ghostK (σ.length + 2) 3 1 (by rw [hget_at]; rfl) rfl ?_
    simp only [hset_at, List.set_cons_succ, List.set_cons_zero, List.append_assoc, List.cons_append, List.nil_append, List.length_append, List.length_cons, List.length_nil, Nat.zero_add, Nat.reduceAdd]
    refine ARun.forS (Tryz.envOK 68 Tryz.ord45 fs15 fs15_ok) (byGatesL e.tones.length gs).length (fun _ => True) (fun i => [(42, .int .i64 i)]) (fun i j => σ ++ (.cells e.cells :: .cells [.int .i64 w.lo, .int .i64 w.hi] :: .cells [.int .i64 x, .int .i64 w.lo, .int .i64 w.hi, .list (.own (σ.length + 3)) 1 (((byGatesL e.tones.length gs).take i).map fun r => rdv r e.slack)] :: .tail i 1 :: j)) [] (by kernel_rfl) (by simp [Ear.cells]) (by simp [upd, ins, subF, lookA]) trivial ?_ ?_
    · intro i j hi _ ih
      have hlt : ((byGatesL e.tones.length gs).take i).length = i := by rw [List.length_take]; omega
      have hfl : ∀ r : Rd, (rdv r e.slack).flat = true := fun r => by unfold rdv; split; rfl; split <;> rfl
      have e4 : ((byGatesL e.tones.length gs).take (i + 1)).map (fun r => rdv r e.slack) = ((byGatesL e.tones.length gs).take i).map (fun r => rdv r e.slack) ++ [rdv (byGatesL e.tones.length gs)[i] e.slack] := by rw [List.take_succ_eq_append_getElem hi, List.map_append]; rfl
      simp -implicitDefEqProofs (maxSteps := 2000000) (disch := omega) only [go_sem, reduceCtorEq, Nat.reduceAdd, Nat.reduceSub, Nat.reduceMul, Nat.reduceLT, Nat.reduceLeDiff, Nat.reduceEqDiff, Nat.reduceBEq, Int.reduceToNat, Int.reduceLT, Int.reduceLE, Int.reduceEq, Int.reduceNeg, Int.reduceAdd, Int.reduceSub, Int.reduceMul, ↓reduceIte, Int.reduceBEq, Int.reduceBNe, hlt, hfl, rdv_cells, giveB_rdv, Ear.cells, Rd.av]
      exact (ih trivial (j ++ [_])).castS (by rw [e4]; rfl) (by simp [upd, ins, subF, lookA])
    · intro j _
      rw [List.take_length]
      simp -implicitDefEqProofs (maxSteps := 2000000) (disch := omega) only [go_sem, reduceCtorEq, Nat.reduceAdd, Nat.reduceSub, Nat.reduceMul, Nat.reduceLT, Nat.reduceLeDiff, Nat.reduceEqDiff, Nat.reduceBEq, Int.reduceToNat, Int.reduceLT, Int.reduceLE, Int.reduceEq, Int.reduceNeg, Int.reduceAdd, Int.reduceSub, Int.reduceMul, ↓reduceIte, Int.reduceBEq, Int.reduceBNe, tavs]
      refine decided_c x w (.own (σ.length + 3)) 1 ((byGatesL e.tones.length gs).map fun r => rdv r e.slack) T hx2 (by omega) (fun t ht => (htr t ht).1) _ _ ?_
      cases hq1 : qin x w T
      · simp -implicitDefEqProofs (maxSteps := 2000000) (disch := omega) only [go_sem, reduceCtorEq, Nat.reduceAdd, Nat.reduceSub, Nat.reduceMul, Nat.reduceLT, Nat.reduceLeDiff, Nat.reduceEqDiff, Nat.reduceBEq, Int.reduceToNat, Int.reduceLT, Int.reduceLE, Int.reduceEq, Int.reduceNeg, Int.reduceAdd, Int.reduceSub, Int.reduceMul, ↓reduceIte, Int.reduceBEq, Int.reduceBNe, tavs]
        refine qone_p x w (.own (σ.length + 3)) (byGatesL e.tones.length gs) e.slack T hx2 hsl (by omega) htr (by omega) hr _ _ ?_
        cases hq2 : oneL x w (byGatesL e.tones.length gs) e.slack T
        · simp -implicitDefEqProofs (maxSteps := 2000000) (disch := omega) only [go_sem, reduceCtorEq, Nat.reduceAdd, Nat.reduceSub, Nat.reduceMul, Nat.reduceLT, Nat.reduceLeDiff, Nat.reduceEqDiff, Nat.reduceBEq, Int.reduceToNat, Int.reduceLT, Int.reduceLE, Int.reduceEq, Int.reduceNeg, Int.reduceAdd, Int.reduceSub, Int.reduceMul, ↓reduceIte, Int.reduceBEq, Int.reduceBNe, tavs]
          refine qtwo_p x w (.own (σ.length + 3)) (byGatesL e.tones.length gs) e.slack T hx2 hsl (by omega) htr (by omega) hr _ _ ?_
          cases hq3 : twoL x w (byGatesL e.tones.length gs) e.slack T
          · simp -implicitDefEqProofs (maxSteps := 2000000) (disch := omega) only [go_sem, reduceCtorEq, Nat.reduceAdd, Nat.reduceSub, Nat.reduceMul, Nat.reduceLT, Nat.reduceLeDiff, Nat.reduceEqDiff, Nat.reduceBEq, Int.reduceToNat, Int.reduceLT, Int.reduceLE, Int.reduceEq, Int.reduceNeg, Int.reduceAdd, Int.reduceSub, Int.reduceMul, ↓reduceIte, Int.reduceBEq, Int.reduceBNe, tavs]
          · simp -implicitDefEqProofs (maxSteps := 2000000) (disch := omega) only [go_sem, reduceCtorEq, Nat.reduceAdd, Nat.reduceSub, Nat.reduceMul, Nat.reduceLT, Nat.reduceLeDiff, Nat.reduceEqDiff, Nat.reduceBEq, Int.reduceToNat, Int.reduceLT, Int.reduceLE, Int.reduceEq, Int.reduceNeg, Int.reduceAdd, Int.reduceSub, Int.reduceMul, ↓reduceIte, Int.reduceBEq, Int.reduceBNe, tavs]
        · simp -implicitDefEqProofs (maxSteps := 2000000) (disch := omega) only [go_sem, reduceCtorEq, Nat.reduceAdd, Nat.reduceSub, Nat.reduceMul, Nat.reduceLT, Nat.reduceLeDiff, Nat.reduceEqDiff, Nat.reduceBEq, Int.reduceToNat, Int.reduceLT, Int.reduceLE, Int.reduceEq, Int.reduceNeg, Int.reduceAdd, Int.reduceSub, Int.reduceMul, ↓reduceIte, Int.reduceBEq, Int.reduceBNe, tavs]
      · simp -implicitDefEqProofs (maxSteps := 2000000) (disch := omega) only [go_sem, reduceCtorEq, Nat.reduceAdd, Nat.reduceSub, Nat.reduceMul, Nat.reduceLT, Nat.reduceLeDiff, Nat.reduceEqDiff, Nat.reduceBEq, Int.reduceToNat, Int.reduceLT, Int.reduceLE, Int.reduceEq, Int.reduceNeg, Int.reduceAdd, Int.reduceSub, Int.reduceMul, ↓reduceIte, Int.reduceBEq, Int.reduceBNe, tavs]
  · have hk' : ¬ (askL ⟨e.slack, e.tones, e.rds⟩ (needW e.tones.length x w gs)).2 = 0 := hk
    have hdef : needsL e x w gs = (0, (askL ⟨e.slack, e.tones, e.rds⟩ (needW e.tones.length x w gs)).2) := by unfold needsL; rw [if_neg hk]
    rw [hdef]
    by_cases hw1 : ckWant e.tones.length x w = 0
    · have hv : needW e.tones.length x w gs = ckGates gs := if_pos hw1
      rw [hv] at hk' ⊢
      generalize hq : askL ⟨e.slack, e.tones, e.rds⟩ (ckGates gs) = q at hk'
      simp -implicitDefEqProofs (maxSteps := 2000000) (disch := omega) only [go_sem, reduceCtorEq, Nat.reduceAdd, Nat.reduceSub, Nat.reduceMul, Nat.reduceLT, Nat.reduceLeDiff, Nat.reduceEqDiff, Nat.reduceBEq, Int.reduceToNat, Int.reduceLT, Int.reduceLE, Int.reduceEq, Int.reduceNeg, Int.reduceAdd, Int.reduceSub, Int.reduceMul, ↓reduceIte, Int.reduceBEq, Int.reduceBNe, hq, hk', hw1, tavs]
    · have hv : needW e.tones.length x w gs = ckWant e.tones.length x w := if_neg hw1
      rw [hv] at hk' ⊢
      generalize hq : askL ⟨e.slack, e.tones, e.rds⟩ (ckWant e.tones.length x w) = q at hk'
      simp -implicitDefEqProofs (maxSteps := 2000000) (disch := omega) only [go_sem, reduceCtorEq, Nat.reduceAdd, Nat.reduceSub, Nat.reduceMul, Nat.reduceLT, Nat.reduceLeDiff, Nat.reduceEqDiff, Nat.reduceBEq, Int.reduceToNat, Int.reduceLT, Int.reduceLE, Int.reduceEq, Int.reduceNeg, Int.reduceAdd, Int.reduceSub, Int.reduceMul, ↓reduceIte, Int.reduceBEq, Int.reduceBNe, hq, hk', hw1, tavs]
def needs_s := spec4 tEar tI tRng tIs fun e x w gs => if e.tones.length ≤ 4294967296 ∧ e.rds.length ≤ 4294967296 ∧ gs.length ≤ 4294967296 then some (.tup [.int .i64 (needsL e x w gs).1, .int .i64 (needsL e x w gs).2]) else none
theorem needs_ok : ∀ xs v, needs_s xs = some v → PureV Tryz.prog 45 xs v :=
  spec4_ok fun e x w gs v h => by have h := someIf h; rw [← h.2]; exact needs_p e x w gs h.1.1 h.1.2.1 h.1.2.2
def best_s := spec2 tEar tIs fun e gs => if e.tones.length ≤ 4294967296 ∧ e.rds.length ≤ 4294967296 ∧ gs.length ≤ 4294967296 then some (.tup [(bestL e gs).1.1.av, .int .i64 (bestL e gs).1.2, .int .i64 (bestL e gs).2]) else none
theorem best_ok : ∀ xs v, best_s xs = some v → PureV Tryz.prog 43 xs v :=
  spec2_ok fun e gs v h => by have h := someIf h; rw [← h.2]; exact best_p e gs h.1.1 h.1.2.1 h.1.2.2
def fs16 (f : FuncId) (xs : List AV) : Option AV := if f = 45 then needs_s xs else if f = 43 then best_s xs else fs15 f xs
theorem fs16_ok : ∀ f xs v, fs16 f xs = some v → PureV Tryz.prog f xs v := by
  intro f xs v h
  unfold fs16 at h
  split at h
  · rename_i e; subst e; exact needs_ok _ _ h
  split at h
  · rename_i e; subst e; exact best_ok _ _ h
  exact fs15_ok _ _ _ h
attribute [go_sem] fs16 needs_s best_s
end Go.Proofs
