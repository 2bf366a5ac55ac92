/- Texts of a proof: lemmas. -/
import Derived.Test.YthejgnlikaiddaaDoorRl
import Derived.Test.YthejgnlikaiddaaDoorPlSp
set_option linter.unusedSimpArgs false
set_option linter.unusedVariables false
set_option maxRecDepth 100000
namespace Go.Proofs
open Go Go.Mu

attribute [go_sem] spw1 spw2 spw3 spw4 tyI_dec tyS_dec tyIs_dec tyIss_dec tyRs_dec tyR_dec tyM_dec tyMs_dec tyCat_dec tyOld_dec tyMade_dec tyMades_dec tyLk_dec decL_isv decL_iss decModel_av decL_models decCat_av decOld_av decMade_av decL_mades cells_isv flat_isv decStr decLk
attribute [go_sem] decModel decCat decOld decMade
theorem drop_cons {α : Type} {l : List α} {i : Nat} (h : i < l.length) : l.drop i = l[i] :: l.drop (i + 1) := List.drop_eq_getElem_cons h
theorem firstE_drop {α : Type} {f : α → Int} {l : List α} {i : Nat} (h : i < l.length) : firstE f (l.drop i) = if f l[i] = 0 then firstE f (l.drop (i + 1)) else f l[i] := by rw [drop_cons h]; rfl
theorem firstE_end {α : Type} {f : α → Int} {l : List α} : firstE f (l.drop l.length) = 0 := by simp [firstE]
def pin_s := spec3 tI tI tI fun n lo hi => some (.bool (decide (lo ≤ n ∧ n ≤ hi)))
theorem pin_ok : ∀ xs v, pin_s xs = some v → PureV Tryd.prog 63 xs v := by
  refine spec3_ok fun n lo hi v h => ?_
  simp only [Option.some.injEq] at h; subst h
  refine PureV.of_ev (E := Tryd.E 15 (fun _ => ([], [])) fs0) (Tryd.envOK 15 (fun _ => ([], [])) fs0 fs0_ok) (.bool) Tryd.kp63 Tryd.func63 rfl (by kernel_rfl) (by simp [Tryd.E]) (Callable.of Tryd.func63 (by kernel_rfl) (by kernel_rfl)) (by kernel_rfl) ?_
  intro σ
  simp only [tI]
  simp -implicitDefEqProofs (maxSteps := 2000000) (disch := omega) only [go_sem, reduceCtorEq, Nat.reduceAdd, Nat.reduceSub, Nat.reduceMul, Nat.reduceLT, Nat.reduceLeDiff, Nat.reduceEqDiff, Nat.reduceBEq, Int.reduceToNat, Int.reduceLT, Int.reduceLE, Int.reduceEq, Int.reduceNeg, Int.reduceAdd, Int.reduceSub, Int.reduceMul, ↓reduceIte, Int.reduceBEq, Int.reduceBNe]
  refine ⟨fun h1 => ⟨fun h2 => ?_, fun h2 => ?_⟩, fun h1 => ?_⟩ <;> simp [h1, *]
def counted_s := spec3 tI tI tI fun n lo hi => some (.int .i64 (countE n lo hi))
theorem counted_ok : ∀ xs v, counted_s xs = some v → PureV Tryd.prog 89 xs v := by
  refine spec3_ok fun n lo hi v h => ?_
  simp only [Option.some.injEq] at h; subst h
  refine PureV.of_ev (E := Tryd.E 15 (fun _ => ([], [])) fs0) (Tryd.envOK 15 (fun _ => ([], [])) fs0 fs0_ok) (.int) Tryd.kp89 Tryd.func89 rfl (by kernel_rfl) (by simp [Tryd.E]) (Callable.of Tryd.func89 (by kernel_rfl) (by kernel_rfl)) (by kernel_rfl) ?_
  intro σ
  simp only [tI]
  simp -implicitDefEqProofs (maxSteps := 2000000) (disch := omega) only [go_sem, reduceCtorEq, Nat.reduceAdd, Nat.reduceSub, Nat.reduceMul, Nat.reduceLT, Nat.reduceLeDiff, Nat.reduceEqDiff, Nat.reduceBEq, Int.reduceToNat, Int.reduceLT, Int.reduceLE, Int.reduceEq, Int.reduceNeg, Int.reduceAdd, Int.reduceSub, Int.reduceMul, ↓reduceIte, Int.reduceBEq, Int.reduceBNe]
  simp only [countE]; grind
def fs1 (f : FuncId) (xs : List AV) : Option AV := if f = 63 then pin_s xs else if f = 89 then counted_s xs else fs0 f xs
theorem fs1_ok : ∀ f xs v, fs1 f xs = some v → PureV Tryd.prog f xs v := by
  intro f xs v h
  unfold fs1 at h
  split at h
  · rename_i e; subst e; exact pin_ok _ _ h
  split at h
  · rename_i e; subst e; exact counted_ok _ _ h
  exact fs0_ok _ _ _ h
attribute [go_sem] fs1 pin_s counted_s
theorem checkValues_p (l : List Int) (f least : Int) (hl : l.length ≤ 4294967296) : PureV Tryd.prog 79 [isv l, .int .i64 f, .int .i64 least] (.int .i64 (ckVals l f least)) := by
  refine PureV.of_ev (E := Tryd.E 29 (fun _ => ([], [])) fs1) (Tryd.envOK 29 (fun _ => ([], [])) fs1 fs1_ok) (.int) Tryd.kp79 Tryd.func79 rfl (by kernel_rfl) (by simp [Tryd.E]) (Callable.of Tryd.func79 (by kernel_rfl) (by kernel_rfl)) (by kernel_rfl) ?_
  intro σ
  simp only [isv]
  simp -implicitDefEqProofs (maxSteps := 2000000) (disch := omega) only [go_sem, reduceCtorEq, Nat.reduceAdd, Nat.reduceSub, Nat.reduceMul, Nat.reduceLT, Nat.reduceLeDiff, Nat.reduceEqDiff, Nat.reduceBEq, Int.reduceToNat, Int.reduceLT, Int.reduceLE, Int.reduceEq, Int.reduceNeg, Int.reduceAdd, Int.reduceSub, Int.reduceMul, ↓reduceIte, Int.reduceBEq, Int.reduceBNe]
  refine ⟨fun q1 => ?_, fun q1 => ?_⟩
  · simp only [ckVals]; grind
  · refine ARun.forS (Tryd.envOK 29 (fun _ => ([], [])) fs1 fs1_ok) l.length (fun i => firstE (ckVal least) (l.drop i) = firstE (ckVal least) l) (fun i => [(20, .int .i64 i)]) (fun _ j => σ) [] (by kernel_rfl) rfl (by simp [upd, ins, subF, lookA]) (by simp) ?_ ?_
    · intro i j hi hp ih
      rw [firstE_drop hi] at hp
      simp -implicitDefEqProofs (maxSteps := 2000000) (disch := omega) only [go_sem, reduceCtorEq, Nat.reduceAdd, Nat.reduceSub, Nat.reduceMul, Nat.reduceLT, Nat.reduceLeDiff, Nat.reduceEqDiff, Nat.reduceBEq, Int.reduceToNat, Int.reduceLT, Int.reduceLE, Int.reduceEq, Int.reduceNeg, Int.reduceAdd, Int.reduceSub, Int.reduceMul, ↓reduceIte, Int.reduceBEq, Int.reduceBNe]
      refine ⟨fun r1 r2 => (ih (by simp only [ckVal] at hp ⊢; grind) []).castS rfl (by simp [upd, ins, subF, lookA]), fun r1 => ?_⟩
      simp only [ckVals, ckVal] at *; grind
    · intro j hp
      rw [firstE_end] at hp
      simp -implicitDefEqProofs (maxSteps := 2000000) (disch := omega) only [go_sem, reduceCtorEq, Nat.reduceAdd, Nat.reduceSub, Nat.reduceMul, Nat.reduceLT, Nat.reduceLeDiff, Nat.reduceEqDiff, Nat.reduceBEq, Int.reduceToNat, Int.reduceLT, Int.reduceLE, Int.reduceEq, Int.reduceNeg, Int.reduceAdd, Int.reduceSub, Int.reduceMul, ↓reduceIte, Int.reduceBEq, Int.reduceBNe]
      simp only [ckVals]; grind
end Go.Proofs
set_option linter.unusedSimpArgs false
set_option linter.unusedVariables false
set_option maxRecDepth 100000
namespace Go.Proofs
open Go Go.Mu

def checkValues_s := spw3 tyIs.w tyI.w tyI.w fun l f least => if l.length ≤ 4294967296 then some (.int .i64 (ckVals l f least)) else none
theorem checkValues_ok : ∀ xs v, checkValues_s xs = some v → PureV Tryd.prog 79 xs v :=
  spw3_ok fun l f least v h => by have h := someIf h; rw [← h.2]; exact checkValues_p l f least h.1
def fs2 (f : FuncId) (xs : List AV) : Option AV := if f = 79 then checkValues_s xs else fs1 f xs
theorem fs2_ok : ∀ f xs v, fs2 f xs = some v → PureV Tryd.prog f xs v := by
  intro f xs v h
  unfold fs2 at h
  split at h
  · rename_i e; subst e; exact checkValues_ok _ _ h
  exact fs1_ok _ _ _ h
attribute [go_sem] fs2 checkValues_s
/-- Lists that are not too long. -/
def okLen (m : Model) : Prop := m.looks.length ≤ 4294967296 ∧ m.nums.length ≤ 4294967296 ∧ ∀ l ∈ m.looks, l.length ≤ 4294967296
set_option maxHeartbeats 4000000 in
theorem checkModel_p (m : Model) (f : Int) (hm : okLen m) : PureV Tryd.prog 90 [m.av, .int .i64 f] (.int .i64 (ckModel f m)) := by
  refine PureV.of_ev (E := Tryd.E 73 (fun _ => ([], [])) fs2) (Tryd.envOK 73 (fun _ => ([], [])) fs2 fs2_ok) (.int) Tryd.kp90 Tryd.func90 rfl (by kernel_rfl) (by simp [Tryd.E]) (Callable.of Tryd.func90 (by kernel_rfl) (by kernel_rfl)) (by kernel_rfl) ?_
  intro σ
  obtain ⟨y, ls, ns⟩ := m
  obtain ⟨h1, h2, h3⟩ := hm
  simp only at h1 h2 h3
  simp only [Model.av]
  simp -implicitDefEqProofs (maxSteps := 2000000) (disch := omega) only [go_sem, reduceCtorEq, Nat.reduceAdd, Nat.reduceSub, Nat.reduceMul, Nat.reduceLT, Nat.reduceLeDiff, Nat.reduceEqDiff, Nat.reduceBEq, Int.reduceToNat, Int.reduceLT, Int.reduceLE, Int.reduceEq, Int.reduceNeg, Int.reduceAdd, Int.reduceSub, Int.reduceMul, ↓reduceIte, Int.reduceBEq, Int.reduceBNe]
  refine ⟨fun g1 g2 => ⟨fun g3 => ?_, fun g3 => ⟨fun g4 => ?_, fun g4 => ?_⟩⟩, fun g1 => ?_⟩
  · simp only [ckModel]; grind
  · simp only [ckModel]; grind
  · refine ARun.forS (Tryd.envOK 73 (fun _ => ([], [])) fs2 fs2_ok) ls.length (fun i => firstE (fun l => ckVals l f 1) (ls.drop i) = firstE (fun l => ckVals l f 1) ls) (fun i => [(39, .int .i64 i)]) (fun _ j => σ ++ (.cells [.int .i64 y, .list .no 1 (ls.map isv), .list .no 2 (ns.map Rng.av)] :: j)) [] (by kernel_rfl) rfl (by simp [upd, ins, subF, lookA]) (by simp) ?_ ?_
    · intro i j hi hp ih
      rw [firstE_drop hi] at hp
      have h3i := h3 _ (List.getElem_mem hi)
      simp -implicitDefEqProofs (maxSteps := 2000000) (disch := omega) only [go_sem, reduceCtorEq, Nat.reduceAdd, Nat.reduceSub, Nat.reduceMul, Nat.reduceLT, Nat.reduceLeDiff, Nat.reduceEqDiff, Nat.reduceBEq, Int.reduceToNat, Int.reduceLT, Int.reduceLE, Int.reduceEq, Int.reduceNeg, Int.reduceAdd, Int.reduceSub, Int.reduceMul, ↓reduceIte, Int.reduceBEq, Int.reduceBNe]
      refine ⟨fun r1 => ?_, fun r1 => (ih (by grind) j).castS rfl (by simp [upd, ins, subF, lookA])⟩
      simp only [ckModel] at *; grind
    · intro j hp
      rw [firstE_end] at hp
      simp -implicitDefEqProofs (maxSteps := 2000000) (disch := omega) only [go_sem, reduceCtorEq, Nat.reduceAdd, Nat.reduceSub, Nat.reduceMul, Nat.reduceLT, Nat.reduceLeDiff, Nat.reduceEqDiff, Nat.reduceBEq, Int.reduceToNat, Int.reduceLT, Int.reduceLE, Int.reduceEq, Int.reduceNeg, Int.reduceAdd, Int.reduceSub, Int.reduceMul, ↓reduceIte, Int.reduceBEq, Int.reduceBNe]
      refine ARun.forS (Tryd.envOK 73 (fun _ => ([], [])) fs2 fs2_ok) ns.length (fun i => firstE ckNum (ns.drop i) = firstE ckNum ns) (fun i => [(53, .int .i64 i)]) (fun _ j => σ ++ (.cells [.int .i64 y, .list .no 1 (ls.map isv), .list .no 2 (ns.map Rng.av)] :: j)) j (by kernel_rfl) rfl (by simp [upd, ins, subF, lookA]) (by simp) ?_ ?_
      · intro i j hi hp2 ih
        rw [firstE_drop hi] at hp2
        simp -implicitDefEqProofs (maxSteps := 2000000) (disch := omega) only [go_sem, reduceCtorEq, Nat.reduceAdd, Nat.reduceSub, Nat.reduceMul, Nat.reduceLT, Nat.reduceLeDiff, Nat.reduceEqDiff, Nat.reduceBEq, Int.reduceToNat, Int.reduceLT, Int.reduceLE, Int.reduceEq, Int.reduceNeg, Int.reduceAdd, Int.reduceSub, Int.reduceMul, ↓reduceIte, Int.reduceBEq, Int.reduceBNe, Rng.av]
        refine ⟨fun r1 r2 => ⟨fun r3 r4 => ⟨fun r5 => ?_, fun r5 => (ih (by simp only [ckNum] at *; grind) (j ++ [_])).castS rfl (by simp [upd, ins, subF, lookA])⟩, fun r3 => ?_⟩, fun r1 => ?_⟩ <;> (simp only [ckModel, ckNum] at *; grind)
      · intro j hp2
        rw [firstE_end] at hp2
        simp -implicitDefEqProofs (maxSteps := 2000000) (disch := omega) only [go_sem, reduceCtorEq, Nat.reduceAdd, Nat.reduceSub, Nat.reduceMul, Nat.reduceLT, Nat.reduceLeDiff, Nat.reduceEqDiff, Nat.reduceBEq, Int.reduceToNat, Int.reduceLT, Int.reduceLE, Int.reduceEq, Int.reduceNeg, Int.reduceAdd, Int.reduceSub, Int.reduceMul, ↓reduceIte, Int.reduceBEq, Int.reduceBNe]
        simp only [ckModel] at *; grind
  · simp only [ckModel]; grind
end Go.Proofs
set_option linter.unusedSimpArgs false
set_option linter.unusedVariables false
set_option maxRecDepth 100000
namespace Go.Proofs
open Go Go.Mu

instance (m : Model) : Decidable (okLen m) := by unfold okLen; infer_instance
def checkModel_s := spw2 tyM.w tyI.w fun m f => if okLen m then some (.int .i64 (ckModel f m)) else none
theorem checkModel_ok : ∀ xs v, checkModel_s xs = some v → PureV Tryd.prog 90 xs v :=
  spw2_ok fun m f v h => by have h := someIf h; rw [← h.2]; exact checkModel_p m f h.1
def fs3 (f : FuncId) (xs : List AV) : Option AV := if f = 90 then checkModel_s xs else fs2 f xs
theorem fs3_ok : ∀ f xs v, fs3 f xs = some v → PureV Tryd.prog f xs v := by
  intro f xs v h
  unfold fs3 at h
  split at h
  · rename_i e; subst e; exact checkModel_ok _ _ h
  exact fs2_ok _ _ _ h
attribute [go_sem] fs3 checkModel_s
def okCat (c : Cat) : Prop := c.models.length ≤ 4294967296 ∧ ∀ m ∈ c.models, okLen m
instance (c : Cat) : Decidable (okCat c) := by unfold okCat; infer_instance
set_option maxHeartbeats 4000000 in
theorem pCheck_p (c : Cat) (hc : okCat c) : PureV Tryd.prog 78 [c.av] (.int .i64 (ckCat c)) := by
  refine PureV.of_ev (E := Tryd.E 33 (fun _ => ([], [])) fs3) (Tryd.envOK 33 (fun _ => ([], [])) fs3 fs3_ok) (.int) Tryd.kp78 Tryd.func78 rfl (by kernel_rfl) (by simp [Tryd.E]) (Callable.of Tryd.func78 (by kernel_rfl) (by kernel_rfl)) (by kernel_rfl) ?_
  intro σ
  obtain ⟨f, ms⟩ := c
  obtain ⟨h1, h2⟩ := hc
  simp only at h1 h2
  simp only [Cat.av]
  simp -implicitDefEqProofs (maxSteps := 2000000) (disch := omega) only [go_sem, reduceCtorEq, Nat.reduceAdd, Nat.reduceSub, Nat.reduceMul, Nat.reduceLT, Nat.reduceLeDiff, Nat.reduceEqDiff, Nat.reduceBEq, Int.reduceToNat, Int.reduceLT, Int.reduceLE, Int.reduceEq, Int.reduceNeg, Int.reduceAdd, Int.reduceSub, Int.reduceMul, ↓reduceIte, Int.reduceBEq, Int.reduceBNe]
  refine ⟨fun g1 g2 => ⟨fun g3 => ?_, fun g3 => ?_⟩, fun g1 => ?_⟩
  · simp only [ckCat]; grind
  · refine ARun.forS (Tryd.envOK 33 (fun _ => ([], [])) fs3 fs3_ok) ms.length (fun i => firstE (ckModel f) (ms.drop i) = firstE (ckModel f) ms) (fun i => [(21, .int .i64 i)]) (fun _ j => σ ++ (.cells [.int .i64 f, .list .no 3 (ms.map Model.av)] :: j)) [] (by kernel_rfl) rfl (by simp [upd, ins, subF, lookA]) (by simp) ?_ ?_
    · intro i j hi hp ih
      rw [firstE_drop hi] at hp
      have h2i := h2 _ (List.getElem_mem hi)
      have hcl : (ms[i]).av = .agg [.int .i64 ms[i].first, .list .no 1 (ms[i].looks.map isv), .list .no 2 (ms[i].nums.map Rng.av)] := rfl
      simp -implicitDefEqProofs (maxSteps := 2000000) (disch := omega) only [go_sem, reduceCtorEq, Nat.reduceAdd, Nat.reduceSub, Nat.reduceMul, Nat.reduceLT, Nat.reduceLeDiff, Nat.reduceEqDiff, Nat.reduceBEq, Int.reduceToNat, Int.reduceLT, Int.reduceLE, Int.reduceEq, Int.reduceNeg, Int.reduceAdd, Int.reduceSub, Int.reduceMul, ↓reduceIte, Int.reduceBEq, Int.reduceBNe, hcl, Model_eta, h2i]
      refine ⟨fun r1 => ?_, fun r1 => (ih (by grind) (j ++ [_])).castS rfl (by simp [upd, ins, subF, lookA])⟩
      simp only [ckCat] at *; grind
    · intro j hp
      rw [firstE_end] at hp
      simp -implicitDefEqProofs (maxSteps := 2000000) (disch := omega) only [go_sem, reduceCtorEq, Nat.reduceAdd, Nat.reduceSub, Nat.reduceMul, Nat.reduceLT, Nat.reduceLeDiff, Nat.reduceEqDiff, Nat.reduceBEq, Int.reduceToNat, Int.reduceLT, Int.reduceLE, Int.reduceEq, Int.reduceNeg, Int.reduceAdd, Int.reduceSub, Int.reduceMul, ↓reduceIte, Int.reduceBEq, Int.reduceBNe]
      simp only [ckCat] at *; grind
  · simp only [ckCat]; grind
def pCheck_s := spw1 tyCat.w fun c => if okCat c then some (.int .i64 (ckCat c)) else none
theorem pCheck_ok : ∀ xs v, pCheck_s xs = some v → PureV Tryd.prog 78 xs v :=
  spw1_ok fun c v h => by have h := someIf h; rw [← h.2]; exact pCheck_p c h.1
def fs4 (f : FuncId) (xs : List AV) : Option AV := if f = 78 then pCheck_s xs else fs3 f xs
theorem fs4_ok : ∀ f xs v, fs4 f xs = some v → PureV Tryd.prog f xs v := by
  intro f xs v h
  unfold fs4 at h
  split at h
  · rename_i e; subst e; exact pCheck_ok _ _ h
  exact fs3_ok _ _ _ h
attribute [go_sem] fs4 pCheck_s
theorem str_get {s : ByteArray} {i : Nat} (h : i < s.size) : s[i]? = some (s.data.toList.getD i 0) := by
  have h' : i < s.data.size := h
  rw [getElem?_pos s i h]
  show some (s.data[i]) = _
  congr 1
  simp only [List.getD, Array.getElem?_toList, getElem?_pos s.data i h']
  rfl
theorem okB_byte {b : UInt8} : okByte b = true ↔ ((b.toNat : Int) = 63 ∨ 48 ≤ (b.toNat : Int) ∧ (b.toNat : Int) ≤ 57) := by
  unfold okByte
  simp only [Bool.or_eq_true, Bool.and_eq_true, beq_iff_eq, decide_eq_true_eq, UInt8.le_iff_toNat_le]
  have h1 : b = 63 ↔ b.toNat = 63 := by rw [← UInt8.toNat_inj]; rfl
  have h2 : (48 : UInt8).toNat = 48 := rfl
  have h3 : (57 : UInt8).toNat = 57 := rfl
  rw [h1, h2, h3]; omega
theorem all_drop {α : Type} {p : α → Bool} {l : List α} {i : Nat} (h : i < l.length) : (l.drop i).all p = (p l[i] && (l.drop (i + 1)).all p) := by rw [drop_cons h]; rfl
def okOld (o : Old) : Prop := o.seen.length ≤ 4294967296 ∧ o.plate.size ≤ 4294967296
instance (o : Old) : Decidable (okOld o) := by unfold okOld; infer_instance
set_option maxHeartbeats 4000000 in
theorem valid_p (c : Cat) (o : Old) (hc : okCat c) (ho : okOld o) : PureV Tryd.prog 47 [c.av, o.av] (.int .i64 (ckOld c o)) := by
  refine PureV.of_ev (E := Tryd.E 57 (fun _ => ([], [])) fs4) (Tryd.envOK 57 (fun _ => ([], [])) fs4 fs4_ok) (.int) Tryd.kp47 Tryd.func47 rfl (by kernel_rfl) (by simp [Tryd.E]) (Callable.of Tryd.func47 (by kernel_rfl) (by kernel_rfl)) (by kernel_rfl) ?_
  intro σ
  obtain ⟨h1, h2⟩ := ho
  have hpl : o.plate.data.toList.length = o.plate.size := Array.length_toList
  simp only [Cat.av, Old.av]
  simp -implicitDefEqProofs (maxSteps := 2000000) (disch := omega) only [go_sem, reduceCtorEq, Nat.reduceAdd, Nat.reduceSub, Nat.reduceMul, Nat.reduceLT, Nat.reduceLeDiff, Nat.reduceEqDiff, Nat.reduceBEq, Int.reduceToNat, Int.reduceLT, Int.reduceLE, Int.reduceEq, Int.reduceNeg, Int.reduceAdd, Int.reduceSub, Int.reduceMul, ↓reduceIte, Int.reduceBEq, Int.reduceBNe, hc, Cat_eta]
  refine ⟨fun g1 => ?_, fun g1 => ⟨fun g2 => ?_, fun g2 => ?_⟩⟩
  · simp only [ckOld]; grind
  · simp only [ckOld]; grind
  · refine ⟨fun q1 => ⟨fun q2 => ?_, fun q2 => ?_⟩, fun q1 => ?_⟩
    · simp only [ckOld]; grind
    · have q3 : o.plate.size = 0 ∨ o.plate.size = 4 := by omega
      clear q1 q2
      refine ARun.forS (Tryd.envOK 57 (fun _ => ([], [])) fs4 fs4_ok) o.plate.size (fun i => (o.plate.data.toList.drop i).all okByte = o.plate.data.toList.all okByte) (fun i => [(35, .int .i64 i)]) (fun _ j => σ ++ (.cells [.int .i64 c.features, .list .no 3 (c.models.map Model.av)] :: .cells [isv o.seen, .str o.plate, .int .i64 o.changed] :: j)) [] (by kernel_rfl) rfl (by simp [upd, ins, subF, lookA]) (by simp) ?_ ?_
      · intro i j hi hp ih
        rw [all_drop (by omega)] at hp
        have hg : o.plate[((i : Nat) : Int).toNat]? = some o.plate.data.toList[i] := by
          rw [Int.toNat_natCast, str_get hi]
          simp [List.getD, List.getElem?_eq_getElem (show i < o.plate.data.toList.length by omega)]
        have hok := @okB_byte (o.plate.data.toList[i])
        generalize o.plate.data.toList[i] = b at hp hg hok
        have hbr : ((b.toNat : Nat) : Int) ≤ 255 := by have := b.toNat_lt; omega
        have hno : okByte b = false → ckOld c o = 2 := fun h => by
          rw [h] at hp
          have : ¬ (o.plate.data.toList.all okByte = true) := by rw [← hp]; simp
          simp only [ckOld]; grind
        have hyes : okByte b = true → (o.plate.data.toList.drop (i + 1)).all okByte = o.plate.data.toList.all okByte := fun h => by rw [h] at hp; simpa using hp
        clear hp
        generalize hx : ((b.toNat : Nat) : Int) = x at hok hbr
        have hx2 : AV.int .u8 (b.toNat : Int) = .int .u8 x := by rw [hx]
        simp -implicitDefEqProofs (maxSteps := 2000000) (disch := omega) only [go_sem, reduceCtorEq, Nat.reduceAdd, Nat.reduceSub, Nat.reduceMul, Nat.reduceLT, Nat.reduceLeDiff, Nat.reduceEqDiff, Nat.reduceBEq, Int.reduceToNat, Int.reduceLT, Int.reduceLE, Int.reduceEq, Int.reduceNeg, Int.reduceAdd, Int.reduceSub, Int.reduceMul, ↓reduceIte, Int.reduceBEq, Int.reduceBNe, hg, hx2]
        refine ⟨fun r1 => ⟨fun r2 => ?_, fun r2 => ⟨fun r3 => ?_, fun r3 => ?_⟩⟩, fun r1 => ?_⟩
        · exact (hno (Bool.eq_false_iff.2 fun h => by have := hok.1 h; omega)).symm
        · exact (hno (Bool.eq_false_iff.2 fun h => by have := hok.1 h; omega)).symm
        · exact (ih (hyes (hok.2 (by omega))) j).castS rfl (by simp [upd, ins, subF, lookA])
        · exact (ih (hyes (hok.2 (by omega))) j).castS rfl (by simp [upd, ins, subF, lookA])
      · intro j hp
        have hall : o.plate.data.toList.all okByte = true := by rw [← hp, ← hpl, List.drop_length]; rfl
        simp -implicitDefEqProofs (maxSteps := 2000000) (disch := omega) only [go_sem, reduceCtorEq, Nat.reduceAdd, Nat.reduceSub, Nat.reduceMul, Nat.reduceLT, Nat.reduceLeDiff, Nat.reduceEqDiff, Nat.reduceBEq, Int.reduceToNat, Int.reduceLT, Int.reduceLE, Int.reduceEq, Int.reduceNeg, Int.reduceAdd, Int.reduceSub, Int.reduceMul, ↓reduceIte, Int.reduceBEq, Int.reduceBNe]
        refine ⟨fun r1 r2 => ?_, fun r1 => ?_⟩ <;> (simp only [ckOld]; grind)
    · have q3 : o.plate.size = 0 ∨ o.plate.size = 4 := by omega
      clear q1
      refine ARun.forS (Tryd.envOK 57 (fun _ => ([], [])) fs4 fs4_ok) o.plate.size (fun i => (o.plate.data.toList.drop i).all okByte = o.plate.data.toList.all okByte) (fun i => [(35, .int .i64 i)]) (fun _ j => σ ++ (.cells [.int .i64 c.features, .list .no 3 (c.models.map Model.av)] :: .cells [isv o.seen, .str o.plate, .int .i64 o.changed] :: j)) [] (by kernel_rfl) rfl (by simp [upd, ins, subF, lookA]) (by simp) ?_ ?_
      · intro i j hi hp ih
        rw [all_drop (by omega)] at hp
        have hg : o.plate[((i : Nat) : Int).toNat]? = some o.plate.data.toList[i] := by
          rw [Int.toNat_natCast, str_get hi]
          simp [List.getD, List.getElem?_eq_getElem (show i < o.plate.data.toList.length by omega)]
        have hok := @okB_byte (o.plate.data.toList[i])
        generalize o.plate.data.toList[i] = b at hp hg hok
        have hbr : ((b.toNat : Nat) : Int) ≤ 255 := by have := b.toNat_lt; omega
        have hno : okByte b = false → ckOld c o = 2 := fun h => by
          rw [h] at hp
          have : ¬ (o.plate.data.toList.all okByte = true) := by rw [← hp]; simp
          simp only [ckOld]; grind
        have hyes : okByte b = true → (o.plate.data.toList.drop (i + 1)).all okByte = o.plate.data.toList.all okByte := fun h => by rw [h] at hp; simpa using hp
        clear hp
        generalize hx : ((b.toNat : Nat) : Int) = x at hok hbr
        have hx2 : AV.int .u8 (b.toNat : Int) = .int .u8 x := by rw [hx]
        simp -implicitDefEqProofs (maxSteps := 2000000) (disch := omega) only [go_sem, reduceCtorEq, Nat.reduceAdd, Nat.reduceSub, Nat.reduceMul, Nat.reduceLT, Nat.reduceLeDiff, Nat.reduceEqDiff, Nat.reduceBEq, Int.reduceToNat, Int.reduceLT, Int.reduceLE, Int.reduceEq, Int.reduceNeg, Int.reduceAdd, Int.reduceSub, Int.reduceMul, ↓reduceIte, Int.reduceBEq, Int.reduceBNe, hg, hx2]
        refine ⟨fun r1 => ⟨fun r2 => ?_, fun r2 => ⟨fun r3 => ?_, fun r3 => ?_⟩⟩, fun r1 => ?_⟩
        · exact (hno (Bool.eq_false_iff.2 fun h => by have := hok.1 h; omega)).symm
        · exact (hno (Bool.eq_false_iff.2 fun h => by have := hok.1 h; omega)).symm
        · exact (ih (hyes (hok.2 (by omega))) j).castS rfl (by simp [upd, ins, subF, lookA])
        · exact (ih (hyes (hok.2 (by omega))) j).castS rfl (by simp [upd, ins, subF, lookA])
      · intro j hp
        have hall : o.plate.data.toList.all okByte = true := by rw [← hp, ← hpl, List.drop_length]; rfl
        simp -implicitDefEqProofs (maxSteps := 2000000) (disch := omega) only [go_sem, reduceCtorEq, Nat.reduceAdd, Nat.reduceSub, Nat.reduceMul, Nat.reduceLT, Nat.reduceLeDiff, Nat.reduceEqDiff, Nat.reduceBEq, Int.reduceToNat, Int.reduceLT, Int.reduceLE, Int.reduceEq, Int.reduceNeg, Int.reduceAdd, Int.reduceSub, Int.reduceMul, ↓reduceIte, Int.reduceBEq, Int.reduceBNe]
        refine ⟨fun r1 r2 => ?_, fun r1 => ?_⟩ <;> (simp only [ckOld]; grind)
def valid_s := spw2 tyCat.w tyOld.w fun c o => if okCat c ∧ okOld o then some (.int .i64 (ckOld c o)) else none
theorem valid_ok : ∀ xs v, valid_s xs = some v → PureV Tryd.prog 47 xs v :=
  spw2_ok fun c o v h => by have h := someIf h; rw [← h.2]; exact valid_p c o h.1.1 h.1.2
def fs5 (f : FuncId) (xs : List AV) : Option AV := if f = 47 then valid_s xs else fs4 f xs
theorem fs5_ok : ∀ f xs v, fs5 f xs = some v → PureV Tryd.prog f xs v := by
  intro f xs v h
  unfold fs5 at h
  split at h
  · rename_i e; subst e; exact valid_ok _ _ h
  exact fs4_ok _ _ _ h
attribute [go_sem] fs5 valid_s
end Go.Proofs
