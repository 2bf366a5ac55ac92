/- Texts of a proof: lemmas. -/
import Derived.Test.YtbkjffpembflcaaA28
set_option linter.unusedSimpArgs false
set_option linter.unusedVariables false
set_option maxRecDepth 100000
namespace Go.Proofs
open Go Go.Mu

/-- A guarded load says the same again. -/
def reG (E : Env) (fr : Fr) (σ : List AObj) (d : Tmp) (op : Op) (want : Bool) : Option AV → Prop
  | some (.bool b) => b = want → give2 (fun v _ => fr.get d = some v) (hop E.ty fr σ op)
  | some (.tup []) => True
  | _ => False
theorem reG_tt {E : Env} {fr : Fr} {σ : List AObj} {d : Tmp} {op : Op} : reG E fr σ d op true (some (.bool true)) = give2 (fun v _ => fr.get d = some v) (hop E.ty fr σ op) := by simp [reG]
theorem reG_ff {E : Env} {fr : Fr} {σ : List AObj} {d : Tmp} {op : Op} : reG E fr σ d op false (some (.bool false)) = give2 (fun v _ => fr.get d = some v) (hop E.ty fr σ op) := by simp [reG]
theorem reG_tf {E : Env} {fr : Fr} {σ : List AObj} {d : Tmp} {op : Op} : reG E fr σ d op true (some (.bool false)) = True := by simp [reG]
theorem reG_ft {E : Env} {fr : Fr} {σ : List AObj} {d : Tmp} {op : Op} : reG E fr σ d op false (some (.bool true)) = True := by simp [reG]
theorem reG_tup {E : Env} {fr : Fr} {σ : List AObj} {d : Tmp} {op : Op} {want : Bool} : reG E fr σ d op want (some (.tup [])) = True := rfl
theorem reOK_guardA {E : Env} {all : List Oper} {fr : Fr} {σ : List AObj} {d : Tmp} {op : Op} {type : TypeId} {pos : String} {after : Array Edge} {j : Nat} {want : Bool} : reOK E all fr σ (some ⟨some d, op, type, pos, after, some (j, want)⟩) = reG E fr σ d op want (getO fr (dstOf all j)) := by
  have hd : dstOf all j = (all[j]?).bind (·.dst) := (dstOf_eq all j).symm
  simp only [reOK, wantA, hd]
  cases (all[j]?).bind (·.dst) with
  | none => simp [getO, reG]
  | some t =>
    simp only [getO]
    cases fr.get t with
    | none => simp [reG]
    | some v =>
      cases v with
      | bool b =>
        simp only [reG]
        cases hb : b == want with
        | true =>
          have : b = want := by simpa using hb
          simp only [this, true_implies]
          cases hop E.ty fr σ op with
          | none => rfl
          | some q => rfl
        | false =>
          have : ¬ b = want := by simpa using hb
          simp [this]
      | tup l => cases l <;> simp [reG]
      | _ => simp [reG]
attribute [go_sem] reG_tt reG_ff reG_tf reG_ft reG_tup reOK_guardA
def plain_s : List AV → Option AV
  | [] => some plainE.av
  | _ => none
theorem plain_ok : ∀ xs v, plain_s xs = some v → PureV Try.prog 69 xs v := by
  intro xs v h
  unfold plain_s at h
  split at h
  · simp only [Option.some.injEq] at h; rw [← h]; exact plain_p
  · cases h
def three_s : List AV → Option AV
  | [] => some threeE.av
  | _ => none
theorem three_ok : ∀ xs v, three_s xs = some v → PureV Try.prog 70 xs v := by
  intro xs v h
  unfold three_s at h
  split at h
  · simp only [Option.some.injEq] at h; rw [← h]; exact three_p
  · cases h
def ints_s := spec1 tIs fun l => if l.length ≤ 4294967296 then some (.list .no 1 (l.map (.int .i64))) else none
theorem ints_p (l : List Int) (hl : l.length ≤ 4294967296) : PureV Try.prog 22 [.list .no 1 (l.map (.int .i64))] (.list .no 1 (l.map (.int .i64))) := by
  refine PureV.of_ev (E := Try.E 6 (fun _ => ([], [])) fs0) (Try.envOK 6 (fun _ => ([], [])) fs0 fs0_ok) (.map fun x _ => .cells_int) Try.kp22 Try.func22 rfl (by kernel_rfl) (by simp [Try.E]) (Callable.of Try.func22 (by kernel_rfl) (by kernel_rfl)) (by kernel_rfl) ?_
  intro σ
  simp -implicitDefEqProofs (maxSteps := 2000000) (disch := omega) only [go_sem, reduceCtorEq, Nat.reduceAdd, Nat.reduceSub, Nat.reduceMul, Nat.reduceLT, Nat.reduceLeDiff, Nat.reduceEqDiff, Nat.reduceBEq, Int.reduceToNat, Int.reduceLT, Int.reduceLE, Int.reduceEq, Int.reduceNeg, Int.reduceAdd, Int.reduceSub, Int.reduceMul, ↓reduceIte, Int.reduceBEq, Int.reduceBNe]
theorem ints_ok : ∀ xs v, ints_s xs = some v → PureV Try.prog 22 xs v :=
  spec1_ok fun l v h => by have h := someIf h; rw [← h.2]; exact ints_p l h.1
def fs17 (f : FuncId) (xs : List AV) : Option AV := if f = 69 then plain_s xs else if f = 70 then three_s xs else fs16 f xs
theorem fs17_ok : ∀ f xs v, fs17 f xs = some v → PureV Try.prog f xs v := by
  intro f xs v h
  unfold fs17 at h
  split at h
  · rename_i e; subst e; exact plain_ok _ _ h
  split at h
  · rename_i e; subst e; exact three_ok _ _ h
  exact fs16_ok _ _ _ h
attribute [go_sem] fs17 plain_s three_s
theorem decEar_av (e : Ear) : decEar e.av = some e := by
  unfold decEar Ear.av
  simp only [decL_rng, decL_rd, Option.bind_some]
theorem giveB_ear {X : AV → List AObj → Prop} {σ : List AObj} {e : Ear} : giveB X σ (some e.av) = X e.av σ := by rw [giveB_eq]; rfl
theorem tonesE : tonesL earE = ([⟨44000, 44005⟩, ⟨44010, 44015⟩], 0) := by decide +kernel
theorem gateE : gateL plainE 0 9 = (10, 0) := by decide +kernel
theorem bestE : bestL threeE [20] = ((higherR 0 1, 2), 0) := by decide +kernel
theorem needsE : needsL threeE 0 ⟨44001, 44001⟩ [20] = (2, 0) := by decide +kernel
theorem higherE : higherL earE 1 0 = (1, 0) := by decide +kernel
theorem okE1 : earE.tones.length ≤ 4294967296 ∧ earE.rds.length ≤ 4294967296 := by decide
theorem okE2 : plainE.tones.length ≤ 4294967296 ∧ plainE.rds.length ≤ 4294967296 := by decide
theorem okE3 : threeE.tones.length ≤ 4294967296 ∧ threeE.rds.length ≤ 4294967296 := by decide
attribute [go_sem ↓] decEar_av
attribute [go_sem] giveB_ear
/-- THE CHAPTER's EXAMPLES. -/
theorem tuned_p : PureV Try.prog 15 [] (.bool true) := by
  refine PureV.of_ev (E := Try.E 87 Try.ord15 fs17) (Try.envOK 87 Try.ord15 fs17 fs17_ok) (.bool) Try.kp15 Try.func15 rfl (by kernel_rfl) (by simp [Try.E]) (Callable.of Try.func15 (by kernel_rfl) (by kernel_rfl)) (by kernel_rfl) ?_
  intro σ
  simp -implicitDefEqProofs (maxSteps := 2000000) (disch := omega) only [go_sem, reduceCtorEq, Nat.reduceAdd, Nat.reduceSub, Nat.reduceMul, Nat.reduceLT, Nat.reduceLeDiff, Nat.reduceEqDiff, Nat.reduceBEq, Int.reduceToNat, Int.reduceLT, Int.reduceLE, Int.reduceEq, Int.reduceNeg, Int.reduceAdd, Int.reduceSub, Int.reduceMul, ↓reduceIte, Int.reduceBEq, Int.reduceBNe, okE1, okE2, okE3, tonesE, gateE, bestE, needsE, higherE, Rng.av, Rd.av, higherR]
def tuned_s : List AV → Option AV
  | [] => some (.bool true)
  | _ => none
theorem tuned_ok : ∀ xs v, tuned_s xs = some v → PureV Try.prog 15 xs v := by
  intro xs v h
  unfold tuned_s at h
  split at h
  · simp only [Option.some.injEq] at h; rw [← h]; exact tuned_p
  · cases h
def fs18 (f : FuncId) (xs : List AV) : Option AV := if f = 15 then tuned_s xs else fs17 f xs
theorem fs18_ok : ∀ f xs v, fs18 f xs = some v → PureV Try.prog f xs v := by
  intro f xs v h
  unfold fs18 at h
  split at h
  · rename_i e; subst e; exact tuned_ok _ _ h
  exact fs17_ok _ _ _ h
attribute [go_sem] fs18 tuned_s
end Go.Proofs
