/- What arguments of a plates' seat read as, and their bulk; the library's tables. -/
import Derived.Test.YthejgnlikaiddaaDoorSL
import Derived.Test.YthejgnlikaiddaaDoorMuBr
import Derived.Test.YthejgnlikaiddaaDoorRows
import Derived.WalkKit
import Derived.ProofKit
import Derived.OpenShut
import Derived.JoinedCond
import Derived.Deep.DeepHandedRow
import Derived.Lib.LaidTab
import Derived.Stop.LaidErr
import Derived.LaidMore
set_option linter.unusedVariables false
set_option maxRecDepth 100000
namespace Go.Proofs.YthejgnlikaiddaaDoor
open Go.ChangeShapes Go.WideShapes Go.ChangeAt Go.RowKit Go.Mu

theorem own : ownKnob Tryd.prog.godebug = Option.none := by kernel_rfl
theorem laidOut : laidOutB Tryd.prog = true := by kernel_rfl
theorem bulk_one {H : Type} (d : DataW H) : 1 ≤ Rows.uptoBulk d := by
  cases d with
  | lit l => cases l <;> simp [Rows.uptoBulk]
  | nil => simp [Rows.uptoBulk]
  | ptr d => simp [Rows.uptoBulk]
  | slice elems spare => simp [Rows.uptoBulk]
  | agg parts => simp [Rows.uptoBulk]
  | iface t d => simp [Rows.uptoBulk]
  | map entries => simp [Rows.uptoBulk]
  | held h => simp [Rows.uptoBulk]
theorem bulk_part {H : Type} {d : DataW H} {l : List (DataW H)} (h : d ∈ l) : Rows.uptoBulk d ≤ Rows.uptoBulkAll l := by
  induction l with
  | nil => cases h
  | cons x r ih =>
    simp only [Rows.uptoBulkAll]
    cases List.mem_cons.1 h with
    | inl e => subst e; omega
    | inr e => have := ih e; omega
theorem bulk_len {H : Type} (l : List (DataW H)) : l.length ≤ Rows.uptoBulkAll l := by
  induction l with
  | nil => simp [Rows.uptoBulkAll]
  | cons x r ih => have := bulk_one x; simp only [Rows.uptoBulkAll, List.length_cons]; omega
theorem bulk_list {H α : Type} {l : List α} {d : DataW H} (h : DatL l d) : l.length ≤ Rows.uptoBulk d := by
  rcases h with ⟨rfl, rfl⟩ | ⟨els, sp, rfl, e⟩
  · simp
  · simp only [Rows.uptoBulk]
    have := bulk_len els
    omega
theorem bulk_bound {H : Type} {l : List (DataW H)} (hk : Rows.uptoSmall H l = true) : Rows.uptoBulkAll l ≤ 1048576 := of_decide_eq_true hk
theorem reads_ints {H : Type} (enc : TypeId × Value → H) (W : World) : ReadsAs H enc Tryd.prog W 22 (fun l : List Int => [AV.list .no 1 (l.map (AV.int .i64))]) DatL :=
  readsAs_slice (g := AV.int .i64) (D := fun n d => d = .lit (.int .i64 n) ∧ (Lit.int .i64 n).wf = true) (e := 3) (by kernel_rfl) (by kernel_rfl) (by decide) (readsAs_int (by kernel_rfl))
/-- The tables of the library: what the rows list. -/
theorem gTab : Tryd.prog.globalNamed "internal/strconv.uint64pow10" = some 0 := by kernel_rfl
theorem gTabType : (Tryd.prog.globals[0]?).map (·.type) = some 151 := by kernel_rfl
theorem laidV_of {W : World} (h : laidMetH Tryd.prog [("math/bits.deBruijn32tab", Rows.laid_math_bits_deBruijn32tab), ("math/bits.deBruijn64tab", Rows.laid_math_bits_deBruijn64tab), ("internal/strconv.uint64pow10", Rows.laid_internal_strconv_uint64pow10)] W) : LaidV W := by
  rw [MakeChecks.laidMetH_plain _ _ _ (by kernel_rfl)] at h
  have h3 := h.tail.tail
  have e : (Rows.laid_internal_strconv_uint64pow10 : DataW Unit) = Lib.tabData .u64 Lib.pow10Tab := by rfl
  rw [e] at h3
  have ht := Lib.tabIs_of_head (rest := []) gTab gTabType (n := 20) (e := 73) (by kernel_rfl) (by kernel_rfl) (by kernel_rfl) (by kernel_rfl) h3
  unfold Lib.TabIs World.var? at ht
  rw [gTab, Option.bind_some] at ht
  intro g cs hg
  unfold layV at hg
  split at hg
  · rename_i e
    subst e
    simp only [Option.some.injEq] at hg
    subst hg
    split at ht
    · rename_i c E fz hc
      simp only [Option.some.injEq] at ht
      subst ht
      exact ⟨_, _, hc⟩
    · cases ht
  · cases hg
/-- A world for the witness: what the initialisers leave. -/
noncomputable def laidWorld (os : Os) : World := World.doorLaid Tryd.prog 24 os
theorem laid_met (os : Os) (args : Array Value) : laidMet Tryd.prog [("math/bits.deBruijn32tab", Rows.laid_math_bits_deBruijn32tab), ("math/bits.deBruijn64tab", Rows.laid_math_bits_deBruijn64tab), ("internal/strconv.uint64pow10", Rows.laid_internal_strconv_uint64pow10)] ((laidWorld os).forCall (fun _ _ => 0) ⟨#[], args, []⟩).memory :=
  laidMet_of_run' 8 (by kernel_rfl) (by kernel_rfl)
end Go.Proofs.YthejgnlikaiddaaDoor
