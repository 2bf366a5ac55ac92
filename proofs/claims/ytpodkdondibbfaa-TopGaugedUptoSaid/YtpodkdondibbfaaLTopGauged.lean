/- PROVED HERE: for every list of numbers of bulk at most 1048576, TopGauged returns true, and the list reads as it did. Conditions: that bound alone. -/
import Derived.Test.YtpodkdondibbfaaRC4
import Derived.Test.YtpodkdondibbfaaBr
set_option linter.unusedVariables false
set_option maxRecDepth 100000
namespace Go.Proofs.Ytpodkdondibbfaa
open Go.ChangeShapes Go.WideShapes Go.ChangeAt Go.RowKit Go.Mu

namespace topGauged
theorem contract (H : Type) (enc : TypeId × Value → H) (W : World) (base : Nat) (args : Array Value) (ds gs : List (DataW H)) (before : List MemPlace)
    (hval : ∀ (j : Nat) t v, Try.f4.params[j]? = some t → args[j]? = some v → Value.okWide Try.prog W .any base t v)
    (hW : DataW.Whole enc Try.prog Try.f4.params.toList Rows.topGaugedSpec.vars false W args.toList ds gs before) (hk : Rows.uptoSmall H (ds ++ gs) = true) :
    Calls Try.prog 4 args W fun e W' => ∃ v, e = .returned v ∧ Rows.topGaugedSpec.post enc Try.prog Try.f4 false true false false W args v W' := by
  have hW' := hW
  obtain ⟨p, q, hA0, hV, rfl, hfz, hnd⟩ := hW
  have hA : DataW.TrodAll enc Try.prog W 0 (fun _ => true) true Try.f4.params.toList args.toList ds p := hA0
  rw [Try.params4] at hA hval
  obtain ⟨v0, vs0, d0, ds0, p0, q0, hargs, rfl, rfl, h0, r0⟩ := trodAll_cons hA
  obtain ⟨rfl, rfl, rfl⟩ := trodAll_nil r0
  obtain rfl : args = #[v0] := by cases args; simp_all
  obtain ⟨rfl, rfl⟩ := trodVars_none hV
  have hb := bulk_bound hk
  obtain ⟨l, hv, hD⟩ := arg_slice (e := 3) (by kernel_rfl) (hval 0 _ v0 rfl rfl) (reads_ints enc W) h0
  have hl := bulk_list hD
  have hd : Rows.uptoBulk d0 ≤ 1048576 := by
    have := bulk_part (d := d0) (l := [d0] ++ []) (by simp)
    omega
  simp only [List.append_nil] at hW' hA0
  refine (calls_of_acalls (W := W) (args := #[v0]) (topGauged_c l (by omega) []) (fun g cs h => by simp [layV] at h) ⟨rfl, fun i h1 h2 => ?_⟩).mono fun e W' ⟨he, hg⟩ => ?_
  · have : i = 0 := by simpa using h1
    subst this; exact hv
  · subst he
    exact ⟨_, rfl, post_plain (pa := p0) (pv := []) hW' (fun _ _ _ => (trodAll_cons_mk (shut_bool (by kernel_rfl) _) trodAll_mk0))
      (trodAll_stays laid (by rw [Try.params4]; simp; decide +kernel) hA0 (fun q hq => hg.same (hW'.lt q hq)) (fun q hq => by simpa using hW'.lt q hq)) rfl hg.but⟩
theorem lifted (os : Os) (started : os.Started) (H : Type) (enc : TypeId × Value → H) (F : Stop.Interp) :
    ReturnsInHanded {} Try.checked os 4 .any ((Rows.OpenSpec.upto Rows.topGaugedSpec).pre6 enc Try.prog Try.f4 Rows.topGaugedUptoRow.domain false) (((Rows.OpenSpec.upto Rows.topGaugedSpec).at F).post enc Try.prog Try.f4 false true false false) := by
  refine returnsInHanded_of_cond (C := Try.checked) (s := Rows.OpenSpec.upto Rows.topGaugedSpec) (k := Rows.uptoSmall) rfl own started (by kernel_rfl) Try.func4
    (OpenSpec.witness (enc := enc) (C := Try.checked) (s := Rows.OpenSpec.upto Rows.topGaugedSpec) (k := Rows.uptoSmall) rfl false ⟨#[], #[.slice none 0 0], []⟩ 8 (by kernel_rfl) (by kernel_rfl) (by kernel_rfl)
      (x := ([.nil], [], [])) (by kernel_rfl) rfl (by kernel_rfl)) ?_
  intro W base args ds gs before hval hW _ hk _
  exact contract H enc W base args ds gs before hval hW hk
theorem over : Rows.topGaugedUptoRow.holds Try.pinned (Rows.OpenSpec.upto Rows.topGaugedSpec) :=
  OpenClaim.holds_of_cond 4 Try.f4 rfl rfl rfl rfl rfl rfl rfl ⟨rfl, rfl, rfl, rfl, rfl⟩ rfl rfl rfl rfl rfl (by kernel_rfl) Try.func4 (by kernel_rfl)
    (of_decide_eq_true (by kernel_rfl)) (by unfold Func.isWrapper; first | (rw [if_pos (by decide +kernel)]; kernel_rfl) | (rw [if_neg (by decide +kernel)]; exact ⟨rfl, rfl⟩))
    (fun os started H enc _ F => lifted os started H enc F)
theorem proved : Rows.TopGaugedUptoSaid :=
  over
end topGauged
end Go.Proofs.Ytpodkdondibbfaa
