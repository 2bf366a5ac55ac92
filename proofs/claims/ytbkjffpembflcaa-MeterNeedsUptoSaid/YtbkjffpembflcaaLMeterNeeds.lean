/- PROVED HERE: for all arguments of bulk at most 1048576, MeterNeeds returns true, and they read as they did. Conditions: that bound alone. -/
import Derived.Test.YtbkjffpembflcaaC5
import Derived.Test.YtbkjffpembflcaaBs
set_option linter.unusedVariables false
set_option maxRecDepth 100000
namespace Go.Proofs.Ytbkjffpembflcaa
open Go.ChangeShapes Go.WideShapes Go.ChangeAt Go.RowKit Go.Mu

namespace meterNeeds
theorem contract (H : Type) (enc : TypeId × Value → H) (W : World) (base : Nat) (args : Array Value) (ds gs : List (DataW H)) (before : List MemPlace)
    (hval : ∀ (j : Nat) t v, Try.f3.params[j]? = some t → args[j]? = some v → Value.okWide Try.prog W .any base t v)
    (hW : DataW.Whole enc Try.prog Try.f3.params.toList Rows.meterNeedsSpec.vars false W args.toList ds gs before) (hk : Rows.uptoSmall H (ds ++ gs) = true) :
    Calls Try.prog 3 args W fun e W' => ∃ v, e = .returned v ∧ Rows.meterNeedsSpec.post enc Try.prog Try.f3 false true false false W args v W' := by
  have hW' := hW
  obtain ⟨p, q, hA0, hV, rfl, hfz, hnd⟩ := hW
  have hA : DataW.TrodAll enc Try.prog W 0 (fun _ => true) true Try.f3.params.toList args.toList ds p := hA0
  rw [Try.params3] at hA hval
  obtain ⟨v0, vs0, d0, ds0, p0, q0, hargs, rfl, rfl, h0, r0⟩ := trodAll_cons hA
  obtain ⟨v1, vs1, d1, ds1, p1, q1, rfl, rfl, rfl, h1, r1⟩ := trodAll_cons r0
  obtain ⟨v2, vs2, d2, ds2, p2, q2, rfl, rfl, rfl, h2, r2⟩ := trodAll_cons r1
  obtain ⟨v3, vs3, d3, ds3, p3, q3, rfl, rfl, rfl, h3, r3⟩ := trodAll_cons r2
  obtain ⟨v4, vs4, d4, ds4, p4, q4, rfl, rfl, rfl, h4, r4⟩ := trodAll_cons r3
  obtain ⟨v5, vs5, d5, ds5, p5, q5, rfl, rfl, rfl, h5, r5⟩ := trodAll_cons r4
  obtain ⟨rfl, rfl, rfl⟩ := trodAll_nil r5
  obtain rfl : args = #[v0, v1, v2, v3, v4, v5] := by cases args; simp_all
  obtain ⟨rfl, rfl⟩ := trodVars_none hV
  have hb := bulk_bound hk
  have e0 : Rows.uptoBulk d0 ≤ 1048576 := by have := bulk_part (d := d0) (l := [d0, d1, d2, d3, d4, d5] ++ []) (by simp); omega
  have e4 : Rows.uptoBulk d4 ≤ 1048576 := by have := bulk_part (d := d4) (l := [d0, d1, d2, d3, d4, d5] ++ []) (by simp); omega
  have e5 : Rows.uptoBulk d5 ≤ 1048576 := by have := bulk_part (d := d5) (l := [d0, d1, d2, d3, d4, d5] ++ []) (by simp); omega
  obtain ⟨a0, hv0, hD0⟩ := arg_struct (und_of (t := 25) (by kernel_rfl)) (hval 0 _ v0 rfl rfl) (reads_ear enc W) h0
  obtain ⟨a1, hv1, _⟩ := arg_int (by kernel_rfl) (hval 1 _ v1 rfl rfl) h1
  obtain ⟨a2, hv2, _⟩ := arg_int (by kernel_rfl) (hval 2 _ v2 rfl rfl) h2
  obtain ⟨a3, hv3, hD3⟩ := arg_struct (und_of (t := 27) (by kernel_rfl)) (hval 3 _ v3 rfl rfl) (reads_rng enc W) h3
  obtain ⟨a4, hv4, hD4⟩ := arg_slice (e := 3) (by kernel_rfl) (hval 4 _ v4 rfl rfl) (reads_ints enc W) h4
  have hl4 := bulk_list hD4
  obtain ⟨a5, hv5, hD5⟩ := arg_slice (e := 3) (by kernel_rfl) (hval 5 _ v5 rfl rfl) (reads_ints enc W) h5
  have hl5 := bulk_list hD5
  simp only [List.append_nil] at hW' hA0
  refine (calls_of_acalls (W := W) (args := #[v0, v1, v2, v3, v4, v5]) (meterNeeds_c a0 a1 a2 a3 a4 a5 (by have := hD0.1; omega) (by have := hD0.2; omega) (by omega) (by omega) []) (.cons hv0 (.cons hv1 (.cons hv2 (.cons hv3 (.cons hv4 (.cons hv5 (.nil)))))))).mono fun e W' ⟨he, hg⟩ => ?_
  · subst he
    exact ⟨_, rfl, post_of_same (pv := []) hW' (fun _ _ _ => (trodAll_cons_mk (shut_bool (by kernel_rfl) _) trodAll_mk0))
      (fun sp hsp => trodAll_stays laid (by rw [Try.params3]; simp; decide +kernel) hA0 (fun q hq => hg.same (hW'.lt q hq)) (fun q hq => hsp q hq))
      (fun _ _ => rfl) (by simp) (hg.but _) hg.frozen (ok_one (t := 4) (by kernel_rfl) rfl (okWide_bool_mk (t := 4) (by kernel_rfl) _))⟩
theorem lifted (os : Os) (started : os.Started) (H : Type) (enc : TypeId × Value → H) (F : Stop.Interp) :
    ReturnsInHanded {} Try.checked os 3 .any ((Rows.OpenSpec.upto Rows.meterNeedsSpec).pre6 enc Try.prog Try.f3 Rows.meterNeedsUptoRow.domain false) (((Rows.OpenSpec.upto Rows.meterNeedsSpec).at F).post enc Try.prog Try.f3 false true false false) := by
  refine returnsInHanded_of_cond (C := Try.checked) (s := Rows.OpenSpec.upto Rows.meterNeedsSpec) (k := Rows.uptoSmall) rfl own started (by kernel_rfl) Try.func3
    (OpenSpec.witness (enc := enc) (C := Try.checked) (s := Rows.OpenSpec.upto Rows.meterNeedsSpec) (k := Rows.uptoSmall) rfl false ⟨#[], #[.agg #[.int .i64 0, .slice none 0 0, .slice none 0 0], .int .i64 0, .int .i64 0, .agg #[.int .i64 0, .int .i64 0], .slice none 0 0, .slice none 0 0], []⟩ 8 (by kernel_rfl) (by kernel_rfl) (by kernel_rfl)
      (x := ([.agg [.lit (.int .i64 0), .nil, .nil], .lit (.int .i64 0), .lit (.int .i64 0), .agg [.lit (.int .i64 0), .lit (.int .i64 0)], .nil, .nil], [], [])) (by kernel_rfl) rfl (by kernel_rfl)) ?_
  intro W base args ds gs before hval hW _ hk _
  exact contract H enc W base args ds gs before hval hW hk
theorem over : Rows.meterNeedsUptoRow.holds Try.pinned (Rows.OpenSpec.upto Rows.meterNeedsSpec) :=
  OpenClaim.holds_of_cond 3 Try.f3 rfl rfl rfl rfl rfl rfl rfl ⟨rfl, rfl, rfl, rfl, rfl⟩ rfl rfl rfl rfl rfl (by kernel_rfl) Try.func3 (by kernel_rfl)
    (of_decide_eq_true (by kernel_rfl)) (by unfold Func.isWrapper; first | (rw [if_pos (by decide +kernel)]; kernel_rfl) | (rw [if_neg (by decide +kernel)]; exact ⟨rfl, rfl⟩))
    (fun os started H enc _ F => lifted os started H enc F)
theorem proved : Rows.MeterNeedsUptoSaid :=
  over
end meterNeeds
end Go.Proofs.Ytbkjffpembflcaa
