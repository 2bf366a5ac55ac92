/- PROVED HERE: for all arguments of bulk at most 1048576, PlateNext returns true, and they read as they did (the library's tables holding what their initialisers lay: tied). Conditions: that bound alone. -/
import Derived.Test.YthejgnlikaiddaaGreatDoorPNH
import Derived.Test.YthejgnlikaiddaaGreatDoorPBs
import Derived.Test.YthejgnlikaiddaaGreatDoorCards
import Derived.Test.YthejgnlikaiddaaGreatDoorTie
set_option linter.unusedVariables false
set_option maxRecDepth 100000
namespace Go.Proofs.YthejgnlikaiddaaGreatDoor
open Go.ChangeShapes Go.WideShapes Go.ChangeAt Go.RowKit Go.Mu

namespace plateNext
theorem contract (H : Type) (enc : TypeId × Value → H) (W : World) (base : Nat) (args : Array Value) (ds gs : List (DataW H)) (before : List MemPlace)
    (hval : ∀ (j : Nat) t v, Tryz.f6.params[j]? = some t → args[j]? = some v → Value.okWide Tryz.prog W .any base t v)
    (hW : DataW.Whole enc Tryz.prog Tryz.f6.params.toList Rows.plateNextSpec.vars false W args.toList ds gs before) (hk : Rows.uptoSmall H (ds ++ gs) = true) (hL : laidMetH Tryz.prog Rows.plateNextUptoRow.laid W) :
    Calls Tryz.prog 6 args W fun e W' => ∃ v, e = .returned v ∧ Rows.plateNextSpec.post enc Tryz.prog Tryz.f6 false true false false W args v W' := by
  have hW' := hW
  obtain ⟨p, q, hA0, hV, rfl, hfz, hnd⟩ := hW
  have hA : DataW.TrodAll enc Tryz.prog W 0 (fun _ => true) true Tryz.f6.params.toList args.toList ds p := hA0
  rw [Tryz.params6] at hA hval
  obtain ⟨v0, vs0, d0, ds0, p0, q0, hargs, rfl, rfl, h0, r0⟩ := trodAll_cons hA
  obtain ⟨v1, vs1, d1, ds1, p1, q1, rfl, rfl, rfl, h1, r1⟩ := trodAll_cons r0
  obtain ⟨v2, vs2, d2, ds2, p2, q2, rfl, rfl, rfl, h2, r2⟩ := trodAll_cons r1
  obtain ⟨v3, vs3, d3, ds3, p3, q3, rfl, rfl, rfl, h3, r3⟩ := trodAll_cons r2
  obtain ⟨rfl, rfl, rfl⟩ := trodAll_nil r3
  obtain rfl : args = #[v0, v1, v2, v3] := by cases args; simp_all
  obtain ⟨rfl, rfl⟩ := trodVars_none hV
  have hb := bulk_bound hk
  have e0 : Rows.uptoBulk d0 ≤ 1048576 := by have := bulk_part (d := d0) (l := [d0, d1, d2, d3] ++ []) (by simp); omega
  have e1 : Rows.uptoBulk d1 ≤ 1048576 := by have := bulk_part (d := d1) (l := [d0, d1, d2, d3] ++ []) (by simp); omega
  have e2 : Rows.uptoBulk d2 ≤ 1048576 := by have := bulk_part (d := d2) (l := [d0, d1, d2, d3] ++ []) (by simp); omega
  have e3 : Rows.uptoBulk d3 ≤ 1048576 := by have := bulk_part (d := d3) (l := [d0, d1, d2, d3] ++ []) (by simp); omega
  obtain ⟨a0, hv0, hD0⟩ := arg_struct (und_of (t := 24) (by kernel_rfl)) (hval 0 _ v0 rfl rfl) (reads_cat enc W) h0
  have hl0 := hD0 e0
  obtain ⟨a1, hv1, hD1⟩ := arg_struct (und_of (t := 27) (by kernel_rfl)) (hval 1 _ v1 rfl rfl) (reads_old enc W) h1
  have hl1 := hD1 e1
  have hs2 := Go.ChangeMaps.open_string (by kernel_rfl) (hval 2 _ v2 rfl rfl) h2
  obtain ⟨a2, hw2, hD2, _, _⟩ := hs2
  have hv2 : VR (frozenK W) 0 (.str a2) v2 := by rw [hw2]; exact .str a2
  have hl2 : a2.size ≤ 1048576 := by
    have hz : a2.data.toList.length = a2.size := Array.length_toList
    rw [hD2] at e2
    simp only [Rows.uptoBulk] at e2
    omega
  obtain ⟨a3, hv3, hD3⟩ := arg_slice (e := 3) (by kernel_rfl) (hval 3 _ v3 rfl rfl) (reads_ints enc W) h3
  have hl3 := bulk_list hD3
  simp only [List.append_nil] at hW' hA0
  refine (calls_of_acalls (W := W) (args := #[v0, v1, v2, v3]) (plateNext_c a0 a1 a2 a3 hl0 hl1 (by omega) (by omega) []) (laidV_of hL) ⟨rfl, fun i h1 h2 => ?_⟩).mono fun e W' ⟨he, hg⟩ => ?_
  · match i, h1 with
    | 0, _ => exact hv0
    | 1, _ => exact hv1
    | 2, _ => exact hv2
    | 3, _ => exact hv3
  · subst he
    exact ⟨_, rfl, post_plain hW' (fun _ _ _ => (trodAll_cons_mk (shut_bool (by kernel_rfl) _) trodAll_mk0))
      (trodAll_stays laidOut (by rw [Tryz.params6]; simp; decide +kernel) hA0 (fun q hq => hg.same (hW'.lt q hq)) (fun q hq => decide_eq_true (hW'.lt q hq)))
      rfl (hg.but)⟩
theorem reads (os : Os) {H : Type} (enc : TypeId × Value → H) : ∃ places, DataW.whole enc Tryz.prog ((laidWorld os).forCall (fun _ _ => 0) ⟨#[], #[.agg #[.int .i64 0, .slice none 0 0], .agg #[.slice none 0 0, .string .empty, .int .i64 0], .string .empty, .slice none 0 0], []⟩).memory Tryz.f6.params.toList Rows.plateNextSpec.vars false (#[.agg #[.int .i64 0, .slice none 0 0], .agg #[.slice none 0 0, .string .empty, .int .i64 0], .string .empty, .slice none 0 0] : Array Value).toList 8 = some ([.agg [.lit (.int .i64 0), .nil], .agg [.nil, .lit (.string []), .lit (.int .i64 0)], .lit (.string []), .nil], [], places) :=
  ⟨[], by kernel_rfl⟩
theorem lifted (os : Os) (started : os.Started) (H : Type) (enc : TypeId × Value → H) (F : Stop.Interp) :
    ReturnsInHanded {} Tryz.checked os 6 .any ((Rows.OpenSpec.upto Rows.plateNextSpec).preRow enc Tryz.prog Tryz.f6 Rows.plateNextUptoRow.domain false Rows.plateNextUptoRow.laid) (((Rows.OpenSpec.upto Rows.plateNextSpec).at F).post enc Tryz.prog Tryz.f6 false true false false) := by
  obtain ⟨places, hx⟩ := reads os enc
  refine returnsInHanded_of_row (C := Tryz.checked) (s := Rows.OpenSpec.upto Rows.plateNextSpec) own started (by kernel_rfl) Tryz.func6
    (witness_row_at (enc := enc) (C := Tryz.checked) false (laidWorld os) #[.agg #[.int .i64 0, .slice none 0 0], .agg #[.slice none 0 0, .string .empty, .int .i64 0], .string .empty, .slice none 0 0] rfl (by kernel_rfl) (by kernel_rfl) (by kernel_rfl)
      (OpenSpec.preRow_of_cond 8 hx (by kernel_rfl) (fun k hk => by cases hk; kernel_rfl) (by kernel_rfl) (laid_met os _))) ?_
  intro W base args ds gs before hval hW _ hcond _ hL _ _
  exact contract H enc W base args ds gs before hval hW (hcond _ rfl) hL
theorem said : Rows.PlateNextUptoSaid :=
  OpenClaim.holds_of_cond 6 Tryz.f6 rfl rfl rfl rfl rfl rfl rfl ⟨rfl, rfl, rfl, rfl, rfl⟩ rfl rfl rfl rfl rfl (by kernel_rfl) Tryz.func6 (by kernel_rfl)
    (of_decide_eq_true (by kernel_rfl)) (by unfold Func.isWrapper; first | (rw [if_pos (by decide +kernel)]; kernel_rfl) | (rw [if_neg (by decide +kernel)]; exact ⟨rfl, rfl⟩))
    (fun os started H enc _ F => by rw [OpenClaim.pre_eq_preRow]; exact lifted os started H enc F)
theorem plain (f : FuncId) (fn : Func) (hf : Tryz.pinned.checked.prog.funcNamed "musette/musettelaw10.PlateNext" = some f) (hfn : Tryz.pinned.checked.prog.funcs[f]? = some fn) :
    false = Tryz.pinned.checked.prog.looks [] ∧ ∀ (j : Nat) t, fn.params[j]? = some t → Tryz.pinned.checked.prog.wantsStandIn t = false := by
  obtain rfl : f = 6 := Option.some.inj ((show Tryz.prog.funcNamed "musette/musettelaw10.PlateNext" = some 6 by kernel_rfl).symm.trans hf) |>.symm
  obtain rfl : fn = Tryz.f6 := (Option.some.inj (Tryz.func6.symm.trans hfn)).symm
  refine ⟨by kernel_rfl, fun j t ht => ?_⟩
  rw [Tryz.params6] at ht
  have hm : t = 24 ∨ t = 27 ∨ t = 9 ∨ t = 25 := by simpa using Array.mem_of_getElem? ht
  rcases hm with rfl | rfl | rfl | rfl
  · exact (show Tryz.prog.wantsStandIn 24 = false by kernel_rfl)
  · exact (show Tryz.prog.wantsStandIn 27 = false by kernel_rfl)
  · exact (show Tryz.prog.wantsStandIn 9 = false by kernel_rfl)
  · exact (show Tryz.prog.wantsStandIn 25 = false by kernel_rfl)
theorem proved : Rows.PlateNextUptoCardSaid :=
  Claim7.holds_tied_plain_at .later [] _ _ _ _ said (fun _ h => by cases h) (by kernel_rfl) (fun _ h => by cases h) plateNextUpto_row_tie rfl ⟨rfl, rfl⟩ (by kernel_rfl) rfl plain (by kernel_rfl)
end plateNext
end Go.Proofs.YthejgnlikaiddaaGreatDoor
