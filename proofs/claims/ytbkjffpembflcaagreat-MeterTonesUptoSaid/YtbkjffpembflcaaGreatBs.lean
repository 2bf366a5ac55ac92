/- What an ear, a range and a reading of this seat read as. -/
import Derived.Test.YtbkjffpembflcaaGreatBr
import Derived.Test.YtbkjffpembflcaaGreatMuBs
import Derived.Test.YtbkjffpembflcaaGreatSp
set_option linter.unusedVariables false
set_option maxRecDepth 100000
namespace Go.Proofs.YtbkjffpembflcaaGreat
open Go.ChangeShapes Go.WideShapes Go.ChangeAt Go.RowKit Go.Mu

variable {H : Type}
theorem ints_int (enc : TypeId × Value → H) (W : World) : AllInts H enc Tryz.prog W 3 := allInts_int (by kernel_rfl) (by kernel_rfl)
theorem ints_rng (enc : TypeId × Value → H) (W : World) : AllInts H enc Tryz.prog W 27 := allInts_of (by kernel_rfl) (fun f hf => by
  have h : ((fieldsOf Tryz.prog 27).toList.all fun f => f.type == 3) = true := by kernel_rfl
  have := List.all_eq_true.1 h f hf
  rw [beq_iff_eq.1 this]; exact ints_int enc W) (by kernel_rfl)
theorem ints_rd (enc : TypeId × Value → H) (W : World) : AllInts H enc Tryz.prog W 29 := allInts_of (by kernel_rfl) (fun f hf => by
  have h : ((fieldsOf Tryz.prog 29).toList.all fun f => f.type == 3 || f.type == 27) = true := by kernel_rfl
  have := List.all_eq_true.1 h f hf
  rw [Bool.or_eq_true, beq_iff_eq, beq_iff_eq] at this
  rcases this with e | e
  · rw [e]; exact ints_int enc W
  · rw [e]; exact ints_rng enc W) (by kernel_rfl)
theorem reads_rng (enc : TypeId × Value → H) (W : World) : ReadsAs H enc Tryz.prog W 27 (fun x : Rng => [AV.int .i64 x.lo, AV.int .i64 x.hi]) (fun _ _ => True) :=
  (readsAs_ints (ints_rng enc W) (m := 2) (by kernel_rfl)).mono fun l _ hl => by
    match l, hl with
    | [a, b], _ => exact ⟨⟨a, b⟩, rfl, trivial⟩
theorem reads_rd (enc : TypeId × Value → H) (W : World) : ReadsAs H enc Tryz.prog W 29 (fun x : Rd => [AV.int .i64 x.kind, .int .i64 x.a, .int .i64 x.b, .int .i64 x.sec, .int .i64 x.shown.lo, .int .i64 x.shown.hi]) (fun _ _ => True) :=
  (readsAs_ints (ints_rd enc W) (m := 6) (by kernel_rfl)).mono fun l _ hl => by
    match l, hl with
    | [a, b, c, d, e, f], _ => exact ⟨⟨a, b, c, d, ⟨e, f⟩⟩, rfl, trivial⟩
theorem reads_rngs (enc : TypeId × Value → H) (W : World) : ReadsAs H enc Tryz.prog W 22 (fun l : List Rng => [AV.list .no 2 (l.map Rng.av)]) DatL :=
  readsAs_slice (g := Rng.av) (D := fun _ _ => True) (e := 27) (by kernel_rfl) (by kernel_rfl) (by decide) (reads_rng enc W)
theorem reads_rds (enc : TypeId × Value → H) (W : World) : ReadsAs H enc Tryz.prog W 23 (fun l : List Rd => [AV.list .no 6 (l.map Rd.av)]) DatL :=
  readsAs_slice (g := Rd.av) (D := fun _ _ => True) (e := 29) (by kernel_rfl) (by kernel_rfl) (by decide) (reads_rd enc W)
theorem reads_int (enc : TypeId × Value → H) (W : World) : ReadsAs H enc Tryz.prog W 3 (fun n : Int => [AV.int .i64 n]) (fun n d => d = .lit (.int .i64 n) ∧ (Lit.int .i64 n).wf = true) := readsAs_int (by kernel_rfl)
theorem reads_ear (enc : TypeId × Value → H) (W : World) : ReadsAs H enc Tryz.prog W 25 (fun e : Ear => [AV.int .i64 e.slack, .list .no 2 (e.tones.map Rng.av), .list .no 6 (e.rds.map Rd.av)]) (fun e d => e.tones.length ≤ Rows.uptoBulk d ∧ e.rds.length ≤ Rows.uptoBulk d) :=
  (readsAs_three (c0 := 1) (c1 := 1) (c2 := 1) (by kernel_rfl) (by kernel_rfl) (by kernel_rfl) (by kernel_rfl) (by kernel_rfl) (by kernel_rfl) (reads_int enc W) (reads_rngs enc W) (reads_rds enc W)).mono fun p d hd => by
    obtain ⟨d0, d1, d2, rfl, _, h1, h2⟩ := hd
    have b1 := bulk_list h1
    have b2 := bulk_list h2
    have q1 := bulk_part (d := d1) (l := [d0, d1, d2]) (by simp)
    have q2 := bulk_part (d := d2) (l := [d0, d1, d2]) (by simp)
    refine ⟨⟨p.1, p.2.1, p.2.2⟩, rfl, ?_⟩
    simp only [Rows.uptoBulk]
    omega
end Go.Proofs.YtbkjffpembflcaaGreat
