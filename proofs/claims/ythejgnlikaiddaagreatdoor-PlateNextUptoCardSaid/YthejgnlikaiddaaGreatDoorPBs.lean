/- What catalogues and instruments of this seat read as. -/
import Derived.Test.YthejgnlikaiddaaGreatDoorPBr
import Derived.Test.YthejgnlikaiddaaGreatDoorMuBt
import Derived.Test.YthejgnlikaiddaaGreatDoorPA1
set_option linter.unusedVariables false
set_option maxRecDepth 100000
namespace Go.Proofs.YthejgnlikaiddaaGreatDoor
open Go.ChangeShapes Go.WideShapes Go.ChangeAt Go.RowKit Go.Mu

variable {H : Type}
theorem ints_int (enc : TypeId × Value → H) (W : World) : AllInts H enc Tryz.prog W 3 := allInts_int (by kernel_rfl) (by kernel_rfl)
theorem ints_rng (enc : TypeId × Value → H) (W : World) : AllInts H enc Tryz.prog W 52 := allInts_of (by kernel_rfl) (fun f hf => by
  have h : ((fieldsOf Tryz.prog 52).toList.all fun f => f.type == 3) = true := by kernel_rfl
  have := List.all_eq_true.1 h f hf
  rw [beq_iff_eq.1 this]; exact ints_int enc W) (by kernel_rfl)
theorem reads_rng (enc : TypeId × Value → H) (W : World) : ReadsAs H enc Tryz.prog W 52 (fun x : Rng => [AV.int .i64 x.lo, AV.int .i64 x.hi]) (fun _ _ => True) :=
  (readsAs_ints (ints_rng enc W) (m := 2) (by kernel_rfl)).mono fun l _ hl => by
    match l, hl with
    | [a, b], _ => exact ⟨⟨a, b⟩, rfl, trivial⟩
theorem reads_int (enc : TypeId × Value → H) (W : World) : ReadsAs H enc Tryz.prog W 3 (fun n : Int => [AV.int .i64 n]) (fun n d => d = .lit (.int .i64 n) ∧ (Lit.int .i64 n).wf = true) := readsAs_int (by kernel_rfl)
theorem reads_rngs (enc : TypeId × Value → H) (W : World) : ReadsAs H enc Tryz.prog W 61 (fun l : List Rng => [AV.list .no 2 (l.map Rng.av)]) DatL :=
  readsAs_slice (g := Rng.av) (D := fun _ _ => True) (e := 52) (by kernel_rfl) (by kernel_rfl) (by decide) (reads_rng enc W)
theorem reads_iss (enc : TypeId × Value → H) (W : World) : ReadsAs H enc Tryz.prog W 36 (fun l : List (List Int) => [AV.list .no 1 (l.map isv)]) (DatE DatL) :=
  readsAs_sliceE (g := isv) (D := DatL) (e := 25) (by kernel_rfl) (by kernel_rfl) (by decide) (reads_ints enc W)
theorem bulk_at {d : DataW H} {l : List (DataW H)} {i : Nat} (h : l[i]? = some d) : Rows.uptoBulk d ≤ Rows.uptoBulkAll l := bulk_part (List.mem_of_getElem? h)
theorem bulk_datE {α : Type} {D : α → DataW H → Prop} {l : List α} {d : DataW H} (h : DatE D l d) : l.length ≤ Rows.uptoBulk d ∧ ∀ x ∈ l, ∃ y, D x y ∧ Rows.uptoBulk y ≤ Rows.uptoBulk d := by
  rcases h with ⟨rfl, rfl⟩ | ⟨els, sp, rfl, e, h⟩
  · simp
  · simp only [Rows.uptoBulk]
    have := bulk_len els
    refine ⟨by omega, fun x hx => ?_⟩
    obtain ⟨i, hi, rfl⟩ := List.mem_iff_getElem.1 hx
    obtain ⟨y, h1, h2⟩ := h i hi
    have := bulk_at h1
    exact ⟨y, h2, by omega⟩
theorem reads_model (enc : TypeId × Value → H) (W : World) : ReadsAs H enc Tryz.prog W 63 (fun m : Model => [AV.int .i64 m.first, .list .no 1 (m.looks.map isv), .list .no 2 (m.nums.map Rng.av)]) (fun m d => Rows.uptoBulk d ≤ 1048576 → okLen m) :=
  (readsAs_three (c0 := 1) (c1 := 1) (c2 := 1) (by kernel_rfl) (by kernel_rfl) (by kernel_rfl) (by kernel_rfl) (by kernel_rfl) (by kernel_rfl) (reads_int enc W) (reads_iss enc W) (reads_rngs enc W)).mono fun p d hd => by
    obtain ⟨d0, d1, d2, rfl, _, h1, h2⟩ := hd
    refine ⟨⟨p.1, p.2.1, p.2.2⟩, rfl, fun hb => ?_⟩
    obtain ⟨b1, b3⟩ := bulk_datE h1
    have b2 := bulk_list h2
    have q1 := bulk_part (d := d1) (l := [d0, d1, d2]) (by simp)
    have q2 := bulk_part (d := d2) (l := [d0, d1, d2]) (by simp)
    simp only [Rows.uptoBulk] at hb
    refine ⟨by simp only; omega, by simp only; omega, fun l hl => ?_⟩
    obtain ⟨y, h3, h4⟩ := b3 l hl
    have := bulk_list h3
    omega
theorem reads_models (enc : TypeId × Value → H) (W : World) : ReadsAs H enc Tryz.prog W 22 (fun l : List Model => [AV.list .no 3 (l.map Model.av)]) (DatE fun m d => Rows.uptoBulk d ≤ 1048576 → okLen m) :=
  readsAs_sliceE (g := Model.av) (D := fun m d => Rows.uptoBulk d ≤ 1048576 → okLen m) (e := 63) (by kernel_rfl) (by kernel_rfl) (by decide) (reads_model enc W)
theorem reads_cat (enc : TypeId × Value → H) (W : World) : ReadsAs H enc Tryz.prog W 24 (fun c : Cat => [AV.int .i64 c.features, .list .no 3 (c.models.map Model.av)]) (fun c d => Rows.uptoBulk d ≤ 1048576 → okCat c) :=
  (readsAs_two (c0 := 1) (c1 := 1) (by kernel_rfl) (by kernel_rfl) (by kernel_rfl) (by kernel_rfl) (by kernel_rfl) (reads_int enc W) (reads_models enc W)).mono fun p d hd => by
    obtain ⟨d0, d1, rfl, _, h1⟩ := hd
    refine ⟨⟨p.1, p.2⟩, rfl, fun hb => ?_⟩
    obtain ⟨b1, b3⟩ := bulk_datE h1
    have q1 := bulk_part (d := d1) (l := [d0, d1]) (by simp)
    simp only [Rows.uptoBulk] at hb
    refine ⟨by simp only; omega, fun m hm => ?_⟩
    obtain ⟨y, h3, h4⟩ := b3 m hm
    exact h3 (by omega)
theorem reads_old (enc : TypeId × Value → H) (W : World) : ReadsAs H enc Tryz.prog W 27 (fun o : Old => [isv o.seen, .str o.plate, .int .i64 o.changed]) (fun o d => Rows.uptoBulk d ≤ 1048576 → okOld o) :=
  (readsAs_three (c0 := 1) (c1 := 1) (c2 := 1) (by kernel_rfl) (by kernel_rfl) (by kernel_rfl) (by kernel_rfl) (by kernel_rfl) (by kernel_rfl) (reads_ints enc W) (readsAs_str (t := 9) (by kernel_rfl)) (reads_int enc W)).mono fun p d hd => by
    obtain ⟨d0, d1, d2, rfl, h0, h1, _⟩ := hd
    refine ⟨⟨p.1, p.2.1, p.2.2⟩, rfl, fun hb => ?_⟩
    have b0 := bulk_list h0
    have q0 := bulk_part (d := d0) (l := [d0, d1, d2]) (by simp)
    simp only [Rows.uptoBulk] at hb
    have hz : p.2.1.data.toList.length = p.2.1.size := Array.length_toList
    have hs := bulk_at (l := [d0, d1, d2]) (i := 1) rfl
    rw [h1] at hs hb
    simp only [Rows.uptoBulk, Rows.uptoBulkAll] at hs hb q0
    refine ⟨by simp only; omega, by simp only; omega⟩
end Go.Proofs.YthejgnlikaiddaaGreatDoor
