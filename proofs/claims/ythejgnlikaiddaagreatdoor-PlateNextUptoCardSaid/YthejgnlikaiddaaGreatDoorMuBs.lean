/- What arguments read as: structs of some fields. -/
import Derived.Test.YthejgnlikaiddaaGreatDoorMuBr
set_option linter.unusedSimpArgs false
set_option linter.unusedVariables false
namespace Go.Mu
open Go Go.ChangeShapes Go.WideShapes
section
variable {H : Type} {enc : TypeId × Value → H} {P : Program} {W : World}
/-- A type's fields. -/
def fieldsOf (P : Program) (t : TypeId) : Array Field := match P.underlying t with
  | some (.struct fs) => fs
  | _ => #[]
def isStr (P : Program) (t : TypeId) : Bool := match P.underlying t with
  | some (.struct _) => true
  | _ => false
theorem und_of {t : TypeId} (h : isStr P t = true) : P.underlying t = some (.struct (fieldsOf P t)) := by
  unfold isStr at h; unfold fieldsOf
  split at h
  · rename_i fs hq; rw [hq]
  · cases h
/-- A struct whose cells are all integers. -/
theorem allInts_of {t : TypeId} (hs : isStr P t = true) (hf : ∀ f ∈ (fieldsOf P t).toList, AllInts H enc P W f.type)
    (hc : ((List.range (P.cellsOf t)).all fun j => (fieldsOf P t).toList.any fun f => decide (f.offset ≤ j) && decide (j < f.offset + P.cellsOf f.type)) = true) : AllInts H enc P W t :=
  allInts_struct (und_of hs) hf fun j hj => by
    have := List.all_eq_true.1 hc j (by simpa using hj)
    obtain ⟨f, h1, h2⟩ := List.any_eq_true.1 this
    simp at h2
    exact ⟨f, h1, h2.1, h2.2⟩
/-- The types and places of fields. -/
def fieldTs (P : Program) (t : TypeId) : List (TypeId × Nat) := (fieldsOf P t).toList.map fun f => (f.type, f.offset)
theorem field_at {t : TypeId} {l : List (TypeId × Nat)} (h : fieldTs P t = l) {i : Nat} {p : TypeId × Nat} (hp : l[i]? = some p) : ∃ f, (fieldsOf P t)[i]? = some f ∧ f.type = p.1 ∧ f.offset = p.2 := by
  subst h
  simp only [fieldTs, List.getElem?_map, Option.map_eq_some_iff, Array.getElem?_toList] at hp
  obtain ⟨f, h1, rfl⟩ := hp
  exact ⟨f, h1, rfl, rfl⟩
theorem VRs.append3 {K : Kr} {n : Nat} {a b c : List AV} {x y z : List Value} (h1 : VRs K n a x) (h2 : VRs K n b y) (h3 : VRs K n c z) : VRs K n (a ++ b ++ c) (x ++ y ++ z) := (h1.append h2).append h3
/-- A struct of two fields. -/
theorem readsAs_two {t t0 t1 : TypeId} {c0 c1 : Nat} {α β : Type} {g0 : α → List AV} {g1 : β → List AV} {D0 : α → DataW H → Prop} {D1 : β → DataW H → Prop} (hs : isStr P t = true) (hl : fieldTs P t = [(t0, 0), (t1, c0)])
    (hc : P.cellsOf t = c0 + c1) (hc0 : P.cellsOf t0 = c0) (hc1 : P.cellsOf t1 = c1) (h0 : ReadsAs H enc P W t0 g0 D0) (h1 : ReadsAs H enc P W t1 g1 D1) :
    ReadsAs H enc P W t (fun p : α × β => g0 p.1 ++ g1 p.2) (fun p d => ∃ d0 d1, d = .agg [d0, d1] ∧ D0 p.1 d0 ∧ D1 p.2 d1) := fun n cs x h => by
  obtain ⟨xs, m, _, hx, e1, e2, e3⟩ := DataW.trod_struct (und_of hs) h
  obtain ⟨f0, k0, rfl, o0⟩ := field_at hl (i := 0) rfl
  obtain ⟨f1, k1, rfl, o1⟩ := field_at hl (i := 1) rfl
  have hsz : (fieldsOf P t).size = 2 := by have := congrArg List.length hl; simpa [fieldTs] using this
  have hxs : xs.length = 2 := by omega
  obtain ⟨x0, x1, rfl⟩ : ∃ a b, xs = [a, b] := by
    match xs, hxs with
    | [a, b], _ => exact ⟨a, b, rfl⟩
  have q0 := e3 0 f0 k0
  have q1 := e3 1 f1 k1
  rw [o0, List.drop_zero, hc0] at q0
  rw [o1, hc1] at q1
  obtain ⟨a, a1, a2, a3⟩ := h0 _ _ _ q0
  obtain ⟨b, b1, b2, b3⟩ := h1 _ _ _ q1
  have hcs : cs = cs.take c0 ++ (cs.drop c0).take c1 := by
    rw [List.take_of_length_le (l := cs.drop c0) (by simp; omega), List.take_append_drop]
  refine ⟨(a, b), ?_, ?_, x0.1, x1.1, by rw [hx]; rfl, a3, b3⟩
  · rw [hcs]; exact a1.append b1
  · intro c hm; rw [hcs] at hm
    rcases List.mem_append.1 hm with h | h
    · exact a2 c h
    · exact b2 c h
/-- A struct of three fields. -/
theorem readsAs_three {t t0 t1 t2 : TypeId} {c0 c1 c2 : Nat} {α β γ : Type} {g0 : α → List AV} {g1 : β → List AV} {g2 : γ → List AV} {D0 : α → DataW H → Prop} {D1 : β → DataW H → Prop} {D2 : γ → DataW H → Prop} (hs : isStr P t = true) (hl : fieldTs P t = [(t0, 0), (t1, c0), (t2, c0 + c1)])
    (hc : P.cellsOf t = c0 + c1 + c2) (hc0 : P.cellsOf t0 = c0) (hc1 : P.cellsOf t1 = c1) (hc2 : P.cellsOf t2 = c2) (h0 : ReadsAs H enc P W t0 g0 D0) (h1 : ReadsAs H enc P W t1 g1 D1) (h2 : ReadsAs H enc P W t2 g2 D2) :
    ReadsAs H enc P W t (fun p : α × β × γ => g0 p.1 ++ g1 p.2.1 ++ g2 p.2.2) (fun p d => ∃ d0 d1 d2, d = .agg [d0, d1, d2] ∧ D0 p.1 d0 ∧ D1 p.2.1 d1 ∧ D2 p.2.2 d2) := fun n cs x h => by
  obtain ⟨xs, m, _, hx, e1, e2, e3⟩ := DataW.trod_struct (und_of hs) h
  obtain ⟨f0, k0, rfl, o0⟩ := field_at hl (i := 0) rfl
  obtain ⟨f1, k1, rfl, o1⟩ := field_at hl (i := 1) rfl
  obtain ⟨f2, k2, rfl, o2⟩ := field_at hl (i := 2) rfl
  have hsz : (fieldsOf P t).size = 3 := by have := congrArg List.length hl; simpa [fieldTs] using this
  have hxs : xs.length = 3 := by omega
  obtain ⟨x0, x1, x2, rfl⟩ : ∃ a b c, xs = [a, b, c] := by
    match xs, hxs with
    | [a, b, c], _ => exact ⟨a, b, c, rfl⟩
  have q0 := e3 0 f0 k0
  have q1 := e3 1 f1 k1
  have q2 := e3 2 f2 k2
  rw [o0, List.drop_zero, hc0] at q0
  rw [o1, hc1] at q1
  rw [o2, hc2] at q2
  obtain ⟨a, a1, a2, a3⟩ := h0 _ _ _ q0
  obtain ⟨b, b1, b2, b3⟩ := h1 _ _ _ q1
  obtain ⟨c, c1', c2', c3⟩ := h2 _ _ _ q2
  have hcs : cs = cs.take c0 ++ (cs.drop c0).take c1 ++ (cs.drop (c0 + c1)).take c2 := by
    rw [List.take_of_length_le (l := cs.drop (c0 + c1)) (by simp; omega), List.append_assoc, ← List.drop_drop, List.take_append_drop, List.take_append_drop]
  refine ⟨(a, b, c), ?_, ?_, x0.1, x1.1, x2.1, by rw [hx]; rfl, a3, b3, c3⟩
  · rw [hcs]; exact (a1.append b1).append c1'
  · intro v hm; rw [hcs] at hm
    rcases List.mem_append.1 hm with h | h
    · rcases List.mem_append.1 h with h | h
      · exact a2 v h
      · exact b2 v h
    · exact c2' v h
end
end Go.Mu
