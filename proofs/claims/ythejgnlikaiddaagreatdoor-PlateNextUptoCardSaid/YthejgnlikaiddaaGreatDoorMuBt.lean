/- What arguments read as: slices, told element by element; strings. -/
import Derived.Test.YthejgnlikaiddaaGreatDoorMuBs
set_option linter.unusedSimpArgs false
set_option linter.unusedVariables false
namespace Go.Mu
open Go Go.ChangeShapes Go.WideShapes
section
variable {H : Type} {enc : TypeId × Value → H} {P : Program} {W : World}
/-- A list's data, element by element. -/
def DatE {H : Type} {α : Type} (D : α → DataW H → Prop) (l : List α) (d : DataW H) : Prop := (d = .nil ∧ l = []) ∨ ∃ els sp, d = .slice els sp ∧ els.length = l.length ∧ ∀ i (h : i < l.length), ∃ y, els[i]? = some y ∧ D l[i] y
theorem readsAs_sliceE {t e : TypeId} {α : Type} {g : α → AV} {D : α → DataW H → Prop} {sz : Nat} (ht : P.underlying t = some (.slice e)) (hc : P.cellsOf e = sz) (hz : 0 < sz) (he : ReadsAs H enc P W e (fun a => (g a).cells) D) :
    ReadsAs H enc P W t (fun l : List α => [AV.list .no sz (l.map g)]) (DatE D) := fun n cs x h => by
  rcases DataW.trod_slice ht h with ⟨rfl, rfl⟩ | ⟨a, len, cap, elems, rest, m, rfl, rfl, rfl, hb, hl, hm, hlen, hel, _⟩
  · refine ⟨[], ⟨rfl, fun i h1 h2 => ?_⟩, by simp; rfl, .inl ⟨rfl, rfl⟩⟩
    have : i = 0 := by simpa using h1
    subst this
    exact .list .no sz [] none 0 (fun _ _ => undef) (Nat.le_refl _) trivial (fun h => absurd rfl h) (fun i hi => by simp at hi) (fun i j hi => by simp at hi) (fun i j hi => by simp at hi)
  · rw [hc] at hel
    have each : ∀ i, i < len → ∃ q : α × List Value, (W.cells? 0 (a.add (i * sz)) sz) = some q.2 ∧ VRs (frozenK W) 0 (g q.1).cells q.2 ∧ (∀ c ∈ q.2, c.oneCell' = true) ∧ ∃ y, elems[i]? = some y ∧ D q.1 y.1 := fun i hi => by
      have h1 := hel i hi
      rw [List.getElem?_eq_getElem (by omega)] at h1
      obtain ⟨c, h2, h3⟩ := Option.bind_eq_some_iff.1 h1
      obtain ⟨b, h4, h5, h6⟩ := he _ _ _ h3
      exact ⟨(b, c), h2, h4, h5, _, List.getElem?_eq_getElem (by omega), h6⟩
    obtain ⟨l, hl1, hl2⟩ := list_of_each len each
    have hcell : ∀ i (hi : i < l.length), l[i].2.length = sz ∧ ∀ j (hj : j < l[i].2.length), W.cell? ((a.add (i * sz)).add j) = some l[i].2[j] := fun i hi => by
      have h1 := (hl2 i hi).1
      unfold World.cells? at h1
      rw [if_pos (Nat.zero_le _)] at h1
      have h2 := mapM_some_length h1
      refine ⟨by rw [h2]; simp, fun j hj => ?_⟩
      have hjs : j < sz := by
        have : l[i].2.length = sz := by simpa using h2
        omega
      have h3 := mapM_some_get h1 j j (by simp [hjs])
      rw [h3]; exact List.getElem?_eq_getElem hj
    have hlens : ∀ i (hi : i < l.length), l[i].2.length = sz := fun i hi => (hcell i hi).1
    have hadr : 0 < l.length → ∃ b o, a = ⟨b, o, none⟩ := fun hp => by
      have h1 := (hcell 0 hp).2 0 (by rw [hlens 0 hp]; exact hz)
      have e : (a.add (0 * sz)).add 0 = a := by simp [Addr.add]
      rw [e] at h1
      obtain ⟨b, o, s⟩ := a
      cases s with
      | none => exact ⟨b, o, rfl⟩
      | some s =>
        simp only [World.cell?, Option.isSome_some, if_true] at h1
        split at h1 <;> cases h1
    refine ⟨l.map (·.1), ⟨rfl, fun i h1 h2 => ?_⟩, by simp; rfl, .inr ⟨_, _, rfl, by simp; omega, fun i hi => ?_⟩⟩
    case refine_2 =>
      have hi' : i < l.length := by simpa using hi
      obtain ⟨y, h6, h7⟩ := (hl2 i hi').2.2.2
      refine ⟨y.1, by rw [List.getElem?_map, h6]; rfl, ?_⟩
      simpa using h7
    have : i = 0 := by simpa using h1
    subst this
    have key : VR (frozenK W) 0 (.list .no sz ((l.map (·.1)).map g)) (.slice (some a) ((l.map (·.1)).map g).length cap) := by
      refine .list .no sz _ (some a) cap (fun i j => if h : i < l.length then (l[i].2).getD j undef else undef) (by simp; omega) trivial (fun hne => ?_) (fun i hi => ?_) (fun i j hi hj => ?_) (fun i j hi hj => ?_)
      · have hp : 0 < l.length := by
          cases l with
          | nil => simp at hne
          | cons _ _ => simp
        obtain ⟨b, o, rfl⟩ := hadr hp
        refine ⟨b, o, rfl, fun i j hi hj => ?_⟩
        have hi' : i < l.length := by simpa using hi
        have h5 := (hcell i hi').2 j (by rw [hlens i hi']; exact hj)
        show W.cell? ⟨b, o + (i * sz + j), none⟩ = _
        have e : ((⟨b, o, none⟩ : Addr).add (i * sz)).add j = ⟨b, o + (i * sz + j), none⟩ := by
          unfold Addr.add
          split <;> split <;> simp_all <;> omega
        rw [e] at h5
        rw [h5, dif_pos hi']
        simp [List.getD, List.getElem?_eq_getElem (show j < l[i].2.length by rw [hlens i hi']; exact hj)]
      · have hi' : i < l.length := by simpa using hi
        have := (hl2 i hi').2.1.1
        simp only [List.getElem_map]
        rw [this]; exact hlens i hi'
      · have hi' : i < l.length := by simpa using hi
        have hj' : j < l[i].2.length := by rw [hlens i hi']; exact hj
        simp only [dif_pos hi', List.getD, List.getElem?_eq_getElem hj', Option.getD_some]
        exact (hl2 i hi').2.2.1 _ (List.getElem_mem hj')
      · have hi' : i < l.length := by simpa using hi
        have hv := (hl2 i hi').2.1
        simp only [List.getElem_map] at hj ⊢
        have hj' : j < l[i].2.length := by rw [← hv.1]; exact hj
        simp only [dif_pos hi', List.getD, List.getElem?_eq_getElem hj', Option.getD_some]
        exact hv.2 j hj hj'
    simpa [hl1, hlen] using key
theorem readsAs_str {t : TypeId} (ht : P.underlying t = some .string) : ReadsAs H enc P W t (fun s : ByteArray => [AV.str s]) (fun s d => d = .lit (.string s.data.toList)) := fun n cs x h => by
  obtain ⟨s, rfl, hx, _⟩ := DataW.trod_string ht h
  refine ⟨s, ⟨rfl, fun i h1 h2 => ?_⟩, by simp; rfl, by rw [hx]⟩
  have : i = 0 := by simpa using h1
  subst this; exact .str s
end
end Go.Mu
