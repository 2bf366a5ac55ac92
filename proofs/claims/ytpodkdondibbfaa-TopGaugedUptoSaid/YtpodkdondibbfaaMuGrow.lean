/- slices.Grow of an empty list, on abstract values, from the contract of the library. -/
import Derived.Test.YtpodkdondibbfaaMu3
import Derived.Shelf.Spec.SlicesGrow
set_option linter.unusedSimpArgs false
set_option linter.unusedVariables false
namespace Go.Mu
open Go Go.Proofs Go.Shelf

theorem hset_new {σ : List AObj} {o o' : AObj} {q : Nat} (hq : q ≠ σ.length) (hg : (σ ++ [o])[q]? = some o') : σ[q]? = some o' := by
  rw [List.getElem?_append] at hg
  split at hg
  · exact hg
  · cases hk : q - σ.length with
    | zero => omega
    | succ j => rw [hk] at hg; simp at hg

theorem grow_a {P : Program} {ρ : Ren} (L : Lays8.n4 P ρ) (hC : Callable P (ρ.f 4)) (i0 : TypeInfo) (z : Value) (hi0 : P.info? (ρ.t 25) = some i0) (hz0 : i0.zero = some z) (hs0 : 0 < i0.size) (hzs : z.cells.size = i0.size)
    (n sz0 : Nat) (hb : n * i0.bytes ≤ 140737488355328) (hn : n ≤ 4294967296) {σ : List AObj} {Q : AV → List AObj → Prop} (h : Q (.list (.own σ.length) i0.size []) (σ ++ [.tail 0 i0.size])) :
    ACalls P (ρ.f 4) [.list .full sz0 [], .int .i64 n] σ Q := by
  refine ⟨hC, fun K w cargs hR hA => ?_⟩
  obtain ⟨c1, c2, hcs, hv1, hv2⟩ := hA.two
  have hca : cargs = #[c1, c2] := by apply Array.ext'; simpa using hcs
  subst hca
  have hc2 := hv2.int_inv
  subst hc2
  obtain ⟨a, cap, cc, rfl, hcap, htok, _⟩ := hv1.list_row
  have ht' : cap = 0 := htok
  subst ht'
  by_cases h0 : n = 0
  · subst h0
    refine (Any8.slices_Grow_room L a 0 0 0 w (by omega) (by omega) (by omega) (by omega)).mono ?_
    rintro e w' ⟨rfl, rfl⟩
    have hext : Ext σ.length K (K.setT σ.length fun k => if k = 0 then some (a, 0) else none) := ⟨fun _ _ => rfl, fun q hq k x hx => by
      simp only [Kr.setT]; rw [if_neg (by omega)]; exact hx, fun _ _ _ h => h⟩
    obtain ⟨r1, r2⟩ := hR.ghostAt (σ' := σ ++ [.tail 0 i0.size]) σ.length (.tail 0 i0.size) _ hext (by simp) (by simp)
      (fun q o' hq hg => hset_new hq hg)
      (fun q hq => by simp only [Kr.setT]; rw [if_neg hq]) rfl
      (fun b hb => by
        obtain ⟨a', cap', g1, g2, _⟩ := hb
        simp only [Kr.setT, if_true] at g1
        simp at g1
        omega)
      ⟨a, 0, by simp only [Kr.setT, if_true], by omega, fun k hk => by simp only [Kr.setT, if_true]; rw [if_neg (by omega)], fun hc => absurd hc (by omega)⟩
    refine ⟨_, _, _, _, rfl, h, ?_, r1, r2⟩
    exact .list (.own σ.length) i0.size [] a 0 (fun _ _ => undef) (Nat.le_refl _) ⟨by simp, by simp [Kr.setT]⟩ (fun hne => absurd rfl hne) (fun i hi => by simp at hi) (fun i j hi => by simp at hi) (fun i j hi => by simp at hi)
  · refine (Any8.slices_Grow_grow L i0 z hi0 hz0 hs0 a 0 0 n [] w (by omega) (by omega) (by simpa using hb) (by omega) (by simp) (by simp) (by simp)).mono ?_
    rintro e w' ⟨rfl, rfl⟩
    have hge := grownCap_ge w (0 + n) 0 (ρ.t 25)
    generalize grownCap w (0 + n) 0 (ρ.t 25) = G at hge ⊢
    have hsz : ∀ m, (Builtin.zeroCells z.cells m).size = m * i0.size := fun m => by rw [zeroCells_size, hzs]
    have hext : Ext σ.length K (K.setT σ.length fun k => if k = 0 then some (some ⟨w.heap.size, 0, none⟩, G) else none) := ⟨fun _ _ => rfl, fun q hq k x hx => by
      simp only [Kr.setT]; rw [if_neg (by omega)]; exact hx, fun _ _ _ h => h⟩
    obtain ⟨r1, r2⟩ := (hR.drew (w.drawn + 1)).new (.tail 0 i0.size) (.cells (([] : List Value).toArray ++ Builtin.zeroCells z.cells (0 + n - 0) ++ Builtin.zeroCells z.cells (G - (0 + n))) (ρ.t 25) (0, 0)) _ hext
      (fun q hq => by simp only [Kr.setT]; rw [if_neg hq])
      (fun b p v hv => .inl hv)
      (fun b hb => by
        obtain ⟨a', cap', g1, g2, rfl⟩ := hb
        simp only [Kr.setT, if_true] at g1
        simp at g1
        obtain ⟨rfl, rfl⟩ := g1
        rfl)
      ⟨some ⟨w.heap.size, 0, none⟩, G, by simp only [Kr.setT, if_true], by omega, fun k hk => by simp only [Kr.setT, if_true]; rw [if_neg (by omega)], fun hc => ⟨w.heap.size, 0, _, _, rfl, heap_alloc_new _ _, by
        simp only [Array.size_append, hsz, List.size_toArray, List.length_nil, Nat.zero_add, Nat.sub_zero, ← Nat.add_mul]
        exact Nat.mul_le_mul_right _ (by omega), fun p hp => by
          cases hk : (K.setT σ.length fun k => if k = 0 then some (some ⟨w.heap.size, 0, none⟩, G) else none).S w.heap.size p with
          | none => rfl
          | some v => exact absurd (hR.lt (b := w.heap.size) (o := p) (v := v) hk) (Nat.lt_irrefl _)⟩⟩
    refine ⟨_, _, _, _, rfl, h, ?_, r1, r2.drew (w.drawn + 1)⟩
    exact .list (.own σ.length) i0.size [] (some ⟨w.heap.size, 0, none⟩) G (fun _ _ => undef) (Nat.zero_le _) ⟨by simp, by simp [Kr.setT]⟩ (fun hne => absurd rfl hne) (fun i hi => by simp at hi) (fun i j hi => by simp at hi) (fun i j hi => by simp at hi)

/-- The same over the types that the layer knows. -/
theorem grow_t {P : Program} {ρ : Ren} {ty : Nat → TI} (hT : TysOK P ty) (L : Lays8.n4 P ρ) (hC : Callable P (ρ.f 4)) (e : Nat) (he : ρ.t 25 = e) (hk : (ty e).kd ≠ .other) (hs0 : 0 < (ty e).sz) (hzs : (ty e).zero.cells.length = (ty e).sz)
    (n sz0 : Nat) (hb : n * (ty e).bytes ≤ 140737488355328) (hn : n ≤ 4294967296) {σ : List AObj} {Q : AV → List AObj → Prop} (h : Q (.list (.own σ.length) (ty e).sz []) (σ ++ [.tail 0 (ty e).sz])) :
    ACalls P (ρ.f 4) [.list .full sz0 [], .int .i64 n] σ Q := by
  subst he
  obtain ⟨i, h1, h2, h3, ⟨z, h4, h5⟩, h6⟩ := (hT _ hk).info
  have hz : VR (K := ⟨fun _ => 0, fun _ _ => none, fun _ _ => none⟩) 0 (ty (ρ.t 25)).zero z := ofVal_sound h5
  have hzc := (hz.cells h6).1.1
  simp only [Array.length_toList] at hzc
  have := grow_a L hC i z h1 h4 (by omega) (by omega) n sz0 (by rw [h3]; exact hb) hn (σ := σ) (Q := Q)
  rw [h2] at this
  exact this h

end Go.Mu
