/- slices.Compact of a slice that is written into, from the contract of the library: what it gives is written into no more. -/
import Derived.Test.YtgbdndlmdklefaaGreatK40
import Derived.Shelf.Slices.CompactI
set_option linter.unusedSimpArgs false
set_option linter.unusedVariables false
namespace Go.Mu
open Go Go.Proofs Go.Shelf Go.Sort
theorem VR.pre {K : Kr} {n : Nat} {t : Tok} {sz : Nat} {xs : List AV} {a : Option Addr} {cap m : Nat} (h : VR K n (.list t sz xs) (.slice a xs.length cap)) (hm : m ≤ xs.length) : VR K n (.list .no sz (xs.take m)) (.slice a m cap) := by
 cases h with
 | list _ _ _ _ _ f hl ht ha hs h1 h =>
  have e : (xs.take m).length = m := by simp; omega
  have key : VR K n (.list .no sz (xs.take m)) (.slice a (xs.take m).length cap) := by
   refine .list .no sz _ a cap f (by omega) trivial (fun hne => ?_) (fun i hi => ?_) (fun i j hi hj => h1 i j (by omega) hj) (fun i j hi hj => ?_)
   ·obtain ⟨b, o, h2, h3⟩ := ha (fun e => by subst e; simp at hne)
    exact ⟨b, o, h2, fun i j hi hj => h3 i j (by omega) hj⟩
   ·simp only [List.getElem_take]; exact hs i (by omega)
   ·simp only [List.getElem_take] at hj ⊢; exact h i j (by omega) hj
  rwa [e] at key
theorem compact_b {P : Program} {ρ : Ren} (L : Lays2.n20 P ρ) {Lf : FuncId → Bool} (hL : LOK P Lf) (hfl : Lf (ρ.f 20) = true) (hC : Callable P (ρ.f 20)) (zs : List Int) (hz : zs ≠ []) (hn : zs.length ≤ 4294967296) {σ : List AObj} {r : Nat} (hg : hget σ r = some (.vec 1 (zs.map (.int .i64)))) {Q : AV → List AObj → Prop}
  (h : Q (.list .no 1 ((Lib.compactUpTo zs.toArray zs.length).map (.int .i64))) (hset σ r .dead)) : ACalls (fun M => M = Bes P) (ρ.f 20) [.vec r zs.length] σ Q := by
 refine acalls_of_lone hL hfl hC fun K w cargs hR hA => ?_
 obtain ⟨a, cap, h1, h2, h3, hsz, h5⟩ := hR.obj r _ hg
 rw [List.length_map] at h1 h2 h3
 have hlen : 0 < zs.length := List.length_pos_iff.2 hz
 obtain ⟨b, o, cc, E, rfl, g2, g3, g4, g5, g6⟩ := h5 (by omega)
 rw [ints_flat, List.length_map] at g4
 have hrow := ints_vals g4
 obtain ⟨c0, hc0⟩ : ∃ c0, cargs.toList = [c0] := List.length_eq_one_iff.1 hA.1.symm
 rw [hc0] at hA
 have hv : VR K σ.length (.vec r zs.length) c0 := hA.2 0 (by simp) (by simp)
 have hca : cargs = #[.slice (some ⟨b, o, none⟩) zs.length cap] := by
  cases hv with
  | vec _ _ a' cap' hr' hl' ht ha =>
   rw [h1] at ht
   simp only [Option.some.injEq, Prod.mk.injEq] at ht
   obtain ⟨rfl, rfl⟩ := ht
   apply Array.ext'
   rw [hc0]
 subst hca
 have hcc : ∀ j, j < zs.length → cc.toList[o + j]? = some (.int .i64 (zs.getD j 0)) := fun j hj => by
  have e : ((cc.toList.drop o).take (zs.length * 1))[j]? = (zs.map (Value.int .i64))[j]? := by rw [hrow]
  rw [List.getElem?_take_of_lt (by omega), List.getElem?_drop] at e
  rw [e]
  simp [hj]
 have hH : Holds (Value.int .i64) w b o zs.toArray := fun j hj => by
  have hj' : j < zs.length := by simpa using hj
  have hx := hcc j hj'
  have hb : o + j < cc.size := by omega
  have hx2 : cc[o + j] = .int .i64 (zs.getD j 0) := by
   rw [Array.getElem?_toList, Array.getElem?_eq_getElem hb] at hx
   exact Option.some.inj hx
  refine ⟨?_, ?_⟩
  ·simp [World.cell?, g2, hb, hx2, List.getD, hj']
  ·simp [World.frozen?, g2]
 refine (Any.slices_Compact_int_arr L b o cap zs.toArray w hH (by simp; omega) (by simpa using h2)).mono ?_
 rintro e w' ⟨rfl, n, rfl⟩
 rw [List.size_toArray]
 have hml : (Lib.compactUpTo zs.toArray zs.length).length ≤ zs.length := by
  unfold Lib.compactUpTo
  rw [List.length_map]
  exact Nat.le_trans (List.length_filter_le _ _) (by simp)
 generalize Lib.compactUpTo zs.toArray zs.length = C at hml h ⊢
 obtain ⟨ys, hys⟩ : ∃ ys, C ++ List.replicate (zs.length - C.length) (0 : Int) = ys := ⟨_, rfl⟩
 have hsl : ys.length = zs.length := by rw [← hys]; simp; omega
 have htk : ys.take C.length = C := by rw [← hys]; simp
 rw [hys]
 have hR1 : R K σ (Sort.ahead w n) := hR.drew _
 have hp2 : (putRow (Value.int .i64) (Sort.ahead w n) b o ys.toArray).heap[b]? = some (.cells (putCells (Value.int .i64) o ys.toArray cc) E (0, 0)) := by
  simp [putRow, mapBlock, Sort.ahead, Array.getElem?_modify, g2, onCells]
 have hB : ∀ b', ObjBlk K r (.vec 1 (ys.map (.int .i64))) b' → b' = b := fun b' hb => by
  obtain ⟨a', cap', q1, q2, q3⟩ := hb
  rw [List.length_map, hsl, h1] at q1
  simp only [Option.some.injEq, Prod.mk.injEq] at q1
  rw [← q3, ← q1.1]
 have hO : ObjR K σ.length (putRow (Value.int .i64) (Sort.ahead w n) b o ys.toArray) r (.vec 1 (ys.map (.int .i64))) := by
  refine ⟨_, cap, by rw [List.length_map, hsl]; exact h1, by rw [List.length_map]; omega, fun k hk => h3 k (by rw [List.length_map, hsl] at hk; exact hk), fun i hi => by rw [List.getElem_map]; rfl, fun _ => ⟨b, o, _, E, rfl, hp2, by simp [putCells]; omega, ?_, ?_, g6⟩⟩
  ·rw [ints_flat, List.length_map, Nat.mul_one, putCells_row (by omega)]
   exact vals_ints ys
  ·intro c hc
   simp only [putCells, Array.toList_mapIdx] at hc
   obtain ⟨k, hk, rfl⟩ := List.mem_mapIdx.1 hc
   split
   ·rfl
   ·exact g5 _ (List.getElem_mem _)
 obtain ⟨s1, s2⟩ := hR1.turn (w' := putRow (Value.int .i64) (Sort.ahead w n) b o ys.toArray) (o' := .vec 1 (ys.map (.int .i64))) hg b ⟨_, cap, by rw [List.length_map]; exact h1, by omega, rfl⟩ K (.refl _ _) (fun _ _ => rfl) (fun b' hb => by simp [putRow, mapBlock, Array.getElem?_modify, Ne.symm hb]) (by simp) (fun _ _ _ => rfl) (fun p v hv' => by rw [g6 p] at hv'; cases hv') hB hO rfl rfl rfl (by rw [hp2, show (Sort.ahead w n).heap[b]? = w.heap[b]? from rfl, g2]; rfl)
 have hr := hget_lt hg
 have hg2 : hget (σ.set r (.vec 1 (ys.map (.int .i64)))) r = some (.vec 1 (ys.map (.int .i64))) := by
  show (σ.set r _)[r]? = _
  rw [List.getElem?_set, if_pos rfl, if_pos hr]
 obtain ⟨K', t1, t2, t3⟩ := s1.freeze hg2
 have hvv : VR K (σ.set r (.vec 1 (ys.map (.int .i64)))).length (.vec r (ys.map (AV.int .i64)).length) (.slice (some ⟨b, o, none⟩) (ys.map (AV.int .i64)).length cap) :=
  .vec r _ _ cap (by simpa using hr) (by rw [List.length_map]; omega) (by rw [List.length_map, hsl]; exact h1) (.inr ⟨b, o, rfl⟩)
 have hl3 := (t3 _ hvv).pre (m := C.length) (by rw [List.length_map]; omega)
 rw [← List.map_take, htk] at hl3
 have hsd : hset (σ.set r (.vec 1 (ys.map (.int .i64)))) r .dead = hset σ r .dead := by
  unfold hset; rw [List.set_set]
 rw [hsd] at t1 t2
 have hln : (hset σ r AObj.dead).length = σ.length := by simp [hset]
 refine ⟨_, rfl, _, _, K', ?_, h, t1, (Step.drew _ s2).trans t2⟩
 rw [hln]
 simpa using hl3
end Go.Mu
