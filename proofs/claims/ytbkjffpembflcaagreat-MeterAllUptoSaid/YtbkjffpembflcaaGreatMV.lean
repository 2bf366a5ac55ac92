/- Part Vg of the abstract layer: slices that are written into begin, and are written into no more. -/
import Derived.Test.YtbkjffpembflcaaGreatMu3
import Derived.Shelf.Sort.Plain
set_option linter.unusedSimpArgs false
set_option linter.unusedVariables false
namespace Go.Mu
open Go

/-- A vector is written into no more: it is its list. -/
theorem R.freeze {K : Kr} {σ : List AObj} {w : World} (hR : R K σ w) {r sz : Nat} {xs : List AV} (hg : hget σ r = some (.vec sz xs)) :
    ∃ K', R K' (hset σ r .dead) w ∧ Step K σ w K' (hset σ r .dead) w ∧ ∀ c, VR K σ.length (.vec r xs.length) c → VR K' σ.length (.list .no sz xs) c := by
  have hr := hget_lt hg
  obtain ⟨a, cap, h1, h2, h3, hsz, h5⟩ := hR.obj r _ hg
  by_cases hc : 0 < cap
  · obtain ⟨b, o, cc, E, rfl, g2, g3, g4, g5, g6⟩ := h5 hc
    have hle : xs.length * sz ≤ cap * sz := Nat.mul_le_mul_right sz h2
    generalize hrow : (cc.toList.drop o).take (xs.length * sz) = row at g4
    have hl : row.length = xs.length * sz := by rw [← hrow]; simp; omega
    have hone : ∀ x ∈ row, x.oneCell' = true := fun x hx => g5 x (by rw [← hrow] at hx; exact List.mem_of_mem_drop (List.mem_of_mem_take hx))
    let K' : Kr := { K with S := fun b' p => if b' = b ∧ o ≤ p ∧ p < o + row.length then row[p - o]? else K.S b' p }
    have hext : Ext σ.length K K' := ⟨fun _ _ => rfl, fun _ _ _ _ h => h, fun b' p v hv => by
      show (if b' = b ∧ _ then _ else _) = _
      rw [if_neg]
      · exact hv
      · rintro ⟨rfl, _⟩; rw [g6 p] at hv; cases hv⟩
    obtain ⟨r1, r2⟩ := hR.turn (w' := w) (o' := .dead) hg b ⟨_, cap, h1, hc, rfl⟩ K' hext (fun _ _ => rfl) (fun _ _ => rfl) rfl
      (fun b' p hb => by show (if b' = b ∧ _ then _ else _) = _; rw [if_neg (fun h => hb h.1)])
      (fun p v hv => by
        have hv' : (if b = b ∧ o ≤ p ∧ p < o + row.length then row[p - o]? else K.S b p) = some v := hv
        split at hv'
        · rename_i hp
          have hlt : p - o < row.length := by omega
          rw [List.getElem?_eq_getElem hlt] at hv'
          have hcc : p < cc.size := by omega
          simp only [World.cell?, g2, Option.isSome_none, Bool.false_eq_true, if_false]
          rw [← hv']
          have : row[p - o]? = cc[p]? := by
            rw [← hrow, List.getElem?_take_of_lt (by omega), List.getElem?_drop, show o + (p - o) = p by omega]; simp
          rw [← this, List.getElem?_eq_getElem hlt]
        · rw [g6 p] at hv'; cases hv')
      (fun b' hb => hb.elim) trivial rfl rfl rfl
    refine ⟨K', r1, r2, fun c hv => ?_⟩
    cases hv with
    | vec _ _ a' cap' hr' hl' ht ha =>
      rw [h1] at ht; simp only [Option.some.injEq, Prod.mk.injEq] at ht
      obtain ⟨rfl, rfl⟩ := ht
      refine VR.of_row h2 trivial hsz (g4.mono hext (Nat.le_refl _)) hone fun _ => ⟨b, o, rfl, fun p hp => ?_⟩
      show (if b = b ∧ o ≤ o + p ∧ o + p < o + row.length then row[o + p - o]? else _) = _
      rw [if_pos ⟨rfl, by omega, by omega⟩, Nat.add_sub_cancel_left, List.getElem?_eq_getElem hp]
  · have h0 : xs = [] := List.eq_nil_of_length_eq_zero (by omega)
    subst h0
    obtain ⟨r1, r2⟩ := hR.ghostAt (σ' := hset σ r .dead) r .dead K (.refl _ _) (by simp [hset]) (hset_get_same hr) (fun q o' hq hg => hset_get_other hq hg) (fun _ _ => rfl) rfl (fun b hb => hb) trivial
    refine ⟨K, r1, r2, fun c hv => ?_⟩
    cases hv with
    | vec _ _ a' cap' hr' hl' ht ha =>
      exact .list .no sz [] a' cap' (fun _ _ => undef) hl' trivial (fun h => absurd rfl h) (fun i hi => by simp at hi) (fun i j hi => by simp at hi) (fun i j hi => by simp at hi)

theorem hsl_dead {σ : List AObj} {r : Nat} : (hset σ r .dead).length = σ.length := by simp [hset]

/-- A slot's vector is written into no more. -/
theorem ARun.freeze {E : Env} {ro : Option Nat} {todo : List Item} {kp : Nat → Bool} {tm sl : List (Nat × AV)} {σ : List AObj} {Q : Post} (d : Nat) {r n sz : Nat} {xs : List AV} (hd : kp d = true) (hl : lookA sl d = some (.vec r n)) (hg : hget σ r = some (.vec sz xs)) (hn : xs.length = n)
    (h : ARun E ro todo ⟨kp, [], ins sl d (.list .no sz xs)⟩ (hset σ r .dead) Q) : ARun E ro todo ⟨kp, tm, sl⟩ σ Q := by
  subst hn
  refine h.mind fun K w tmps hR hF => ?_
  obtain ⟨K', r1, r2, hv⟩ := hR.freeze hg
  have he : Ext σ.length K K' := r2.ext
  refine ⟨K', r1, ⟨hF.1, fun t v hv' => ?_⟩, r2⟩
  rw [hsl_dead]
  have hv2 : (if kp t = true then lookA (ins sl d (.list .no sz xs)) t else lookA [] t) = some v := hv'
  by_cases hk : kp t = true
  · rw [if_pos hk, lookA_ins] at hv2
    by_cases e : d = t
    · subst e
      rw [if_pos rfl] at hv2; simp at hv2; subst hv2
      obtain ⟨c, k1, k2⟩ := hF.2 d (.vec r xs.length) (by show (if kp d = true then lookA sl d else lookA tm d) = _; rw [if_pos hk]; exact hl)
      exact ⟨c, k1, hv c k2⟩
    · rw [if_neg e] at hv2
      obtain ⟨c', k1, k2⟩ := hF.2 t v (by show (if kp t = true then lookA sl t else lookA tm t) = _; rw [if_pos hk]; exact hv2)
      exact ⟨c', k1, k2.mono he (Nat.le_refl _)⟩
  · rw [if_neg hk] at hv2; cases hv2

/-- A variable's vector is written into no more. -/
theorem ARun.freezeK {E : Env} {ro : Option Nat} {todo : List Item} {fr : Fr} {σ : List AObj} {Q : Post} (q k : Nat) {r n sz : Nat} {xs cs : List AV} (hq : hget σ q = some (.cells cs)) (hk : cs[k]? = some (.vec r n)) (hg : hget σ r = some (.vec sz xs)) (hn : xs.length = n)
    (h : ARun E ro todo fr (hset (hset σ r .dead) q (.cells (cs.set k (.list .no sz xs)))) Q) : ARun E ro todo fr σ Q := by
  subst hn
  refine h.mind fun K w tmps hR hF => ?_
  obtain ⟨K', r1, r2, hv⟩ := hR.freeze hg
  have hne : r ≠ q := fun e => by subst e; rw [hg] at hq; cases hq
  have hq' : hget (hset σ r .dead) q = some (.cells cs) := by rw [hget_ne hne]; exact hq
  obtain ⟨cc, T, h1, h2, h3, h4⟩ := hR.obj q _ hq
  obtain ⟨cc', T', g1, g2, g3, g4⟩ := r1.obj q _ hq'
  have hφ : K'.φ q = K.φ q := r2.ext.φ q (hget_lt hq)
  rw [hφ, h1] at g1
  simp only [Option.some.injEq, Obj.cells.injEq, and_true] at g1
  obtain ⟨rfl, rfl⟩ := g1
  have hks := hk
  obtain ⟨hkl, hke⟩ := List.getElem?_eq_some_iff.1 hk
  have h2' : VRs K' (hset σ r .dead).length (cs.set k (.list .no sz xs)) cc.toList := by
    rw [hsl_dead]
    rw [hsl_dead] at g2
    refine ⟨by rw [List.length_set]; exact h2.1, fun i h5 h6 => ?_⟩
    by_cases e : k = i
    · subst e
      rw [List.getElem_set_self]
      have := h2.2 k hkl h6
      rw [hke] at this
      exact hv _ this
    · rw [List.getElem_set_ne e]
      exact g2.2 i (by rw [List.length_set] at h5; exact h5) h6
  obtain ⟨s1, s2⟩ := r1.turn (o' := .cells (cs.set k (.list .no sz xs))) hq' (K'.φ q) rfl K' (.refl _ _) (fun _ _ => rfl) (fun _ _ => rfl) rfl (fun _ _ _ => rfl) (fun p v hv => r1.stab _ _ _ hv) (fun b hb => hb) ⟨cc, T, by rw [hφ]; exact h1, h2', h3, g4⟩ rfl rfl rfl
  refine ⟨K', s1, ?_, r2.trans s2⟩
  have hlen : (hset (hset σ r AObj.dead) q (AObj.cells (cs.set k (.list .no sz xs)))).length = σ.length := by simp [hset]
  rw [hlen]
  exact hF.mono r2.ext (Nat.le_refl _)

/-- A call's result is written into no more. -/
theorem ACalls.froze {P : Program} {f : FuncId} {args : List AV} {σ : List AObj} {Q : AV → List AObj → Prop}
    (h : ACalls P f args σ fun v σ' => ∃ r sz xs, v = .vec r xs.length ∧ hget σ' r = some (.vec sz xs) ∧ Q (.list .no sz xs) (hset σ' r .dead)) : ACalls P f args σ Q := by
  refine ⟨h.1, fun K w cargs hR hV => (h.2 K w cargs hR hV).mono ?_⟩
  rintro e w' ⟨v, c, σ', K', he, ⟨r, sz, xs, rfl, hg, hq⟩, hv, hR', hS⟩
  obtain ⟨K2, r1, r2, hv2⟩ := hR'.freeze hg
  exact ⟨_, c, _, K2, he, hq, by rw [hsl_dead]; exact hv2 c hv, r1, hS.trans r2⟩
/-- A result that is a part of the call's result is written into no more. -/
theorem ACalls.frozeT {P : Program} {f : FuncId} {args : List AV} {σ : List AObj} {Q : AV → List AObj → Prop}
    (h : ACalls P f args σ fun v σ' => ∃ vs k r sz xs, v = .tup vs ∧ vs[k]? = some (.vec r xs.length) ∧ hget σ' r = some (.vec sz xs) ∧ Q (.tup (vs.set k (.list .no sz xs))) (hset σ' r .dead)) : ACalls P f args σ Q := by
  refine ⟨h.1, fun K w cargs hR hV => (h.2 K w cargs hR hV).mono ?_⟩
  rintro e w' ⟨v, c, σ', K', he, ⟨vs, k, r, sz, xs, rfl, hk, hg, hq⟩, hv, hR', hS⟩
  obtain ⟨K2, r1, r2, hv2⟩ := hR'.freeze hg
  refine ⟨_, c, _, K2, he, hq, ?_, r1, hS.trans r2⟩
  rw [hsl_dead]
  cases hv with
  | tup _ cs' hl hh =>
    obtain ⟨hkl, hke⟩ := List.getElem?_eq_some_iff.1 hk
    refine .tup _ cs' (by simpa using hl) fun i h1 h2 => ?_
    by_cases e : k = i
    · subst e
      rw [List.getElem_set_self]
      have := hh k hkl h2
      rw [hke] at this
      exact hv2 _ this
    · rw [List.getElem_set_ne e]
      exact (hh i (by simpa using h1) h2).mono r2.ext (Nat.le_refl _)

/-- An empty list without spare room becomes a vector. -/
theorem ARun.ghostV {E : Env} {ro : Option Nat} {todo : List Item} {kp : Nat → Bool} {tm sl : List (Nat × AV)} {σ : List AObj} {Q : Post} (d sz : Nat) {sz0 : Nat} (hd : kp d = true) (hl : lookA sl d = some (.list .full sz0 []))
    (h : ARun E ro todo ⟨kp, [], ins sl d (.vec σ.length 0)⟩ (σ ++ [.vec sz []]) Q) : ARun E ro todo ⟨kp, tm, sl⟩ σ Q := by
  refine h.mind fun K w tmps hR hF => ?_
  obtain ⟨c, hc, hv⟩ := hF.2 d (.list .full sz0 []) (by show (if kp d = true then lookA sl d else lookA tm d) = _; rw [if_pos hd]; exact hl)
  cases hv with
  | list _ _ _ a cap f hl' ht ha hs h1 hh =>
    have hcap : cap = 0 := ht
    subst hcap
    let K' : Kr := { K with tl := fun q => if q = σ.length then fun m => if m = 0 then some (a, 0) else none else K.tl q }
    have he : Ext σ.length K K' := ⟨fun _ _ => rfl, fun r hr m x hx => by
      show (if r = σ.length then _ else K.tl r) m = some x
      rw [if_neg (by omega)]; exact hx, fun _ _ _ h => h⟩
    have htl : K'.tl σ.length = fun m => if m = 0 then some (a, 0) else none := by
      show (if σ.length = σ.length then _ else _) = _
      rw [if_pos rfl]
    obtain ⟨r1, r2⟩ := hR.ghostAt (σ' := σ ++ [.vec sz []]) σ.length (.vec sz []) K' he (by simp) (by simp) (fun q o' hq hg => by
      rw [List.getElem?_append] at hg
      split at hg
      · exact hg
      · cases hk : q - σ.length with
        | zero => omega
        | succ j => rw [hk] at hg; simp at hg) (fun q hq => by show (if q = σ.length then _ else K.tl q) = _; rw [if_neg hq]) rfl (fun b hb => by
      obtain ⟨a', cap', g1, g2, _⟩ := hb
      rw [htl] at g1; simp at g1; omega) ⟨a, 0, by rw [htl]; rfl, Nat.le_refl _, fun k hk => by rw [htl]; simp at hk ⊢; omega, fun i hi => by simp at hi, fun h => by omega⟩
    refine ⟨K', r1, ⟨hF.1, fun t v hv => ?_⟩, r2⟩
    have hv' : (if kp t = true then lookA (ins sl d (.vec σ.length 0)) t else lookA [] t) = some v := hv
    by_cases hk : kp t = true
    · rw [if_pos hk, lookA_ins] at hv'
      by_cases e : d = t
      · subst e
        rw [if_pos rfl] at hv'; simp at hv'; subst hv'
        exact ⟨_, hc, .vec σ.length 0 a 0 (by simp) (Nat.le_refl _) (by rw [htl]; rfl) (.inl rfl)⟩
      · rw [if_neg e] at hv'
        obtain ⟨c', k1, k2⟩ := hF.2 t v (by show (if kp t = true then lookA sl t else lookA tm t) = _; rw [if_pos hk]; exact hv')
        exact ⟨c', k1, k2.mono he (by simp)⟩
    · rw [if_neg hk] at hv'; cases hv'

/-- An empty list in a part of a variable becomes a vector. -/
theorem ARun.ghostVK {E : Env} {ro : Option Nat} {todo : List Item} {fr : Fr} {σ : List AObj} {Q : Option Code → Fr → List AObj → Prop} (r k sz : Nat) {sz0 : Nat} {cs : List AV} (hg : hget σ r = some (.cells cs)) (hk : cs[k]? = some (.list .full sz0 []))
    (h : ARun E ro todo fr (hset σ r (.cells (cs.set k (.vec σ.length 0))) ++ [.vec sz []]) Q) : ARun E ro todo fr σ Q := by
  refine h.mind fun K w tmps hR hF => ?_
  obtain ⟨cc, T, h1, h2, h3, h4⟩ := hR.obj r _ hg
  have hr := hget_lt hg
  obtain ⟨hkl, hke⟩ := List.getElem?_eq_some_iff.1 hk
  have hkl' : k < cc.toList.length := by rw [← h2.1]; exact hkl
  have hv0 := h2.2 k hkl hkl'
  rw [hke] at hv0
  generalize hc0 : cc.toList[k] = c0 at hv0
  cases hv0 with
  | list _ _ _ a cap f hl' ht ha hs h1' hh =>
    have hcap : cap = 0 := ht
    subst hcap
    let K' : Kr := { K with tl := fun q => if q = σ.length then fun m => if m = 0 then some (a, 0) else none else K.tl q }
    have he : Ext σ.length K K' := ⟨fun _ _ => rfl, fun r hr m x hx => by
      show (if r = σ.length then _ else K.tl r) m = some x
      rw [if_neg (by omega)]; exact hx, fun _ _ _ h => h⟩
    have htl : K'.tl σ.length = fun m => if m = 0 then some (a, 0) else none := by
      show (if σ.length = σ.length then _ else _) = _
      rw [if_pos rfl]
    obtain ⟨r1, r2⟩ := hR.ghostAt (σ' := σ ++ [.vec sz []]) σ.length (.vec sz []) K' he (by simp) (by simp) (fun q o' hq hg => by
      rw [List.getElem?_append] at hg
      split at hg
      · exact hg
      · cases hk : q - σ.length with
        | zero => omega
        | succ j => rw [hk] at hg; simp at hg) (fun q hq => by show (if q = σ.length then _ else K.tl q) = _; rw [if_neg hq]) rfl (fun b hb => by
      obtain ⟨a', cap', g1, g2, _⟩ := hb
      rw [htl] at g1; simp at g1; omega) ⟨a, 0, by rw [htl]; rfl, Nat.le_refl _, fun k hk => by rw [htl]; simp at hk ⊢; omega, fun i hi => by simp at hi, fun h => by omega⟩
    have hg' : hget (σ ++ [.vec sz []]) r = some (.cells cs) := by rw [hget_app hr]; exact hg
    have h2' : VRs K' (σ ++ [AObj.vec sz []]).length (cs.set k (.vec σ.length 0)) cc.toList := by
      refine ⟨by rw [List.length_set]; exact h2.1, fun i h5 h6 => ?_⟩
      by_cases e : k = i
      · subst e
        rw [List.getElem_set_self]
        have : cc.toList[k] = .slice a 0 0 := hc0
        rw [this]
        exact .vec σ.length 0 a 0 (by simp) (Nat.le_refl _) (by rw [htl]; rfl) (.inl rfl)
      · rw [List.getElem_set_ne e]
        exact (h2.2 i (by rw [List.length_set] at h5; exact h5) h6).mono he (by simp)
    obtain ⟨s1, s2⟩ := r1.turn (o' := .cells (cs.set k (.vec σ.length 0))) hg' (K'.φ r) rfl K' (.refl _ _) (fun _ _ => rfl) (fun _ _ => rfl) rfl (fun _ _ _ => rfl) (fun p v hv => r1.stab _ _ _ hv) (fun b hb => hb) ⟨cc, T, h1, h2', h3, h4⟩ rfl rfl rfl
    have eset : (σ ++ [AObj.vec sz []]).set r (.cells (cs.set k (.vec σ.length 0))) = hset σ r (.cells (cs.set k (.vec σ.length 0))) ++ [.vec sz []] := by
      unfold hset; rw [List.set_append_left _ _ hr]
    rw [eset] at s1 s2
    refine ⟨K', s1, ?_, r2.trans s2⟩
    have : (hset σ r (.cells (cs.set k (.vec σ.length 0))) ++ [AObj.vec sz []]).length = σ.length + 1 := by simp [length_hset]
    rw [this]
    exact hF.mono he (by omega)
end Go.Mu
set_option linter.unusedSimpArgs false
set_option linter.unusedVariables false
namespace Go.Mu
open Go Go.Proofs Go.Shelf Go.Sort

/-- More objects in the world's heap that nobody knows. -/
theorem R.grown {K : Kr} {σ : List AObj} {w : World} (h : R K σ w) (os : Array Obj) : R K σ { w with heap := w.heap ++ os } ∧ Step K σ w K σ { w with heap := w.heap ++ os } := by
  have old : ∀ b, b < w.heap.size → ({ w with heap := w.heap ++ os } : World).heap[b]? = w.heap[b]? := fun b hb => Array.getElem?_append_left hb
  have hlt : ∀ {r o}, σ[r]? = some o → r < σ.length := fun h => (List.getElem?_eq_some_iff.1 h).1
  refine ⟨⟨fun b p v hv => ?_, fun r o hr => ?_, h.inj⟩, ?_⟩
  · rw [cell_of_heap (old b (h.lt hv))]; exact h.stab b p v hv
  · exact (h.obj r o hr).mono (hlt hr) (.refl _ _) (Nat.le_refl _) rfl fun b hb => ⟨old b ((h.obj r o hr).blk_lt hb), fun _ => rfl⟩
  · exact ⟨.refl _ _, Nat.le_refl _, by simp, fun b hb hf => ⟨old b hb, hf, fun _ => rfl⟩, rfl, rfl, rfl, fun b hb => by rw [old b hb]⟩
theorem ints_flat (l : List Int) : (l.map (AV.int .i64)).flatMap AV.cells = l.map (AV.int .i64) := by
  induction l with
  | nil => rfl
  | cons x l ih => simp only [List.map_cons, List.flatMap_cons, ih]; rfl
theorem ints_vals {K : Kr} {n : Nat} {l : List Int} {cs : List Value} (h : VRs K n (l.map (AV.int .i64)) cs) : cs = l.map (Value.int .i64) := by
  apply List.ext_getElem
  · rw [← h.1]; simp
  · intro i h1 h2
    have := h.2 i (by simpa using h2) h1
    rw [List.getElem_map] at this
    rw [this.int_inv, List.getElem_map]
theorem vals_ints {K : Kr} {n : Nat} (l : List Int) : VRs K n (l.map (AV.int .i64)) (l.map (Value.int .i64)) :=
  ⟨by simp, fun i h1 h2 => by rw [List.getElem_map, List.getElem_map]; exact .int _ _⟩
theorem putCells_row {l : List Int} {o : Nat} {cc : Array Value} (h : o + l.length ≤ cc.size) : (((putCells (Value.int .i64) o l.toArray cc).toList.drop o).take l.length) = l.map (Value.int .i64) := by
  apply List.ext_getElem
  · simp [putCells]; omega
  · intro i h1 h2
    have hi : i < l.length := by simpa using h2
    simp only [List.getElem_take, List.getElem_drop, putCells, List.size_toArray, Array.toList_mapIdx, List.getElem_mapIdx]
    rw [if_pos ⟨by omega, by omega⟩]
    simp [hi]
theorem sort_a {P : Program} {ρ : Ren} (L : Lays.n189 P ρ) (hC : Callable P (ρ.f 189)) (zs : List Int) (hz : zs ≠ []) (hn : zs.length ≤ 4294967296) {σ : List AObj} {r : Nat} (hg : hget σ r = some (.vec 1 (zs.map (.int .i64)))) {Q : AV → List AObj → Prop}
    (h : Q (.tup []) (hset σ r (.vec 1 ((zs.mergeSort fun x y => decide (x ≤ y)).map (.int .i64))))) : ACalls P (ρ.f 189) [.vec r zs.length] σ Q := by
  refine ⟨hC, fun K w cargs hR hA => ?_⟩
  obtain ⟨a, cap, h1, h2, h3, hsz, h5⟩ := hR.obj r _ hg
  rw [List.length_map] at h1 h2 h3
  have hlen : 0 < zs.length := List.length_pos_iff.2 hz
  obtain ⟨b, o, cc, E, rfl, g2, g3, g4, g5, g6⟩ := h5 (by omega)
  rw [ints_flat, List.length_map] at g4
  have hrow := ints_vals g4
  obtain ⟨c0, hc0⟩ : ∃ c0, cargs.toList = [c0] := List.length_eq_one_iff.1 hA.1.symm
  rw [hc0] at hA
  have hv : VR K σ.length (.vec r zs.length) c0 := hA.2 0 (by simp) (by simp)
  have hca : cargs = #[.slice (some ⟨b, o, none⟩) zs.length cap] := by
    cases hv with
    | vec _ _ a' cap' hr' hl' ht ha =>
      rw [h1] at ht
      simp only [Option.some.injEq, Prod.mk.injEq] at ht
      obtain ⟨rfl, rfl⟩ := ht
      apply Array.ext'
      rw [hc0]
  subst hca
  have hcc : ∀ j, j < zs.length → cc.toList[o + j]? = some (.int .i64 (zs.getD j 0)) := fun j hj => by
    have e : ((cc.toList.drop o).take (zs.length * 1))[j]? = (zs.map (Value.int .i64))[j]? := by rw [hrow]
    rw [List.getElem?_take_of_lt (by omega), List.getElem?_drop] at e
    rw [e]
    simp [hj]
  have hH : Holds (Value.int .i64) w b o zs.toArray := fun j hj => by
    have hj' : j < zs.length := by simpa using hj
    have hx := hcc j hj'
    have hb : o + j < cc.size := by omega
    have hx2 : cc[o + j] = .int .i64 (zs.getD j 0) := by
      rw [Array.getElem?_toList, Array.getElem?_eq_getElem hb] at hx
      exact Option.some.inj hx
    refine ⟨?_, ?_⟩
    · simp [World.cell?, g2, hb, hx2, List.getD, hj']
    · simp [World.frozen?, g2]
  refine (Any.slices_Sort_int L b o cap zs w hH (lt_of_heap g2) (by omega)).mono ?_
  rintro e w' ⟨rfl, n, os, rfl⟩
  have hsl : (zs.mergeSort fun x y => decide (x ≤ y)).length = zs.length := List.length_mergeSort _
  generalize (zs.mergeSort fun x y => decide (x ≤ y)) = ys at hsl h ⊢
  have hR1 : R K σ (Sort.ahead w n) := hR.drew _
  have hp2 : (putRow (Value.int .i64) (Sort.ahead w n) b o ys.toArray).heap[b]? = some (.cells (putCells (Value.int .i64) o ys.toArray cc) E (0, 0)) := by
    simp [putRow, mapBlock, Sort.ahead, Array.getElem?_modify, g2, onCells]
  have hB : ∀ b', ObjBlk K r (.vec 1 (ys.map (.int .i64))) b' → b' = b := fun b' hb => by
    obtain ⟨a', cap', q1, q2, q3⟩ := hb
    rw [List.length_map, hsl, h1] at q1
    simp only [Option.some.injEq, Prod.mk.injEq] at q1
    rw [← q3, ← q1.1]
  have hO : ObjR K σ.length (putRow (Value.int .i64) (Sort.ahead w n) b o ys.toArray) r (.vec 1 (ys.map (.int .i64))) := by
    refine ⟨_, cap, by rw [List.length_map, hsl]; exact h1, by rw [List.length_map]; omega, fun k hk => h3 k (by rw [List.length_map, hsl] at hk; exact hk), fun i hi => by rw [List.getElem_map]; rfl, fun _ => ⟨b, o, _, E, rfl, hp2, by simp [putCells]; omega, ?_, ?_, g6⟩⟩
    · rw [ints_flat, List.length_map, Nat.mul_one, putCells_row (by omega)]
      exact vals_ints ys
    · intro c hc
      simp only [putCells, Array.toList_mapIdx] at hc
      obtain ⟨k, hk, rfl⟩ := List.mem_mapIdx.1 hc
      split
      · rfl
      · exact g5 _ (List.getElem_mem _)
  obtain ⟨s1, s2⟩ := hR1.turn (w' := putRow (Value.int .i64) (Sort.ahead w n) b o ys.toArray) (o' := .vec 1 (ys.map (.int .i64))) hg b ⟨_, cap, by rw [List.length_map]; exact h1, by omega, rfl⟩ K (.refl _ _) (fun _ _ => rfl) (fun b' hb => by simp [putRow, mapBlock, Array.getElem?_modify, Ne.symm hb]) (by simp) (fun _ _ _ => rfl) (fun p v hv' => by rw [g6 p] at hv'; cases hv') hB hO rfl rfl rfl (by rw [hp2, show (Sort.ahead w n).heap[b]? = w.heap[b]? from rfl, g2]; rfl)
  obtain ⟨t1, t2⟩ := s1.grown os
  exact ⟨.tup [], .tuple #[], _, K, rfl, h, .tup [] [] rfl (fun i hi => by simp at hi), t1, (Step.drew _ s2).trans t2⟩
end Go.Mu
set_option linter.unusedSimpArgs false
set_option linter.unusedVariables false
namespace Go.Mu
open Go

theorem todoOK_two {E : Env} {c : Code} {K : List Item} (h : todoOK E [.code c, .inLoop c] = true) (hK : todoOK E K = true) : todoOK E (.code c :: .inLoop c :: K) = true := by
  simp only [todoOK_cons, Bool.and_eq_true] at h ⊢
  exact ⟨h.1, h.2.1, hK⟩
theorem ARun.forG {E : Env} (hE : EnvOK E) {ro : Option Nat} {c : Code} {k : List Item} {kp : Nat → Bool} {tm sl : List (Nat × AV)} {σ : List AObj} {Q : Post} (n : Nat) (P : Nat → Prop) (lv : Nat → List (Nat × AV)) (S : Nat → List AObj → List AObj) (j0 : List AObj)
    (hO : todoOK E [.code c, .inLoop c] = true) (hk : todoOK E k = true) (hσ : S 0 j0 = σ) (h0 : subF (upd sl (lv 0)) sl) (hP : P 0)
    (hs : ∀ (K : List Item) (Q : Post), todoOK E K = true → ∀ i j, i < n → P i → (P (i + 1) → ∀ j', ARun E ro (.inLoop c :: K) ⟨kp, [], upd sl (lv (i + 1))⟩ (S (i + 1) j') Q) → ev E ro 100000 (.code c :: .inLoop c :: K) ⟨kp, [], upd sl (lv i)⟩ (S i j) Q)
    (he : ∀ j, P n → ev E ro 100000 (.code c :: .inLoop c :: k) ⟨kp, [], upd sl (lv n)⟩ (S n j) Q) : ARun E ro (.code (.loop c) :: k) ⟨kp, tm, sl⟩ σ Q :=
  ARun.forS hE n P lv S j0 (todoOK_two hO hk) hσ h0 hP (hs k Q hk) he
/-- The rest of a code is walked for any end. -/
theorem todoOK_nil' {E : Env} : todoOK E [] = true := rfl
end Go.Mu
set_option linter.unusedSimpArgs false
set_option linter.unusedVariables false
namespace Go.Mu
open Go

/-- A loop with a state: while the measure is positive a round makes it less; at 0 it ends. -/
theorem ARun.loopG {E : Env} (hE : EnvOK E) {ro : Option Nat} {c : Code} {k : List Item} {kp : Nat → Bool} {tm sl : List (Nat × AV)} {σ : List AObj} {Q : Post} {α : Type} (m : α → Nat) (J : α → List AObj → Prop) (lv : α → List (Nat × AV)) (x0 : α)
    (hO : todoOK E [.code c, .inLoop c] = true) (hk : todoOK E k = true) (h0 : subF (upd sl (lv x0)) sl) (hJ : J x0 σ)
    (hs : ∀ (K : List Item) (Q : Post), todoOK E K = true → ∀ x τ, J x τ → 0 < m x → (∀ y τ', m y < m x → J y τ' → ARun E ro (.inLoop c :: K) ⟨kp, [], upd sl (lv y)⟩ τ' Q) → ev E ro 100000 (.code c :: .inLoop c :: K) ⟨kp, [], upd sl (lv x)⟩ τ Q)
    (he : ∀ x τ, J x τ → m x = 0 → ev E ro 100000 (.code c :: .inLoop c :: k) ⟨kp, [], upd sl (lv x)⟩ τ Q) : ARun E ro (.code (.loop c) :: k) ⟨kp, tm, sl⟩ σ Q := by
  have hok := todoOK_two hO hk
  have key : ∀ n x τ, m x = n → J x τ → ARun E ro (.code c :: .inLoop c :: k) ⟨kp, [], upd sl (lv x)⟩ τ Q := by
    intro n
    induction n using Nat.strongRecOn with
    | _ n ih =>
      intro x τ hm hj
      rcases Nat.eq_zero_or_pos (m x) with h | h
      · exact ev_sound hE hok (he x τ hj h)
      · exact ev_sound hE hok (hs k Q hk x τ hj h fun y τ' hlt hy => .inLoop (ih (m y) (by omega) y τ' rfl hy))
  exact .loop (ARun.sub (key _ x0 σ rfl hJ) h0)
/-- A loop that counts to n; what lives is told by a law of the objects. -/
theorem ARun.countG {E : Env} (hE : EnvOK E) {ro : Option Nat} {c : Code} {k : List Item} {kp : Nat → Bool} {tm sl : List (Nat × AV)} {σ : List AObj} {Q : Post} (n : Nat) (J : Nat → List AObj → Prop) (lv : Nat → List (Nat × AV))
    (hO : todoOK E [.code c, .inLoop c] = true) (hk : todoOK E k = true) (h0 : subF (upd sl (lv 0)) sl) (hJ : J 0 σ)
    (hs : ∀ (K : List Item) (Q : Post), todoOK E K = true → ∀ i τ, i < n → J i τ → (∀ τ', J (i + 1) τ' → ARun E ro (.inLoop c :: K) ⟨kp, [], upd sl (lv (i + 1))⟩ τ' Q) → ev E ro 100000 (.code c :: .inLoop c :: K) ⟨kp, [], upd sl (lv i)⟩ τ Q)
    (he : ∀ τ, J n τ → ev E ro 100000 (.code c :: .inLoop c :: k) ⟨kp, [], upd sl (lv n)⟩ τ Q) : ARun E ro (.code (.loop c) :: k) ⟨kp, tm, sl⟩ σ Q :=
  ARun.forJ hE n J lv (todoOK_two hO hk) h0 hJ (hs k Q hk) he
end Go.Mu
