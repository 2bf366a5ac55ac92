/- Part Vg of the abstract layer: slices that are written into begin, and are written into no more. -/
import Derived.Test.YtbkjffpembflcaaMu3
import Derived.Test.YtbkjffpembflcaaRl
set_option linter.unusedSimpArgs false
set_option linter.unusedVariables false
namespace Go.Mu
open Go

/-- A vector is written into no more: it is its list. -/
theorem R.freeze {K : Kr} {σ : List AObj} {w : World} (hR : R K σ w) {r sz : Nat} {xs : List AV} (hg : hget σ r = some (.vec sz xs)) :
    ∃ K', R K' (hset σ r .dead) w ∧ Step K σ w K' (hset σ r .dead) w ∧ ∀ c, VR K σ.length (.vec r xs.length) c → VR K' σ.length (.list .no sz xs) c := by
  have hr := hget_lt hg
  obtain ⟨a, cap, h1, h2, h3, hsz, h5⟩ := hR.obj r _ hg
  by_cases hc : 0 < cap
  · obtain ⟨b, o, cc, E, rfl, g2, g3, g4, g5, g6⟩ := h5 hc
    have hle : xs.length * sz ≤ cap * sz := Nat.mul_le_mul_right sz h2
    generalize hrow : (cc.toList.drop o).take (xs.length * sz) = row at g4
    have hl : row.length = xs.length * sz := by rw [← hrow]; simp; omega
    have hone : ∀ x ∈ row, x.oneCell' = true := fun x hx => g5 x (by rw [← hrow] at hx; exact List.mem_of_mem_drop (List.mem_of_mem_take hx))
    let K' : Kr := { K with S := fun b' p => if b' = b ∧ o ≤ p ∧ p < o + row.length then row[p - o]? else K.S b' p }
    have hext : Ext σ.length K K' := ⟨fun _ _ => rfl, fun _ _ _ _ h => h, fun b' p v hv => by
      show (if b' = b ∧ _ then _ else _) = _
      rw [if_neg]
      · exact hv
      · rintro ⟨rfl, _⟩; rw [g6 p] at hv; cases hv⟩
    obtain ⟨r1, r2⟩ := hR.turn (w' := w) (o' := .dead) hg b ⟨_, cap, h1, hc, rfl⟩ K' hext (fun _ _ => rfl) (fun _ _ => rfl) rfl
      (fun b' p hb => by show (if b' = b ∧ _ then _ else _) = _; rw [if_neg (fun h => hb h.1)])
      (fun p v hv => by
        have hv' : (if b = b ∧ o ≤ p ∧ p < o + row.length then row[p - o]? else K.S b p) = some v := hv
        split at hv'
        · rename_i hp
          have hlt : p - o < row.length := by omega
          rw [List.getElem?_eq_getElem hlt] at hv'
          have hcc : p < cc.size := by omega
          simp only [World.cell?, g2, Option.isSome_none, Bool.false_eq_true, if_false]
          rw [← hv']
          have : row[p - o]? = cc[p]? := by
            rw [← hrow, List.getElem?_take_of_lt (by omega), List.getElem?_drop, show o + (p - o) = p by omega]; simp
          rw [← this, List.getElem?_eq_getElem hlt]
        · rw [g6 p] at hv'; cases hv')
      (fun b' hb => hb.elim) trivial rfl rfl rfl
    refine ⟨K', r1, r2, fun c hv => ?_⟩
    cases hv with
    | vec _ _ a' cap' hr' hl' ht ha =>
      rw [h1] at ht; simp only [Option.some.injEq, Prod.mk.injEq] at ht
      obtain ⟨rfl, rfl⟩ := ht
      refine VR.of_row h2 trivial hsz (g4.mono hext (Nat.le_refl _)) hone fun _ => ⟨b, o, rfl, fun p hp => ?_⟩
      show (if b = b ∧ o ≤ o + p ∧ o + p < o + row.length then row[o + p - o]? else _) = _
      rw [if_pos ⟨rfl, by omega, by omega⟩, Nat.add_sub_cancel_left, List.getElem?_eq_getElem hp]
  · have h0 : xs = [] := List.eq_nil_of_length_eq_zero (by omega)
    subst h0
    obtain ⟨r1, r2⟩ := hR.ghostAt (σ' := hset σ r .dead) r .dead K (.refl _ _) (by simp [hset]) (hset_get_same hr) (fun q o' hq hg => hset_get_other hq hg) (fun _ _ => rfl) rfl (fun b hb => hb) trivial
    refine ⟨K, r1, r2, fun c hv => ?_⟩
    cases hv with
    | vec _ _ a' cap' hr' hl' ht ha =>
      exact .list .no sz [] a' cap' (fun _ _ => undef) hl' trivial (fun h => absurd rfl h) (fun i hi => by simp at hi) (fun i j hi => by simp at hi) (fun i j hi => by simp at hi)

theorem hsl_dead {σ : List AObj} {r : Nat} : (hset σ r .dead).length = σ.length := by simp [hset]

/-- A slot's vector is written into no more. -/
theorem ARun.freeze {E : Env} {ro : Option Nat} {todo : List Item} {kp : Nat → Bool} {tm sl : List (Nat × AV)} {σ : List AObj} {Q : Post} (d : Nat) {r n sz : Nat} {xs : List AV} (hd : kp d = true) (hl : lookA sl d = some (.vec r n)) (hg : hget σ r = some (.vec sz xs)) (hn : xs.length = n)
    (h : ARun E ro todo ⟨kp, [], ins sl d (.list .no sz xs)⟩ (hset σ r .dead) Q) : ARun E ro todo ⟨kp, tm, sl⟩ σ Q := by
  subst hn
  refine h.mind fun K w tmps hR hF => ?_
  obtain ⟨K', r1, r2, hv⟩ := hR.freeze hg
  have he : Ext σ.length K K' := r2.ext
  refine ⟨K', r1, ⟨hF.1, fun t v hv' => ?_⟩, r2⟩
  rw [hsl_dead]
  have hv2 : (if kp t = true then lookA (ins sl d (.list .no sz xs)) t else lookA [] t) = some v := hv'
  by_cases hk : kp t = true
  · rw [if_pos hk, lookA_ins] at hv2
    by_cases e : d = t
    · subst e
      rw [if_pos rfl] at hv2; simp at hv2; subst hv2
      obtain ⟨c, k1, k2⟩ := hF.2 d (.vec r xs.length) (by show (if kp d = true then lookA sl d else lookA tm d) = _; rw [if_pos hk]; exact hl)
      exact ⟨c, k1, hv c k2⟩
    · rw [if_neg e] at hv2
      obtain ⟨c', k1, k2⟩ := hF.2 t v (by show (if kp t = true then lookA sl t else lookA tm t) = _; rw [if_pos hk]; exact hv2)
      exact ⟨c', k1, k2.mono he (Nat.le_refl _)⟩
  · rw [if_neg hk] at hv2; cases hv2

/-- A variable's vector is written into no more. -/
theorem ARun.freezeK {E : Env} {ro : Option Nat} {todo : List Item} {fr : Fr} {σ : List AObj} {Q : Post} (q k : Nat) {r n sz : Nat} {xs cs : List AV} (hq : hget σ q = some (.cells cs)) (hk : cs[k]? = some (.vec r n)) (hg : hget σ r = some (.vec sz xs)) (hn : xs.length = n)
    (h : ARun E ro todo fr (hset (hset σ r .dead) q (.cells (cs.set k (.list .no sz xs)))) Q) : ARun E ro todo fr σ Q := by
  subst hn
  refine h.mind fun K w tmps hR hF => ?_
  obtain ⟨K', r1, r2, hv⟩ := hR.freeze hg
  have hne : r ≠ q := fun e => by subst e; rw [hg] at hq; cases hq
  have hq' : hget (hset σ r .dead) q = some (.cells cs) := by rw [hget_ne hne]; exact hq
  obtain ⟨cc, T, h1, h2, h3, h4⟩ := hR.obj q _ hq
  obtain ⟨cc', T', g1, g2, g3, g4⟩ := r1.obj q _ hq'
  have hφ : K'.φ q = K.φ q := r2.ext.φ q (hget_lt hq)
  rw [hφ, h1] at g1
  simp only [Option.some.injEq, Obj.cells.injEq, and_true] at g1
  obtain ⟨rfl, rfl⟩ := g1
  have hks := hk
  obtain ⟨hkl, hke⟩ := List.getElem?_eq_some_iff.1 hk
  have h2' : VRs K' (hset σ r .dead).length (cs.set k (.list .no sz xs)) cc.toList := by
    rw [hsl_dead]
    rw [hsl_dead] at g2
    refine ⟨by rw [List.length_set]; exact h2.1, fun i h5 h6 => ?_⟩
    by_cases e : k = i
    · subst e
      rw [List.getElem_set_self]
      have := h2.2 k hkl h6
      rw [hke] at this
      exact hv _ this
    · rw [List.getElem_set_ne e]
      exact g2.2 i (by rw [List.length_set] at h5; exact h5) h6
  obtain ⟨s1, s2⟩ := r1.turn (o' := .cells (cs.set k (.list .no sz xs))) hq' (K'.φ q) rfl K' (.refl _ _) (fun _ _ => rfl) (fun _ _ => rfl) rfl (fun _ _ _ => rfl) (fun p v hv => r1.stab _ _ _ hv) (fun b hb => hb) ⟨cc, T, by rw [hφ]; exact h1, h2', h3, g4⟩ rfl rfl rfl
  refine ⟨K', s1, ?_, r2.trans s2⟩
  have hlen : (hset (hset σ r AObj.dead) q (AObj.cells (cs.set k (.list .no sz xs)))).length = σ.length := by simp [hset]
  rw [hlen]
  exact hF.mono r2.ext (Nat.le_refl _)

/-- A call's result is written into no more. -/
theorem ACalls.froze {P : Program} {f : FuncId} {args : List AV} {σ : List AObj} {Q : AV → List AObj → Prop}
    (h : ACalls P f args σ fun v σ' => ∃ r sz xs, v = .vec r xs.length ∧ hget σ' r = some (.vec sz xs) ∧ Q (.list .no sz xs) (hset σ' r .dead)) : ACalls P f args σ Q := by
  refine ⟨h.1, fun K w cargs hR hV => (h.2 K w cargs hR hV).mono ?_⟩
  rintro e w' ⟨v, c, σ', K', he, ⟨r, sz, xs, rfl, hg, hq⟩, hv, hR', hS⟩
  obtain ⟨K2, r1, r2, hv2⟩ := hR'.freeze hg
  exact ⟨_, c, _, K2, he, hq, by rw [hsl_dead]; exact hv2 c hv, r1, hS.trans r2⟩
/-- A result that is a part of the call's result is written into no more. -/
theorem ACalls.frozeT {P : Program} {f : FuncId} {args : List AV} {σ : List AObj} {Q : AV → List AObj → Prop}
    (h : ACalls P f args σ fun v σ' => ∃ vs k r sz xs, v = .tup vs ∧ vs[k]? = some (.vec r xs.length) ∧ hget σ' r = some (.vec sz xs) ∧ Q (.tup (vs.set k (.list .no sz xs))) (hset σ' r .dead)) : ACalls P f args σ Q := by
  refine ⟨h.1, fun K w cargs hR hV => (h.2 K w cargs hR hV).mono ?_⟩
  rintro e w' ⟨v, c, σ', K', he, ⟨vs, k, r, sz, xs, rfl, hk, hg, hq⟩, hv, hR', hS⟩
  obtain ⟨K2, r1, r2, hv2⟩ := hR'.freeze hg
  refine ⟨_, c, _, K2, he, hq, ?_, r1, hS.trans r2⟩
  rw [hsl_dead]
  cases hv with
  | tup _ cs' hl hh =>
    obtain ⟨hkl, hke⟩ := List.getElem?_eq_some_iff.1 hk
    refine .tup _ cs' (by simpa using hl) fun i h1 h2 => ?_
    by_cases e : k = i
    · subst e
      rw [List.getElem_set_self]
      have := hh k hkl h2
      rw [hke] at this
      exact hv2 _ this
    · rw [List.getElem_set_ne e]
      exact (hh i (by simpa using h1) h2).mono r2.ext (Nat.le_refl _)

/-- An empty list without spare room becomes a vector. -/
theorem ARun.ghostV {E : Env} {ro : Option Nat} {todo : List Item} {kp : Nat → Bool} {tm sl : List (Nat × AV)} {σ : List AObj} {Q : Post} (d sz : Nat) {sz0 : Nat} (hd : kp d = true) (hl : lookA sl d = some (.list .full sz0 []))
    (h : ARun E ro todo ⟨kp, [], ins sl d (.vec σ.length 0)⟩ (σ ++ [.vec sz []]) Q) : ARun E ro todo ⟨kp, tm, sl⟩ σ Q := by
  refine h.mind fun K w tmps hR hF => ?_
  obtain ⟨c, hc, hv⟩ := hF.2 d (.list .full sz0 []) (by show (if kp d = true then lookA sl d else lookA tm d) = _; rw [if_pos hd]; exact hl)
  cases hv with
  | list _ _ _ a cap f hl' ht ha hs h1 hh =>
    have hcap : cap = 0 := ht
    subst hcap
    let K' : Kr := { K with tl := fun q => if q = σ.length then fun m => if m = 0 then some (a, 0) else none else K.tl q }
    have he : Ext σ.length K K' := ⟨fun _ _ => rfl, fun r hr m x hx => by
      show (if r = σ.length then _ else K.tl r) m = some x
      rw [if_neg (by omega)]; exact hx, fun _ _ _ h => h⟩
    have htl : K'.tl σ.length = fun m => if m = 0 then some (a, 0) else none := by
      show (if σ.length = σ.length then _ else _) = _
      rw [if_pos rfl]
    obtain ⟨r1, r2⟩ := hR.ghostAt (σ' := σ ++ [.vec sz []]) σ.length (.vec sz []) K' he (by simp) (by simp) (fun q o' hq hg => by
      rw [List.getElem?_append] at hg
      split at hg
      · exact hg
      · cases hk : q - σ.length with
        | zero => omega
        | succ j => rw [hk] at hg; simp at hg) (fun q hq => by show (if q = σ.length then _ else K.tl q) = _; rw [if_neg hq]) rfl (fun b hb => by
      obtain ⟨a', cap', g1, g2, _⟩ := hb
      rw [htl] at g1; simp at g1; omega) ⟨a, 0, by rw [htl]; rfl, Nat.le_refl _, fun k hk => by rw [htl]; simp at hk ⊢; omega, fun i hi => by simp at hi, fun h => by omega⟩
    refine ⟨K', r1, ⟨hF.1, fun t v hv => ?_⟩, r2⟩
    have hv' : (if kp t = true then lookA (ins sl d (.vec σ.length 0)) t else lookA [] t) = some v := hv
    by_cases hk : kp t = true
    · rw [if_pos hk, lookA_ins] at hv'
      by_cases e : d = t
      · subst e
        rw [if_pos rfl] at hv'; simp at hv'; subst hv'
        exact ⟨_, hc, .vec σ.length 0 a 0 (by simp) (Nat.le_refl _) (by rw [htl]; rfl) (.inl rfl)⟩
      · rw [if_neg e] at hv'
        obtain ⟨c', k1, k2⟩ := hF.2 t v (by show (if kp t = true then lookA sl t else lookA tm t) = _; rw [if_pos hk]; exact hv')
        exact ⟨c', k1, k2.mono he (by simp)⟩
    · rw [if_neg hk] at hv'; cases hv'

/-- An empty list in a part of a variable becomes a vector. -/
theorem ARun.ghostVK {E : Env} {ro : Option Nat} {todo : List Item} {fr : Fr} {σ : List AObj} {Q : Option Code → Fr → List AObj → Prop} (r k sz : Nat) {sz0 : Nat} {cs : List AV} (hg : hget σ r = some (.cells cs)) (hk : cs[k]? = some (.list .full sz0 []))
    (h : ARun E ro todo fr (hset σ r (.cells (cs.set k (.vec σ.length 0))) ++ [.vec sz []]) Q) : ARun E ro todo fr σ Q := by
  refine h.mind fun K w tmps hR hF => ?_
  obtain ⟨cc, T, h1, h2, h3, h4⟩ := hR.obj r _ hg
  have hr := hget_lt hg
  obtain ⟨hkl, hke⟩ := List.getElem?_eq_some_iff.1 hk
  have hkl' : k < cc.toList.length := by rw [← h2.1]; exact hkl
  have hv0 := h2.2 k hkl hkl'
  rw [hke] at hv0
  generalize hc0 : cc.toList[k] = c0 at hv0
  cases hv0 with
  | list _ _ _ a cap f hl' ht ha hs h1' hh =>
    have hcap : cap = 0 := ht
    subst hcap
    let K' : Kr := { K with tl := fun q => if q = σ.length then fun m => if m = 0 then some (a, 0) else none else K.tl q }
    have he : Ext σ.length K K' := ⟨fun _ _ => rfl, fun r hr m x hx => by
      show (if r = σ.length then _ else K.tl r) m = some x
      rw [if_neg (by omega)]; exact hx, fun _ _ _ h => h⟩
    have htl : K'.tl σ.length = fun m => if m = 0 then some (a, 0) else none := by
      show (if σ.length = σ.length then _ else _) = _
      rw [if_pos rfl]
    obtain ⟨r1, r2⟩ := hR.ghostAt (σ' := σ ++ [.vec sz []]) σ.length (.vec sz []) K' he (by simp) (by simp) (fun q o' hq hg => by
      rw [List.getElem?_append] at hg
      split at hg
      · exact hg
      · cases hk : q - σ.length with
        | zero => omega
        | succ j => rw [hk] at hg; simp at hg) (fun q hq => by show (if q = σ.length then _ else K.tl q) = _; rw [if_neg hq]) rfl (fun b hb => by
      obtain ⟨a', cap', g1, g2, _⟩ := hb
      rw [htl] at g1; simp at g1; omega) ⟨a, 0, by rw [htl]; rfl, Nat.le_refl _, fun k hk => by rw [htl]; simp at hk ⊢; omega, fun i hi => by simp at hi, fun h => by omega⟩
    have hg' : hget (σ ++ [.vec sz []]) r = some (.cells cs) := by rw [hget_app hr]; exact hg
    have h2' : VRs K' (σ ++ [AObj.vec sz []]).length (cs.set k (.vec σ.length 0)) cc.toList := by
      refine ⟨by rw [List.length_set]; exact h2.1, fun i h5 h6 => ?_⟩
      by_cases e : k = i
      · subst e
        rw [List.getElem_set_self]
        have : cc.toList[k] = .slice a 0 0 := hc0
        rw [this]
        exact .vec σ.length 0 a 0 (by simp) (Nat.le_refl _) (by rw [htl]; rfl) (.inl rfl)
      · rw [List.getElem_set_ne e]
        exact (h2.2 i (by rw [List.length_set] at h5; exact h5) h6).mono he (by simp)
    obtain ⟨s1, s2⟩ := r1.turn (o' := .cells (cs.set k (.vec σ.length 0))) hg' (K'.φ r) rfl K' (.refl _ _) (fun _ _ => rfl) (fun _ _ => rfl) rfl (fun _ _ _ => rfl) (fun p v hv => r1.stab _ _ _ hv) (fun b hb => hb) ⟨cc, T, h1, h2', h3, h4⟩ rfl rfl rfl
    have eset : (σ ++ [AObj.vec sz []]).set r (.cells (cs.set k (.vec σ.length 0))) = hset σ r (.cells (cs.set k (.vec σ.length 0))) ++ [.vec sz []] := by
      unfold hset; rw [List.set_append_left _ _ hr]
    rw [eset] at s1 s2
    refine ⟨K', s1, ?_, r2.trans s2⟩
    have : (hset σ r (.cells (cs.set k (.vec σ.length 0))) ++ [AObj.vec sz []]).length = σ.length + 1 := by simp [length_hset]
    rw [this]
    exact hF.mono he (by omega)
end Go.Mu
set_option linter.unusedSimpArgs false
set_option linter.unusedVariables false
namespace Go.Proofs
open Go Go.Mu

def vTy (t : Nat) : Bool := t == 22 || t == 23 || t == 28
def Try.tyV (t : Nat) : TI := if vTy t = true then (Try.ty t).v else Try.ty t
theorem Try.tyV_kd (t : Nat) : (Try.tyV t).kd = (Try.ty t).kd := by unfold Try.tyV; split <;> rfl
theorem Try.tyV_sz (t : Nat) : (Try.tyV t).sz = (Try.ty t).sz := by unfold Try.tyV; split <;> rfl
theorem Try.tyV_bytes (t : Nat) : (Try.tyV t).bytes = (Try.ty t).bytes := by unfold Try.tyV; split <;> rfl
theorem Try.tyV_zero (t : Nat) : (Try.tyV t).zero = (Try.ty t).zero := by unfold Try.tyV; split <;> rfl
theorem Try.tyV_eqn (t : Nat) : (Try.tyV t).eqn = (Try.ty t).eqn := by unfold Try.tyV; split <;> rfl
theorem Try.tysOKV : TysOK Try.prog Try.tyV := fun t h => by
  rw [Try.tyV_kd] at h
  have h2 := Try.tysOK t h
  exact ⟨by rw [Try.tyV_sz, Try.tyV_bytes, Try.tyV_zero]; exact h2.info, by rw [Try.tyV_kd]; exact h2.kd⟩
theorem Try.tyV2 : Try.tyV 2 = { sz := 1, bytes := 8, kd := .int .i64, zero := .int .i64 0, eqn := false } := rfl
theorem Try.tyV3 : Try.tyV 3 = { sz := 1, bytes := 8, kd := .int .i64, zero := .int .i64 0, eqn := false } := rfl
theorem Try.tyV4 : Try.tyV 4 = { sz := 1, bytes := 1, kd := .bool, zero := .bool false, eqn := false } := rfl
theorem Try.tyV5 : Try.tyV 5 = { sz := 1, bytes := 1, kd := .int .u8, zero := .int .u8 0, eqn := false } := rfl
theorem Try.tyV6 : Try.tyV 6 = { sz := 1, bytes := 1, kd := .int .u8, zero := .int .u8 0, eqn := false } := rfl
theorem Try.tyV8 : Try.tyV 8 = { sz := 4, bytes := 24, kd := .strct [(0, 2), (1, 3), (2, 4), (3, 6)], zero := .agg [.int .i64 0, .int .i64 0, .bool false, .int .u8 0], eqn := false } := rfl
theorem Try.tyV9 : Try.tyV 9 = { sz := 1, bytes := 16, kd := .str, zero := .str ByteArray.empty, eqn := false } := rfl
theorem Try.tyV10 : Try.tyV 10 = { sz := 1, bytes := 16, kd := .str, zero := .str ByteArray.empty, eqn := false } := rfl
theorem Try.tyV11 : Try.tyV 11 = { sz := 1, bytes := 16, kd := .str, zero := .str ByteArray.empty, eqn := false } := rfl
theorem Try.tyV12 : Try.tyV 12 = { sz := 1, bytes := 8, kd := .int .u64, zero := .int .u64 0, eqn := false } := rfl
theorem Try.tyV14 : Try.tyV 14 = { sz := 2, bytes := 24, kd := .strct [(0, 9), (1, 12)], zero := .agg [.str ByteArray.empty, .int .u64 0], eqn := false } := rfl
theorem Try.tyV15 : Try.tyV 15 = { sz := 1, bytes := 8, kd := .ptr 190, zero := .nilptr, eqn := false } := rfl
theorem Try.tyV16 : Try.tyV 16 = { sz := 1, bytes := 8, kd := .ptr 193, zero := .nilptr, eqn := false } := rfl
theorem Try.tyV17 : Try.tyV 17 = { sz := 1, bytes := 8, kd := .ptr 202, zero := .nilptr, eqn := false } := rfl
theorem Try.tyV19 : Try.tyV 19 = { sz := 1, bytes := 8, kd := .strct [(0, 17)], zero := .agg [.nilptr], eqn := false } := rfl
theorem Try.tyV20 : Try.tyV 20 = { sz := 1, bytes := 16, kd := .iface, zero := .niliface, eqn := false } := rfl
theorem Try.tyV22 : Try.tyV 22 = { sz := 1, bytes := 24, kd := .slice 27, zero := .list .full 0 [], eqn := false, vc := true } := rfl
theorem Try.tyV23 : Try.tyV 23 = { sz := 1, bytes := 24, kd := .slice 50, zero := .list .full 0 [], eqn := false, vc := true } := rfl
theorem Try.tyV25 : Try.tyV 25 = { sz := 3, bytes := 56, kd := .strct [(0, 3), (1, 22), (2, 23)], zero := .agg [.int .i64 0, .list .full 0 [], .list .full 0 []], eqn := false } := rfl
theorem Try.tyV27 : Try.tyV 27 = { sz := 2, bytes := 16, kd := .strct [(0, 3), (1, 3)], zero := .agg [.int .i64 0, .int .i64 0], eqn := true } := rfl
theorem Try.tyV28 : Try.tyV 28 = { sz := 1, bytes := 24, kd := .slice 3, zero := .list .full 0 [], eqn := false, vc := true } := rfl
theorem Try.tyV31 : Try.tyV 31 = { sz := 1, bytes := 8, kd := .ptr 95, zero := .nilptr, eqn := false } := rfl
theorem Try.tyV35 : Try.tyV 35 = { sz := 1, bytes := 24, kd := .slice 25, zero := .list .full 0 [], eqn := false } := rfl
theorem Try.tyV39 : Try.tyV 39 = { sz := 1, bytes := 24, kd := .slice 28, zero := .list .full 0 [], eqn := false } := rfl
theorem Try.tyV42 : Try.tyV 42 = { sz := 1, bytes := 8, kd := .int .i64, zero := .int .i64 0, eqn := false } := rfl
theorem Try.tyV50 : Try.tyV 50 = { sz := 6, bytes := 48, kd := .strct [(0, 3), (1, 3), (2, 3), (3, 3), (4, 27)], zero := .agg [.int .i64 0, .int .i64 0, .int .i64 0, .int .i64 0, .int .i64 0, .int .i64 0], eqn := true } := rfl
theorem Try.tyV54 : Try.tyV 54 = { sz := 1, bytes := 8, kd := .func, zero := .nilfn, eqn := false } := rfl
theorem Try.tyV58 : Try.tyV 58 = { sz := 1, bytes := 24, kd := .slice 39, zero := .list .full 0 [], eqn := false } := rfl
theorem Try.tyV66 : Try.tyV 66 = { sz := 1, bytes := 8, kd := .ptr 50, zero := .nilptr, eqn := false } := rfl
theorem Try.tyV93 : Try.tyV 93 = { sz := 1, bytes := 8, kd := .int .u64, zero := .int .u64 0, eqn := false } := rfl
theorem Try.tyV95 : Try.tyV 95 = { sz := 1, bytes := 8, kd := .strct [(0, 93)], zero := .agg [.int .u64 0], eqn := false } := rfl
theorem Try.tyV96 : Try.tyV 96 = { sz := 1, bytes := 8, kd := .int .u64, zero := .int .u64 0, eqn := false } := rfl
theorem Try.tyV100 : Try.tyV 100 = { sz := 1, bytes := 24, kd := .slice 110, zero := .list .full 0 [], eqn := false } := rfl
theorem Try.tyV104 : Try.tyV 104 = { sz := 1, bytes := 16, kd := .iface, zero := .niliface, eqn := false } := rfl
theorem Try.tyV106 : Try.tyV 106 = { sz := 1, bytes := 8, kd := .map 3 100, zero := .nilmap, eqn := false } := rfl
theorem Try.tyV110 : Try.tyV 110 = { sz := 3, bytes := 24, kd := .arr 3 3, zero := .agg [.int .i64 0, .int .i64 0, .int .i64 0], eqn := false } := rfl
theorem Try.tyV111 : Try.tyV 111 = { sz := 1, bytes := 8, kd := .func, zero := .nilfn, eqn := false } := rfl
theorem Try.tyV116 : Try.tyV 116 = { sz := 1, bytes := 24, kd := .slice 104, zero := .list .full 0 [], eqn := false } := rfl
theorem Try.tyV118 : Try.tyV 118 = { sz := 4, bytes := 48, kd := .strct [(0, 3), (1, 27), (3, 116)], zero := .agg [.int .i64 0, .int .i64 0, .int .i64 0, .list .full 0 []], eqn := false } := rfl
theorem Try.tyV124 : Try.tyV 124 = { sz := 1, bytes := 8, kd := .func, zero := .nilfn, eqn := false } := rfl
theorem Try.tyV131 : Try.tyV 131 = { sz := 1, bytes := 8, kd := .func, zero := .nilfn, eqn := false } := rfl
theorem Try.tyV133 : Try.tyV 133 = { sz := 1, bytes := 8, kd := .func, zero := .nilfn, eqn := false } := rfl
theorem Try.tyV134 : Try.tyV 134 = { sz := 1, bytes := 8, kd := .func, zero := .nilfn, eqn := false } := rfl
theorem Try.tyV140 : Try.tyV 140 = { sz := 1, bytes := 8, kd := .func, zero := .nilfn, eqn := false } := rfl
theorem Try.tyV141 : Try.tyV 141 = { sz := 1, bytes := 8, kd := .map 3 4, zero := .nilmap, eqn := false } := rfl
theorem Try.tyV146 : Try.tyV 146 = { sz := 7, bytes := 56, kd := .strct [(0, 50), (6, 3)], zero := .agg [.int .i64 0, .int .i64 0, .int .i64 0, .int .i64 0, .int .i64 0, .int .i64 0, .int .i64 0], eqn := false } := rfl
theorem Try.tyV148 : Try.tyV 148 = { sz := 6, bytes := 48, kd := .strct [(0, 50)], zero := .agg [.int .i64 0, .int .i64 0, .int .i64 0, .int .i64 0, .int .i64 0, .int .i64 0], eqn := false } := rfl
theorem Try.tyV149 : Try.tyV 149 = { sz := 6, bytes := 48, kd := .strct [(0, 50)], zero := .agg [.int .i64 0, .int .i64 0, .int .i64 0, .int .i64 0, .int .i64 0, .int .i64 0], eqn := false } := rfl
theorem Try.tyV154 : Try.tyV 154 = { sz := 1, bytes := 8, kd := .func, zero := .nilfn, eqn := false } := rfl
theorem Try.tyV156 : Try.tyV 156 = { sz := 1, bytes := 8, kd := .map 3 3, zero := .nilmap, eqn := false } := rfl
theorem Try.tyV157 : Try.tyV 157 = { sz := 1, bytes := 8, kd := .func, zero := .nilfn, eqn := false } := rfl
theorem Try.tyV158 : Try.tyV 158 = { sz := 1, bytes := 8, kd := .func, zero := .nilfn, eqn := false } := rfl
theorem Try.tyV159 : Try.tyV 159 = { sz := 1, bytes := 8, kd := .func, zero := .nilfn, eqn := false } := rfl
theorem Try.tyV164 : Try.tyV 164 = { sz := 1, bytes := 24, kd := .slice 23, zero := .list .full 0 [], eqn := false } := rfl
theorem Try.tyV170 : Try.tyV 170 = { sz := 1, bytes := 8, kd := .int .i64, zero := .int .i64 0, eqn := false } := rfl
theorem Try.tyV178 : Try.tyV 178 = { sz := 1, bytes := 4, kd := .int .u32, zero := .int .u32 0, eqn := false } := rfl
theorem Try.tyV180 : Try.tyV 180 = { sz := 1, bytes := 8, kd := .int .u64, zero := .int .u64 0, eqn := false } := rfl
theorem Try.tyV183 : Try.tyV 183 = { sz := 1, bytes := 8, kd := .ptr 3, zero := .nilptr, eqn := false } := rfl
theorem Try.tyV186 : Try.tyV 186 = { sz := 1, bytes := 8, kd := .ptr 180, zero := .nilptr, eqn := false } := rfl
theorem Try.tyV190 : Try.tyV 190 = { sz := 4, bytes := 40, kd := .strct [(0, 17), (1, 17), (2, 17), (3, 9)], zero := .agg [.nilptr, .nilptr, .nilptr, .str ByteArray.empty], eqn := false } := rfl
theorem Try.tyV191 : Try.tyV 191 = { sz := 0, bytes := 0, kd := .arr 0 16, zero := .agg [], eqn := false } := rfl
theorem Try.tyV193 : Try.tyV 193 = { sz := 0, bytes := 0, kd := .strct [(0, 191)], zero := .agg [], eqn := false } := rfl
theorem Try.tyV195 : Try.tyV 195 = { sz := 1, bytes := 1, kd := .int .u8, zero := .int .u8 0, eqn := false } := rfl
theorem Try.tyV196 : Try.tyV 196 = { sz := 1, bytes := 1, kd := .int .u8, zero := .int .u8 0, eqn := false } := rfl
theorem Try.tyV197 : Try.tyV 197 = { sz := 1, bytes := 8, kd := .func, zero := .nilfn, eqn := false } := rfl
theorem Try.tyV198 : Try.tyV 198 = { sz := 1, bytes := 8, kd := .ptr 5, zero := .nilptr, eqn := false } := rfl
theorem Try.tyV199 : Try.tyV 199 = { sz := 1, bytes := 4, kd := .int .i32, zero := .int .i32 0, eqn := false } := rfl
theorem Try.tyV200 : Try.tyV 200 = { sz := 1, bytes := 4, kd := .int .i32, zero := .int .i32 0, eqn := false } := rfl
theorem Try.tyV202 : Try.tyV 202 = { sz := 11, bytes := 48, kd := .strct [(0, 12), (1, 12), (2, 178), (3, 195), (4, 5), (5, 5), (6, 196), (7, 197), (8, 198), (9, 199), (10, 200)], zero := .agg [.int .u64 0, .int .u64 0, .int .u32 0, .int .u8 0, .int .u8 0, .int .u8 0, .int .u8 0, .nilfn, .nilptr, .int .i32 0, .int .i32 0], eqn := false } := rfl
theorem Try.eqsOKV : EqsOK Try.prog Try.tyV := ⟨fun t h => Try.eqsOK.guard t (by rw [Try.tyV_eqn] at h; exact h), fun t h xs ys w h1 h2 => by
  rw [Try.tyV_eqn] at h; rw [Try.tyV_sz] at h1 h2; exact Try.eqsOK.eq t h xs ys w h1 h2⟩
noncomputable def Try.Ev (N : Nat) (ord : Nat → List Nat × List (Nat × List Nat)) (fs : FuncId → List AV → Option AV) : Env := { P := Try.prog, ty := Try.tyV, N := N, mt := Try.mt, ord := ord, fs := fs }
theorem Try.EvN {N : Nat} {ord : Nat → List Nat × List (Nat × List Nat)} {fs : FuncId → List AV → Option AV} : (Try.Ev N ord fs).N = N := rfl
theorem Try.Evmt {N : Nat} {ord : Nat → List Nat × List (Nat × List Nat)} {fs : FuncId → List AV → Option AV} : (Try.Ev N ord fs).mt = Try.mt := rfl
theorem Try.EvP {N : Nat} {ord : Nat → List Nat × List (Nat × List Nat)} {fs : FuncId → List AV → Option AV} : (Try.Ev N ord fs).P = Try.prog := rfl
theorem Try.Evty {N : Nat} {ord : Nat → List Nat × List (Nat × List Nat)} {fs : FuncId → List AV → Option AV} : (Try.Ev N ord fs).ty = Try.tyV := rfl
theorem Try.Evord {N : Nat} {ord : Nat → List Nat × List (Nat × List Nat)} {fs : FuncId → List AV → Option AV} : (Try.Ev N ord fs).ord = ord := rfl
theorem Try.Evfs {N : Nat} {ord : Nat → List Nat × List (Nat × List Nat)} {fs : FuncId → List AV → Option AV} : (Try.Ev N ord fs).fs = fs := rfl
theorem Try.envOKV (N : Nat) (ord : Nat → List Nat × List (Nat × List Nat)) (fs : FuncId → List AV → Option AV) (h : ∀ f xs v, fs f xs = some v → PureV Try.prog f xs v) : EnvOK (Try.Ev N ord fs) := ⟨Try.tysOKV, Try.eqsOKV, Try.mtOK, by kernel_rfl, h⟩
attribute [go_sem] Try.tyV2 Try.tyV3 Try.tyV4 Try.tyV5 Try.tyV6 Try.tyV8 Try.tyV9 Try.tyV10 Try.tyV11 Try.tyV12 Try.tyV14 Try.tyV15
attribute [go_sem] Try.tyV16 Try.tyV17 Try.tyV19 Try.tyV20 Try.tyV22 Try.tyV23 Try.tyV25 Try.tyV27 Try.tyV28 Try.tyV31 Try.tyV35 Try.tyV39
attribute [go_sem] Try.tyV42 Try.tyV50 Try.tyV54 Try.tyV58 Try.tyV66 Try.tyV93 Try.tyV95 Try.tyV96 Try.tyV100 Try.tyV104 Try.tyV106 Try.tyV110
attribute [go_sem] Try.tyV111 Try.tyV116 Try.tyV118 Try.tyV124 Try.tyV131 Try.tyV133 Try.tyV134 Try.tyV140 Try.tyV141 Try.tyV146 Try.tyV148 Try.tyV149
attribute [go_sem] Try.tyV154 Try.tyV156 Try.tyV157 Try.tyV158 Try.tyV159 Try.tyV164 Try.tyV170 Try.tyV178 Try.tyV180 Try.tyV183 Try.tyV186 Try.tyV190
attribute [go_sem] Try.tyV191 Try.tyV193 Try.tyV195 Try.tyV196 Try.tyV197 Try.tyV198 Try.tyV199 Try.tyV200 Try.tyV202 Try.EvN Try.Evmt Try.EvP
attribute [go_sem] Try.Evty Try.Evord Try.Evfs
end Go.Proofs
set_option linter.unusedSimpArgs false
set_option linter.unusedVariables false
namespace Go.Mu
open Go

theorem todoOK_two {E : Env} {c : Code} {K : List Item} (h : todoOK E [.code c, .inLoop c] = true) (hK : todoOK E K = true) : todoOK E (.code c :: .inLoop c :: K) = true := by
  simp only [todoOK_cons, Bool.and_eq_true] at h ⊢
  exact ⟨h.1, h.2.1, hK⟩
theorem ARun.forG {E : Env} (hE : EnvOK E) {ro : Option Nat} {c : Code} {k : List Item} {kp : Nat → Bool} {tm sl : List (Nat × AV)} {σ : List AObj} {Q : Post} (n : Nat) (P : Nat → Prop) (lv : Nat → List (Nat × AV)) (S : Nat → List AObj → List AObj) (j0 : List AObj)
    (hO : todoOK E [.code c, .inLoop c] = true) (hk : todoOK E k = true) (hσ : S 0 j0 = σ) (h0 : subF (upd sl (lv 0)) sl) (hP : P 0)
    (hs : ∀ (K : List Item) (Q : Post), todoOK E K = true → ∀ i j, i < n → P i → (P (i + 1) → ∀ j', ARun E ro (.inLoop c :: K) ⟨kp, [], upd sl (lv (i + 1))⟩ (S (i + 1) j') Q) → ev E ro 100000 (.code c :: .inLoop c :: K) ⟨kp, [], upd sl (lv i)⟩ (S i j) Q)
    (he : ∀ j, P n → ev E ro 100000 (.code c :: .inLoop c :: k) ⟨kp, [], upd sl (lv n)⟩ (S n j) Q) : ARun E ro (.code (.loop c) :: k) ⟨kp, tm, sl⟩ σ Q :=
  ARun.forS hE n P lv S j0 (todoOK_two hO hk) hσ h0 hP (hs k Q hk) he
/-- The rest of a code is walked for any end. -/
theorem todoOK_nil' {E : Env} : todoOK E [] = true := rfl
end Go.Mu
set_option linter.unusedSimpArgs false
set_option linter.unusedVariables false
namespace Go.Mu
open Go

/-- A variable's vector is written into no more: objects alone. -/
theorem R.freezeK {K : Kr} {σ : List AObj} {w : World} (hR : R K σ w) (q k : Nat) {r n sz : Nat} {xs cs : List AV} (hq : hget σ q = some (.cells cs)) (hk : cs[k]? = some (.vec r n)) (hg : hget σ r = some (.vec sz xs)) (hn : xs.length = n) :
    ∃ K', R K' (hset (hset σ r .dead) q (.cells (cs.set k (.list .no sz xs)))) w ∧ Step K σ w K' (hset (hset σ r .dead) q (.cells (cs.set k (.list .no sz xs)))) w ∧ ∀ c, VR K σ.length (.vec r n) c → VR K' σ.length (.list .no sz xs) c := by
  subst hn
  obtain ⟨K', r1, r2, hv⟩ := hR.freeze hg
  have hne : r ≠ q := fun e => by subst e; rw [hg] at hq; cases hq
  have hq' : hget (hset σ r .dead) q = some (.cells cs) := by rw [hget_ne hne]; exact hq
  obtain ⟨cc, T, h1, h2, h3, h4⟩ := hR.obj q _ hq
  obtain ⟨cc', T', g1, g2, g3, g4⟩ := r1.obj q _ hq'
  have hφ : K'.φ q = K.φ q := r2.ext.φ q (hget_lt hq)
  rw [hφ, h1] at g1
  simp only [Option.some.injEq, Obj.cells.injEq, and_true] at g1
  obtain ⟨rfl, rfl⟩ := g1
  obtain ⟨hkl, hke⟩ := List.getElem?_eq_some_iff.1 hk
  have h2' : VRs K' (hset σ r .dead).length (cs.set k (.list .no sz xs)) cc.toList := by
    rw [hsl_dead]
    rw [hsl_dead] at g2
    refine ⟨by rw [List.length_set]; exact h2.1, fun i h5 h6 => ?_⟩
    by_cases e : k = i
    · subst e
      rw [List.getElem_set_self]
      have := h2.2 k hkl h6
      rw [hke] at this
      exact hv _ this
    · rw [List.getElem_set_ne e]
      exact g2.2 i (by rw [List.length_set] at h5; exact h5) h6
  obtain ⟨s1, s2⟩ := r1.turn (o' := .cells (cs.set k (.list .no sz xs))) hq' (K'.φ q) rfl K' (.refl _ _) (fun _ _ => rfl) (fun _ _ => rfl) rfl (fun _ _ _ => rfl) (fun p v hv => r1.stab _ _ _ hv) (fun b hb => hb) ⟨cc, T, by rw [hφ]; exact h1, h2', h3, g4⟩ rfl rfl rfl
  exact ⟨K', s1, r2.trans s2, hv⟩
/-- At a call, a part of the argument is written into no more. -/
theorem ACalls.freezeA {P : Program} {f : FuncId} {σ : List AObj} {Q : AV → List AObj → Prop} (q k : Nat) {r n sz : Nat} {xs cs : List AV} (hq : hget σ q = some (.cells cs)) (hk : cs[k]? = some (.vec r n)) (hg : hget σ r = some (.vec sz xs)) (hn : xs.length = n)
    (h : ACalls P f [.agg (cs.set k (.list .no sz xs))] (hset (hset σ r .dead) q (.cells (cs.set k (.list .no sz xs)))) Q) : ACalls P f [.agg cs] σ Q := by
  refine ⟨h.1, fun K w cargs hR hV => ?_⟩
  obtain ⟨K', r1, r2, hv⟩ := hR.freezeK q k hq hk hg hn
  have hlen : (hset (hset σ r AObj.dead) q (AObj.cells (cs.set k (.list .no sz xs)))).length = σ.length := by simp [hset]
  obtain ⟨hkl, hke⟩ := List.getElem?_eq_some_iff.1 hk
  refine (h.2 K' w cargs r1 ?_).mono fun e w' ⟨v, c, σ', K2, h1, h2, h3, h4, h5⟩ => ⟨v, c, σ', K2, h1, h2, h3, h4, r2.trans h5⟩
  rw [hlen]
  refine ⟨hV.1, fun i h1 h2 => ?_⟩
  have h0 : i = 0 := by simpa using h1
  subst h0
  have hv0 := hV.2 0 (by simp) h2
  simp only [List.getElem_cons_zero] at hv0 ⊢
  generalize cargs.toList[0] = c0 at hv0
  cases hv0 with
  | agg _ cs' hl h1' hh =>
    refine .agg _ cs' (by rw [List.length_set]; exact hl) h1' fun i h5 h6 => ?_
    have h7 : i < cs.length := by rw [List.length_set] at h5; exact h5
    by_cases e : k = i
    · subst e
      rw [List.getElem_set_self]
      have := hh k hkl h6
      rw [hke] at this
      exact hv _ this
    · rw [List.getElem_set_ne e]
      exact (hh i h7 h6).mono r2.ext (Nat.le_refl _)
end Go.Mu
