/- Part K of the abstract layer: appends in place; the builtin append. -/
import Derived.Test.YtgbdndlmdklefaaGreatK03
set_option linter.unusedSimpArgs false
set_option linter.unusedVariables false
namespace Go.Mu
open Go

variable {P : Program} {K : Kr} {n N : Nat} {ty : Nat → TI}

theorem hget_lt {σ : List AObj} {r : Nat} {o : AObj} (h : hget σ r = some o) : r < σ.length := (List.getElem?_eq_some_iff.1 h).1
theorem hset_get_same {σ : List AObj} {r : Nat} {o : AObj} (h : r < σ.length) : (hset σ r o)[r]? = some o := by simp [hset, h]
theorem hset_get_other {σ : List AObj} {r q : Nat} {o o' : AObj} (hq : q ≠ r) (h : (hset σ r o)[q]? = some o') : σ[q]? = some o' := by
  simpa [hset, List.getElem?_set, Ne.symm hq] using h

/-- The new version of a list that has room. -/
theorem app_inplace {σ : List AObj} {w : World} (hR : R K σ w) (r : Nat) (sz m cap b o : Nat) (E : TypeId) (xs ys : List AV) (cc cc2 : List Value) (cells : Array Value)
    (hs1 : ∀ i (h : i < xs.length), (xs[i]).cells.length = sz) (hs2 : ∀ i (h : i < ys.length), (ys[i]).cells.length = sz)
    (hv1 : VRs K σ.length (xs.flatMap AV.cells) cc) (hv2 : VRs K σ.length (ys.flatMap AV.cells) cc2) (h1 : ∀ x ∈ cc, x.oneCell' = true) (h2 : ∀ x ∈ cc2, x.oneCell' = true)
    (hS1 : xs ≠ [] → ∀ p (hp : p < cc.length), K.S b (o + p) = some cc[p])
    (hm : m = xs.length + ys.length) (hcap : m ≤ cap) (hy : ys ≠ []) (hg : hget σ r = some (.tail xs.length sz)) (htl : K.tl r xs.length = some (some ⟨b, o, none⟩, cap)) (hnew : ∀ k, xs.length < k → K.tl r k = none)
    (hh : w.heap[b]? = some (.cells cells E (0, 0))) (hroom : o + cap * sz ≤ cells.size) (hfree : ∀ p, o + xs.length * sz ≤ p → K.S b p = none) :
    ∃ K' w', (storeCells ((⟨b, o, none⟩ : Addr).add (xs.length * sz)) cc2).run P w = .ok () w' ∧ VR K' (hset σ r (.tail m sz)).length (.list (.own r) sz (xs ++ ys)) (.slice (some ⟨b, o, none⟩) m cap) ∧
      R K' (hset σ r (.tail m sz)) w' ∧ Step K σ w K' (hset σ r (.tail m sz)) w' := by
  have hl1 : cc.length = xs.length * sz := by rw [← hv1.1, flatMap_len _ xs hs1]
  have hl2 : cc2.length = ys.length * sz := by rw [← hv2.1, flatMap_len _ ys hs2]
  have hmz : m * sz = cc.length + cc2.length := by rw [hm, Nat.add_mul]; omega
  have hle : m * sz ≤ cap * sz := Nat.mul_le_mul_right sz hcap
  have hr := hget_lt hg
  have hyl : 0 < ys.length := List.length_pos_iff.2 hy
  have hst := run_storeCells_at P b (o + xs.length * sz) E cc2 0 cells w hh (by omega) h2
  simp only [Nat.add_zero] at hst
  let K' : Kr := { K with S := fun b' p => if b' = b ∧ o + xs.length * sz ≤ p ∧ p < o + m * sz then cc2[p - (o + xs.length * sz)]? else K.S b' p,
                          tl := fun q k => if q = r ∧ k = m then some (some ⟨b, o, none⟩, cap) else K.tl q k }
  have hext : Ext σ.length K K' := ⟨fun _ _ => rfl, fun q hq k x hx => by
    show (if q = r ∧ k = m then _ else _) = _
    by_cases e : q = r ∧ k = m
    · obtain ⟨e1, e2⟩ := e
      rw [e1, e2, hnew m (by omega)] at hx; cases hx
    · rw [if_neg e]; exact hx, fun b' p v hv => by
    show (if b' = b ∧ o + xs.length * sz ≤ p ∧ p < o + m * sz then _ else _) = _
    rw [if_neg]
    · exact hv
    · rintro ⟨rfl, h3, _⟩
      rw [hfree p h3] at hv; cases hv⟩
  have hblk : ObjBlk K r (.tail xs.length sz) b := ⟨⟨b, o, none⟩, cap, htl, by omega, rfl⟩
  obtain ⟨r1, r2⟩ := hR.turn (w' := w.setRow b (cells.toList.take (o + xs.length * sz) ++ cc2 ++ cells.toList.drop (o + xs.length * sz + cc2.length)).toArray) hg b hblk K' hext
    (o' := .tail m sz)
    (fun q hq => by funext k; show (if q = r ∧ k = m then _ else _) = _; rw [if_neg (fun h => hq h.1)])
    (fun b' hb => setRow_other w _ _ _ hb) (setRow_size _ _ _)
    (fun b' p hb => by show (if b' = b ∧ _ then _ else _) = _; rw [if_neg (fun h => hb h.1)])
    (fun p v hv => by
      rw [cell_setRow_same w b p cells _ E (0, 0) hh]
      have hv' : (if b = b ∧ o + xs.length * sz ≤ p ∧ p < o + m * sz then cc2[p - (o + xs.length * sz)]? else K.S b p) = some v := hv
      simp only [List.getElem?_toArray]
      have hco : o + xs.length * sz ≤ cells.toList.length := by simp; omega
      have hto : (cells.toList.take (o + xs.length * sz)).length = o + xs.length * sz := by simp; omega
      split at hv'
      · rename_i hc
        rw [List.append_assoc, List.getElem?_append_right (by omega), hto, List.getElem?_append_left (by omega)]
        exact hv'
      · have hlt : p < o + xs.length * sz := by
          rcases Nat.lt_or_ge p (o + xs.length * sz) with h | h
          · exact h
          · rw [hfree p h] at hv'; cases hv'
        have := hR.stab b p v hv'
        simp only [World.cell?, hh, Option.isSome_none, Bool.false_eq_true, if_false] at this
        rw [List.append_assoc, List.getElem?_append_left (by omega), List.getElem?_take_of_lt hlt]
        simpa using this)
    (fun b' hb => by
      obtain ⟨a', cap', g1, g2, rfl⟩ := hb
      have g1' : (if r = r ∧ m = m then some (some (⟨b, o, none⟩ : Addr), cap) else K.tl r m) = some (some a', cap') := g1
      rw [if_pos ⟨rfl, rfl⟩] at g1'; simp at g1'
      rw [← g1'.1])
    (by
      refine ⟨some ⟨b, o, none⟩, cap, if_pos ⟨rfl, rfl⟩, hcap, fun k hk => ?_, fun _ => ⟨b, o, _, E, rfl, setRow_heap w b cells _ E (0, 0) hh, ?_, fun p hp => ?_⟩⟩
      · show (if r = r ∧ k = m then _ else _) = _
        rw [if_neg (by omega)]; exact hnew k (by omega)
      · simp only [List.size_toArray, List.length_append, List.length_take, List.length_drop, Array.length_toList]; omega
      · show (if b = b ∧ _ then _ else _) = _
        rw [if_neg (by omega)]
        exact hfree p (by omega))
    rfl rfl rfl (by rw [setRow_heap w b cells _ E (0, 0) hh, hh]; rfl)
  refine ⟨K', _, by rw [addr_add]; exact hst, ?_, r1, r2⟩
  have hlen2 : m = (xs ++ ys).length := by rw [List.length_append]; exact hm
  have hsl : (hset σ r (.tail m sz)).length = σ.length := by simp [hset]
  rw [hsl]
  rw [show (Value.slice (some ⟨b, o, none⟩) m cap) = .slice (some ⟨b, o, none⟩) (xs ++ ys).length cap by rw [← hlen2]]
  refine VR.of_row (by omega) ⟨hr, by rw [← hlen2]; exact if_pos ⟨rfl, rfl⟩⟩ ?_ (cc := cc ++ cc2) ?_ ?_ (fun _ => ⟨b, o, rfl, fun p hp => ?_⟩)
  · intro i hi
    by_cases e : i < xs.length
    · rw [List.getElem_append_left e]; exact hs1 i e
    · rw [List.getElem_append_right (by omega)]; exact hs2 _ _
  · rw [List.flatMap_append]
    exact (hv1.append hv2).mono hext (Nat.le_refl _)
  · intro x hx
    simp only [List.mem_append] at hx
    exact hx.elim (h1 x) (h2 x)
  · show (if b = b ∧ o + xs.length * sz ≤ o + p ∧ o + p < o + m * sz then _ else _) = _
    by_cases e : p < cc.length
    · rw [if_neg (by omega), List.getElem_append_left e]
      exact hS1 (by intro h; rw [h] at hl1; simp only [List.length_nil, Nat.zero_mul] at hl1; omega) p e
    · simp only [List.length_append] at hp
      rw [if_pos ⟨rfl, by omega, by omega⟩, List.getElem_append_right (by omega)]
      rw [List.getElem?_eq_getElem (by omega)]
      congr 2; omega

theorem VRs.two {v1 v2 : AV} {cs : List Value} (h : VRs K n [v1, v2] cs) : ∃ c1 c2, cs = [c1, c2] ∧ VR K n v1 c1 ∧ VR K n v2 c2 := by
  match cs, h with
  | [], h => have := h.1; simp at this
  | [_], h => have := h.1; simp at this
  | [c1, c2], h => exact ⟨c1, c2, rfl, h.head, h.tail.head⟩
  | _ :: _ :: _ :: _, h => have := h.1; simp at this

theorem list_len_pos {xs : List AV} (h : xs.length ≠ 0) : xs ≠ [] := by intro e; subst e; simp at h

set_option maxHeartbeats 1000000 in
theorem app_sound (hT : TysOK P ty) {σ σ' : List AObj} {w : World} (hR : R K σ w) {t0 t1 e e' : Nat} {ats : Array TypeId} (ht0 : ats[0]? = some t0) (ht1 : ats[1]? = some t1) (hk0 : (ty t0).kd = .slice e) (hk1 : (ty t1).kd = .slice e')
    {t t' : Tok} {sz sz' : Nat} {xs ys : List AV} {c1 c2 : Value} {v : AV} (hv1 : VR K σ.length (.list t sz xs) c1) (hv2 : VR K σ.length (.list t' sz' ys) c2) (h : appA (ty e) σ t sz xs sz' ys = some (v, σ')) (type : TypeId) :
    ∃ c K' w', (Builtin.append_ ats type #[c1, c2]).run P w = .ok c w' ∧ VR K' σ'.length v c ∧ R K' σ' w' ∧ Step K σ w K' σ' w' := by
  unfold appA at h
  split at h
  case isFalse => cases h
  rename_i hc
  obtain ⟨hag, hpos, hby, hzl, hsz, hsz', hbound⟩ := hc
  obtain ⟨a, cap, cc, rfl, hcap, htok, hs1, hvr1, h1, ha⟩ := hv1.list_row
  obtain ⟨a2, cap2, cc2, rfl, hcap2, _, hs2, hvr2, h2, ha2⟩ := hv2.list_row
  have hs1' : ∀ i (h : i < xs.length), (xs[i]).cells.length = (ty e).sz := fun i hi => by
    rcases hsz with e | e
    · rw [← e]; exact hs1 i hi
    · subst e; simp at hi
  have hs2' : ∀ i (h : i < ys.length), (ys[i]).cells.length = (ty e).sz := fun i hi => by
    rcases hsz' with e | e
    · rw [← e]; exact hs2 i hi
    · subst e; simp at hi
  have hl1 : cc.length = xs.length * (ty e).sz := by rw [← hvr1.1, flatMap_len _ xs hs1']
  have hl2 : cc2.length = ys.length * (ty e).sz := by rw [← hvr2.1, flatMap_len _ ys hs2']
  have hk0' : (ty t0).kd ≠ .other := by rw [hk0]; simp
  have hk1' : (ty t1).kd ≠ .other := by rw [hk1]; simp
  obtain ⟨d0, hd0, hu0⟩ := run_under hT hk0'
  obtain ⟨d1, hd1, hu1⟩ := run_under hT hk1'
  rw [hk0] at hd0; rw [hk1] at hd1
  simp only [KdOK] at hd0 hd1; subst hd0; subst hd1
  obtain ⟨z, hz, hzr⟩ := run_zero (K := K) (n := σ.length) hT (kd_of_agg hag)
  obtain ⟨ti, hi1, hi2, _, hir⟩ := run_info hT (kd_of_agg hag)
  have hzs : z.cells.size = (ty e).sz := by
    have := (hz.cells (zero_flat hT (kd_of_agg hag))).1.1; simp at this; omega
  have hfc1 := run_firstCells (P := P) (w := w) hR (a := a) (len := xs.length) (cap := cap) hl1 (fun hx => ha (list_len_pos hx))
  have hfc2 := run_firstCells (P := P) (w := w) hR (a := a2) (len := ys.length) (cap := cap2) hl2 (fun hx => ha2 (list_len_pos hx))
  -- the run, where there is room
  have hroom : ∀ w', xs.length + ys.length ≤ cap → (∀ b, a = some b → (storeCells (b.add (xs.length * (ty e).sz)) cc2).run P w = .ok () w') → (a = none → w' = w) →
      (Builtin.append_ ats type #[.slice a xs.length cap, .slice a2 ys.length cap2]).run P w = .ok (.slice a (xs.length + ys.length) cap) w' := by
    intro w' hle hst hno
    cases a with
    | none => simp [Builtin.append_, ht0, ht1, hu0 w, hu1 w, run_size hT (kd_of_agg hag), Builtin.lenOf, hle, hfc2, hno rfl]
    | some b => simp [Builtin.append_, ht0, ht1, hu0 w, hu1 w, run_size hT (kd_of_agg hag), Builtin.lenOf, hle, hfc2, hst b rfl]
  have hgrow : cap < xs.length + ys.length → ∃ nc rest d, w.drawn ≤ d ∧ xs.length + ys.length ≤ nc ∧ rest.length = (nc - (xs.length + ys.length)) * (ty e).sz ∧
      (Builtin.append_ ats type #[.slice a xs.length cap, .slice a2 ys.length cap2]).run P w = .ok (.slice (some ⟨w.heap.size, 0, none⟩) (xs.length + ys.length) nc) (({ w with drawn := d } : World).alloc (.cells (cc ++ cc2 ++ rest).toArray e (0, 0))) := by
    intro hlt
    have hq : Builtin.nextslicecap (xs.length + ys.length) cap * (ty e).bytes ≤ 2 ^ 48 := by
      have h3 := nextcap_le _ _ hlt
      have h4 : Builtin.nextslicecap (xs.length + ys.length) cap ≤ 8589934792 := by omega
      calc _ ≤ 8589934792 * 4096 := Nat.mul_le_mul h4 hby
        _ ≤ 2 ^ 48 := by decide
    have hneed : ¬ ((xs.length : Int) + ys.length > 9223372036854775807) := by omega
    generalize hnc : (xs.length + ys.length) + w.tape w.drawn (.appendCap (xs.length + ys.length) cap e) % (2 ^ 63 - (xs.length + ys.length)) = nc
    have hncl : xs.length + ys.length ≤ nc := by omega
    let wd : World := { w with drawn := w.drawn + 1 }
    have hfd1 := run_firstCells (P := P) (w := wd) (hR.drew _) (a := a) (len := xs.length) (cap := cap) hl1 (fun hx => ha (list_len_pos hx))
    have hfd2 := run_firstCells (P := P) (w := wd) (hR.drew _) (a := a2) (len := ys.length) (cap := cap2) hl2 (fun hx => ha2 (list_len_pos hx))
    have hch : (choose (.appendCap (xs.length + ys.length) cap e)).run P w = .ok nc wd := by
      rw [run_choose]; simp only [Question.forced, Question.cut, Bool.false_eq_true, if_false, hnc]; rfl
    refine ⟨nc, (Builtin.zeroCells z.cells (nc - (xs.length + ys.length))).toList, w.drawn + 1, Nat.le_add_right _ _, hncl, by rw [Array.length_toList, zeroCells_size, hzs], ?_⟩
    have hle : ¬ xs.length + ys.length ≤ cap := by omega
    have hb : ¬ (Builtin.nextslicecap (xs.length + ys.length) cap * ti.bytes > 2 ^ 48) := by rw [hi2]; omega
    have hb' : ¬ (281474976710656 < Builtin.nextslicecap (xs.length + ys.length) cap * ti.bytes) := by simpa using hb
    have hn9 : ¬ (IntKind.i64.max < (xs.length : Int) + ys.length) := by simp [IntKind.max, IntKind.signed, IntKind.bits]; omega
    simp [Builtin.append_, ht0, ht1, hu0 w, hu1 w, run_size hT (kd_of_agg hag), Builtin.lenOf, hle, hir, hb', hn9, hch, hfd1, hfd2, hzr, newRow]
    rw [if_neg (by omega), if_neg (by simp [Question.forced])]
    have hdrew : w.drew = wd := rfl
    rw [hdrew, hfd1, Result.andThen_ok, hfd2, Result.andThen_ok]
    have hcut : (Question.appendCap (xs.length + ys.length) cap e).cut (w.tape w.drawn (Question.appendCap (xs.length + ys.length) cap e)) = nc := hnc
    rw [hcut]
    have harr : cc.toArray ++ (cc2.toArray ++ Builtin.zeroCells z.cells (nc - (xs.length + ys.length))) = (cc ++ cc2 ++ (Builtin.zeroCells z.cells (nc - (xs.length + ys.length))).toList).toArray := by
      apply Array.ext'; simp
    rw [harr, List.append_assoc]
  have hxy : xs.length + ys.length = (xs ++ ys).length := by simp
  cases t with
  | no => simp at h
  | full =>
    simp only [Option.some.injEq, Prod.mk.injEq] at h
    obtain ⟨rfl, rfl⟩ := h
    have hcl : cap = xs.length := htok
    by_cases hle : xs.length + ys.length ≤ cap
    · -- nothing is appended, and there is no room: the list bears a number now
      have hy0 : ys.length = 0 := by omega
      have hyn : ys = [] := List.eq_nil_of_length_eq_zero hy0
      have hc0 : cc2 = [] := List.eq_nil_of_length_eq_zero (by rw [hl2, hy0]; simp)
      have hrun := hroom w hle (fun b _ => by subst hc0; rfl) (fun _ => rfl)
      have hext : Ext σ.length K (K.setT σ.length fun k => if k = xs.length + ys.length then some (a, cap) else none) := ⟨fun _ _ => rfl, fun q hq k x hx => by
        simp only [Kr.setT]; rw [if_neg (by omega)]; exact hx, fun _ _ _ h => h⟩
      obtain ⟨r1, r2⟩ := hR.ghostAt (σ' := σ ++ [.tail (xs.length + ys.length) (ty e).sz]) σ.length (.tail (xs.length + ys.length) (ty e).sz) _ hext (by simp) (by simp)
        (fun q o' hq hg => by
          rw [List.getElem?_append] at hg
          split at hg
          · exact hg
          · cases hk : q - σ.length with
            | zero => omega
            | succ j => rw [hk] at hg; simp at hg)
        (fun q hq => by simp only [Kr.setT]; rw [if_neg hq]) rfl
        (fun b hb => by
          obtain ⟨a', cap', g1, g2, _⟩ := hb
          simp only [Kr.setT, if_true] at g1
          simp at g1
          omega)
        ⟨a, cap, by simp only [Kr.setT, if_true], by omega, fun k hk => by simp only [Kr.setT, if_true]; rw [if_neg (by omega)], fun hc => absurd hc (by omega)⟩
      refine ⟨_, _, _, hrun, ?_, r1, r2⟩
      rw [hxy]
      refine VR.of_row (cc := cc) (by rw [← hxy]; exact hle) ⟨by simp, ?_⟩ ?_ ?_ h1 (fun hne => ?_)
      · simp only [Kr.setT, if_true, ← hxy]
      · subst hyn; simpa using hs1'
      · subst hyn; simp only [List.append_nil]; exact hvr1.mono hext (by simp)
      · subst hyn; simp only [List.append_nil] at hne
        exact ha hne
    · obtain ⟨nc, rest, d, hdd, g1, g2, g3⟩ := hgrow (by omega)
      obtain ⟨K', k1, k2, k3⟩ := app_moved (hR.drew d) (σ' := σ ++ [.tail (xs.length + ys.length) (ty e).sz]) σ.length (ty e).sz (xs.length + ys.length) nc e xs ys cc cc2 rest
        (fun k => if k = xs.length + ys.length then some (some ⟨w.heap.size, 0, none⟩, nc) else none) hs1' hs2' hvr1 hvr2 h1 h2 rfl g1 g2 (by simp) (by simp) (by simp)
        (fun q o' hq hg => by
          rw [List.getElem?_append] at hg
          split at hg
          · exact hg
          · cases hk : q - σ.length with
            | zero => omega
            | succ j => rw [hk] at hg; simp at hg)
        (by simp) (fun k hk => by rw [if_neg (by omega)]) (fun h => absurd h (Nat.lt_irrefl _))
      exact ⟨_, K', _, g3, k1, k2, k3.drew d⟩
  | own id =>
    simp only at h
    split at h
    case h_2 => cases h
    rename_i m s hg
    split at h
    case isFalse => cases h
    rename_i hms
    obtain ⟨rfl, rfl⟩ := hms
    simp only [Option.some.injEq, Prod.mk.injEq] at h
    obtain ⟨rfl, rfl⟩ := h
    obtain ⟨hid, htl⟩ := htok
    obtain ⟨a', cap', q1, q2, q3, q4⟩ := hR.obj id _ hg
    rw [htl] at q1; simp only [Option.some.injEq, Prod.mk.injEq] at q1
    obtain ⟨rfl, rfl⟩ := q1
    have hsl : ∀ o, (hset σ id o).length = σ.length := fun o => by simp [hset]
    by_cases hle : xs.length + ys.length ≤ cap
    · by_cases hyn : ys = []
      · have hy0 : ys.length = 0 := by rw [hyn]; rfl
        have hc0 : cc2 = [] := List.eq_nil_of_length_eq_zero (by rw [hl2, hy0]; simp)
        have hrun := hroom w hle (fun b _ => by subst hc0; rfl) (fun _ => rfl)
        have hσ : hset σ id (.tail (xs.length + ys.length) (ty e).sz) = σ := by
          rw [hy0, Nat.add_zero]
          apply List.ext_getElem?
          intro q
          by_cases e : q = id
          · subst e; rw [hset_get_same hid]; exact hg.symm
          · simp [hset, List.getElem?_set, Ne.symm e]
        rw [hσ]
        refine ⟨_, K, w, hrun, ?_, hR, .refl _ _ _⟩
        rw [hxy]
        refine VR.of_row (cc := cc) (by rw [← hxy]; exact hle) ⟨hid, ?_⟩ ?_ ?_ h1 (fun hne => ?_)
        · subst hyn; simpa using htl
        · subst hyn; simpa using hs1'
        · subst hyn; simp only [List.append_nil]; exact hvr1
        · subst hyn; simp only [List.append_nil] at hne
          exact ha hne
      · have hy1 : 0 < ys.length := List.length_pos_iff.2 hyn
        obtain ⟨b, o, cells, E, rfl, q5, q6, q7⟩ := q4 (by omega)
        obtain ⟨K', w', k1, k2, k3, k4⟩ := app_inplace (P := P) hR id (ty e).sz (xs.length + ys.length) cap b o E xs ys cc cc2 cells hs1' hs2' hvr1 hvr2 h1 h2
          (fun hne => by obtain ⟨b', o', e1, e2⟩ := ha hne; simp at e1; obtain ⟨rfl, rfl⟩ := e1; exact e2) rfl hle hyn hg htl q3 q5 q6 q7
        have hrun := hroom w' hle (fun b' hb => by simp at hb; subst hb; exact k1) (fun h => by cases h)
        exact ⟨_, K', w', hrun, k2, k3, k4⟩
    · obtain ⟨nc, rest, d, hdd, g1, g2, g3⟩ := hgrow (by omega)
      obtain ⟨K', k1, k2, k3⟩ := app_moved (hR.drew d) (σ' := hset σ id (.tail (xs.length + ys.length) (ty e).sz)) id (ty e).sz (xs.length + ys.length) nc e xs ys cc cc2 rest
        (fun k => if k = xs.length + ys.length then some (some ⟨w.heap.size, 0, none⟩, nc) else K.tl id k) hs1' hs2' hvr1 hvr2 h1 h2 rfl g1 g2 (by rw [hsl]; exact Nat.le_refl _) (by rw [hsl]; exact hid) (hset_get_same hid)
        (fun q o' hq hg => hset_get_other hq hg)
        (by simp) (fun k hk => by rw [if_neg (by omega)]; exact q3 k (by omega)) (fun _ k x hx => by
          by_cases e1 : k = xs.length + ys.length
          · rw [e1, q3 _ (by omega)] at hx; cases hx
          · rw [if_neg e1]; exact hx)
      exact ⟨_, K', _, g3, k1, k2, k3.drew d⟩

end Go.Mu
set_option linter.unusedSimpArgs false
set_option linter.unusedVariables false
namespace Go.Mu
open Go

variable {P : Program} {K : Kr} {n N : Nat} {ty : Nat → TI}

theorem hset_same' {σ : List AObj} {r : Nat} {x : AObj} (h : hget σ r = some x) : hset σ r x = σ := by
  unfold hget at h; unfold hset
  obtain ⟨h1, h2⟩ := List.getElem?_eq_some_iff.1 h
  rw [← h2]; exact List.set_getElem_self h1

theorem VR.one {v : AV} {c : Value} (h : VR K n v c) (h1 : c.oneCell' = true) : v.cells = [v] := by
  cases h <;> simp [AV.cells, Value.oneCell'] at h1 ⊢
theorem ofCells_cells {x : AV} {c : Value} {cs : List AV} {cc : List Value} (hx : VR K n x c) (hf : x.flat = true) (hl : cs.length = x.cells.length) (hv : VRs K n cs cc) (h1 : ∀ c ∈ cc, c.oneCell' = true) : (ofCells x cs).cells = cs ∧ (ofCells x cs).flat = true := by
  cases x with
  | agg ds => exact ⟨rfl, rfl⟩
  | tup ds => simp [AV.flat] at hf
  | _ =>
    simp [AV.cells] at hl
    obtain ⟨c', rfl⟩ := List.length_eq_one_iff.1 hl
    obtain ⟨d, rfl⟩ := List.length_eq_one_iff.1 (hv.1.symm.trans hl)
    have hd := h1 d (by simp)
    have := hv.head.one hd
    refine ⟨this, ?_⟩
    have hq := hv.head
    show c'.flat = true
    cases hq <;> simp [AV.flat, Value.oneCell'] at hd ⊢

theorem flatMap_set (sz : Nat) : ∀ (xs : List AV) (i : Nat) (x' : AV) (off : Nat) (new : List AV) (hs : ∀ i (h : i < xs.length), (xs[i]).cells.length = sz) (hi : i < xs.length), x'.cells = putAt off new (xs[i]).cells → off + new.length ≤ sz →
    (xs.set i x').flatMap AV.cells = putAt (i * sz + off) new (xs.flatMap AV.cells)
  | [], i, x', off, new, hs, hi, _, _ => by simp at hi
  | x :: xs, 0, x', off, new, hs, hi, he, hl => by
    have h0 : x.cells.length = sz := hs 0 (by simp)
    simp only [List.getElem_cons_zero] at he
    simp only [List.set_cons_zero, List.flatMap_cons, he, putAt, Nat.zero_mul, Nat.zero_add]
    rw [List.take_append_of_le_length (by omega), List.drop_append_of_le_length (by omega)]
    simp
  | x :: xs, i + 1, x', off, new, hs, hi, he, hl => by
    have h0 : x.cells.length = sz := hs 0 (by simp)
    have hr : ∀ i (h : i < xs.length), (xs[i]).cells.length = sz := fun i hi => by have := hs (i + 1) (by simpa using hi); simpa using this
    simp only [List.set_cons_succ, List.flatMap_cons]
    rw [flatMap_set sz xs i x' off new hr (by simpa using hi) (by simpa using he) hl]
    have e : (i + 1) * sz + off = x.cells.length + (i * sz + off) := by rw [Nat.add_mul, h0]; omega
    rw [e]
    have e3 : ∀ (F : List AV) k, (x.cells ++ F).take (x.cells.length + k) = x.cells ++ F.take k := fun F k => List.take_length_add_append ..
    have e4 : ∀ (F : List AV) k, (x.cells ++ F).drop (x.cells.length + k + new.length) = F.drop (k + new.length) := fun F k => by rw [Nat.add_assoc, List.drop_length_add_append]
    unfold putAt
    rw [e3, e4]
    simp only [List.append_assoc]

/-- The cells of a vector, in a row. -/
theorem vec_row {w : World} {r sz : Nat} {xs : List AV} (h : ObjR K n w r (.vec sz xs)) :
    ∃ a cap cc, K.tl r xs.length = some (a, cap) ∧ xs.length ≤ cap ∧ cc.length = xs.length * sz ∧ VRs K n (xs.flatMap AV.cells) cc ∧ (∀ c ∈ cc, c.oneCell' = true) ∧
      (xs.length ≠ 0 → ∃ b o, a = some ⟨b, o, none⟩ ∧ ∀ p (hp : p < cc.length), w.cell? ⟨b, o + p, none⟩ = some cc[p]) := by
  obtain ⟨a, cap, h1, h2, h3, h4, h5⟩ := h
  by_cases hc : 0 < cap
  · obtain ⟨b, o, cc, E, rfl, g2, g3, g4, g5, g6⟩ := h5 hc
    have hle : xs.length * sz ≤ cap * sz := Nat.mul_le_mul_right sz h2
    have hl : ((cc.toList.drop o).take (xs.length * sz)).length = xs.length * sz := by simp; omega
    refine ⟨_, cap, (cc.toList.drop o).take (xs.length * sz), h1, h2, hl, g4, fun c hc => g5 c (List.mem_of_mem_drop (List.mem_of_mem_take hc)), fun _ => ⟨b, o, rfl, fun p hp => ?_⟩⟩
    have : o + p < cc.size := by omega
    simp [World.cell?, g2, this]
  · have h0 : xs = [] := List.eq_nil_of_length_eq_zero (by omega)
    subst h0
    exact ⟨a, cap, [], h1, h2, by simp, .nil, by simp, fun h => absurd rfl h⟩

theorem run_firstCellsW {w : World} {a : Option Addr} {len cap sz k : Nat} {cc : List Value} (hk : cc.length = k * sz)
    (ha : k ≠ 0 → ∃ b o, a = some ⟨b, o, none⟩ ∧ ∀ p (hp : p < cc.length), w.cell? ⟨b, o + p, none⟩ = some cc[p]) : (Builtin.firstCells sz k (.slice a len cap)).run P w = .ok cc.toArray w := by
  by_cases h0 : k = 0
  · subst h0
    simp at hk; subst hk
    cases a with
    | none => rfl
    | some a => simp [Builtin.firstCells, loadCells, loadCellsFrom]
  · obtain ⟨b, o, rfl, h⟩ := ha h0
    simp only [Builtin.firstCells]
    rw [← hk]
    refine run_loadCells_list w ⟨b, o, none⟩ cc fun j v hv => ?_
    obtain ⟨hj, rfl⟩ := List.getElem?_eq_some_iff.1 hv
    rw [addr_add]
    exact h j hj

/-- An element is loaded. -/
theorem vload_sound (hT : TysOK P ty) {σ : List AObj} {w : World} (hR : R K σ w) {r sz i off t : Nat} {xs : List AV} (hg : hget σ r = some (.vec sz xs)) {c : Value} (hv : VR K σ.length (.vptr r xs.length sz i off) c) (hi : i < xs.length) {v : AV}
    (hs : subAt off (ty t).sz (xs[i]).cells (ty t).kd.agg = some v) : ∃ b o c', c = .pointer (some ⟨b, o, none⟩) ∧ (loadVar t ⟨b, o, none⟩).run P w = .ok c' w ∧ VR K σ.length v c' := by
  have hO := hR.obj r _ hg
  have hsz : ∀ i (h : i < xs.length), (xs[i]).cells.length = sz := by obtain ⟨_, _, _, _, _, h, _⟩ := hO; exact h
  obtain ⟨a, cap, cc, h1, h2, hl, h3, h4, h5⟩ := vec_row hO
  obtain ⟨b, o, rfl, h6⟩ := h5 (by omega)
  cases hv with
  | vptr _ _ _ _ _ b' o' cap' hr ht =>
    rw [h1] at ht
    simp only [Option.some.injEq, Prod.mk.injEq, Addr.mk.injEq] at ht
    obtain ⟨⟨rfl, rfl, _⟩, rfl⟩ := ht
    have hmul : (i + 1) * sz ≤ xs.length * sz := Nat.mul_le_mul_right sz hi
    rw [Nat.add_mul] at hmul
    have key := load_sound (P := P) (K := K) (n := σ.length) (w := w) (b := b) (o := o + i * sz) (f := fun j => cc.getD (i * sz + j) undef) hT (cs := (xs[i]).cells) (fun j hj => ?_) hs
    · obtain ⟨c', k1, k2⟩ := key
      exact ⟨b, o + (i * sz + off), c', rfl, by rw [← Nat.add_assoc]; exact k1, k2⟩
    · have hj' : j < sz := by rw [← hsz i hi]; exact hj
      have hlt : i * sz + j < cc.length := by omega
      have hd : cc.getD (i * sz + j) undef = cc[i * sz + j] := by simp [List.getD, List.getElem?_eq_getElem hlt]
      have hgm := flatMap_get sz xs i j hsz hj'
      have hlt' : i * sz + j < (xs.flatMap AV.cells).length := by rw [h3.1]; exact hlt
      rw [List.getElem?_eq_getElem hlt', List.getElem?_eq_getElem hi] at hgm
      simp only [Option.bind_some, List.getElem?_eq_getElem hj, Option.some.injEq] at hgm
      have hvr := h3.2 _ hlt' hlt
      rw [hgm] at hvr
      refine ⟨?_, ?_, ?_⟩
      · show _ = some (cc.getD (i * sz + j) undef)
        rw [hd, Nat.add_assoc]; exact h6 _ hlt
      · show (cc.getD (i * sz + j) undef).oneCell' = true
        rw [hd]; exact h4 _ (List.getElem_mem hlt)
      · show VR K σ.length _ (cc.getD (i * sz + j) undef)
        rw [hd]; exact hvr

/-- An element is turned. -/
theorem vstore_sound (hT : TysOK P ty) {σ : List AObj} {w : World} (hR : R K σ w) {r sz i off t : Nat} {xs : List AV} (hk : (ty t).kd.agg.isSome = true) (hg : hget σ r = some (.vec sz xs)) {c : Value} (hp : VR K σ.length (.vptr r xs.length sz i off) c) (hi : i < xs.length)
    (hfx : (xs[i]).flat = true) {v : AV} {d : Value} (hv : VR K σ.length v d) (hf : v.flat = true) (hl : v.cells.length = (ty t).sz) (hlen : off + v.cells.length ≤ sz) :
    ∃ w', (Instr.storeAt t c d).run P w = .ok () w' ∧ R K (hset σ r (.vec sz (xs.set i (ofCells (xs[i]) (putAt off v.cells (xs[i]).cells))))) w' ∧ Step K σ w K (hset σ r (.vec sz (xs.set i (ofCells (xs[i]) (putAt off v.cells (xs[i]).cells))))) w' := by
  obtain ⟨a, cap, h1, h2, h3, hsz, h5⟩ := hR.obj r _ hg
  obtain ⟨b, o, cc, E, rfl, g2, g3, g4, g5, g6⟩ := h5 (by omega)
  obtain ⟨q1, q2⟩ := hv.cells hf
  have hdz : d.cells.size = (ty t).sz := by have := q1.1; simp at this; omega
  cases hp with
  | vptr _ _ _ _ _ b' o' cap' hr ht =>
    rw [h1] at ht
    simp only [Option.some.injEq, Prod.mk.injEq, Addr.mk.injEq] at ht
    obtain ⟨⟨rfl, rfl, _⟩, rfl⟩ := ht
    have hmul : (i + 1) * sz ≤ xs.length * sz := Nat.mul_le_mul_right sz hi
    have hmul2 : xs.length * sz ≤ cap * sz := Nat.mul_le_mul_right sz h2
    rw [Nat.add_mul] at hmul
    have hst := run_storeCells_at P b (o + (i * sz + off)) E d.cells.toList 0 cc w g2 (by simp; omega) (fun x hx => q2 x hx)
    simp only [Nat.add_zero] at hst
    have hdl : d.cells.toList.length = v.cells.length := q1.1.symm
    have hrow : VRs K σ.length (xs.flatMap AV.cells) ((cc.toList.drop o).take (xs.length * sz)) := g4
    have hxi : VRs K σ.length (xs[i]).cells (((cc.toList.drop o).take (xs.length * sz)).drop (i * sz) |>.take sz) := by
      have := (hrow.drop (i * sz)).take sz
      have e : ((xs.flatMap AV.cells).drop (i * sz)).take sz = (xs[i]).cells := by
        apply List.ext_getElem?
        intro j
        by_cases hj : j < sz
        · rw [List.getElem?_take_of_lt hj, List.getElem?_drop, flatMap_get sz xs i j hsz hj, List.getElem?_eq_getElem hi]; rfl
        · rw [List.getElem?_take_eq_none (by omega), List.getElem?_eq_none (by rw [hsz i hi]; omega)]
      rwa [e] at this
    have hone : ∀ c ∈ (((cc.toList.drop o).take (xs.length * sz)).drop (i * sz) |>.take sz), c.oneCell' = true := fun c hc => g5 c (List.mem_of_mem_drop (List.mem_of_mem_take (List.mem_of_mem_drop (List.mem_of_mem_take hc))))
    have hput : VRs K σ.length (putAt off v.cells (xs[i]).cells) (let l := (((cc.toList.drop o).take (xs.length * sz)).drop (i * sz) |>.take sz); l.take off ++ d.cells.toList ++ l.drop (off + v.cells.length)) := ((hxi.take off).append q1).append (hxi.drop _)
    have hpl : (putAt off v.cells (xs[i]).cells).length = (xs[i]).cells.length := by
      have := hsz i hi
      simp only [putAt, List.length_append, List.length_take, List.length_drop]; omega
    have hoc : (ofCells (xs[i]) (putAt off v.cells (xs[i]).cells)).cells = putAt off v.cells (xs[i]).cells ∧ (ofCells (xs[i]) (putAt off v.cells (xs[i]).cells)).flat = true := by
      cases hx : xs[i] with
      | agg ds => exact ⟨rfl, rfl⟩
      | tup ds => rw [hx] at hfx; simp [AV.flat] at hfx
      | _ =>
        rw [hx] at hxi hput hpl
        have hx1 := hxi.1
        simp only [AV.cells, List.length_singleton] at hx1 hxi hpl
        obtain ⟨e, he⟩ := List.length_eq_one_iff.1 hx1.symm
        rw [he] at hxi
        refine ofCells_cells (K := K) (n := σ.length) hxi.head (by rw [hx] at hfx; exact hfx) hpl hput fun c hc => ?_
        simp only [List.mem_append] at hc
        rcases hc with (hc | hc) | hc
        · exact hone c (List.mem_of_mem_take hc)
        · exact q2 c hc
        · exact hone c (List.mem_of_mem_drop hc)
    have hfm := flatMap_set sz xs i _ off v.cells hsz hi hoc.1 hlen
    refine ⟨w.setRow b (cc.toList.take (o + (i * sz + off)) ++ d.cells.toList ++ cc.toList.drop (o + (i * sz + off) + d.cells.toList.length)).toArray, ?_, ?_⟩
    · simp only [Instr.storeAt, Instr.sureAddr, storeVar, Sem.run_bind, Sem.run_pure, Result.andThen_ok, run_size hT (kd_of_agg hk), hdz, ne_eq, not_true_eq_false, if_false]
      exact hst
    · refine hR.turn hg b ⟨_, cap, h1, by omega, rfl⟩ K (.refl _ _) (fun _ _ => rfl) (fun b hb => setRow_other w _ _ _ hb) (setRow_size _ _ _) (fun _ _ _ => rfl) (fun p v' hv' => by rw [g6 p] at hv'; cases hv') (fun b' hb => ?_) ?_ rfl rfl rfl (by rw [setRow_heap w _ cc _ E (0, 0) g2, g2]; rfl)
      · obtain ⟨a', cap', k1, k2, rfl⟩ := hb
        simp only [List.length_set] at k1
        rw [h1] at k1; simp at k1; rw [← k1.1]
      · refine ⟨_, cap, by simpa using h1, by simpa using h2, by simpa using h3, fun j hj => ?_, fun hc => ⟨b, o, _, E, rfl, setRow_heap w _ cc _ E (0, 0) g2, ?_, ?_, ?_, g6⟩⟩
        · rw [List.getElem_set]
          split
          · rw [hoc.1, hpl]; exact hsz i hi
          · exact hsz j (by simpa using hj)
        · simp only [List.size_toArray, List.length_append, List.length_take, List.length_drop, Array.length_toList]; omega
        · rw [hfm]
          simp only [List.length_set]
          have hnew : ((cc.toList.take (o + (i * sz + off)) ++ d.cells.toList ++ cc.toList.drop (o + (i * sz + off) + d.cells.toList.length)).drop o).take (xs.length * sz) =
              (let l := (cc.toList.drop o).take (xs.length * sz); l.take (i * sz + off) ++ d.cells.toList ++ l.drop (i * sz + off + v.cells.length)) := by
            have hsz2 : cc.toList.length = cc.size := by simp
            apply List.ext_getElem?
            intro j
            simp only [List.getElem?_take, List.getElem?_drop, List.getElem?_append, List.length_append, List.length_take, List.length_drop, hdl, hsz2]
            grind
          rw [hnew]
          exact ((hrow.take _).append q1).append (hrow.drop _)
        · intro x hx
          simp only [List.mem_append] at hx
          rcases hx with (hx | hx) | hx
          · exact g5 x (List.mem_of_mem_take hx)
          · exact q2 x hx
          · exact g5 x (List.mem_of_mem_drop hx)

theorem append_room (hT : TysOK P ty) {w w' : World} {t0 t1 e e' : Nat} {ats : Array TypeId} (ht0 : ats[0]? = some t0) (ht1 : ats[1]? = some t1) (hk0 : (ty t0).kd = .slice e) (hk1 : (ty t1).kd = .slice e') (hag : (ty e).kd.agg.isSome = true) (type : TypeId)
    {a a2 : Option Addr} {l cap l2 cap2 : Nat} {cc2 : List Value} (hle : l + l2 ≤ cap) (hfc2 : (Builtin.firstCells (ty e).sz l2 (.slice a2 l2 cap2)).run P w = .ok cc2.toArray w)
    (hst : ∀ b, a = some b → (storeCells (b.add (l * (ty e).sz)) cc2).run P w = .ok () w') (hno : a = none → w' = w) :
    (Builtin.append_ ats type #[.slice a l cap, .slice a2 l2 cap2]).run P w = .ok (.slice a (l + l2) cap) w' := by
  have hk0' : (ty t0).kd ≠ .other := by rw [hk0]; simp
  have hk1' : (ty t1).kd ≠ .other := by rw [hk1]; simp
  obtain ⟨d0, hd0, hu0⟩ := run_under hT hk0'
  obtain ⟨d1, hd1, hu1⟩ := run_under hT hk1'
  rw [hk0] at hd0; rw [hk1] at hd1
  simp only [KdOK] at hd0 hd1; subst hd0; subst hd1
  cases a with
  | none => simp [Builtin.append_, ht0, ht1, hu0 w, hu1 w, run_size hT (kd_of_agg hag), Builtin.lenOf, hle, hfc2, hno rfl]
  | some b => simp [Builtin.append_, ht0, ht1, hu0 w, hu1 w, run_size hT (kd_of_agg hag), Builtin.lenOf, hle, hfc2, hst b rfl]

theorem append_grow (hT : TysOK P ty) {w : World} {t0 t1 e e' : Nat} {ats : Array TypeId} (ht0 : ats[0]? = some t0) (ht1 : ats[1]? = some t1) (hk0 : (ty t0).kd = .slice e) (hk1 : (ty t1).kd = .slice e') (hag : (ty e).kd.agg.isSome = true) (hby : (ty e).bytes ≤ 4096)
    (hzl : (ty e).zero.cells.length = (ty e).sz) (type : TypeId)
    {a a2 : Option Addr} {l cap l2 cap2 : Nat} {cc cc2 : List Value} (hlt : cap < l + l2) (hbound : l + l2 ≤ 4294967296) (hfd1 : ∀ d, (Builtin.firstCells (ty e).sz l (.slice a l cap)).run P { w with drawn := d } = .ok cc.toArray { w with drawn := d })
    (hfd2 : ∀ d, (Builtin.firstCells (ty e).sz l2 (.slice a2 l2 cap2)).run P { w with drawn := d } = .ok cc2.toArray { w with drawn := d }) :
    ∃ nc rest d, w.drawn ≤ d ∧ l + l2 ≤ nc ∧ rest.length = (nc - (l + l2)) * (ty e).sz ∧ (∀ x ∈ rest, x.oneCell' = true) ∧
      (Builtin.append_ ats type #[.slice a l cap, .slice a2 l2 cap2]).run P w = .ok (.slice (some ⟨w.heap.size, 0, none⟩) (l + l2) nc) (({ w with drawn := d } : World).alloc (.cells (cc ++ cc2 ++ rest).toArray e (0, 0))) := by
  have hk0' : (ty t0).kd ≠ .other := by rw [hk0]; simp
  have hk1' : (ty t1).kd ≠ .other := by rw [hk1]; simp
  obtain ⟨d0, hd0, hu0⟩ := run_under hT hk0'
  obtain ⟨d1, hd1, hu1⟩ := run_under hT hk1'
  rw [hk0] at hd0; rw [hk1] at hd1
  simp only [KdOK] at hd0 hd1; subst hd0; subst hd1
  obtain ⟨z, hz, hzr⟩ := run_zero (K := ⟨fun _ => 0, fun _ _ => none, fun _ _ => none⟩) (n := 0) hT (kd_of_agg hag)
  obtain ⟨ti, hi1, hi2, _, hir⟩ := run_info hT (kd_of_agg hag)
  have hzc := hz.cells (zero_flat hT (kd_of_agg hag))
  have hzs : z.cells.size = (ty e).sz := by
    have := hzc.1.1; simp at this; omega
  have hq : Builtin.nextslicecap (l + l2) cap * (ty e).bytes ≤ 2 ^ 48 := by
    have h3 := nextcap_le _ _ hlt
    have h4 : Builtin.nextslicecap (l + l2) cap ≤ 8589934792 := by omega
    calc _ ≤ 8589934792 * 4096 := Nat.mul_le_mul h4 hby
      _ ≤ 2 ^ 48 := by decide
  generalize hnc : (l + l2) + w.tape w.drawn (.appendCap (l + l2) cap e) % (2 ^ 63 - (l + l2)) = nc
  have hncl : l + l2 ≤ nc := by omega
  let wd : World := { w with drawn := w.drawn + 1 }
  have hfd1' : (Builtin.firstCells (ty e).sz l (.slice a l cap)).run P wd = .ok cc.toArray wd := hfd1 _
  have hfd2' : (Builtin.firstCells (ty e).sz l2 (.slice a2 l2 cap2)).run P wd = .ok cc2.toArray wd := hfd2 _
  have hch : (choose (.appendCap (l + l2) cap e)).run P w = .ok nc wd := by
    rw [run_choose]; simp only [Question.forced, Question.cut, Bool.false_eq_true, if_false, hnc]; rfl
  refine ⟨nc, (Builtin.zeroCells z.cells (nc - (l + l2))).toList, w.drawn + 1, Nat.le_add_right _ _, hncl, by rw [Array.length_toList, zeroCells_size, hzs], fun x hx => ?_, ?_⟩
  · simp only [Builtin.zeroCells, Array.toList_map, List.mem_map] at hx
    obtain ⟨q, hq, rfl⟩ := hx
    have hq' : q < (nc - (l + l2)) * z.cells.size := by simpa using hq
    have hpos : 0 < z.cells.size := by
      rcases Nat.eq_zero_or_pos z.cells.size with h | h
      · rw [h] at hq'; simp at hq'
      · exact h
    have hm := Nat.mod_lt q hpos
    rw [getElem!_pos z.cells (q % z.cells.size) hm]
    exact hzc.2 _ (by simp)
  have hle : ¬ l + l2 ≤ cap := by omega
  have hb : ¬ (Builtin.nextslicecap (l + l2) cap * ti.bytes > 2 ^ 48) := by rw [hi2]; omega
  have hb' : ¬ (281474976710656 < Builtin.nextslicecap (l + l2) cap * ti.bytes) := by simpa using hb
  have hn9 : ¬ (IntKind.i64.max < (l : Int) + l2) := by simp [IntKind.max, IntKind.signed, IntKind.bits]; omega
  simp [Builtin.append_, ht0, ht1, hu0 w, hu1 w, run_size hT (kd_of_agg hag), Builtin.lenOf, hle, hir, hb', hn9, hch, hfd1', hfd2', hzr, newRow]
  rw [if_neg (by omega), if_neg (by simp [Question.forced])]
  have hdrew : w.drew = wd := rfl
  rw [hdrew, hfd1', Result.andThen_ok, hfd2', Result.andThen_ok]
  have hcut : (Question.appendCap (l + l2) cap e).cut (w.tape w.drawn (Question.appendCap (l + l2) cap e)) = nc := hnc
  rw [hcut]
  have harr : cc.toArray ++ (cc2.toArray ++ Builtin.zeroCells z.cells (nc - (l + l2))) = (cc ++ cc2 ++ (Builtin.zeroCells z.cells (nc - (l + l2))).toList).toArray := by
    apply Array.ext'; simp
  rw [harr, List.append_assoc]

theorem len_app_sz {sz : Nat} {xs ys : List AV} (hs1 : ∀ i (h : i < xs.length), (xs[i]).cells.length = sz) (hs2 : ∀ i (h : i < ys.length), (ys[i]).cells.length = sz) : ∀ i (h : i < (xs ++ ys).length), ((xs ++ ys)[i]).cells.length = sz := fun i hi => by
  by_cases e : i < xs.length
  · rw [List.getElem_append_left e]; exact hs1 i e
  · rw [List.getElem_append_right (by omega)]; exact hs2 _ _

/-- THE FIRST APPEND TO AN EMPTY LIST. -/
theorem fapp_sound (hT : TysOK P ty) {σ σ' : List AObj} {w : World} (hR : R K σ w) {t0 t1 e e' : Nat} {ats : Array TypeId} (ht0 : ats[0]? = some t0) (ht1 : ats[1]? = some t1) (hk0 : (ty t0).kd = .slice e) (hk1 : (ty t1).kd = .slice e')
    {t' : Tok} {sz sz' : Nat} {ys : List AV} {c1 c2 : Value} {v : AV} (hv1 : VR K σ.length (.list .full sz []) c1) (hv2 : VR K σ.length (.list t' sz' ys) c2) (h : appF (ty e) σ sz' ys = some (v, σ')) (type : TypeId) :
    ∃ c K' w', (Builtin.append_ ats type #[c1, c2]).run P w = .ok c w' ∧ VR K' σ'.length v c ∧ R K' σ' w' ∧ Step K σ w K' σ' w' := by
  unfold appF at h
  split at h
  case isFalse => cases h
  rename_i hc
  obtain ⟨hag, hpos, hby, hzl, hsz', hbound⟩ := hc
  simp only [Option.some.injEq, Prod.mk.injEq] at h
  obtain ⟨rfl, rfl⟩ := h
  obtain ⟨a2, cap2, cc2, rfl, hcap2, _, hs2, hvr2, h2, ha2⟩ := hv2.list_row
  obtain ⟨a, cap, cc, rfl, hcap, htok, _⟩ := hv1.list_row
  have hc0 : cap = 0 := htok
  subst hc0
  have hs2' : ∀ i (h : i < ys.length), (ys[i]).cells.length = (ty e).sz := fun i hi => by
    rcases hsz' with e | e
    · rw [← e]; exact hs2 i hi
    · subst e; simp at hi
  have hl2 : cc2.length = ys.length * (ty e).sz := by rw [← hvr2.1, flatMap_len _ ys hs2']
  have hfc2 := run_firstCells (P := P) (w := w) hR (a := a2) (len := ys.length) (cap := cap2) hl2 (fun hx => ha2 (list_len_pos hx))
  have hnewq : ∀ (o : AObj) q o', q ≠ σ.length → (σ ++ [o])[q]? = some o' → σ[q]? = some o' := fun o q o' hq hg => by
    rw [List.getElem?_append] at hg
    split at hg
    · exact hg
    · cases hk : q - σ.length with
      | zero => omega
      | succ j => rw [hk] at hg; simp at hg
  by_cases hyn : ys = []
  · subst hyn
    have hc0 : cc2 = [] := List.eq_nil_of_length_eq_zero (by rw [hl2]; simp)
    let K' : Kr := K.setT σ.length fun k => if k = 0 then some (a, 0) else none
    have hext : Ext σ.length K K' := ⟨fun _ _ => rfl, fun q hq k x hx => by simp only [K', Kr.setT]; rw [if_neg (by omega)]; exact hx, fun _ _ _ h => h⟩
    have hK' : ∀ k, K'.tl σ.length k = if k = 0 then some (a, 0) else none := fun k => by simp only [K', Kr.setT, if_true]
    obtain ⟨r1, r2⟩ := hR.ghostAt (σ' := σ ++ [.vec (ty e).sz []]) σ.length (.vec (ty e).sz []) K' hext (by simp) (by simp) (hnewq _)
      (fun q hq => by simp only [K', Kr.setT]; rw [if_neg hq]) rfl
      (fun b hb => by
        obtain ⟨a', cap', g1, g2, _⟩ := hb
        rw [hK'] at g1; simp at g1; omega)
      ⟨a, 0, by rw [hK']; rfl, Nat.le_refl _, fun k hk => by rw [hK', if_neg (by simp at hk; omega)], fun i hi => by simp at hi, fun h => absurd h (Nat.lt_irrefl _)⟩
    refine ⟨_, K', w, append_room hT ht0 ht1 hk0 hk1 hag type (by simp) hfc2 (fun b _ => by subst hc0; rfl) (fun _ => rfl), ?_, r1, r2⟩
    exact .vec _ _ a 0 (by simp) (by simp) (by rw [hK']; rfl) (.inl rfl)
  have hyl : 0 < ys.length := List.length_pos_iff.2 hyn
  obtain ⟨nc, rest, d, hdd, g1, g2, g2', g3⟩ := append_grow hT ht0 ht1 hk0 hk1 hag hby hzl type (a := a) (a2 := a2) (cap2 := cap2) (cc := []) (cc2 := cc2) (w := w) (l := 0) (l2 := ys.length) (cap := 0) (by omega) (by omega)
    (fun d => run_firstCellsW (by simp) (fun hx => absurd rfl hx))
    (fun d => run_firstCells (hR.drew d) hl2 (fun hx => ha2 (list_len_pos hx)))
  let K' : Kr := K.setT σ.length fun k => if k = ys.length then some (some ⟨w.heap.size, 0, none⟩, nc) else none
  have hext : Ext σ.length K K' := ⟨fun _ _ => rfl, fun q hq k x hx => by simp only [K', Kr.setT]; rw [if_neg (by omega)]; exact hx, fun _ _ _ h => h⟩
  have hK' : ∀ k, K'.tl σ.length k = if k = ys.length then some (some ⟨w.heap.size, 0, none⟩, nc) else none := fun k => by simp only [K', Kr.setT, if_true]
  have htot : (cc2 ++ rest).length = nc * (ty e).sz := by
    simp only [List.length_append, g2]
    have : nc * (ty e).sz = ys.length * (ty e).sz + (nc - (0 + ys.length)) * (ty e).sz := by rw [← Nat.add_mul]; congr 1; omega
    omega
  have hg3 : ([] ++ cc2 ++ rest) = cc2 ++ rest := by simp
  rw [hg3] at g3
  obtain ⟨r1, r2⟩ := (hR.drew d).newAt (σ' := σ ++ [.vec (ty e).sz ys]) σ.length (.vec (ty e).sz ys) (.cells (cc2 ++ rest).toArray e (0, 0)) K' hext (by simp) (by simp) (by simp) (hnewq _)
    (fun q hq => by simp only [K', Kr.setT]; rw [if_neg hq]) (fun b p v hv => .inl hv)
    (fun b hb => by
      obtain ⟨a', cap', k1, k2, rfl⟩ := hb
      rw [hK'] at k1; simp at k1; rw [← k1.1])
    ⟨_, nc, by rw [hK', if_pos rfl], by omega, fun k hk => by rw [hK', if_neg (by omega)], hs2', fun _ => ⟨w.heap.size, 0, _, e, rfl, heap_alloc_new _ _, by
        simp only [Nat.zero_add, List.size_toArray, htot]; exact Nat.le_refl _, by
        simp only [List.drop_zero]
        rw [← hl2, List.take_left']
        · exact hvr2.mono hext (by simp)
        · rfl, by
        intro x hx
        simp only [List.mem_append] at hx
        rcases hx with hx | hx
        · exact h2 x hx
        · exact g2' x hx, fun p => by
        cases hk : K.S w.heap.size p with
        | none => exact hk
        | some v => have := hR.lt hk; omega⟩⟩
  refine ⟨_, K', _, g3, ?_, r1, r2.drew d⟩
  rw [Nat.zero_add]
  exact .vec _ _ _ nc (by simp) (by omega) (by rw [hK', if_pos rfl]) (.inr ⟨_, _, rfl⟩)

/-- A new slice of zeros. -/
theorem makeSlice_sound (hT : TysOK P ty) {σ : List AObj} {w : World} (hR : R K σ w) {t e : Nat} {l : Int} {k k' : IntKind} (hkd : (ty t).kd = .slice e) (h0 : 0 ≤ l) (h1 : l ≤ 1048576) (hag : (ty e).kd.agg.isSome = true) (hby : (ty e).bytes ≤ 4096) (hpos : 0 < (ty e).sz) (hzl : (ty e).zero.cells.length = (ty e).sz) :
    ∃ c K' w', (Instr.makeSlice t (.int k l) (.int k' l)).run P w = .ok c w' ∧ VR K' (σ.length + 1) (.vec σ.length l.toNat) c ∧ R K' (σ ++ [.vec (ty e).sz (List.replicate l.toNat (ty e).zero)]) w' ∧ Step K σ w K' (σ ++ [.vec (ty e).sz (List.replicate l.toNat (ty e).zero)]) w' := by
  have hk0' : (ty t).kd ≠ .other := by rw [hkd]; simp
  obtain ⟨d0, hd0, hu0⟩ := run_under hT hk0'
  rw [hkd] at hd0
  simp only [KdOK] at hd0; subst hd0
  obtain ⟨z, hz, hzr⟩ := run_zero (K := K) (n := σ.length) hT (kd_of_agg hag)
  obtain ⟨ti, hi1, hi2, _, hir⟩ := run_info hT (kd_of_agg hag)
  obtain ⟨q1, q2⟩ := hz.cells (zero_flat hT (kd_of_agg hag))
  have hzs : z.cells.size = (ty e).sz := by have := q1.1; simp at this; omega
  have hw : IntKind.i64.wrap l = l := by rw [IntKind.wrap_i64]; omega
  generalize hn : l.toNat = n
  have hln : l = n := by omega
  let row : Array Value := (Array.range (n * (ty e).sz)).map (z.cells[· % z.cells.size]!)
  have hrow : row.size = n * (ty e).sz := by simp [row]
  have hone : ∀ c ∈ row.toList, c.oneCell' = true := fun c hc => by
    simp only [row, Array.toList_map, List.mem_map] at hc
    obtain ⟨q, hq, rfl⟩ := hc
    have hm := Nat.mod_lt q (show 0 < z.cells.size by omega)
    rw [getElem!_pos z.cells (q % z.cells.size) hm]
    exact q2 _ (by simp)
  have hVR : VRs K σ.length ((List.replicate n (ty e).zero).flatMap AV.cells) row.toList := by
    have hl : ((List.replicate n (ty e).zero).flatMap AV.cells).length = n * (ty e).sz := by rw [flatMap_len (ty e).sz _ (fun i hi => by simp [hzl])]; simp
    refine ⟨by rw [hl]; simp [row], fun i g1 g2 => ?_⟩
    rw [hl] at g1
    have hd : i / (ty e).sz < n := (Nat.div_lt_iff_lt_mul hpos).2 g1
    have hm := Nat.mod_lt i hpos
    have hgm := flatMap_get (ty e).sz (List.replicate n (ty e).zero) (i / (ty e).sz) (i % (ty e).sz) (fun i hi => by simp [hzl]) hm
    have hdm : i / (ty e).sz * (ty e).sz + i % (ty e).sz = i := by rw [Nat.mul_comm]; exact Nat.div_add_mod i _
    rw [hdm, List.getElem?_eq_getElem (by rw [hl]; exact g1), List.getElem?_eq_getElem (by simpa using hd)] at hgm
    simp only [Option.bind_some, List.getElem_replicate] at hgm
    have hlt : i % (ty e).sz < (ty e).zero.cells.length := by omega
    rw [List.getElem?_eq_getElem hlt, Option.some.injEq] at hgm
    rw [hgm]
    have hm' : i % z.cells.size < z.cells.size := by rw [hzs]; exact hm
    have hr : row.toList[i] = z.cells.toList[i % (ty e).sz]'(by simp; omega) := by
      simp only [row, Array.getElem_toList, Array.getElem_map, Array.getElem_range]
      rw [getElem!_pos z.cells (i % z.cells.size) hm']
      simp [hzs]
    rw [hr]
    exact q1.2 _ hlt _
  let K' : Kr := K.setT σ.length fun k => if k = n then some (some ⟨w.heap.size, 0, none⟩, n) else none
  have hext : Ext σ.length K K' := ⟨fun _ _ => rfl, fun q hq k x hx => by simp only [K', Kr.setT]; rw [if_neg (by omega)]; exact hx, fun _ _ _ h => h⟩
  have hK' : ∀ k, K'.tl σ.length k = if k = n then some (some ⟨w.heap.size, 0, none⟩, n) else none := fun k => by simp only [K', Kr.setT, if_true]
  obtain ⟨r1, r2⟩ := hR.new (.vec (ty e).sz (List.replicate n (ty e).zero)) (.cells row e (0, 0)) K' hext
    (fun q hq => by simp only [K', Kr.setT]; rw [if_neg hq]) (fun b p v hv => .inl hv)
    (fun b hb => by
      obtain ⟨a', cap', k1, k2, rfl⟩ := hb
      rw [List.length_replicate, hK', if_pos rfl] at k1; simp at k1; rw [← k1.1])
    ⟨_, n, by rw [List.length_replicate, hK', if_pos rfl], by simp, fun k hk => by rw [List.length_replicate] at hk; rw [hK', if_neg (by omega)], fun i hi => by simp [hzl], fun _ => ⟨w.heap.size, 0, row, e, rfl, heap_alloc_new _ _, by
        rw [hrow, Nat.zero_add]; exact Nat.le_refl _, by
        rw [List.drop_zero, List.length_replicate, List.take_of_length_le (by simp [row])]
        exact hVR.mono hext (by omega), hone, fun p => by
        cases hk : K.S w.heap.size p with
        | none => exact hk
        | some v => have := hR.lt hk; omega⟩⟩
  refine ⟨.slice (some ⟨w.heap.size, 0, none⟩) n n, K', _, ?_, .vec _ _ _ n (by omega) (Nat.le_refl _) (by rw [hK', if_pos rfl]) (.inr ⟨_, _, rfl⟩), r1, r2⟩
  have hby' : (ti.bytes : Int) * l ≤ 4096 * 1048576 := Int.mul_le_mul (by omega) h1 h0 (by decide)
  have hnn : ¬ (281474976710656 < (ti.bytes : Int) * l) := by omega
  have hl0 : ¬ l < 0 := by omega
  by_cases hn0 : n * (ty e).sz = 0
  · have hn1 : n = 0 := by
      rcases Nat.eq_zero_or_pos n with h | h
      · exact h
      · have := Nat.mul_pos h hpos; omega
    have hrow0 : row = #[] := by
      apply Array.eq_empty_of_size_eq_zero
      rw [hrow, hn0]
    rw [hrow0]
    simp [Instr.makeSlice, asInt, asIntOf, hu0 w, hir, hw, hl0, hnn, hn, run_size hT (kd_of_agg hag), newRow, hn1]
    congr 2
    apply Array.eq_empty_of_size_eq_zero
    simp
  · simp [Instr.makeSlice, asInt, asIntOf, hu0 w, hir, hw, hl0, hnn, hn, run_size hT (kd_of_agg hag), newRow, hn0, hzr, row]

/-- AN APPEND TO A VECTOR. -/
theorem vapp_sound (hT : TysOK P ty) {σ σ' : List AObj} {w : World} (hR : R K σ w) {t0 t1 e e' : Nat} {ats : Array TypeId} (ht0 : ats[0]? = some t0) (ht1 : ats[1]? = some t1) (hk0 : (ty t0).kd = .slice e) (hk1 : (ty t1).kd = .slice e')
    {t' : Tok} {r len sz' : Nat} {ys : List AV} {c1 c2 : Value} {v : AV} (hv1 : VR K σ.length (.vec r len) c1) (hv2 : VR K σ.length (.list t' sz' ys) c2) (h : appV (ty e) σ r len sz' ys = some (v, σ')) (type : TypeId) :
    ∃ c K' w', (Builtin.append_ ats type #[c1, c2]).run P w = .ok c w' ∧ VR K' σ'.length v c ∧ R K' σ' w' ∧ Step K σ w K' σ' w' := by
  unfold appV at h
  split at h
  case h_2 => cases h
  rename_i sz xs hg
  split at h
  case isFalse => cases h
  rename_i hc
  obtain ⟨hag, hpos, hby, hzl, rfl, hsz', rfl, hbound⟩ := hc
  simp only [Option.some.injEq, Prod.mk.injEq] at h
  obtain ⟨rfl, rfl⟩ := h
  obtain ⟨a2, cap2, cc2, rfl, hcap2, _, hs2, hvr2, h2, ha2⟩ := hv2.list_row
  have hs2' : ∀ i (h : i < ys.length), (ys[i]).cells.length = (ty e).sz := fun i hi => by
    rcases hsz' with e | e
    · rw [← e]; exact hs2 i hi
    · subst e; simp at hi
  have hl2 : cc2.length = ys.length * (ty e).sz := by rw [← hvr2.1, flatMap_len _ ys hs2']
  have hO := hR.obj r _ hg
  have hr := hget_lt hg
  obtain ⟨a, cap, cc, h1, hcap, hl1, hvr1, hone, hrow⟩ := vec_row hO
  cases hv1 with
  | vec _ _ a' cap' _ hlc ht ha =>
  rw [h1] at ht; simp only [Option.some.injEq, Prod.mk.injEq] at ht
  obtain ⟨rfl, rfl⟩ := ht
  obtain ⟨a'', cap'', k1, _, hnew, hs1, hblk⟩ := hO
  rw [h1] at k1; simp only [Option.some.injEq, Prod.mk.injEq] at k1
  obtain ⟨rfl, rfl⟩ := k1
  have hsl : ∀ o, (hset σ r o).length = σ.length := fun o => by simp [hset]
  have hfc2 := run_firstCells (P := P) (w := w) hR (a := a2) (len := ys.length) (cap := cap2) hl2 (fun hx => ha2 (list_len_pos hx))
  by_cases hyn : ys = []
  · subst hyn
    have hσ : hset σ r (.vec (ty e).sz (xs ++ [])) = σ := by rw [List.append_nil]; exact hset_same' hg
    have hc0 : cc2 = [] := List.eq_nil_of_length_eq_zero (by rw [hl2]; simp)
    rw [hσ]
    refine ⟨_, K, w, append_room hT ht0 ht1 hk0 hk1 hag type (by simpa using hcap) hfc2 (fun b _ => by subst hc0; rfl) (fun _ => rfl), ?_, hR, .refl _ _ _⟩
    exact .vec r _ a cap hr (by simpa using hcap) (by simpa using h1) (by simpa using ha)
  have hyl : 0 < ys.length := List.length_pos_iff.2 hyn
  have hall := len_app_sz hs1 hs2'
  by_cases hle : xs.length + ys.length ≤ cap
  · obtain ⟨b, o, cells, E, rfl, g2, g3, g4, g5, g6⟩ := hblk (by omega)
    have hle2 : (xs.length + ys.length) * (ty e).sz ≤ cap * (ty e).sz := Nat.mul_le_mul_right _ hle
    rw [Nat.add_mul] at hle2
    have hst := run_storeCells_at P b (o + xs.length * (ty e).sz) E cc2 0 cells w g2 (by omega) h2
    simp only [Nat.add_zero] at hst
    let K' : Kr := { K with tl := fun q k => if q = r ∧ k = xs.length + ys.length then some (some ⟨b, o, none⟩, cap) else K.tl q k }
    have hext : Ext σ.length K K' := ⟨fun _ _ => rfl, fun q hq k x hx => by
      show (if q = r ∧ k = xs.length + ys.length then _ else _) = _
      by_cases e : q = r ∧ k = xs.length + ys.length
      · obtain ⟨e1, e2⟩ := e
        rw [e1, e2, hnew _ (by omega)] at hx; cases hx
      · rw [if_neg e]; exact hx, fun _ _ _ h => h⟩
    have hK' : K'.tl r (xs ++ ys).length = some (some ⟨b, o, none⟩, cap) := if_pos ⟨rfl, by simp⟩
    obtain ⟨r1, r2⟩ := hR.turn (w' := w.setRow b (cells.toList.take (o + xs.length * (ty e).sz) ++ cc2 ++ cells.toList.drop (o + xs.length * (ty e).sz + cc2.length)).toArray) hg b ⟨_, cap, h1, by omega, rfl⟩ K' hext
      (o' := .vec (ty e).sz (xs ++ ys))
      (fun q hq => by funext k; show (if q = r ∧ k = _ then _ else _) = _; rw [if_neg (fun h => hq h.1)])
      (fun b' hb => setRow_other w _ _ _ hb) (setRow_size _ _ _) (fun _ _ _ => rfl) (fun p v hv => by rw [show K'.S b p = K.S b p from rfl, g6 p] at hv; cases hv)
      (fun b' hb => by
        obtain ⟨a', cap', k1, k2, rfl⟩ := hb
        rw [hK'] at k1; simp at k1; rw [← k1.1])
      ⟨some ⟨b, o, none⟩, cap, hK', by simpa using hle, fun k hk => by
          simp only [List.length_append] at hk
          show (if r = r ∧ k = _ then _ else _) = _
          rw [if_neg (by omega)]; exact hnew k (by omega), hall, fun _ => ⟨b, o, _, E, rfl, setRow_heap w b cells _ E (0, 0) g2, by
          simp only [List.size_toArray, List.length_append, List.length_take, List.length_drop, Array.length_toList]; omega, by
          have hnew2 : ((cells.toList.take (o + xs.length * (ty e).sz) ++ cc2 ++ cells.toList.drop (o + xs.length * (ty e).sz + cc2.length)).drop o).take ((xs ++ ys).length * (ty e).sz) = (cells.toList.drop o).take (xs.length * (ty e).sz) ++ cc2 := by
            have hsz2 : cells.toList.length = cells.size := by simp
            rw [List.length_append, Nat.add_mul, ← hl2]
            apply List.ext_getElem?
            intro j
            simp only [List.getElem?_take, List.getElem?_drop, List.getElem?_append, List.length_append, List.length_take, List.length_drop, hsz2]
            grind
          simp only []
          rw [hnew2, List.flatMap_append]
          exact (g4.append hvr2).mono hext (Nat.le_refl _), by
          intro x hx
          simp only [List.mem_append] at hx
          rcases hx with (hx | hx) | hx
          · exact g5 x (List.mem_of_mem_take hx)
          · exact h2 x hx
          · exact g5 x (List.mem_of_mem_drop hx), g6⟩⟩
      rfl rfl rfl (by rw [setRow_heap w b cells _ E (0, 0) g2, g2]; rfl)
    refine ⟨_, K', _, append_room hT ht0 ht1 hk0 hk1 hag type hle hfc2 (fun b' hb => by simp only [Option.some.injEq] at hb; subst hb; rw [addr_add]; exact hst) (fun h => by cases h), ?_, r1, r2⟩
    rw [hsl]
    exact .vec r _ _ cap hr hle (by simpa using hK') (.inr ⟨b, o, rfl⟩)
  · obtain ⟨nc, rest, d, hdd, g1, g2, g2', g3⟩ := append_grow hT ht0 ht1 hk0 hk1 hag hby hzl type (a := a) (a2 := a2) (cap2 := cap2) (cc := cc) (cc2 := cc2) (w := w) (l := xs.length) (l2 := ys.length) (cap := cap) (by omega) hbound
      (fun d => run_firstCellsW hl1 (fun hx => by obtain ⟨b, o, q1, q2⟩ := hrow hx; exact ⟨b, o, q1, q2⟩))
      (fun d => run_firstCells (hR.drew d) hl2 (fun hx => ha2 (list_len_pos hx)))
    let K' : Kr := K.setT r fun k => if k = xs.length + ys.length then some (some ⟨w.heap.size, 0, none⟩, nc) else K.tl r k
    have hext : Ext σ.length K K' := ⟨fun _ _ => rfl, fun q hq k x hx => by
      simp only [K', Kr.setT]
      by_cases e : q = r
      · subst e
        rw [if_pos rfl]
        by_cases e2 : k = xs.length + ys.length
        · rw [e2, hnew _ (by omega)] at hx; cases hx
        · rw [if_neg e2]; exact hx
      · rw [if_neg e]; exact hx, fun _ _ _ h => h⟩
    have hK' : K'.tl r (xs ++ ys).length = some (some ⟨w.heap.size, 0, none⟩, nc) := by simp only [K', Kr.setT, if_true]; rw [if_pos (by simp)]
    have htot : (cc ++ cc2 ++ rest).length = nc * (ty e).sz := by
      simp only [List.length_append, g2]
      have : nc * (ty e).sz = xs.length * (ty e).sz + ys.length * (ty e).sz + (nc - (xs.length + ys.length)) * (ty e).sz := by rw [← Nat.add_mul, ← Nat.add_mul]; congr 1; omega
      omega
    obtain ⟨r1, r2⟩ := (hR.drew d).newAt (σ' := hset σ r (.vec (ty e).sz (xs ++ ys))) r (.vec (ty e).sz (xs ++ ys)) (.cells (cc ++ cc2 ++ rest).toArray e (0, 0)) K' hext (by rw [hsl]; exact Nat.le_refl _) (by rw [hsl]; exact hr) (hset_get_same hr) (fun q o' hq hg => hset_get_other hq hg)
      (fun q hq => by simp only [K', Kr.setT]; rw [if_neg hq]) (fun b p v hv => .inl hv)
      (fun b hb => by
        obtain ⟨a', cap', k1, k2, rfl⟩ := hb
        rw [hK'] at k1; simp at k1; rw [← k1.1])
      ⟨_, nc, hK', by simpa using g1, fun k hk => by
          simp only [List.length_append] at hk
          simp only [K', Kr.setT, if_true]; rw [if_neg (by omega)]; exact hnew k (by omega), hall, fun _ => ⟨w.heap.size, 0, _, e, rfl, heap_alloc_new _ _, by
          simp only [Nat.zero_add, List.size_toArray, htot]; exact Nat.le_refl _, by
          simp only [List.drop_zero]
          have hl12 : (xs ++ ys).length * (ty e).sz = (cc ++ cc2).length := by simp only [List.length_append, Nat.add_mul, hl1, hl2]
          rw [hl12, List.take_left', List.flatMap_append]
          · rw [hsl]; exact (hvr1.append hvr2).mono hext (Nat.le_refl _)
          · rfl, by
          intro x hx
          simp only [List.mem_append] at hx
          rcases hx with (hx | hx) | hx
          · exact hone x hx
          · exact h2 x hx
          · exact g2' x hx, fun p => by
          cases hk : K.S w.heap.size p with
          | none => exact hk
          | some v => have := hR.lt hk; omega⟩⟩
    refine ⟨_, K', _, g3, ?_, r1, r2.drew d⟩
    rw [hsl]
    exact .vec r _ _ nc hr g1 (by simpa using hK') (.inr ⟨_, _, rfl⟩)
end Go.Mu
