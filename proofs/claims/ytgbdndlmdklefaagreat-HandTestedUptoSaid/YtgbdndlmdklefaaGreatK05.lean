/- Part KM of the abstract layer: maps. -/
import Derived.Test.YtgbdndlmdklefaaGreatK04
import Derived.Test.YtgbdndlmdklefaaGreatK03
import Derived.Laws.BytesArg
set_option linter.unusedSimpArgs false
set_option linter.unusedVariables false
namespace Go.Mu
open Go

variable {P : Program} {K : Kr} {n : Nat} {ty : Nat → TI}

def EntL (K : Kr) (n : Nat) (es : List (AV × AV)) (es' : List MapEntry) : Prop :=
  es.length = es'.length ∧ ∀ i (h : i < es.length) (h' : i < es'.length), VR K n (es[i]).1 (es'[i]).key ∧ VR K n (es[i]).2 (es'[i]).val

theorem bytes_same (a b : ByteArray) : (a == b) = true ↔ a = b := by
  obtain ⟨x⟩ := a
  obtain ⟨y⟩ := b
  constructor
  · intro h
    have e : x = y := by simpa using (show (x == y) = true from h)
    rw [e]
  · intro h
    cases h
    show (x == x) = true
    simp
theorem keyEq_int {k : IntKind} {x : Int} {k' : AV} {t : Bool} (h : keyEq (.int k x) k' = some t) : ∃ y, k' = .int k y ∧ t = (x == y) := by
  unfold keyEq at h
  split at h
  · rename_i e
    simp only [AV.int.injEq] at e
    obtain ⟨rfl, rfl⟩ := e
    split at h
    · rename_i e2; subst e2; simp at h; exact ⟨_, rfl, h.symm⟩
    · cases h
  all_goals (first | (cases h; done) | (rename_i e; cases e))
theorem keyEq_str {x : ByteArray} {k' : AV} {t : Bool} (h : keyEq (.str x) k' = some t) : ∃ y, k' = .str y ∧ t = (x == y) := by
  unfold keyEq at h
  split at h
  · rename_i e; cases e
  · rename_i e
    simp only [AV.str.injEq] at e
    subst e
    simp only [Option.some.injEq] at h; exact ⟨_, rfl, h.symm⟩
  · rename_i e; cases e
  · cases h
theorem keyEq_agg {cs : List AV} {xs : List Int} {k' : AV} {t : Bool} (hx : intsA cs = some xs) (h : keyEq (.agg cs) k' = some t) : ∃ cs2 ys, k' = .agg cs2 ∧ intsA cs2 = some ys ∧ cs.length = cs2.length ∧ t = (xs == ys) := by
  unfold keyEq at h
  split at h
  · rename_i e; cases e
  · rename_i e; cases e
  · rename_i a b e
    simp only [AV.agg.injEq] at e
    subst e
    rw [hx] at h
    cases hx2 : intsA b with
    | none => rw [hx2] at h; cases h
    | some ys =>
      rw [hx2] at h
      simp only at h
      split at h
      · rename_i e; simp only [Option.some.injEq] at h; exact ⟨_, _, rfl, hx2, e, h.symm⟩
      · cases h
  · cases h
theorem isInt_inv {k : TK} (h : isInt k = true) : ∃ kk, k = .int kk := by cases k <;> simp [isInt] at h; exact ⟨_, rfl⟩
theorem isStrK_inv {k : TK} (h : isStrK k = true) : k = .str := by cases k <;> simp [isStrK] at h; rfl

theorem run_getMap {w : World} {b : Nat} {es : Array MapEntry} {c : Nat} (h : w.heap[b]? = some (.map es c)) : (getObj b).run P w = .ok (.map es c) w := by
  simp [getObj, Sem.run, h]
theorem run_setMap {w : World} {b : Nat} {es : Array MapEntry} {c : Nat} (o' : Obj) (h : w.heap[b]? = some (.map es c)) : (setObj b o').run P w = .ok () { w with heap := w.heap.setIfInBounds b o' } := by
  simp [setObj, Sem.run, h]

/-- What a search finds. -/
def FindR (K : Kr) (n i : Nat) (c : Value) (es' : List MapEntry) : Option (Nat × AV) → Option (Nat × Value) → Prop
  | none, none => True
  | some (j, v), some (j', v') => j = j' ∧ i ≤ j ∧ j < i + es'.length ∧ VR K n v v' ∧ (es'[j - i]?).map (·.key) = some c
  | _, _ => False
theorem EntL.tl {k' v : AV} {e : MapEntry} {es : List (AV × AV)} {es' : List MapEntry} (h : EntL K n ((k', v) :: es) (e :: es')) : EntL K n es es' :=
  ⟨by have := h.1; simp at this; exact this, fun j a b => by
    have := h.2 (j + 1) (by simp; exact a) (by simp; exact b)
    simpa using this⟩
theorem FindR.tl {i : Nat} {c : Value} {e : MapEntry} {es' : List MapEntry} : ∀ {r : Option (Nat × AV)} {r' : Option (Nat × Value)}, FindR K n (i + 1) c es' r r' → FindR K n i c (e :: es') r r'
  | none, none, _ => trivial
  | some (j, v), some (j', v'), ⟨a1, a2, a3, a4, a7⟩ => by
    refine ⟨a1, by omega, by simp; omega, a4, ?_⟩
    have : j - i = (j - (i + 1)) + 1 := by omega
    rw [this]; simpa using a7
theorem findNow_gen {d : TypeDesc} {key : AV} {c : Value} (hs : ∀ k' ck t, VR K n k' ck → keyEq key k' = some t → Instr.sameNow d c ck = some t ∧ (t = true → ck = c)) : ∀ (es : List (AV × AV)) (es' : List MapEntry) (i : Nat) (r : Option (Nat × AV)), EntL K n es es' → findA key es i = some r →
    ∃ r', Instr.findNow d c es' i = some r' ∧ FindR K n i c es' r r'
  | [], es', i, r, hE, h => by
    simp [findA] at h; subst h
    have : es' = [] := List.length_eq_zero_iff.1 hE.1.symm
    subst this
    exact ⟨none, rfl, trivial⟩
  | (k', v) :: es, [], i, r, hE, h => absurd hE.1 (by simp)
  | (k', v) :: es, e :: es', i, r, hE, h => by
    simp only [findA] at h
    obtain ⟨g1, g2⟩ := hE.2 0 (by simp) (by simp)
    simp only [List.getElem_cons_zero] at g1 g2
    cases hq : keyEq key k' with
    | none => rw [hq] at h; cases h
    | some t =>
      rw [hq] at h
      obtain ⟨q1, q2⟩ := hs _ _ _ g1 hq
      simp only [Instr.findNow, q1]
      cases t with
      | true =>
        simp at h; subst h
        exact ⟨_, rfl, rfl, Nat.le_refl _, by simp, g2, by simp [q2 rfl]⟩
      | false =>
        simp only at h
        obtain ⟨r', h1, h2⟩ := findNow_gen hs es es' (i + 1) r hE.tl h
        exact ⟨r', h1, h2.tl⟩
theorem findAsk_gen {kt : TypeId} {key : AV} {c : Value} (hs : ∀ k' ck t w, VR K n k' ck → keyEq key k' = some t → (Op.equal kt c ck).run P w = .ok t w ∧ (t = true → ck = c)) (w : World) : ∀ (es : List (AV × AV)) (es' : List MapEntry) (i : Nat) (r : Option (Nat × AV)), EntL K n es es' → findA key es i = some r →
    ∃ r', (Instr.findAsking kt c es' i).run P w = .ok r' w ∧ FindR K n i c es' r r'
  | [], es', i, r, hE, h => by
    simp [findA] at h; subst h
    have : es' = [] := List.length_eq_zero_iff.1 hE.1.symm
    subst this
    exact ⟨none, by simp [Instr.findAsking], trivial⟩
  | (k', v) :: es, [], i, r, hE, h => absurd hE.1 (by simp)
  | (k', v) :: es, e :: es', i, r, hE, h => by
    simp only [findA] at h
    obtain ⟨g1, g2⟩ := hE.2 0 (by simp) (by simp)
    simp only [List.getElem_cons_zero] at g1 g2
    cases hq : keyEq key k' with
    | none => rw [hq] at h; cases h
    | some t =>
      rw [hq] at h
      obtain ⟨q1, q2⟩ := hs _ _ _ w g1 hq
      simp only [Instr.findAsking, Sem.run_bind, q1, Result.andThen_ok]
      cases t with
      | true =>
        simp at h; subst h
        exact ⟨_, rfl, rfl, Nat.le_refl _, by simp, g2, by simp [q2 rfl]⟩
      | false =>
        simp only at h
        obtain ⟨r', h1, h2⟩ := findAsk_gen hs w es es' (i + 1) r hE.tl h
        exact ⟨r', by simpa using h1, h2.tl⟩
theorem keyOK_agg {i : TI} {cs : List AV} (h : keyOK i (.agg cs) = true) : i.keyn = true ∧ cs.length = i.sz ∧ ∃ xs, intsA cs = some xs := by
  simp only [keyOK, Bool.and_eq_true, beq_iff_eq, Option.isSome_iff_exists] at h
  exact h
theorem keyVR {cs : List AV} {xs : List Int} {c : Value} (hx : intsA cs = some xs) (hv : VR K n (.agg cs) c) : c = .agg (xs.map (.int .i64)).toArray ∧ xs.length = cs.length := by
  cases hv with
  | agg _ cs' hl h1 h =>
    have := intsA_sound hx ⟨hl, h⟩
    subst this
    exact ⟨rfl, by simpa using hl.symm⟩
theorem findKey_sound (hT : TysOK P ty) (hQ : EqsOK P ty) {kt : TypeId} {key : AV} {c : Value} (hk : keyOK (ty kt) key = true) (hv : VR K n key c) {es : List (AV × AV)} {es' : List MapEntry} {r : Option (Nat × AV)} (hE : EntL K n es es') (h : findA key es 0 = some r) (w : World) :
    ∃ r', (Instr.findKey kt c es').run P w = .ok r' w ∧ FindR K n 0 c es' r r' := by
  cases key with
  | int k x =>
    obtain ⟨kk, hkk⟩ := isInt_inv hk
    obtain ⟨d2, hd2, hu2⟩ := run_under hT (t := kt) (by rw [hkk]; simp)
    rw [hkk] at hd2; simp only [KdOK] at hd2; subst hd2
    cases hv
    obtain ⟨r', g1, g2⟩ := findNow_gen (K := K) (n := n) (d := .int kk) (key := .int k x) (c := .int k x) (fun k' ck t hvk hq => by
      obtain ⟨y, rfl, rfl⟩ := keyEq_int hq
      cases hvk
      exact ⟨by simp [Instr.sameNow], fun h => by simp at h; rw [h]⟩) es es' 0 r hE h
    exact ⟨r', by simp only [Instr.findKey, Sem.run_bind, hu2 w, Result.andThen_ok, g1, Sem.run_pure], g2⟩
  | str x =>
    have hkk := isStrK_inv hk
    obtain ⟨d2, hd2, hu2⟩ := run_under hT (t := kt) (by rw [hkk]; simp)
    rw [hkk] at hd2; simp only [KdOK] at hd2; subst hd2
    cases hv
    obtain ⟨r', g1, g2⟩ := findNow_gen (K := K) (n := n) (d := .string) (key := .str x) (c := .string x) (fun k' ck t hvk hq => by
      obtain ⟨y, rfl, rfl⟩ := keyEq_str hq
      cases hvk
      exact ⟨by simp only [Instr.sameNow], fun h => by rw [(bytes_same x y).1 h]⟩) es es' 0 r hE h
    exact ⟨r', by simp only [Instr.findKey, Sem.run_bind, hu2 w, Result.andThen_ok, g1, Sem.run_pure], g2⟩
  | agg cs =>
    obtain ⟨hn, hl, xs, hx⟩ := keyOK_agg hk
    obtain ⟨d2, hd2, hu2⟩ := run_under hT (hQ.kkd kt hn)
    obtain ⟨rfl, hxl⟩ := keyVR hx hv
    obtain ⟨r', g1, g2⟩ := findAsk_gen (P := P) (K := K) (n := n) (kt := kt) (key := .agg cs) (c := .agg (xs.map (.int .i64)).toArray) (fun k' ck t w hvk hq => by
      obtain ⟨cs2, ys, rfl, hx2, e, rfl⟩ := keyEq_agg hx hq
      obtain ⟨rfl, hyl⟩ := keyVR hx2 hvk
      exact ⟨hQ.keq kt hn xs ys w (by omega) (by omega), fun h => by simp at h; rw [h]⟩) w es es' 0 r hE h
    refine ⟨r', ?_, g2⟩
    have hfn : Instr.findNow d2 (.agg (xs.map (.int .i64)).toArray) es' 0 = some r' ∨ Instr.findNow d2 (.agg (xs.map (.int .i64)).toArray) es' 0 = none := by
      cases es' with
      | nil =>
        simp [Instr.findAsking] at g1
        exact .inl (by simp [Instr.findNow, g1])
      | cons e es' => right; cases d2 <;> simp [Instr.findNow, Instr.sameNow]
    rcases hfn with hfn | hfn
    · simp only [Instr.findKey, Sem.run_bind, hu2 w, Result.andThen_ok, hfn, Sem.run_pure]
    · simp only [Instr.findKey, Sem.run_bind, hu2 w, Result.andThen_ok, hfn, g1]
  | _ => simp [keyOK] at hk
theorem checkKey_sound (hT : TysOK P ty) (hQ : EqsOK P ty) {kt : TypeId} {key : AV} {c : Value} (hk : keyOK (ty kt) key = true) (hv : VR K n key c) (e : Bool) (w : World) : (Instr.checkKey e 10000 kt c).run P w = .ok () w := by
  have one : ∀ (m : Nat) (d : TypeDesc), 0 < m → (∀ w, (underlying kt).run P w = .ok d w) → (∃ kk, d = .int kk) ∨ d = .string → (∀ x, c ≠ .agg x) → (Instr.checkKey e m kt c).run P w = .ok () w := by
    intro m d hm hu hd hc
    cases m with
    | zero => omega
    | succ m => rcases hd with ⟨kk, rfl⟩ | rfl <;> simp only [Instr.checkKey, Sem.run_bind, hu w, Result.andThen_ok, Sem.run_pure]
  cases key with
  | int k x =>
    obtain ⟨kk, hkk⟩ := isInt_inv hk
    obtain ⟨d2, hd2, hu2⟩ := run_under hT (t := kt) (by rw [hkk]; simp)
    rw [hkk] at hd2; simp only [KdOK] at hd2; subst hd2
    cases hv
    exact one _ _ (by omega) hu2 (.inl ⟨_, rfl⟩) (by simp)
  | str x =>
    have hkk := isStrK_inv hk
    obtain ⟨d2, hd2, hu2⟩ := run_under hT (t := kt) (by rw [hkk]; simp)
    rw [hkk] at hd2; simp only [KdOK] at hd2; subst hd2
    cases hv
    exact one _ _ (by omega) hu2 (.inr rfl) (by simp)
  | agg cs =>
    obtain ⟨hn, hl, xs, hx⟩ := keyOK_agg hk
    obtain ⟨rfl, hxl⟩ := keyVR hx hv
    exact hQ.kck kt hn e xs w (by omega)
  | _ => simp [keyOK] at hk
theorem sameBits_ints (m : Nat) (xs : List Int) : Instr.sameBits (m + 2) (.agg (xs.map (.int .i64)).toArray) (.agg (xs.map (.int .i64)).toArray) = true := by
  simp only [Instr.sameBits, beq_self_eq_true, Bool.true_and, List.all_eq_true]
  rintro ⟨a, b⟩ h
  have : a = b ∧ ∃ x, a = .int .i64 x := by
    simp only [List.zip_map', List.mem_map, Prod.mk.injEq] at h
    obtain ⟨x, _, rfl, rfl⟩ := h
    exact ⟨rfl, x, rfl⟩
  obtain ⟨rfl, x, rfl⟩ := this
  simp [Instr.sameBits]
theorem keyStays_sound {i : TI} {key : AV} {c : Value} (hk : keyOK i key = true) (hv : VR K n key c) (w : World) : (Instr.keyThatStays c c).run P w = .ok c w := by
  have hs : Instr.sameBits 10000 c c = true := by
    cases key with
    | int k x => cases hv; simp [Instr.sameBits]
    | str x => cases hv; simp only [Instr.sameBits]; exact (bytes_same x x).2 rfl
    | agg cs =>
      obtain ⟨_, _, xs, hx⟩ := keyOK_agg hk
      obtain ⟨rfl, _⟩ := keyVR hx hv
      exact sameBits_ints 9998 xs
    | _ => simp [keyOK] at hk
  simp [Instr.keyThatStays, hs]

theorem EntR.toL {es : List (AV × AV)} {es' : Array MapEntry} {clock : Nat} (h : EntR K n es es' clock) : EntL K n es es'.toList :=
  ⟨by rw [h.1]; simp, fun i a b => by
    obtain ⟨h1, h2, _⟩ := h.2.2 i a (by simpa using b)
    exact ⟨by simpa using h1, by simpa using h2⟩⟩

theorem cell_of_map {w : World} {b p : Nat} {es : Array MapEntry} {c : Nat} (h : w.heap[b]? = some (.map es c)) : w.cell? ⟨b, p, none⟩ = none := by simp [World.cell?, h]
theorem cell_of_iter {w : World} {b p : Nat} {m : Option Nat} {x : Array Nat} {c d : Nat} (h : w.heap[b]? = some (.mapIter m c x d)) : w.cell? ⟨b, p, none⟩ = none := by simp [World.cell?, h]

/-- A block without cells is turned. -/
theorem R.turnFlat {σ : List AObj} {w : World} (hR : R K σ w) {r : Nat} {o : AObj} (hg : hget σ r = some o) (hb : ObjBlk K r o (K.φ r)) (hc : ∀ p, w.cell? ⟨K.φ r, p, none⟩ = none) (hlt : K.φ r < w.heap.size) (o' : AObj) (co : Obj) (hB : ∀ b, ObjBlk K r o' b → b = K.φ r)
    (hz : frz w.heap[K.φ r]? = frz (some co)) (hO : ∀ w' : World, w'.heap[K.φ r]? = some co → ObjR K σ.length w' r o') :
    R K (hset σ r o') { w with heap := w.heap.setIfInBounds (K.φ r) co } ∧ Step K σ w K (hset σ r o') { w with heap := w.heap.setIfInBounds (K.φ r) co } := by
  have hS : ∀ p, K.S (K.φ r) p = none := fun p => by
    cases hk : K.S (K.φ r) p with
    | none => rfl
    | some v => have := hR.stab _ _ _ hk; rw [hc p] at this; cases this
  refine hR.turn hg (K.φ r) hb K (.refl _ _) (fun _ _ => rfl) (fun b hb => ?_) (by simp) (fun _ _ _ => rfl) (fun p v hv => by rw [hS p] at hv; cases hv) hB (hO _ ?_) rfl rfl rfl (by
    show frz (w.heap.setIfInBounds (K.φ r) _)[K.φ r]? = _
    rw [Array.getElem?_setIfInBounds_self, if_pos hlt, hz])
  · show (w.heap.setIfInBounds (K.φ r) _)[b]? = _
    rw [Array.getElem?_setIfInBounds_ne (Ne.symm hb)]
  · show (w.heap.setIfInBounds (K.φ r) _)[K.φ r]? = _
    simp [hlt]

theorem makeMap_sound {σ : List AObj} {w : World} (hR : R K σ w) {t : TypeId} :
    ∃ c K' w', (Instr.makeMap t none).run P w = .ok c w' ∧ VR K' (σ.length + 1) (.map σ.length) c ∧ R K' (σ ++ [.map []]) w' ∧ Step K σ w K' (σ ++ [.map []]) w' := by
  obtain ⟨r1, r2⟩ := hR.new (.map []) (.map #[] 0) (K.setφ σ.length w.heap.size) (Ext.setφ K _ _) (fun _ _ => rfl) (fun b p v hv => .inl hv) (fun b hb => by
    have : b = (K.setφ σ.length w.heap.size).φ σ.length := hb
    simpa only [Kr.setφ, if_true] using this) ⟨#[], 0, by simp only [Kr.setφ, if_true]; exact heap_alloc_new w _, rfl, rfl, fun i h => by simp at h⟩
  refine ⟨.map (some w.heap.size), _, _, ?_, ?_, r1, r2⟩
  · simp only [Instr.makeMap, Sem.run_bind, Result.andThen_ok, Sem.run_pure]; rfl
  · have := VR.map (K := K.setφ σ.length w.heap.size) (n := σ.length + 1) σ.length (by omega)
    simpa [Kr.setφ] using this

theorem lookup_sound (hT : TysOK P ty) (hQ : EqsOK P ty) {σ : List AObj} {w : World} (hR : R K σ w) {t kt et r : Nat} {es : List (AV × AV)} (hk : (ty t).kd = .map kt et) {key : AV} (hi : keyOK (ty kt) key = true) (he : (ty et).kd ≠ .other) (hg : hget σ r = some (.map es)) {c : Value} (hv : VR K σ.length key c) {ok : Bool} {v : AV} {σ' : List AObj}
    (h : lookR ok (ty et).zero σ (findA key es 0) = some (v, σ')) : ∃ c', (Instr.lookup t (.map (some (K.φ r))) c ok).run P w = .ok c' w ∧ VR K σ.length v c' ∧ σ' = σ := by
  obtain ⟨d, hd, hu⟩ := run_under hT (t := t) (by rw [hk]; simp)
  rw [hk] at hd
  simp only [KdOK] at hd
  subst hd
  obtain ⟨z, hz, hzr⟩ := run_zero (K := K) (n := σ.length) hT he
  obtain ⟨es', clock, h1, h2⟩ := hR.obj r _ hg
  cases hf : findA key es 0 with
  | none => rw [hf] at h; cases h
  | some q =>
    rw [hf] at h
    obtain ⟨r', g1, g2⟩ := findKey_sound hT hQ hi hv h2.toL hf w
    have hck := checkKey_sound hT hQ hi hv es'.isEmpty w
    match q, r', g2 with
    | none, none, _ =>
      simp only [lookR, Option.some.injEq, Prod.mk.injEq] at h
      obtain ⟨rfl, rfl⟩ := h
      refine ⟨if ok then .tuple #[z, .bool false] else z, ?_, ?_, rfl⟩
      · simp only [Instr.lookup, Sem.run_bind, hu w, Result.andThen_ok, run_getMap h1, Sem.run_pure, hck, g1, hzr w]
      · cases ok
        · exact hz
        · exact VRs.tup (cs := #[z, .bool false]) (.cons hz (.cons (.bool _) .nil))
    | some (j, v0), some (j', v'), ⟨_, _, _, a4, _⟩ =>
      simp only [lookR, Option.some.injEq, Prod.mk.injEq] at h
      obtain ⟨rfl, rfl⟩ := h
      refine ⟨if ok then .tuple #[v', .bool true] else v', ?_, ?_, rfl⟩
      · simp only [Instr.lookup, Sem.run_bind, hu w, Result.andThen_ok, run_getMap h1, Sem.run_pure, hck, g1]
      · cases ok
        · exact a4
        · exact VRs.tup (cs := #[v', .bool true]) (.cons a4 (.cons (.bool _) .nil))

theorem update_sound (hT : TysOK P ty) (hQ : EqsOK P ty) {σ : List AObj} {w : World} (hR : R K σ w) {t kt et r : Nat} {es : List (AV × AV)} (hk : (ty t).kd = .map kt et) {key v : AV} (hi : keyOK (ty kt) key = true) (hg : hget σ r = some (.map es)) {c cv : Value} (hv : VR K σ.length key c) (hvv : VR K σ.length v cv) {u : AV} {σ' : List AObj}
    (h : updR r es key v σ (findA key es 0) = some (u, σ')) : ∃ w', (Instr.mapUpdate t (.map (some (K.φ r))) c cv).run P w = .ok () w' ∧ u = .tup [] ∧ R K σ' w' ∧ Step K σ w K σ' w' := by
  obtain ⟨d, hd, hu⟩ := run_under hT (t := t) (by rw [hk]; simp)
  rw [hk] at hd
  simp only [KdOK] at hd
  subst hd
  obtain ⟨es', clock, h1, h2⟩ := hR.obj r _ hg
  have hlt := lt_of_heap h1
  cases hf : findA key es 0 with
  | none => rw [hf] at h; cases h
  | some q =>
    rw [hf] at h
    obtain ⟨r', g1, g2⟩ := findKey_sound hT hQ hi hv h2.toL hf w
    have hck := checkKey_sound hT hQ hi hv false w
    match q, r', g2 with
    | none, none, _ =>
      simp only [updR, Option.some.injEq, Prod.mk.injEq] at h
      obtain ⟨rfl, rfl⟩ := h
      obtain ⟨r1, r2⟩ := hR.turnFlat hg rfl (fun p => cell_of_map h1) hlt (.map (es ++ [(key, v)])) (.map (es'.push { key := c, val := cv, born := clock }) (clock + 1)) (fun b hb => hb) (by rw [h1]; rfl) (fun w' hw' => ⟨_, _, hw', by simp [h2.1], by simp [h2.2.1], fun i a b => by
        have hb : i < es'.size + 1 := by simpa using b
        by_cases e : i < es'.size
        · have e' : i < es.length := by rw [h2.1]; exact e
          rw [List.getElem_append_left e', Array.getElem_push_lt e]
          exact h2.2.2 i e' e
        · have e1 : i = es.length := by rw [h2.1]; omega
          subst e1
          have e2 : (es ++ [(key, v)])[es.length] = (key, v) := by simp
          have e3 : (es'.push { key := c, val := cv, born := clock })[es.length] = { key := c, val := cv, born := clock } := by
            have := h2.1
            simp [this]
          rw [e2, e3]
          exact ⟨hv, hvv, by rw [h2.2.1, h2.1]⟩⟩)
      refine ⟨_, ?_, rfl, r1, r2⟩
      simp only [Instr.mapUpdate, Sem.run_bind, hu w, Result.andThen_ok, run_getMap h1, hck, g1, run_setMap _ h1]
    | some (j, v0), some (j', v'), ⟨a1, _, a3, a4, a7⟩ =>
      simp only [updR, Option.some.injEq, Prod.mk.injEq] at h
      obtain ⟨rfl, rfl⟩ := h
      subst a1
      simp at a3
      have hj : j < es.length := by rw [h2.1]; exact a3
      have a7' : (es'[j]?).map (·.key) = some c := by simpa using a7
      have hst : (Instr.keyThatStays (((es'[j]?).map (·.key)).getD c) c).run P w = .ok c w := by
        rw [a7']
        exact keyStays_sound hi hv w
      obtain ⟨r1, r2⟩ := hR.turnFlat hg rfl (fun p => cell_of_map h1) hlt (.map (es.set j (key, v))) (.map (es'.modify j fun e => { e with key := c, val := cv }) clock) (fun b hb => hb) (by rw [h1]; rfl) (fun w' hw' => ⟨_, _, hw', by simp [h2.1], by simp [h2.2.1], fun i a b => by
        have hi1 : i < es.length := by simpa using a
        have hi2 : i < es'.size := by simpa using b
        rw [List.getElem_set, Array.getElem_modify]
        by_cases e : j = i
        · subst e; simp only [if_true]
          exact ⟨hv, hvv, (h2.2.2 j hi1 hi2).2.2⟩
        · simp only [if_neg e]
          exact h2.2.2 i hi1 hi2⟩)
      refine ⟨_, ?_, rfl, r1, r2⟩
      simp only [Instr.mapUpdate, Sem.run_bind, hu w, Result.andThen_ok, run_getMap h1, hck, g1, hst, run_setMap _ h1]

theorem range_sound (hT : TysOK P ty) {σ : List AObj} {w : World} (hR : R K σ w) {t kt et r : Nat} {es : List (AV × AV)} (hk : (ty t).kd = .map kt et) (hg : hget σ r = some (.map es)) :
    ∃ c K' w', (Instr.range t (.map (some (K.φ r)))).run P w = .ok c w' ∧ VR K' (σ.length + 1) (.ptr σ.length 0) c ∧ R K' (σ ++ [.iter (some r) es.length []]) w' ∧ Step K σ w K' (σ ++ [.iter (some r) es.length []]) w' := by
  obtain ⟨d, hd, hu⟩ := run_under hT (t := t) (by rw [hk]; simp)
  rw [hk] at hd
  simp only [KdOK] at hd
  subst hd
  obtain ⟨es', clock, h1, h2⟩ := hR.obj r _ hg
  have hr := hget_lt hg
  have hcl : clock = es.length := by rw [h2.2.1, h2.1]
  subst hcl
  obtain ⟨r1, r2⟩ := hR.new (.iter (some r) es.length []) (.mapIter (some (K.φ r)) es.length #[] es.length) (K.setφ σ.length w.heap.size) (Ext.setφ K _ _) (fun _ _ => rfl) (fun b p v hv => .inl hv) (fun b hb => by
    have : b = (K.setφ σ.length w.heap.size).φ σ.length := hb
    simpa only [Kr.setφ, if_true] using this) ⟨some (K.φ r), by simp only [Kr.setφ, if_true]; exact heap_alloc_new w _, by omega, by simp only [Kr.setφ]; rw [if_neg (by omega)]⟩
  refine ⟨.pointer (some ⟨w.heap.size, 0, none⟩), _, _, ?_, ?_, r1, r2⟩
  · simp only [Instr.range, Sem.run_bind, hu w, Result.andThen_ok, run_getMap h1, Sem.run_pure]; rfl
  · have := VR.ptr (K := K.setφ σ.length w.heap.size) (n := σ.length + 1) σ.length 0 (by omega)
    simpa [Kr.setφ] using this
end Go.Mu
set_option linter.unusedSimpArgs false
set_option linter.unusedVariables false
namespace Go.Mu
open Go

variable {P : Program} {K : Kr} {n : Nat} {ty : Nat → TI}

/-- A step of a range over a map: any entry that was not met. -/
def nextA (X : AV → List AObj → Prop) (σ : List AObj) : Option AV → Prop
  | some (.ptr r 0) => match hget σ r with
    | some (.iter (some q) c seen) => match hget σ q with
      | some (.map es) => c = es.length ∧ (∀ i k v, es[i]? = some (k, v) → i ∉ seen → X (.tup [.bool true, k, v]) (hset σ r (.iter (some q) c (seen ++ [i])))) ∧ ((∀ i, i < es.length → i ∈ seen) → X (.tup [.bool false]) σ)
      | _ => False
    | _ => False
  | _ => False

theorem filter_all {α : Type} {p : α → Bool} {xs : Array α} (h : ∀ i (h : i < xs.size), p xs[i] = true) : xs.filter p = xs := by
  rw [Array.filter_eq_self]
  intro a ha
  obtain ⟨i, hi, rfl⟩ := Array.mem_iff_getElem.1 ha
  exact h i hi
theorem filter_none {α : Type} {p : α → Bool} {xs : Array α} (h : ∀ i (h : i < xs.size), p xs[i] = false) : xs.filter p = #[] := by
  rw [Array.filter_eq_empty_iff]
  intro a ha
  obtain ⟨i, hi, rfl⟩ := Array.mem_iff_getElem.1 ha
  simp [h i hi]

theorem run_getIter {w : World} {b : Nat} {m : Option Nat} {c d : Nat} {s : Array Nat} (h : w.heap[b]? = some (.mapIter m c s d)) : (getObj b).run P w = .ok (.mapIter m c s d) w := by
  simp [getObj, Sem.run, h]
theorem run_setIter {w : World} {b : Nat} {m : Option Nat} {c d : Nat} {s : Array Nat} (o' : Obj) (h : w.heap[b]? = some (.mapIter m c s d)) : (setObj b o').run P w = .ok () { w with heap := w.heap.setIfInBounds b o' } := by
  simp [setObj, Sem.run, h]

theorem length_hset' {σ : List AObj} {r : Nat} {o : AObj} : (hset σ r o).length = σ.length := by unfold hset; simp
theorem mapNext_sound {σ : List AObj} {w : World} (hR : R K σ w) {a : AV} {ca : Value} (ha : VR K σ.length a ca) {T : TypeId} {X : AV → List AObj → Prop} (hX : nextA X σ (some a)) :
    ∃ v σ' c' w', (Instr.next ca false T).run P w = .ok c' w' ∧ X v σ' ∧ VR K σ'.length v c' ∧ R K σ' w' ∧ Step K σ w K σ' w' := by
  unfold nextA at hX
  split at hX
  · rename_i r he
    simp at he; subst he
    split at hX
    · rename_i q c seen hg
      split at hX
      · rename_i es hq
        obtain ⟨hc, h1, h2⟩ := hX
        subst hc
        obtain ⟨hr, rfl⟩ := ha.ptr_inv
        obtain ⟨m', g1, g2⟩ := hR.obj r _ hg
        obtain ⟨g3, rfl⟩ := g2
        obtain ⟨es', clock, k1, k2⟩ := hR.obj q _ hq
        have hcl : clock = es.length := by rw [k2.2.1, k2.1]
        subst hcl
        have hsz : es'.size = es.length := k2.1.symm
        have hborn : ∀ i (h : i < es'.size), (es'[i]).born = i := fun i h => (k2.2.2 i (by omega) h).2.2
        let L := es'.filter fun e => !seen.toArray.contains e.born
        have hLmem : ∀ i (h : i < L.size), ∃ j, ∃ hj : j < es'.size, L[i] = es'[j] ∧ j ∉ seen := fun i h => by
          have hm : L[i] ∈ L := Array.getElem_mem h
          obtain ⟨hm1, hm2⟩ := Array.mem_filter.1 hm
          obtain ⟨j, hj, e⟩ := Array.mem_iff_getElem.1 hm1
          refine ⟨j, hj, e.symm, fun hs => ?_⟩
          rw [← e, hborn j hj] at hm2
          simp [hs] at hm2
        have hold : L.filter (fun e => decide (e.born < es.length)) = L := filter_all fun i h => by
          obtain ⟨j, hj, e, _⟩ := hLmem i h
          rw [e, hborn j hj]; simp; omega
        have hnew : L.filter (fun e => decide (e.born ≥ es.length)) = #[] := filter_none fun i h => by
          obtain ⟨j, hj, e, _⟩ := hLmem i h
          rw [e, hborn j hj]; simp; omega
        have hguard : (!seen.toArray.isEmpty && !es'.isEmpty && es'.all (fun e => decide (e.born ≥ es.length))) = false := by
          by_cases hz : es'.size = 0
          · have : es' = #[] := Array.eq_empty_of_size_eq_zero hz
            subst this; simp
          · have h0 : 0 < es'.size := by omega
            have : es'.all (fun e => decide (e.born ≥ es.length)) = false := by
              rw [Array.all_eq_false]
              refine ⟨0, h0, ?_⟩
              rw [hborn 0 h0, decide_eq_true_eq]; omega
            rw [this]; simp
        have hrun0 : (Instr.next (.pointer (some ⟨K.φ r, 0, none⟩)) false T).run P w = ((choose (.mapNext ((if L.isEmpty then #[none] else #[]) ++ L.map some).size)).run P w).andThen fun n w1 => (match ((if L.isEmpty then #[none] else #[]) ++ L.map some)[n]? with
            | some (some e) => (do setObj (K.φ r) (.mapIter (some (K.φ q)) es.length (seen.toArray.push e.born) es.length); pure (.tuple #[.bool true, e.key, e.val]) : Sem Value)
            | some none => pure (.tuple #[.bool false])
            | none => stuck "Next: no such candidate").run P w1 := by
          have hL1 : (es'.filter fun e => !seen.toArray.contains e.born).filter (fun e => decide (e.born < es.length)) = L := hold
          have hL2 : (es'.filter fun e => !seen.toArray.contains e.born).filter (fun e => decide (e.born ≥ es.length)) = #[] := hnew
          simp only [Instr.next, Sem.run_bind, run_getIter g1, Result.andThen_ok, run_getMap k1, hguard, Bool.false_eq_true, if_false, hL1, hL2, Array.append_empty]
          rfl
        by_cases hem : L.isEmpty
        · refine ⟨.tup [.bool false], σ, .tuple #[.bool false], w, ?_, h2 fun i hi => ?_, VRs.tup (cs := #[.bool false]) (.cons (.bool _) .nil), hR, .refl _ _ _⟩
          · rw [hrun0]
            have : L = #[] := by simpa using hem
            rw [this]
            simp [run_choose, Question.forced]
          · have : L = #[] := by simpa using hem
            apply Classical.byContradiction
            intro hs
            have hm : es'[i]'(by omega) ∈ L := Array.mem_filter.2 ⟨Array.getElem_mem _, by rw [hborn i (by omega)]; simp [hs]⟩
            rw [this] at hm; simp at hm
        · have hpos : 0 < L.size := by
            cases hz : L.size with
            | zero => exact absurd (by simpa using hz) hem
            | succ k => omega
          have hch : ∃ m, m < L.size ∧ ∃ d, w.drawn ≤ d ∧ (choose (.mapNext ((if L.isEmpty then #[none] else #[]) ++ L.map some).size)).run P w = .ok m { w with drawn := d } := by
            have hs : ((if L.isEmpty then #[none] else #[]) ++ L.map some).size = L.size := by simp [hem]
            rw [hs]
            by_cases hf : L.size ≤ 1
            · exact ⟨0, hpos, w.drawn, Nat.le_refl _, by simp [run_choose, Question.forced, hf]⟩
            · refine ⟨w.tape w.drawn (.mapNext L.size) % L.size, Nat.mod_lt _ hpos, w.drawn + 1, Nat.le_add_right _ _, ?_⟩
              simp [run_choose, Question.forced, hf, Question.cut]
          obtain ⟨m, hm, d, hdd, hch⟩ := hch
          obtain ⟨j, hj, e, hns⟩ := hLmem m hm
          obtain ⟨v1, v2, _⟩ := k2.2.2 j (by omega) hj
          have hR' := hR.drew d
          have hlt := lt_of_heap g1
          obtain ⟨r1, r2⟩ := hR'.turnFlat hg rfl (fun p => cell_of_iter g1) hlt (.iter (some q) es.length (seen ++ [j])) (.mapIter (some (K.φ q)) es.length (seen.toArray.push j) es.length) (fun b hb => hb) (by show frz w.heap[K.φ r]? = _; rw [g1]; rfl) (fun w' hw' => ⟨some (K.φ q), by simpa using hw', g3, rfl⟩)
          refine ⟨_, _, .tuple #[.bool true, (es'[j]).key, (es'[j]).val], _, ?_, h1 j (es[j]'(by omega)).1 (es[j]'(by omega)).2 (List.getElem?_eq_getElem (by omega)) hns, ?_, r1, r2.drew d⟩
          · rw [hrun0, hch, Result.andThen_ok]
            have hget : ((if L.isEmpty then #[none] else #[]) ++ L.map some)[m]? = some (some es'[j]) := by
              simp [hem, hm, e]
            rw [hget]
            simp only [Sem.run_bind, run_setIter (w := { w with drawn := d }) _ g1, Result.andThen_ok, Sem.run_pure, hborn j hj]
          · rw [length_hset']
            exact VRs.tup (cs := #[.bool true, (es'[j]).key, (es'[j]).val]) (.cons (.bool _) (.cons v1 (.cons v2 .nil)))
      · exact hX.elim
    · exact hX.elim
  · exact hX.elim
theorem entry_sound {σ : List AObj} {w : World} (hR : R K σ w) {r : Nat} {v : AV} {σ' : List AObj} (h : entR σ (hget σ r) = some (v, σ')) :
    ∃ c, (Instr.entry (.pointer (some ⟨K.φ r, 0, none⟩))).run P w = .ok c w ∧ VR K σ.length v c ∧ σ' = σ := by
  unfold entR at h
  split at h
  · rename_i q c seen hg
    split at h
    · rename_i es i hq hi
      split at h
      · rename_i hc
        subst hc
        simp only [Option.map_eq_some_iff, Prod.mk.injEq] at h
        obtain ⟨p, hp, rfl, rfl⟩ := h
        obtain ⟨m', g1, g3, rfl⟩ := hR.obj r _ hg
        obtain ⟨es', clock, k1, k2⟩ := hR.obj q _ hq
        obtain ⟨hil, hie⟩ := List.getElem?_eq_some_iff.1 hp
        have hcl : clock = es.length := by rw [k2.2.1, k2.1]
        subst hcl
        have hil' : i < es'.size := by rw [← k2.1]; exact hil
        obtain ⟨v1, v2, v3⟩ := k2.2.2 i hil hil'
        have hback : seen.toArray.back? = some i := by rw [← hi]; simp
        have hfind : es'.find? (fun e => e.born == i) = some es'[i] := by
          rw [Array.find?_eq_some_iff_getElem]
          refine ⟨by simpa using v3, i, hil', rfl, fun j hj => ?_⟩
          have := (k2.2.2 j (by omega) (by omega)).2.2
          rw [this]; simp; omega
        refine ⟨.tuple #[(es'[i]).key, (es'[i]).val], ?_, ?_, rfl⟩
        · simp only [Instr.entry, Sem.run_bind, run_getIter g1, Result.andThen_ok, hback, run_getMap k1, bne_self_eq_false, Bool.false_eq_true, if_false, hfind, Sem.run_pure]
        · rw [← hie]
          exact VRs.tup (cs := #[(es'[i]).key, (es'[i]).val]) (.cons v1 (.cons v2 .nil))
      · cases h
    · cases h
  · cases h
end Go.Mu
set_option linter.unusedSimpArgs false
set_option linter.unusedVariables false
namespace Go.Mu
open Go
variable {P : Program} {ty : Nat → TI} {K : Kr}
theorem bytesL_inv : ∀ {xs : List AV} {ns : List Int}, bytesL xs = some ns → xs = ns.map (AV.int .u8)
  | [], ns, h => by simp [bytesL] at h; subst h; rfl
  | .int .u8 n :: l, ns, h => by
    simp only [bytesL, Option.map_eq_some_iff] at h
    obtain ⟨m, h1, rfl⟩ := h
    rw [bytesL_inv h1]; rfl
theorem cvt_sound (hT : TysOK P ty) {σ : List AObj} {w : World} (hR : R K σ w) {s d e sz : Nat} {t : Tok} {xs : List AV} {ns : List Int} (hs : (ty s).kd = .slice e) (hd : (ty d).kd = .str) (he : (ty e).kd = .int .u8) (hz : sz = 1 ∨ xs = []) (hb : bytesL xs = some ns)
    {c : Value} (hv : VR K σ.length (.list t sz xs) c) : (convert s d c).run P w = .ok (.string (strOfNums ns)) w := by
  obtain ⟨d1, k1, u1⟩ := (hT s (by rw [hs]; simp)).kd
  rw [hs] at u1; simp only [KdOK] at u1; subst u1
  obtain ⟨d2, k2, u2⟩ := (hT d (by rw [hd]; simp)).kd
  rw [hd] at u2; simp only [KdOK] at u2; subst u2
  obtain ⟨d3, k3, u3⟩ := (hT e (by rw [he]; simp)).kd
  rw [he] at u3; simp only [KdOK] at u3; subst u3
  obtain rfl := bytesL_inv hb
  cases hv with
  | list _ _ _ a cap f q1 q2 q3 q4 q5 q6 =>
    by_cases hne : ns = []
    · subst hne
      cases a with
      | none => rw [run_convert_bytes_nil w s e k1 k3 _ _ d k2]; rfl
      | some a =>
        have e0 := run_bytesToString (P := P) w a 0 cap [] (run_loadCells_list (P := P) w a [] (by simp))
        rw [run_convert_bytes_string w s d e _ _ _ k1 k3 k2]
        exact e0
    · obtain ⟨b, o, rfl, h⟩ := q3 (by simpa using hne)
      have hz' : sz = 1 := by rcases hz with h | h; exact h; exact absurd (by simpa using h) hne
      subst hz'
      refine run_convert_bytes_arg w s e k1 k3 b o _ cap ns (by simp) (fun i hi => ?_) d k2
      have hi' : i < ns.length := by simpa using hi
      have h1 := h i 0 hi (by omega)
      rw [Nat.mul_one, Nat.add_zero] at h1
      rw [hR.stab _ _ _ h1]
      have h2 := q6 i 0 hi (by simp [AV.cells])
      simp only [List.getElem_map, AV.cells, List.getElem_cons_zero] at h2
      rw [h2.int_inv]
      simp [List.getD, List.getElem?_eq_getElem hi']
theorem srange_sound (hT : TysOK P ty) {σ : List AObj} {w : World} (hR : R K σ w) {t : Nat} {s : ByteArray} (hk : (ty t).kd = .str) :
    ∃ c K' w', (Instr.range t (.string s)).run P w = .ok c w' ∧ VR K' (σ.length + 1) (.ptr σ.length 0) c ∧ R K' (σ ++ [.siter s 0]) w' ∧ Step K σ w K' (σ ++ [.siter s 0]) w' := by
  obtain ⟨d, hd, hu⟩ := run_under hT (t := t) (by rw [hk]; simp)
  rw [hk] at hd
  simp only [KdOK] at hd
  subst hd
  obtain ⟨r1, r2⟩ := hR.new (.siter s 0) (.stringIter s 0) (K.setφ σ.length w.heap.size) (Ext.setφ K _ _) (fun _ _ => rfl) (fun b p v hv => .inl hv) (fun b hb => by
    have : b = (K.setφ σ.length w.heap.size).φ σ.length := hb
    simpa only [Kr.setφ, if_true] using this) (by
      show (w.alloc (.stringIter s 0)).heap[(K.setφ σ.length w.heap.size).φ σ.length]? = _
      simp only [Kr.setφ, if_true]; exact heap_alloc_new w _)
  refine ⟨.pointer (some ⟨w.heap.size, 0, none⟩), _, _, ?_, ?_, r1, r2⟩
  · simp only [Instr.range, Sem.run_bind, hu w, Result.andThen_ok, Sem.run_pure]; rfl
  · have := VR.ptr (K := K.setφ σ.length w.heap.size) (n := σ.length + 1) σ.length 0 (by omega)
    simpa [Kr.setφ] using this
/-- A step of a range over a string, of its small bytes alone. -/
def nextSB (X : AV → List AObj → Prop) (σ : List AObj) (r : Nat) (s : ByteArray) (pos : Nat) : Option UInt8 → Prop
  | some b => b.toNat < 128 ∧ X (.tup [.bool true, .int .i64 pos, .int .i32 b.toNat]) (hset σ r (.siter s (pos + 1)))
  | none => X (.tup [.bool false]) σ
def nextSR (X : AV → List AObj → Prop) (σ : List AObj) (r : Nat) : Option AObj → Prop
  | some (.siter s pos) => nextSB X σ r s pos s[pos]?
  | _ => False
def nextS (X : AV → List AObj → Prop) (σ : List AObj) : Option AV → Prop
  | some (.ptr r 0) => nextSR X σ r (hget σ r)
  | _ => False
theorem nextS_mono {σ : List AObj} {v : Option AV} {X Y : AV → List AObj → Prop} (hn : ∀ v σ, X v σ → Y v σ) (h : nextS X σ v) : nextS Y σ v := by
  unfold nextS at h ⊢
  split at h
  · unfold nextSR at h ⊢
    split at h
    · unfold nextSB at h ⊢
      split at h
      · exact ⟨h.1, hn _ _ h.2⟩
      · exact hn _ _ h
    · exact h
  · exact h
theorem cell_of_siter {w : World} {b p : Nat} {s : ByteArray} {q : Nat} (h : w.heap[b]? = some (.stringIter s q)) : w.cell? ⟨b, p, none⟩ = none := by simp [World.cell?, h]
theorem decode_small {s : ByteArray} {i : Nat} {b : UInt8} (h : s[i]? = some b) (hb : b.toNat < 128) : Utf8.decode s i = (b.toNat, 1) := by
  obtain ⟨hi, he⟩ := getElem?_eq_some_iff.1 h
  have hg : s.get! (i + 0) = b := by
    rw [Nat.add_zero, ← he]
    show s.data[i]! = _
    have hi2 : i < s.data.size := hi
    rw [getElem!_pos s.data i hi2]
    rfl
  simp only [Utf8.decode, hg]
  rw [if_pos hb]
theorem strNext_sound {σ : List AObj} {w : World} (hR : R K σ w) {a : AV} {ca : Value} (ha : VR K σ.length a ca) {T : TypeId} {X : AV → List AObj → Prop} (hX : nextS X σ (some a)) :
    ∃ v σ' c' w', (Instr.next ca true T).run P w = .ok c' w' ∧ X v σ' ∧ VR K σ'.length v c' ∧ R K σ' w' ∧ Step K σ w K σ' w' := by
  unfold nextS at hX
  split at hX
  · rename_i r he
    simp at he; subst he
    unfold nextSR at hX
    split at hX
    · rename_i s pos hg
      obtain ⟨hr, rfl⟩ := ha.ptr_inv
      have g1 : w.heap[K.φ r]? = some (.stringIter s pos) := hR.obj r _ hg
      have hget : (getObj (K.φ r)).run P w = .ok (.stringIter s pos) w := by simp [getObj, Sem.run, g1]
      cases hb : s[pos]? with
      | some b =>
        rw [hb] at hX
        simp only [nextSB] at hX
        obtain ⟨hlt, hX⟩ := hX
        obtain ⟨hi, _⟩ := getElem?_eq_some_iff.1 hb
        have hi' : pos < s.size := hi
        obtain ⟨r1, r2⟩ := hR.turnFlat hg rfl (fun p => cell_of_siter g1) (lt_of_heap g1) (.siter s (pos + 1)) (.stringIter s (pos + 1)) (fun b hb => hb) (by show frz w.heap[K.φ r]? = _; rw [g1]; rfl) (fun w' hw' => hw')
        have hset : (setObj (K.φ r) (.stringIter s (pos + 1))).run P w = .ok () { w with heap := w.heap.setIfInBounds (K.φ r) (.stringIter s (pos + 1)) } := by simp [setObj, Sem.run, g1]
        refine ⟨_, _, .tuple #[.bool true, .int .i64 pos, .int .i32 b.toNat], _, ?_, hX, ?_, r1, r2⟩
        · simp only [Instr.next, Sem.run_bind, hget, Result.andThen_ok, hi', if_true, decode_small hb hlt, hset, Sem.run_pure]
          rfl
        · exact VRs.tup (cs := #[.bool true, .int .i64 pos, .int .i32 b.toNat]) (.cons (.bool _) (.cons (.int _ _) (.cons (.int _ _) .nil)))
      | none =>
        rw [hb] at hX
        simp only [nextSB] at hX
        have hi : ¬ pos < s.size := fun h => by
          rw [getElem?_pos s pos h] at hb; cases hb
        refine ⟨_, _, .tuple #[.bool false], w, ?_, hX, VRs.tup (cs := #[.bool false]) (.cons (.bool _) .nil), hR, .refl _ _ _⟩
        simp only [Instr.next, Sem.run_bind, hget, Result.andThen_ok, hi, if_false, Sem.run_pure]
    · exact hX.elim
  · exact hX.elim
end Go.Mu
