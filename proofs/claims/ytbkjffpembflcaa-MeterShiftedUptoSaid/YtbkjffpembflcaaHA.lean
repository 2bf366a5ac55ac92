/- Texts of a proof: lemmas. -/
import Derived.Test.YtbkjffpembflcaaBF
import Derived.Test.YtbkjffpembflcaaAK
import Derived.Test.YtbkjffpembflcaaGB
set_option linter.unusedSimpArgs false
set_option linter.unusedVariables false
set_option maxRecDepth 100000
namespace Go.Proofs
open Go Go.Mu

/-- All orders of few numbers. -/
def permsL : Nat → List (List Int)
  | 0 => [[]]
  | 1 => [[0]]
  | 2 => [[0, 1], [1, 0]]
  | 3 => [[0, 1, 2], [0, 2, 1], [1, 0, 2], [1, 2, 0], [2, 0, 1], [2, 1, 0]]
  | _ => []
structure PermP (n : Nat) (P Q : List Int) : Prop where
  lp : P.length = n
  lq : Q.length = n
  p : ∀ i : Nat, i < n → 0 ≤ tg P i ∧ tg P i < n ∧ tg Q (tg P i) = i
  q : ∀ i : Nat, i < n → 0 ≤ tg Q i ∧ tg Q i < n ∧ tg P (tg Q i) = i
theorem PermP.symm {n : Nat} {P Q : List Int} (h : PermP n P Q) : PermP n Q P := ⟨h.lq, h.lp, h.q, h.p⟩
theorem PermP.pi {n : Nat} {P Q : List Int} (h : PermP n P Q) {x : Int} (hx : 0 ≤ x ∧ x < n) : 0 ≤ tg P x ∧ tg P x < n ∧ tg Q (tg P x) = x := by
  have := h.p x.toNat (by omega)
  rwa [show ((x.toNat : Nat) : Int) = x by omega] at this
theorem perm_inv : ∀ n, n ≤ 3 → ∀ P ∈ permsL n, ∃ Q, PermP n P Q := by
  intro n hn P hP
  rcases (by omega : n = 0 ∨ n = 1 ∨ n = 2 ∨ n = 3) with rfl | rfl | rfl | rfl
  · simp [permsL] at hP; subst hP; exact ⟨[], rfl, rfl, by decide, by decide⟩
  · simp [permsL] at hP; subst hP; exact ⟨[0], rfl, rfl, by decide, by decide⟩
  · simp [permsL] at hP
    rcases hP with rfl | rfl
    · exact ⟨[0, 1], rfl, rfl, by decide, by decide⟩
    · exact ⟨[1, 0], rfl, rfl, by decide, by decide⟩
  · simp [permsL] at hP
    rcases hP with rfl | rfl | rfl | rfl | rfl | rfl
    · exact ⟨[0, 1, 2], rfl, rfl, by decide, by decide⟩
    · exact ⟨[0, 2, 1], rfl, rfl, by decide, by decide⟩
    · exact ⟨[1, 0, 2], rfl, rfl, by decide, by decide⟩
    · exact ⟨[2, 0, 1], rfl, rfl, by decide, by decide⟩
    · exact ⟨[1, 2, 0], rfl, rfl, by decide, by decide⟩
    · exact ⟨[2, 1, 0], rfl, rfl, by decide, by decide⟩
/-- A reading of tongues that have other numbers. -/
def permR (P : List Int) (r : Rd) : Rd := ⟨r.kind, tg P r.a, if r.kind = 1 then r.b else tg P r.b, r.sec, r.shown⟩
structure PermE (P : List Int) (e e' : Ear) : Prop where
  sl : e'.slack = e.slack
  len : e'.tones.length = e.tones.length
  tn : ∀ i : Nat, i < e.tones.length → e'.tones.getD (tg P i).toNat default = e.tones.getD i default
  rd : e'.rds = e.rds.map (permR P)
theorem rd_idx {e : Ear} (hc : ck e = 0) {r : Rd} (hr : r ∈ e.rds) : (0 ≤ r.a ∧ r.a < e.tones.length) ∧ (r.kind ≠ 1 → 0 ≤ r.b ∧ r.b < e.tones.length) := by
  have h1 := ck_rd hc r hr
  have h2 := okR_of_ck (okE_of_ck hc).len h1
  obtain ⟨x1, x2⟩ := ckR_idx h1
  exact ⟨⟨h2.2.1.1, x1⟩, fun h => ⟨h2.2.2.1.1, x2 h⟩⟩
theorem permR_inv {n : Nat} {P Q : List Int} (h : PermP n P Q) {r : Rd} (ha : 0 ≤ r.a ∧ r.a < n) (hb : r.kind ≠ 1 → 0 ≤ r.b ∧ r.b < n) : permR Q (permR P r) = r := by
  obtain ⟨k, a, b, s, x⟩ := r
  simp only at ha hb
  simp only [permR, Rd.mk.injEq, true_and, and_true]
  refine ⟨(h.pi ha).2.2, ?_⟩
  split
  · rfl
  · rename_i hk; exact (h.pi (hb hk)).2.2
theorem permE_symm {P Q : List Int} {e e' : Ear} (hc : ck e = 0) (hP : PermP e.tones.length P Q) (h : PermE P e e') : PermE Q e' e := by
  refine ⟨h.sl.symm, h.len.symm, fun i hi => ?_, ?_⟩
  · rw [h.len] at hi
    obtain ⟨q1, q2, q3⟩ := hP.q i hi
    have := h.tn (tg Q i).toNat (by omega)
    rw [show (((tg Q i).toNat : Nat) : Int) = tg Q i by omega, q3] at this
    simpa using this.symm
  · rw [h.rd, List.map_map]
    conv => lhs; rw [← List.map_id e.rds]
    apply List.map_congr_left
    intro r hr
    obtain ⟨h1, h2⟩ := rd_idx hc hr
    exact (permR_inv hP h1 h2).symm
theorem permE_ck {P Q : List Int} {e e' : Ear} (hc : ck e = 0) (hP : PermP e.tones.length P Q) (h : PermE P e e') : ck e' = 0 := by
  have hrd := ck_rd hc
  have ht : ∀ x ∈ e.tones, ckT x = 0 := firstE_all (by simp only [ck] at hc; grind)
  have hs := permE_symm hc hP h
  have h1 : firstE ckT e'.tones = 0 := firstE_zero fun i hi => by
    have hq := hP.q i (by rw [← h.len]; exact hi)
    have := hs.tn i hi
    rw [getD_eq hi, getD_eq (by omega)] at this
    rw [← this]; exact ht _ (List.getElem_mem _)
  have h2 : firstE (fun r => ckR r e'.tones.length) e'.rds = 0 := firstE_zero fun i hi => by
    have hm : e'.rds[i] ∈ e.rds.map (permR P) := by rw [← h.rd]; exact List.getElem_mem _
    obtain ⟨r, hr, he⟩ := List.mem_map.1 hm
    simp only [← he, h.len]
    have h0 := hrd r hr
    obtain ⟨i1, i2⟩ := rd_idx hc hr
    have p1 := hP.pi i1
    obtain ⟨k, a, b, s, x⟩ := r
    simp only at i1 i2 p1
    by_cases hk : k = 1
    · subst hk
      simp only [permR, ckR] at h0 ⊢
      simp only [if_true]
      grind
    · have p2 := hP.pi (i2 hk)
      have hab : tg P b = tg P a → b = a := fun e => by rw [← p2.2.2, e, p1.2.2]
      simp only [permR, ckR, if_neg hk] at h0 ⊢
      grind
  have hl : e'.rds.length = e.rds.length := by rw [h.rd, List.length_map]
  have hsl := h.sl
  have hlen := h.len
  simp only [ck] at hc ⊢
  rw [h1, h2, hl, hsl, hlen]
  grind
theorem isR_of {r r' : Rd} {sl : Int} {t t' : List Int} (hk : r'.kind = r.kind) (hs : r'.sec = r.sec) (hw : r'.shown = r.shown) (ha : tg t' r'.a = tg t r.a) (hb : r.kind ≠ 1 → tg t' r'.b = tg t r.b) : isR r' sl t' = isR r sl t := by
  unfold isR
  rw [hk, hs, hw, ha]
  by_cases h : r.kind = 1
  · simp only [if_pos h]
  · simp only [if_neg h]
    rw [hb h]
theorem perm_sub {P Q : List Int} {e e' : Ear} (hc : ck e = 0) (hP : PermP e.tones.length P Q) (h : PermE P e e') {t' : List Int} (ht : t' ∈ truthsL e') : ∃ t ∈ truthsL e, ∀ i : Nat, i < e.tones.length → tg t i = tg t' (tg P i) := by
  have hlen := (okE_of_ck hc).len
  rw [truthsL_filter, List.mem_filter, mem_allC (by rw [h.len]; exact hlen)] at ht
  obtain ⟨⟨hl3, hin⟩, hf⟩ := ht
  have hT : ∀ i : Nat, i < e.tones.length → tg (padT ((List.range e.tones.length).map fun (i : Nat) => tg t' (tg P i))) i = tg t' (tg P i) := fun i hi => by
    rw [tg_pad, tgE (by simpa using hi)]; simp
  refine ⟨padT ((List.range e.tones.length).map fun (i : Nat) => tg t' (tg P i)), ?_, hT⟩
  rw [truthsL_filter, List.mem_filter, mem_allC hlen]
  refine ⟨⟨padT_len' (by simpa using hlen), fun i hi => ?_⟩, ?_⟩
  · by_cases hin' : i < e.tones.length
    · rw [if_pos hin', hT i hin']
      obtain ⟨p1, p2, _⟩ := hP.p i hin'
      have := hin (tg P i).toNat (by omega)
      rw [if_pos (by rw [h.len]; omega), h.tn i hin', show (((tg P i).toNat : Nat) : Int) = tg P i by omega] at this
      exact this
    · rw [if_neg hin', tg_pad]
      unfold tg List.getD
      rw [List.getElem?_eq_none (by simp; omega)]; rfl
  · unfold fitsR at hf ⊢
    rw [List.all_eq_true] at hf ⊢
    intro r hr
    have h1 := hf (permR P r) (by rw [h.rd]; exact List.mem_map_of_mem hr)
    obtain ⟨i1, i2⟩ := rd_idx hc hr
    have ha := hT r.a.toNat (by omega)
    rw [show ((r.a.toNat : Nat) : Int) = r.a by omega] at ha
    rw [h.sl] at h1
    rw [← isR_of (r := r) (r' := permR P r) (t := padT ((List.range e.tones.length).map fun (i : Nat) => tg t' (tg P i))) (t' := t') rfl rfl rfl ha.symm (fun hk => by
      obtain ⟨i3, i4⟩ := i2 hk
      have hb := hT r.b.toNat (by omega)
      rw [show ((r.b.toNat : Nat) : Int) = r.b by omega] at hb
      simp only [permR, if_neg hk]
      exact hb.symm)]
    exact h1
/-- Spans of numbers that are so much greater. -/
theorem span_shift {f g : List Int → Int} {L L' : List (List Int)} (c : Int) (hL : L ≠ []) (hL' : L' ≠ []) (h1 : ∀ t ∈ L, ∃ t' ∈ L', g t' = f t + c) (h2 : ∀ t' ∈ L', ∃ t ∈ L, g t' = f t + c) : spanL g L' = ⟨(spanL f L).lo + c, (spanL f L).hi + c⟩ := by
  obtain ⟨a1, ⟨t1, m1, e1⟩, ⟨t2, m2, e2⟩⟩ := spanL_spec (num := f) hL
  obtain ⟨b1, ⟨u1, n1, d1⟩, ⟨u2, n2, d2⟩⟩ := spanL_spec (num := g) hL'
  obtain ⟨v1, w1, x1⟩ := h1 t1 m1
  obtain ⟨v2, w2, x2⟩ := h1 t2 m2
  obtain ⟨v3, w3, x3⟩ := h2 u1 n1
  obtain ⟨v4, w4, x4⟩ := h2 u2 n2
  have y1 := b1 v1 w1
  have y2 := b1 v2 w2
  have y3 := a1 v3 w3
  have y4 := a1 v4 w4
  generalize spanL g L' = X at *
  generalize spanL f L = Y at *
  obtain ⟨x, y⟩ := X
  obtain ⟨z, w⟩ := Y
  simp only at *
  simp only [Rng.mk.injEq]
  omega
theorem tonesL_of {e : Ear} (hc : ck e = 0) (hn : truthsL e ≠ []) : tonesL e = ((List.range e.tones.length).map fun (i : Nat) => spanL (fun t => tg t i) (truthsL e), 0) := by
  have : knownL e = (truthsL e, 0) := by unfold knownL; rw [if_neg (by simp [hc]), if_neg hn]
  unfold tonesL; rw [this]; rfl
end Go.Proofs
set_option linter.unusedSimpArgs false
set_option linter.unusedVariables false
set_option maxRecDepth 100000
namespace Go.Proofs
open Go Go.Mu

def shT (c : Int) (x : Rng) : Rng := ⟨x.lo + c, x.hi + c⟩
/-- The first tones are so much greater. -/
def shA (n : Nat) (c : Int) (t : List Int) : List Int := (List.range 3).map fun (i : Nat) => if i < n then tg t i + c else tg t i
theorem shA_len {n : Nat} {c : Int} {t : List Int} : (shA n c t).length = 3 := by simp [shA]
theorem tg_shA {n : Nat} {c : Int} {t : List Int} {i : Nat} (hi : i < 3) : tg (shA n c t) i = if i < n then tg t i + c else tg t i := by
  rw [tgE (by rw [shA_len]; exact hi)]
  simp [shA]
theorem shA_set {a : Nat} {c v : Int} {t : List Int} (ha : a < 3) (ht : t.length = 3) : setI (shA a c t) a (v + c) = shA (a + 1) c (setI t a v) := by
  apply List.ext_getElem
  · rw [setI_len, shA_len, shA_len]
  · intro i h1 h2
    rw [shA_len] at h2
    have e1 := tg_setI (t := shA a c t) (a := a) (x := v + c) (by rw [shA_len]; exact ha) i
    have e2 := tg_shA (n := a + 1) (c := c) (t := setI t a v) h2
    have e3 := tg_setI (t := t) (a := a) (x := v) (by omega) i
    have e4 := tg_shA (n := a) (c := c) (t := t) h2
    rw [tgE h1] at e1
    rw [tgE (by rw [shA_len]; exact h2)] at e2
    rw [e1, e2, e3, e4]
    by_cases h : i = a
    · subst h; simp
    · rw [if_neg h, if_neg h]
      by_cases h3 : i < a
      · rw [if_pos h3, if_pos (by omega)]
      · rw [if_neg h3, if_neg (by omega)]
theorem allT_shift (ts : List Rng) (c : Int) (hlen : ts.length ≤ 3) : ∀ (m : Nat) (t : List Int) (a : Nat), a + m = ts.length → t.length = 3 → allT ⟨0, ts.map (shT c), []⟩ m (shA a c t) a = (allT ⟨0, ts, []⟩ m t a).map (shA ts.length c)
  | 0, t, a, h, _ => by
    simp only [allT, List.all_nil, if_true, List.map_cons, List.map_nil]
    rw [show a = ts.length by omega]
  | m + 1, t, a, h, ht => by
    simp only [allT]
    have ha : a < ts.length := by omega
    have e1 : (ts.map (shT c)).getD a default = shT c ts[a] := by rw [getD_eq (by simpa using ha)]; simp
    have e2 : ts.getD a default = ts[a] := getD_eq ha
    rw [e1, e2, List.map_flatMap]
    simp only [shT]
    rw [show ts[a].hi + c - (ts[a].lo + c) + 1 = ts[a].hi - ts[a].lo + 1 by omega]
    congr 1
    funext k
    rw [show ts[a].lo + c + (k : Int) = (ts[a].lo + k) + c by omega, shA_set (by omega) ht]
    exact allT_shift ts c hlen m _ (a + 1) (by omega) (by rw [setI_len]; exact ht)
theorem allC_shift (ts : List Rng) (c : Int) (hlen : ts.length ≤ 3) : allC (ts.map (shT c)) = (allC ts).map (shA ts.length c) := by
  have h := allT_shift ts c hlen ts.length [0, 0, 0] 0 (by omega) rfl
  have e : shA 0 c [0, 0, 0] = [0, 0, 0] := by simp [shA, List.range_succ, tg]
  rw [e] at h
  unfold allC truthsL
  simp only [List.length_map]
  exact h
theorem isR_shift {r : Rd} {sl c : Int} {n : Nat} {t : List Int} (hn : n ≤ 3) (hk : r.kind ≠ 1) (ha : 0 ≤ r.a ∧ r.a < n) (hb : 0 ≤ r.b ∧ r.b < n) : isR r sl (shA n c t) = isR r sl t := by
  have e1 := tg_shA (n := n) (c := c) (t := t) (i := r.a.toNat) (by omega)
  have e2 := tg_shA (n := n) (c := c) (t := t) (i := r.b.toNat) (by omega)
  rw [if_pos (by omega)] at e1 e2
  rw [show ((r.a.toNat : Nat) : Int) = r.a by omega] at e1
  rw [show ((r.b.toNat : Nat) : Int) = r.b by omega] at e2
  unfold isR
  rw [if_neg hk, if_neg hk, e1, e2]
  have hd : dist (tg t r.a + c) (tg t r.b + c) = dist (tg t r.a) (tg t r.b) := by unfold dist; rw [show tg t r.a + c - (tg t r.b + c) = tg t r.a - tg t r.b by omega, show tg t r.b + c - (tg t r.a + c) = tg t r.b - tg t r.a by omega]
  rw [hd]
  congr 1
  rw [decide_eq_decide]
  omega
theorem truthsL_shift {sl c : Int} {ts : List Rng} {rs : List Rd} (hlen : ts.length ≤ 3) (hk : ∀ r ∈ rs, r.kind ≠ 1 ∧ (0 ≤ r.a ∧ r.a < ts.length) ∧ (0 ≤ r.b ∧ r.b < ts.length)) : truthsL ⟨sl, ts.map (shT c), rs⟩ = (truthsL ⟨sl, ts, rs⟩).map (shA ts.length c) := by
  rw [truthsL_filter, truthsL_filter]
  simp only
  rw [allC_shift ts c hlen, List.filter_map]
  congr 2
  funext t
  simp only [Function.comp, fitsR]
  rw [Bool.eq_iff_iff, List.all_eq_true, List.all_eq_true]
  constructor
  · intro h r hr
    obtain ⟨h1, h2, h3⟩ := hk r hr
    rw [← isR_shift hlen h1 h2 h3]; exact h r hr
  · intro h r hr
    obtain ⟨h1, h2, h3⟩ := hk r hr
    rw [isR_shift hlen h1 h2 h3]; exact h r hr
/-- The readings of beats and sides. -/
def keptL (rs : List Rd) : List Rd := rs.filter fun r => decide (r.kind ≠ 1)
theorem ck_sub {e : Ear} {R : List Rd} (h : ck e = 0) (hl : R.length ≤ e.rds.length) (hR : ∀ r ∈ R, r ∈ e.rds) : ck ⟨e.slack, e.tones, R⟩ = 0 := by
  have h2 : firstE (fun r => ckR r e.tones.length) R = 0 := firstE_zero fun i hi => ck_rd h _ (hR _ (List.getElem_mem hi))
  simp only [ck] at h ⊢
  rw [h2]
  grind
structure ShiftP (e : Ear) (c : Int) (A : List Rng) (N : Nat) : Prop where
  a : tonesL ⟨e.slack, e.tones, keptL e.rds⟩ = (A, 0)
  b : tonesL ⟨e.slack, e.tones.map (shT c), keptL e.rds⟩ = (A.map (shT c), 0)
  n : truthsN ⟨e.slack, e.tones, keptL e.rds⟩ = ((N : Int), 0)
  m : truthsN ⟨e.slack, e.tones.map (shT c), keptL e.rds⟩ = ((N : Int), 0)
  len : A.length = e.tones.length
  bd : ∀ x ∈ A, (0 ≤ x.lo ∧ x.lo ≤ 1000000) ∧ (0 ≤ x.hi ∧ x.hi ≤ 1000000)
theorem shiftP {m n w : Int} {e : Ear} {T : List Int} (h : EarP m n w e T) (hw : w ≤ 10) {c : Int} (hc : 0 ≤ c ∧ c ≤ 1000) : ∃ A N, ShiftP e c A N := by
  have hck := h.ck
  have hlen := (okE_of_ck hck).len
  have hk1 : ck ⟨e.slack, e.tones, keptL e.rds⟩ = 0 := ck_sub hck (List.length_filter_le _ _) fun r hr => (List.mem_filter.1 hr).1
  have hkd : ∀ r ∈ keptL e.rds, r.kind ≠ 1 ∧ (0 ≤ r.a ∧ r.a < e.tones.length) ∧ (0 ≤ r.b ∧ r.b < e.tones.length) := fun r hr => by
    obtain ⟨h1, h2⟩ := List.mem_filter.1 hr
    have h2 := of_decide_eq_true h2
    obtain ⟨h3, h4⟩ := rd_idx hck h1
    exact ⟨h2, h3, h4 h2⟩
  have hsh := truthsL_shift (sl := e.slack) (c := c) hlen hkd
  have ht : padT T ∈ truthsL ⟨e.slack, e.tones, keptL e.rds⟩ := by
    have := h.truth
    rw [truthsL_filter, List.mem_filter] at this ⊢
    refine ⟨this.1, ?_⟩
    have h2 := this.2
    unfold fitsR at h2 ⊢
    rw [List.all_eq_true] at h2 ⊢
    exact fun r hr => h2 r (List.mem_filter.1 hr).1
  have hn1 : truthsL ⟨e.slack, e.tones, keptL e.rds⟩ ≠ [] := fun e' => by rw [e'] at ht; cases ht
  have hn2 : truthsL ⟨e.slack, e.tones.map (shT c), keptL e.rds⟩ ≠ [] := fun e' => by rw [hsh, List.map_eq_nil_iff] at e'; exact hn1 e'
  have hk2 : ck ⟨e.slack, e.tones.map (shT c), keptL e.rds⟩ = 0 := by
    have f1 : firstE ckT (e.tones.map (shT c)) = 0 := firstE_zero fun i hi => by
      rw [List.getElem_map]
      have hi' : i < e.tones.length := by simpa using hi
      have hiT : i < T.length := by rw [← h.len]; exact hi'
      have h1 := h.rng i hiT hi'
      have h2 := h.bd _ (List.getElem_mem hiT)
      have h3 := (okE_of_ck hck).tone _ (List.getElem_mem hi')
      simp only [ckT, shT]; grind
    simp only [ck, List.length_map] at hk1 ⊢
    rw [f1]
    grind
  refine ⟨_, _, tonesL_of hk1 hn1, ?_, by unfold truthsN; rw [if_pos hk1], by unfold truthsN; rw [if_pos hk2, hsh, List.length_map], by simp, fun x hx => ?_⟩
  rotate_left
  · obtain ⟨i, _, rfl⟩ := List.mem_map.1 hx
    obtain ⟨_, ⟨t1, m1, e1⟩, ⟨t2, m2, e2⟩⟩ := spanL_spec (num := fun t => tg t (i : Int)) hn1
    rw [← e1, ← e2]
    exact ⟨small_tg (truthsL_ok (okE_of_ck hk1) t1 m1).2 _, small_tg (truthsL_ok (okE_of_ck hk1) t2 m2).2 _⟩
  rw [tonesL_of hk2 hn2]
  simp only [List.length_map, List.map_map, Prod.mk.injEq, and_true]
  apply List.map_congr_left
  intro i hi
  have hi' := List.mem_range.1 hi
  simp only [Function.comp, shT]
  refine span_shift c hn1 hn2 (fun t ht => ⟨shA e.tones.length c t, by rw [hsh]; exact List.mem_map_of_mem ht, ?_⟩) (fun t' ht' => ?_)
  · rw [tg_shA (by omega), if_pos hi']
  · rw [hsh] at ht'
    obtain ⟨t, ht, rfl⟩ := List.mem_map.1 ht'
    exact ⟨t, ht, by rw [tg_shA (by omega), if_pos hi']⟩
structure OrderP (P : List Int) (e e' : Ear) (A B : List Rng) : Prop where
  a : tonesL e = (A, 0)
  b : tonesL e' = (B, 0)
  la : A.length = e.tones.length
  lb : B.length = e.tones.length
  eq : ∀ i : Nat, i < e.tones.length → B.getD (tg P i).toNat default = A.getD i default
theorem orderP {P Q : List Int} {e e' : Ear} (hc : ck e = 0) (hn : truthsL e ≠ []) (hP : PermP e.tones.length P Q) (h : PermE P e e') : ∃ A B, OrderP P e e' A B := by
  have hc' := permE_ck hc hP h
  have hs := permE_symm hc hP h
  have hP' : PermP e'.tones.length Q P := by rw [h.len]; exact hP.symm
  have hn' : truthsL e' ≠ [] := by
    obtain ⟨t, ht⟩ := List.exists_mem_of_ne_nil _ hn
    obtain ⟨t', ht', _⟩ := perm_sub hc' hP' hs ht
    exact fun e'' => by rw [e''] at ht'; cases ht'
  refine ⟨_, _, tonesL_of hc hn, tonesL_of hc' hn', by simp, by simp [h.len], fun i hi => ?_⟩
  obtain ⟨p1, p2, p3⟩ := hP.p i hi
  rw [getD_eq (by simp [h.len]; omega), getD_eq (by simpa using hi)]
  simp only [List.getElem_map, List.getElem_range]
  rw [show (((tg P i).toNat : Nat) : Int) = tg P i by omega]
  have := span_shift (f := fun t => tg t (i : Int)) (g := fun t => tg t (tg P i)) 0 hn hn' (fun t ht => ?_) (fun t' ht' => ?_)
  · rw [this]; simp
  · obtain ⟨t', ht', hi2⟩ := perm_sub hc' hP' hs ht
    refine ⟨t', ht', ?_⟩
    have := hi2 (tg P i).toNat (by rw [h.len]; omega)
    rw [show (((tg P i).toNat : Nat) : Int) = tg P i by omega, p3] at this
    rw [this]; omega
  · obtain ⟨t, ht, hi2⟩ := perm_sub hc hP h ht'
    exact ⟨t, ht, by rw [hi2 i hi]; omega⟩
end Go.Proofs
set_option linter.unusedSimpArgs false
set_option linter.unusedVariables false
set_option maxRecDepth 100000
namespace Go.Proofs
open Go Go.Mu

def Try.ordX21 : Nat → List Nat × List (Nat × List Nat)
  | 1 => ([0, 1, 3, 0, 0, 16, 63, 55, 255, 511, 1023], [(0, []), (1, []), (3, []), (4, []), (5, []), (2, [5]), (7, []), (6, []), (8, []), (9, []), (10, [])])
  | _ => ([], [])
theorem Try.ordX21_1 : Try.ordX21 1 = ([0, 1, 3, 0, 0, 16, 63, 55, 255, 511, 1023], [(0, []), (1, []), (3, []), (4, []), (5, []), (2, [5]), (7, []), (6, []), (8, []), (9, []), (10, [])]) := rfl
attribute [go_sem] Try.ordX21_1
theorem rangesV_c (l : List Rng) (tk : Tok) (hl : l.length ≤ 4294967296) (σ : List AObj) (Q : AV → List AObj → Prop) (h : Q (.vec σ.length l.length) (σ ++ [.vec 2 (l.map Rng.av)])) :
    ACalls Try.prog 74 [.list tk 2 (l.map Rng.av)] σ Q := by
  refine ACalls.of_ev (E := Try.Ev 6 (fun _ => ([], [])) fs0) (Try.envOKV 6 (fun _ => ([], [])) fs0 fs0_ok) Try.kp74 Try.func74 rfl (by kernel_rfl) (by simp [Try.Ev]) (Callable.of Try.func74 (by kernel_rfl) (by kernel_rfl)) (by kernel_rfl) ?_
  simp -implicitDefEqProofs (maxSteps := 2000000) (disch := omega) only [go_sem, reduceCtorEq, Nat.reduceAdd, Nat.reduceSub, Nat.reduceMul, Nat.reduceLT, Nat.reduceLeDiff, Nat.reduceEqDiff, Nat.reduceBEq, Int.reduceToNat, Int.reduceLT, Int.reduceLE, Int.reduceEq, Int.reduceNeg, Int.reduceAdd, Int.reduceSub, Int.reduceMul, ↓reduceIte, Int.reduceBEq, Int.reduceBNe]
  exact h
theorem copyEarV_c (e : Ear) (h1 : e.tones.length ≤ 4294967296) (h2 : e.rds.length ≤ 4294967296) (σ : List AObj) (Q : AV → List AObj → Prop) (h : ∀ a b, Q (.agg [.int .i64 e.slack, .vec (σ.length + 2) e.tones.length, .vec (σ.length + 3) e.rds.length]) (σ ++ [a, b, .vec 2 (e.tones.map Rng.av), .vec 6 (e.rds.map Rd.av)])) :
    ACalls Try.prog 21 [e.av] σ Q := by
  refine ACalls.of_ev (E := Try.Ev 13 Try.ordX21 fs0) (Try.envOKV 13 Try.ordX21 fs0 fs0_ok) Try.kp21 Try.func21 rfl (by kernel_rfl) (by simp [Try.Ev]) (Callable.of Try.func21 (by kernel_rfl) (by kernel_rfl)) (by kernel_rfl) ?_
  simp only [Ear.av]
  simp -implicitDefEqProofs (maxSteps := 2000000) (disch := omega) only [go_sem, reduceCtorEq, Nat.reduceAdd, Nat.reduceSub, Nat.reduceMul, Nat.reduceLT, Nat.reduceLeDiff, Nat.reduceEqDiff, Nat.reduceBEq, Int.reduceToNat, Int.reduceLT, Int.reduceLE, Int.reduceEq, Int.reduceNeg, Int.reduceAdd, Int.reduceSub, Int.reduceMul, ↓reduceIte, Int.reduceBEq, Int.reduceBNe]
  refine rangesV_c e.tones .no h1 _ _ ?_
  simp -implicitDefEqProofs (maxSteps := 2000000) (disch := omega) only [go_sem, reduceCtorEq, Nat.reduceAdd, Nat.reduceSub, Nat.reduceMul, Nat.reduceLT, Nat.reduceLeDiff, Nat.reduceEqDiff, Nat.reduceBEq, Int.reduceToNat, Int.reduceLT, Int.reduceLE, Int.reduceEq, Int.reduceNeg, Int.reduceAdd, Int.reduceSub, Int.reduceMul, ↓reduceIte, Int.reduceBEq, Int.reduceBNe]
  exact h _ _
theorem mix_step : ∀ n, n ≤ 3 → ∀ i, i < n → ∀ q ∈ permsL i, ∀ k, k ≤ i → ∃ q' ∈ permsL (i + 1), (((q ++ List.replicate (n - i) (0 : Int)).set i ((q ++ List.replicate (n - i) (0 : Int)).getD k 0)).set k (i : Int)) = q' ++ List.replicate (n - (i + 1)) (0 : Int) := by decide
theorem permsL_len : ∀ n, n ≤ 3 → ∀ q ∈ permsL n, q.length = n := by decide
/-- A slot's list bears no mark. -/
theorem ARun.slotPlain {E : Env} {ro : Option Nat} {todo : List Item} {kp : Nat → Bool} {tm sl : List (Nat × AV)} {σ : List AObj} {Q : Post} (d : Nat) {t : Tok} {sz : Nat} {xs : List AV} (hd : kp d = true) (hl : lookA sl d = some (.list t sz xs))
    (h : ARun E ro todo ⟨kp, [], ins sl d (.list .no sz xs)⟩ σ Q) : ARun E ro todo ⟨kp, tm, sl⟩ σ Q := by
  refine h.mind fun K w tmps hR hF => ⟨K, hR, ⟨hF.1, fun t' v hv => ?_⟩, .refl _ _ _⟩
  have hv' : (if kp t' = true then lookA (ins sl d (.list .no sz xs)) t' else lookA [] t') = some v := hv
  by_cases hk : kp t' = true
  · rw [if_pos hk, lookA_ins] at hv'
    by_cases e : d = t'
    · subst e
      rw [if_pos rfl] at hv'; simp at hv'; subst hv'
      obtain ⟨c, k1, k2⟩ := hF.2 d (.list t sz xs) (by show (if kp d = true then lookA sl d else lookA tm d) = _; rw [if_pos hk]; exact hl)
      exact ⟨c, k1, Weak.no _ _ _ k2⟩
    · rw [if_neg e] at hv'
      exact hF.2 t' v (by show (if kp t' = true then lookA sl t' else lookA tm t') = _; rw [if_pos hk]; exact hv')
  · rw [if_neg hk] at hv'; cases hv'
theorem mapget {Y : List Int} {k : Nat} (h : k < Y.length) : (Y.map (AV.int .i64))[k]? = some (.int .i64 (Y.getD k 0)) := by
  rw [List.getElem?_map, List.getElem?_eq_getElem h]
  simp [List.getD, List.getElem?_eq_getElem h]
theorem mix_c (r n : Nat) (hn : 1 ≤ n ∧ n ≤ 3) (σ : List AObj) (hp : PotAt σ r) (Q : AV → List AObj → Prop) (h : ∀ s' P junk, P ∈ permsL n → Q (.list .no 1 (P.map (.int .i64))) (pw σ r s' ++ junk)) :
    ACalls Try.prog 39 [.ptr r 0, .int .i64 n] σ Q := by
  refine ACalls.froze ?_
  refine ACalls.of_ev (E := Try.E 31 (fun _ => ([], [])) fs0) (Try.envOK 31 (fun _ => ([], [])) fs0 fs0_ok) Try.kp39 Try.func39 rfl (by kernel_rfl) (by simp [Try.E]) (Callable.of Try.func39 (by kernel_rfl) (by kernel_rfl)) (by kernel_rfl) ?_
  have hr := hp.lt
  simp -implicitDefEqProofs (maxSteps := 2000000) (disch := omega) only [go_sem, reduceCtorEq, Nat.reduceAdd, Nat.reduceSub, Nat.reduceMul, Nat.reduceLT, Nat.reduceLeDiff, Nat.reduceEqDiff, Nat.reduceBEq, Int.reduceToNat, Int.reduceLT, Int.reduceLE, Int.reduceEq, Int.reduceNeg, Int.reduceAdd, Int.reduceSub, Int.reduceMul, ↓reduceIte, Int.reduceBEq, Int.reduceBNe, Int.toNat_natCast]
  obtain ⟨s0, hs0⟩ := hp
  refine ARun.loopA (α := Nat × List Int) (fun a => n - a.1) (fun a τ => (∃ s, τ = pw σ r s ++ [.vec 1 ((a.2 ++ List.replicate (n - a.1) 0).map (.int .i64))]) ∧ a.1 ≤ n ∧ a.2 ∈ permsL a.1) (fun a => [(6, .int .i64 a.1)]) (0, []) (by simp [upd, ins, subF, lookA]) ⟨⟨s0, ?_⟩, by simp, by simp [permsL]⟩ ?_
  · unfold pw
    rw [hset_same' hs0]; simp
  have hp : PotAt σ r := ⟨s0, hs0⟩
  clear hs0
  rintro ⟨i, q⟩ τ ⟨⟨s, rfl⟩, hi, hq⟩ ih
  simp only at hi hq ih ⊢
  have hql := permsL_len i (by omega) q hq
  have hXl : (q ++ List.replicate (n - i) (0 : Int)).length = n := by rw [List.length_append, List.length_replicate, hql]; omega
  by_cases hlt : i < n
  · have hst := mix_step n hn.2 i hlt q hq
    generalize hX : q ++ List.replicate (n - i) (0 : Int) = X at hXl hst ⊢
    refine ev_sound (Try.envOK 31 (fun _ => ([], [])) fs0 fs0_ok) (n := 1000) (by kernel_rfl) ?_
    simp -implicitDefEqProofs (maxSteps := 2000000) (disch := omega) only [go_sem, reduceCtorEq, Nat.reduceAdd, Nat.reduceSub, Nat.reduceMul, Nat.reduceLT, Nat.reduceLeDiff, Nat.reduceEqDiff, Nat.reduceBEq, Int.reduceToNat, Int.reduceLT, Int.reduceLE, Int.reduceEq, Int.reduceNeg, Int.reduceAdd, Int.reduceSub, Int.reduceMul, ↓reduceIte, Int.reduceBEq, Int.reduceBNe, length_pw, hget_pw0, hget_pw, hset_pw0, hset_pw]
    refine upto_c r (i : Int) (by omega) _ (hp.pw _).app _ fun s2 k hk1 hk2 => ?_
    rw [pw_pwa hr]
    have hk : 0 ≤ k ∧ k ≤ i := by omega
    clear hk1 hk2
    have hXk : (X.map (AV.int .i64))[k.toNat]? = some (.int .i64 (X.getD k.toNat 0)) := mapget (by omega)
    have hXi : (X.map (AV.int .i64))[i]? = some (.int .i64 X[i]) := by simp [List.getElem?_eq_getElem (show i < X.length by omega)]
    have hYk : ((X.set i (X.getD k.toNat 0)).map (AV.int .i64))[k.toNat]? = some (.int .i64 ((X.set i (X.getD k.toNat 0)).getD k.toNat 0)) := mapget (by rw [List.length_set]; omega)
    obtain ⟨q', hq', he⟩ := hst k.toNat (by omega)
    generalize X.getD k.toNat 0 = xk at hXk hYk he
    rw [List.map_set] at hYk
    simp -implicitDefEqProofs (maxSteps := 2000000) (disch := omega) only [go_sem, reduceCtorEq, Nat.reduceAdd, Nat.reduceSub, Nat.reduceMul, Nat.reduceLT, Nat.reduceLeDiff, Nat.reduceEqDiff, Nat.reduceBEq, Int.reduceToNat, Int.reduceLT, Int.reduceLE, Int.reduceEq, Int.reduceNeg, Int.reduceAdd, Int.reduceSub, Int.reduceMul, ↓reduceIte, Int.reduceBEq, Int.reduceBNe, length_pw, hget_pw0, hget_pw, hset_pw0, hset_pw, hXk, hXi, hYk, hXl, List.length_set]
    refine (ih (i + 1, q') _ (by simp only; omega) ⟨⟨s2, rfl⟩, by simp only; omega, hq'⟩).castS ?_ (by simp [upd, ins, subF, lookA])
    simp only
    rw [← he, List.map_set, List.map_set]
  · have hie : i = n := by omega
    subst hie
    clear ih
    refine ev_sound (Try.envOK 31 (fun _ => ([], [])) fs0 fs0_ok) (n := 1000) (by kernel_rfl) ?_
    simp -implicitDefEqProofs (maxSteps := 2000000) (disch := omega) only [go_sem, reduceCtorEq, Nat.reduceAdd, Nat.reduceSub, Nat.reduceMul, Nat.reduceLT, Nat.reduceLeDiff, Nat.reduceEqDiff, Nat.reduceBEq, Int.reduceToNat, Int.reduceLT, Int.reduceLE, Int.reduceEq, Int.reduceNeg, Int.reduceAdd, Int.reduceSub, Int.reduceMul, ↓reduceIte, Int.reduceBEq, Int.reduceBNe, length_pw, hget_pw0, hget_pw, hset_pw0, hset_pw]
    rw [Nat.sub_self, List.replicate_zero, List.append_nil]
    refine ⟨σ.length, 1, q.map (.int .i64), by simp [hql], by rw [hget_pw0]; rfl, ?_⟩
    rw [hset_pw0]
    exact h s q [.dead] hq
end Go.Proofs
