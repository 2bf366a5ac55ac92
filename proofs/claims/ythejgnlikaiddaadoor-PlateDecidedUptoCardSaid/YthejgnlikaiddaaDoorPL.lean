/- Texts of a proof: lemmas. -/
import Derived.Test.YthejgnlikaiddaaDoorPK1
import Derived.Test.YthejgnlikaiddaaDoorPJ0
set_option linter.unusedSimpArgs false
set_option linter.unusedVariables false
set_option maxRecDepth 100000
namespace Go.Proofs
open Go Go.Mu

def mapU (m : List (Int × Nat)) : List (AV × AV) := m.map fun p => (AV.int .i64 p.1, AV.int .u64 (p.2 : Int))
theorem lookU {m : List (Int × Nat)} {k : Int} {σ : List AObj} : lookR false (.int .u64 0) σ (findA (.int .i64 k) (mapU m) 0) = some (.int .u64 (((mget m k).getD 0 : Nat) : Int), σ) := by
  have := lookR_map (f := fun n : Nat => AV.int .u64 (n : Int)) (m := m) (k := k) (ok := false) (z := .int .u64 0) (σ := σ)
  unfold mapU; rw [this]
  cases mget m k <;> rfl
theorem updU {m : List (Int × Nat)} {k : Int} {v : Nat} {r : Nat} {σ : List AObj} : updR r (mapU m) (.int .i64 k) (.int .u64 (v : Int)) σ (findA (.int .i64 k) (mapU m) 0) = some (.tup [], hset σ r (.map (mapU (mset m k v)))) := updR_map (f := fun n : Nat => AV.int .u64 (n : Int))
attribute [go_sem] lookU updU
/-- What is left of some truths if a feature is found to look so. -/
def lookS (now : Nat) (f : Int) (m : List (Int × Nat)) (q : Made × Nat) : List (Int × Nat) :=
  if now.testBit q.2 then mset m (tg q.1.look f) ((mget m (tg q.1.look f)).getD 0 ||| 2 ^ q.2) else m
def looksM (now : Nat) (l : List Made) (f : Int) : List (Int × Nat) := l.zipIdx.foldl (lookS now f) []
theorem lookS_lt {now : Nat} {f : Int} {l : List Made} : ∀ i, i ≤ l.length → ∀ p ∈ (l.zipIdx.take i).foldl (lookS now f) [], p.2 < 2 ^ i
  | 0, _, p, hp => by simp at hp
  | i + 1, hi, p, hp => by
    have hz : i < l.zipIdx.length := by rw [List.length_zipIdx]; omega
    rw [foldl_take _ _ _ _ hz] at hp
    have ih := lookS_lt (now := now) (f := f) (l := l) i (by omega)
    have hle : (2 : Nat) ^ i ≤ 2 ^ (i + 1) := Nat.pow_le_pow_right (by omega) (by omega)
    have hlt : (2 : Nat) ^ i < 2 ^ (i + 1) := by rw [Nat.pow_succ]; have := Nat.one_le_two_pow (n := i); omega
    have e : (l.zipIdx[i]).2 = i := by simp
    generalize (l.zipIdx.take i).foldl (lookS now f) [] = m at hp ih
    generalize l.zipIdx[i] = q at hp e
    unfold lookS at hp
    split at hp
    · rcases mset_mem hp with rfl | hp
      · show ((mget m (tg q.1.look f)).getD 0 ||| 2 ^ q.2) < _
        rw [e]
        refine Nat.or_lt_two_pow ?_ hlt
        cases hg : mget m (tg q.1.look f) with
        | none => show 0 < _; omega
        | some v => have := ih _ (mget_mem hg); show v < _; simp only at this; omega
      · have := ih p hp; omega
    · have := ih p hp; omega
set_option maxHeartbeats 4000000 in
theorem looks_c (now : Nat) (l : List Made) (f : Int) (hn : now < 65536) (hl : l.length ≤ 16) (hf : 0 ≤ f ∧ f < 4) (σ : List AObj) (Q : AV → List AObj → Prop) (h : ∀ j, Q (.map σ.length) (σ ++ .map (mapU (looksM now l f)) :: j)) :
    ACalls Tryd.prog 59 [.list .no 8 (l.map Made.av), .int .u64 now, .int .i64 f] σ Q := by
  refine ACalls.of_ev (E := Tryd.E 38 Tryd.ord59 fs16) (Tryd.envOK 38 Tryd.ord59 fs16 fs16_ok) Tryd.kp59 Tryd.func59 rfl (by kernel_rfl) (by simp [Tryd.E]) (Callable.of Tryd.func59 (by kernel_rfl) (by kernel_rfl)) (by kernel_rfl) ?_
  simp -implicitDefEqProofs (maxSteps := 2000000) (disch := omega) only [go_sem, reduceCtorEq, Nat.reduceAdd, Nat.reduceSub, Nat.reduceMul, Nat.reduceLT, Nat.reduceLeDiff, Nat.reduceEqDiff, Nat.reduceBEq, Int.reduceToNat, Int.reduceLT, Int.reduceLE, Int.reduceEq, Int.reduceNeg, Int.reduceAdd, Int.reduceSub, Int.reduceMul, ↓reduceIte, Int.reduceBEq, Int.reduceBNe]
  have hM : looksM now l f = (l.zipIdx.take l.length).foldl (lookS now f) [] := by rw [List.take_of_length_le (by rw [List.length_zipIdx]; omega)]; rfl
  rw [hM] at h
  refine ARun.forS (Tryd.envOK 38 Tryd.ord59 fs16 fs16_ok) l.length (fun _ => True) (fun i => [(14, .int .i64 i)]) (fun i j => σ ++ (.map (mapU ((l.zipIdx.take i).foldl (lookS now f) [])) :: j)) [] (by kernel_rfl) (by simp [mapU]) (by simp [upd, ins, subF, lookA]) trivial ?_ ?_
  · intro i j hi _ ih
    have hz : i < l.zipIdx.length := by rw [List.length_zipIdx]; omega
    have hzi : l.zipIdx[i] = (l[i], i) := by simp
    have hlt := lookS_lt (now := now) (f := f) (l := l) i (by omega)
    rw [foldl_take _ _ _ _ hz, hzi] at ih
    have hS : ∀ m, lookS now f m (l[i], i) = if now.testBit i then mset m (tg l[i].look f) ((mget m (tg l[i].look f)).getD 0 ||| 2 ^ i) else m := fun m => rfl
    rw [hS] at ih
    generalize (l.zipIdx.take i).foldl (lookS now f) [] = m at ih hlt ⊢
    have hp : (2 : Nat) ^ i ≤ 2 ^ 15 := Nat.pow_le_pow_right (by omega) (by omega)
    have hma : l[i].av = .agg [.int .i64 l[i].model, .int .i64 l[i].year, .int .i64 l[i].a, .int .i64 l[i].b, .int .i64 l[i].c, .int .i64 l[i].d, .int .i64 l[i].nums.lo, .int .i64 l[i].nums.hi] := rfl
    have h4 := @get4I l[i].a l[i].b l[i].c l[i].d f hf.1 hf.2
    have hlk : l[i].look = [l[i].a, l[i].b, l[i].c, l[i].d] := rfl
    have h5 : [AV.int .i64 l[i].model, .int .i64 l[i].year, .int .i64 l[i].a, .int .i64 l[i].b, .int .i64 l[i].c, .int .i64 l[i].d, .int .i64 l[i].nums.lo, .int .i64 l[i].nums.hi][2 + f.toNat]? = some (.int .i64 (tg l[i].look f)) := by
      rw [hlk, ← h4]
      have : f.toNat < 4 := by omega
      have : f.toNat = 0 ∨ f.toNat = 1 ∨ f.toNat = 2 ∨ f.toNat = 3 := by omega
      rcases this with e | e | e | e <;> rw [e] <;> rfl
    generalize tg l[i].look f = v at ih h5
    have hv : (mget m v).getD 0 < 65536 := by
      cases hg : mget m v with
      | none => simp
      | some w => have := hlt _ (mget_mem hg); simp only [Option.getD_some]; omega
    generalize hmv : (mget m v).getD 0 = mv at ih hv
    clear hlt hS hzi h4 hlk hp
    cases hb : now.testBit i
    · rw [hb] at ih
      simp -implicitDefEqProofs (maxSteps := 2000000) (disch := omega) only [go_sem, reduceCtorEq, Nat.reduceAdd, Nat.reduceSub, Nat.reduceMul, Nat.reduceLT, Nat.reduceLeDiff, Nat.reduceEqDiff, Nat.reduceBEq, Int.reduceToNat, Int.reduceLT, Int.reduceLE, Int.reduceEq, Int.reduceNeg, Int.reduceAdd, Int.reduceSub, Int.reduceMul, ↓reduceIte, Int.reduceBEq, Int.reduceBNe, hma, hb]
      exact (ih trivial (j ++ [.cells l[i].cells])).castS (by simp [Made.cells]) (by simp [upd, ins, subF, lookA])
    · rw [hb] at ih
      simp -implicitDefEqProofs (maxSteps := 2000000) (disch := omega) only [go_sem, reduceCtorEq, Nat.reduceAdd, Nat.reduceSub, Nat.reduceMul, Nat.reduceLT, Nat.reduceLeDiff, Nat.reduceEqDiff, Nat.reduceBEq, Int.reduceToNat, Int.reduceLT, Int.reduceLE, Int.reduceEq, Int.reduceNeg, Int.reduceAdd, Int.reduceSub, Int.reduceMul, ↓reduceIte, Int.reduceBEq, Int.reduceBNe, hma, hb, h5, hmv]
      exact (ih trivial (j ++ [.cells l[i].cells])).castS (by simp [Made.cells]) (by simp [upd, ins, subF, lookA])
  · intro j _
    simp -implicitDefEqProofs (maxSteps := 2000000) (disch := omega) only [go_sem, reduceCtorEq, Nat.reduceAdd, Nat.reduceSub, Nat.reduceMul, Nat.reduceLT, Nat.reduceLeDiff, Nat.reduceEqDiff, Nat.reduceBEq, Int.reduceToNat, Int.reduceLT, Int.reduceLE, Int.reduceEq, Int.reduceNeg, Int.reduceAdd, Int.reduceSub, Int.reduceMul, ↓reduceIte, Int.reduceBEq, Int.reduceBNe]
    exact h j
def maxPop (m : List (Int × Nat)) : Nat := (m.map fun p => popN p.2).foldl max 0
def nextN (l : List Made) (f : Int) : Nat := maxPop (looksM (2 ^ l.length - 1) l f)
theorem foldl_max_le {l : List Nat} {b x : Nat} (h : x ∈ l ∨ x ≤ b) : x ≤ l.foldl max b := by
  induction l generalizing b with
  | nil => simpa using h
  | cons y l ih =>
    rw [List.foldl_cons]
    apply ih
    rcases h with h | h
    · rcases List.mem_cons.1 h with rfl | h
      · exact .inr (Nat.le_max_right _ _)
      · exact .inl h
    · exact .inr (Nat.le_trans h (Nat.le_max_left _ _))
theorem foldl_max_mem {l : List Nat} {b : Nat} : l.foldl max b = b ∨ l.foldl max b ∈ l := by
  induction l generalizing b with
  | nil => simp
  | cons y l ih =>
    rw [List.foldl_cons]
    rcases ih (b := max b y) with h | h
    · rw [h]
      rcases Nat.le_total b y with h2 | h2
      · right; rw [Nat.max_eq_right h2]; simp
      · left; exact Nat.max_eq_left h2
    · right; exact List.mem_cons_of_mem _ h
theorem looksM_lt {now : Nat} {l : List Made} {f : Int} (hl : l.length ≤ 16) : ∀ p ∈ looksM now l f, p.2 < 65536 := fun p hp => by
  have hM : looksM now l f = (l.zipIdx.take l.length).foldl (lookS now f) [] := by rw [List.take_of_length_le (by rw [List.length_zipIdx]; omega)]; rfl
  rw [hM] at hp
  have := lookS_lt _ (Nat.le_refl _) p hp
  have h2 : (2 : Nat) ^ l.length ≤ 2 ^ 16 := Nat.pow_le_pow_right (by omega) hl
  omega
set_option maxHeartbeats 4000000 in
theorem Next1_v {σ : List AObj} {r : Nat} {l : List Made} (hg : hget σ r = some (.cells [.list .no 8 (l.map Made.av)])) (hl : l.length ≤ 16) {f : Int} (h0 : 0 ≤ f) (h1 : f < 4) :
    ClV Tryd.prog 58 [] [.ptr r 0] σ [.int .i64 f] (.int .i64 (nextN l f)) := by
  intro σ' hl' hs' Q hq
  have hg' : ∀ l, hget (σ' ++ l) r = some _ := fun l => by rw [hget_app (by have := hget_lt hg; omega), hs' _ (hget_lt hg)]; exact hg
  simp only [List.nil_append, List.cons_append]
  refine ACalls.clean_ev (E := Tryd.E 22 Tryd.ord58 fs16) (Tryd.envOK 22 Tryd.ord58 fs16 fs16_ok) (.int _ _) (hq) Tryd.kp58 Tryd.func58 rfl (by kernel_rfl) (by simp [Tryd.E]) (Callable.of Tryd.func58 (by kernel_rfl) (by kernel_rfl)) (by kernel_rfl) ?_
  have hg0 : hget σ' r = some _ := (hs' _ (hget_lt hg)).trans hg
  have h2 : (2 : Nat) ^ l.length ≤ 2 ^ 16 := Nat.pow_le_pow_right (by omega) hl
  simp -implicitDefEqProofs (maxSteps := 2000000) (disch := omega) only [go_sem, reduceCtorEq, Nat.reduceAdd, Nat.reduceSub, Nat.reduceMul, Nat.reduceLT, Nat.reduceLeDiff, Nat.reduceEqDiff, Nat.reduceBEq, Int.reduceToNat, Int.reduceLT, Int.reduceLE, Int.reduceEq, Int.reduceNeg, Int.reduceAdd, Int.reduceSub, Int.reduceMul, ↓reduceIte, Int.reduceBEq, Int.reduceBNe, hg', hg0]
  refine looks_c (2 ^ l.length - 1) l f (by omega) hl ⟨h0, h1⟩ _ _ fun j => ?_
  simp -implicitDefEqProofs (maxSteps := 2000000) (disch := omega) only [go_sem, reduceCtorEq, Nat.reduceAdd, Nat.reduceSub, Nat.reduceMul, Nat.reduceLT, Nat.reduceLeDiff, Nat.reduceEqDiff, Nat.reduceBEq, Int.reduceToNat, Int.reduceLT, Int.reduceLE, Int.reduceEq, Int.reduceNeg, Int.reduceAdd, Int.reduceSub, Int.reduceMul, ↓reduceIte, Int.reduceBEq, Int.reduceBNe, hg', hg0]
  have hlt := looksM_lt (now := 2 ^ l.length - 1) (f := f) hl
  clear hg' hg0
  have hN : nextN l f = maxPop (looksM (2 ^ l.length - 1) l f) := rfl
  clear hq
  generalize looksM (2 ^ l.length - 1) l f = m at hlt hN ⊢
  have hml : (mapU m).length = m.length := by simp [mapU]
  have hmap : ∀ X, hget (σ' ++ (.map (mapU m) :: X)) σ'.length = some (.map (mapU m)) := fun X => by rw [hget_at0]; rfl
  have hit : ∀ s, hget (σ' ++ (.map (mapU m) :: (j ++ [.iter (some σ'.length) m.length s]))) (σ'.length + (j.length + 1)) = some (.iter (some σ'.length) m.length s) := fun s => by rw [hget_at]; simp
  have hst : ∀ s o, hset (σ' ++ (.map (mapU m) :: (j ++ [.iter (some σ'.length) m.length s]))) (σ'.length + (j.length + 1)) o = σ' ++ (.map (mapU m) :: (j ++ [o])) := fun s o => by rw [hset_at]; simp
  refine ARun.loopJ (Tryd.envOK 22 Tryd.ord58 fs16 fs16_ok) (α := List Nat × Nat) (fun a => m.length - a.1.length) (fun a τ => τ = σ' ++ (.map (mapU m) :: (j ++ [.iter (some σ'.length) m.length a.1])) ∧ a.1.Nodup ∧ (∀ i ∈ a.1, ∃ p, m[i]? = some p ∧ popN p.2 ≤ a.2) ∧ (a.2 = 0 ∨ ∃ p ∈ m, popN p.2 = a.2)) (fun a => [(4, .int .i64 (a.2 : Int))]) ([], 0) (by kernel_rfl) (by simp [upd, ins, subF, lookA]) ⟨by rw [hml], by simp, by simp, .inl rfl⟩ ?_
  rintro ⟨seen, n⟩ τ ⟨rfl, j7, j8, j9⟩ ih
  simp only at j7 j8 j9 ih
  simp -implicitDefEqProofs (maxSteps := 2000000) (disch := omega) only [go_sem, reduceCtorEq, Nat.reduceAdd, Nat.reduceSub, Nat.reduceMul, Nat.reduceLT, Nat.reduceLeDiff, Nat.reduceEqDiff, Nat.reduceBEq, Int.reduceToNat, Int.reduceLT, Int.reduceLE, Int.reduceEq, Int.reduceNeg, Int.reduceAdd, Int.reduceSub, Int.reduceMul, ↓reduceIte, Int.reduceBEq, Int.reduceBNe]
  refine nextA_intro (hit seen) (hmap _) hml.symm (fun i2 k v hi2 hns => ?_) (fun hall => ?_)
  · obtain ⟨p, hp, hkv⟩ : ∃ p, m[i2]? = some p ∧ (AV.int .i64 p.1, AV.int .u64 (p.2 : Int)) = (k, v) := by simpa [mapU] using hi2
    simp only [Prod.mk.injEq] at hkv
    obtain ⟨rfl, rfl⟩ := hkv
    have hpm : p ∈ m := List.mem_of_getElem? hp
    have hps := hlt p hpm
    have hgl : (seen ++ [i2]).getLast? = some i2 := by simp
    rw [hst]
    have k1 := hit (seen ++ [i2])
    have hil := (List.getElem?_eq_some_iff.1 hp).1
    have hnd : (seen ++ [i2]).Nodup := by
      rw [List.nodup_append]
      exact ⟨j7, by simp, fun a ha b hb e => by simp at hb; subst hb; exact hns (e ▸ ha)⟩
    have hcard := nodup_lt hnd (n := m.length) fun i3 h3 => by
      rcases List.mem_append.1 h3 with h3 | h3
      · obtain ⟨p', hp', _⟩ := j8 i3 h3; exact (List.getElem?_eq_some_iff.1 hp').1
      · simp at h3; subst h3; exact hil
    rw [List.length_append, List.length_singleton] at hcard
    simp -implicitDefEqProofs (maxSteps := 2000000) (disch := omega) only [go_sem, reduceCtorEq, Nat.reduceAdd, Nat.reduceSub, Nat.reduceMul, Nat.reduceLT, Nat.reduceLeDiff, Nat.reduceEqDiff, Nat.reduceBEq, Int.reduceToNat, Int.reduceLT, Int.reduceLE, Int.reduceEq, Int.reduceNeg, Int.reduceAdd, Int.reduceSub, Int.reduceMul, ↓reduceIte, Int.reduceBEq, Int.reduceBNe, k1, hmap, hgl, hi2, hml]
    refine (ih (seen ++ [i2], max n (popN p.2)) _ (by simp only [List.length_append, List.length_cons, List.length_nil]; omega) ⟨rfl, hnd, fun i3 h3 => ?_, ?_⟩).castS rfl ?_
    · rcases List.mem_append.1 h3 with h3 | h3
      · obtain ⟨p', hp', hle⟩ := j8 i3 h3; exact ⟨p', hp', by simp only; omega⟩
      · simp at h3; subst h3; exact ⟨p, hp, by simp only; omega⟩
    · simp only
      by_cases hc : n < popN p.2
      · rw [Nat.max_eq_right (by omega)]; exact .inr ⟨p, hpm, rfl⟩
      · rw [Nat.max_eq_left (by omega)]; exact j9
    · have hmx : (if n < popN p.2 then (popN p.2 : Int) else (n : Int)) = ((max n (popN p.2) : Nat) : Int) := by split <;> omega
      simp [upd, ins, subF, lookA, hmx]
  · have hfin : maxPop m = n := by
      unfold maxPop
      apply Nat.le_antisymm
      · rcases foldl_max_mem (l := m.map fun p => popN p.2) (b := 0) with h | h
        · rw [h]; omega
        · obtain ⟨p, hp, he⟩ := List.mem_map.1 h
          obtain ⟨i3, hi3, rfl⟩ := List.mem_iff_getElem.1 hp
          obtain ⟨p', hp', hle⟩ := j8 i3 (hall i3 (by rw [hml]; exact hi3))
          rw [List.getElem?_eq_getElem hi3] at hp'
          simp only [Option.some.injEq] at hp'
          subst hp'; omega
      · rcases j9 with rfl | ⟨p, hp, he⟩
        · omega
        · exact foldl_max_le (.inl (List.mem_map.2 ⟨p, hp, he⟩))
    rw [hfin] at hN
    rw [hN]
    simp -implicitDefEqProofs (maxSteps := 2000000) (disch := omega) only [go_sem, reduceCtorEq, Nat.reduceAdd, Nat.reduceSub, Nat.reduceMul, Nat.reduceLT, Nat.reduceLeDiff, Nat.reduceEqDiff, Nat.reduceBEq, Int.reduceToNat, Int.reduceLT, Int.reduceLE, Int.reduceEq, Int.reduceNeg, Int.reduceAdd, Int.reduceSub, Int.reduceMul, ↓reduceIte, Int.reduceBEq, Int.reduceBNe]
theorem ClV.app0 {P : Program} {g : FuncId} {p q : List AV} {σ : List AObj} {x : AV} {v : AV} (h : ClV P g p q σ [x] v) {Q : AV → List AObj → Prop} (hq : Q v σ) : ACalls P g (p ++ x :: q) σ Q := by
  have := h σ (Nat.le_refl _) (fun _ _ => rfl) Q hq
  simpa using this
set_option maxHeartbeats 4000000 in
theorem leastI_c {g : FuncId} {p q : List AV} {σ : List AObj} (num : Int → Int) (l : List Int) (hl : l ≠ []) (hl2 : l.length ≤ 4294967296) (hn : ∀ x ∈ l, ClV Tryd.prog g p q σ [.int .i64 x] (.int .i64 (num x))) (Q : AV → List AObj → Prop) (h : Q (.tup [.int .i64 (leastL num l).1, .int .i64 (leastL num l).2]) σ) :
    ACalls Tryd.prog 57 [isv l, .fn (.func g) p q] σ Q := by
  obtain ⟨y, l, rfl⟩ : ∃ y l', l = y :: l' := by cases l with | nil => exact absurd rfl hl | cons a b => exact ⟨a, b, rfl⟩
  have hL : leastL num (y :: l) = l.foldl (leastS num) (y, num y) := rfl
  rw [hL] at h
  refine ACalls.clean_ev (E := Tryd.E 37 Tryd.ord57 fs0) (Tryd.envOK 37 Tryd.ord57 fs0 fs0_ok) (ii_plain _) (h) Tryd.kp57 Tryd.func57 rfl (by kernel_rfl) (by simp [Tryd.E]) (Callable.of Tryd.func57 (by kernel_rfl) (by kernel_rfl)) (by kernel_rfl) ?_
  simp only [List.length_cons] at hl2
  simp only [isv, List.map_cons]
  simp -implicitDefEqProofs (maxSteps := 2000000) (disch := omega) only [go_sem, reduceCtorEq, Nat.reduceAdd, Nat.reduceSub, Nat.reduceMul, Nat.reduceLT, Nat.reduceLeDiff, Nat.reduceEqDiff, Nat.reduceBEq, Int.reduceToNat, Int.reduceLT, Int.reduceLE, Int.reduceEq, Int.reduceNeg, Int.reduceAdd, Int.reduceSub, Int.reduceMul, ↓reduceIte, Int.reduceBEq, Int.reduceBNe, idx_zero]
  refine (hn y (by simp)).app0 ?_
  simp -implicitDefEqProofs (maxSteps := 2000000) (disch := omega) only [go_sem, reduceCtorEq, Nat.reduceAdd, Nat.reduceSub, Nat.reduceMul, Nat.reduceLT, Nat.reduceLeDiff, Nat.reduceEqDiff, Nat.reduceBEq, Int.reduceToNat, Int.reduceLT, Int.reduceLE, Int.reduceEq, Int.reduceNeg, Int.reduceAdd, Int.reduceSub, Int.reduceMul, ↓reduceIte, Int.reduceBEq, Int.reduceBNe, idx_zero]
  refine ARun.forS (Tryd.envOK 37 Tryd.ord57 fs0 fs0_ok) l.length (fun _ => True) (fun i => [(20, .list .no 1 (l.map (.int .i64))), (21, .int .i64 l.length), (6, .int .i64 ((l.take i).foldl (leastS num) (y, num y)).1), (7, .int .i64 ((l.take i).foldl (leastS num) (y, num y)).2), (22, .int .i64 i)]) (fun i j => σ) [] (by kernel_rfl) rfl (by simp [upd, ins, subF, lookA, List.take_of_length_le]) trivial ?_ ?_
  · intro i j hi _ ih
    rw [foldl_take _ _ _ _ hi] at ih
    generalize (l.take i).foldl (leastS num) (y, num y) = b at ih ⊢
    have hli : idx (l.map (AV.int .i64)) (i : Int) = some (.int .i64 l[i]) := idx_nat hi
    simp -implicitDefEqProofs (maxSteps := 2000000) (disch := omega) only [go_sem, reduceCtorEq, Nat.reduceAdd, Nat.reduceSub, Nat.reduceMul, Nat.reduceLT, Nat.reduceLeDiff, Nat.reduceEqDiff, Nat.reduceBEq, Int.reduceToNat, Int.reduceLT, Int.reduceLE, Int.reduceEq, Int.reduceNeg, Int.reduceAdd, Int.reduceSub, Int.reduceMul, ↓reduceIte, Int.reduceBEq, Int.reduceBNe, hli]
    refine (hn l[i] (by simp)).app0 ?_
    by_cases hc : num l[i] < b.2
    · simp -implicitDefEqProofs (maxSteps := 2000000) (disch := omega) only [go_sem, reduceCtorEq, Nat.reduceAdd, Nat.reduceSub, Nat.reduceMul, Nat.reduceLT, Nat.reduceLeDiff, Nat.reduceEqDiff, Nat.reduceBEq, Int.reduceToNat, Int.reduceLT, Int.reduceLE, Int.reduceEq, Int.reduceNeg, Int.reduceAdd, Int.reduceSub, Int.reduceMul, ↓reduceIte, Int.reduceBEq, Int.reduceBNe]
      exact (ih trivial []).castS rfl (by simp [upd, ins, subF, lookA, leastS, hc])
    · simp -implicitDefEqProofs (maxSteps := 2000000) (disch := omega) only [go_sem, reduceCtorEq, Nat.reduceAdd, Nat.reduceSub, Nat.reduceMul, Nat.reduceLT, Nat.reduceLeDiff, Nat.reduceEqDiff, Nat.reduceBEq, Int.reduceToNat, Int.reduceLT, Int.reduceLE, Int.reduceEq, Int.reduceNeg, Int.reduceAdd, Int.reduceSub, Int.reduceMul, ↓reduceIte, Int.reduceBEq, Int.reduceBNe]
      exact (ih trivial []).castS rfl (by simp [upd, ins, subF, lookA, leastS, hc])
  · intro j _
    rw [List.take_length]
    simp -implicitDefEqProofs (maxSteps := 2000000) (disch := omega) only [go_sem, reduceCtorEq, Nat.reduceAdd, Nat.reduceSub, Nat.reduceMul, Nat.reduceLT, Nat.reduceLeDiff, Nat.reduceEqDiff, Nat.reduceBEq, Int.reduceToNat, Int.reduceLT, Int.reduceLE, Int.reduceEq, Int.reduceNeg, Int.reduceAdd, Int.reduceSub, Int.reduceMul, ↓reduceIte, Int.reduceBEq, Int.reduceBNe]
/-- About which feature to find out, and how many truths are left then. -/
def nextM (c : Cat) (o : Old) : Int × Int × Int :=
  if (knownM c o []).2 = 0 then
    if lostL o.seen = [] then (0, 0, 11)
    else ((leastL (fun f => (nextN (truthsM c o) f : Int)) (lostL o.seen)).1, (leastL (fun f => (nextN (truthsM c o) f : Int)) (lostL o.seen)).2, 0)
  else (0, 0, (knownM c o []).2)
theorem iii_plain {a b e : Int} : Plain (.tup [.int .i64 a, .int .i64 b, .int .i64 e]) := .tup (by simp; exact ⟨.int, .int, .int⟩)
theorem lostL_mem {s : List Int} {f : Int} (h : f ∈ lostL s) : 0 ≤ f ∧ f < s.length := by
  unfold lostL at h
  obtain ⟨k, hk, rfl⟩ := List.mem_map.1 h
  have := List.mem_range.1 (List.mem_filter.1 hk).1
  omega
set_option maxHeartbeats 4000000 in
theorem pNext_p (c : Cat) (o : Old) (hc : okCat c) (ho : okOld o) : PureV Tryd.prog 22 [c.av, o.av] (.tup [.int .i64 (nextM c o).1, .int .i64 (nextM c o).2.1, .int .i64 (nextM c o).2.2]) := by
  refine PureV.of_ev (E := Tryd.E 31 (fun _ => ([], [])) fs16) (Tryd.envOK 31 (fun _ => ([], [])) fs16 fs16_ok) (iii_plain) Tryd.kp22 Tryd.func22 rfl (by kernel_rfl) (by simp [Tryd.E]) (Callable.of Tryd.func22 (by kernel_rfl) (by kernel_rfl)) (by kernel_rfl) ?_
  intro σ
  simp only [Cat.av, Old.av]
  by_cases hk : (knownM c o []).2 = 0
  · obtain ⟨hv, hne, hke⟩ := knownM_ok hk
    obtain ⟨hC, hO⟩ := okO_of_ck hv
    have hlen := truthsM_len (o := o) hC
    have hos := ho.1
    have hsn : o.seen.length ≤ 4 := by have := hO.seen.1; have := hC.features; omega
    by_cases hl : lostL o.seen = []
    · have hr : nextM c o = (0, 0, 11) := by unfold nextM; rw [if_pos hk, if_pos hl]
      rw [hr]
      simp -implicitDefEqProofs (maxSteps := 2000000) (disch := omega) only [go_sem, reduceCtorEq, Nat.reduceAdd, Nat.reduceSub, Nat.reduceMul, Nat.reduceLT, Nat.reduceLeDiff, Nat.reduceEqDiff, Nat.reduceBEq, Int.reduceToNat, Int.reduceLT, Int.reduceLE, Int.reduceEq, Int.reduceNeg, Int.reduceAdd, Int.reduceSub, Int.reduceMul, ↓reduceIte, Int.reduceBEq, Int.reduceBNe, Cat_eta, Old_eta, hc, ho, hke, hos, hl, isv]
    · have hr : nextM c o = ((leastL (fun f => (nextN (truthsM c o) f : Int)) (lostL o.seen)).1, (leastL (fun f => (nextN (truthsM c o) f : Int)) (lostL o.seen)).2, 0) := by unfold nextM; rw [if_pos hk, if_neg hl]
      rw [hr]
      have hz : ¬ (lostL o.seen).length = 0 := fun h => hl (List.length_eq_zero_iff.1 h)
      have hll : (lostL o.seen).length ≤ 4 := by unfold lostL; rw [List.length_map]; exact Nat.le_trans (List.length_filter_le _ _) (by simpa using hsn)
      have hlm := fun f (h : f ∈ lostL o.seen) => lostL_mem h
      generalize hF : lostL o.seen = F at hl hz hll hlm ⊢
      simp -implicitDefEqProofs (maxSteps := 2000000) (disch := omega) only [go_sem, reduceCtorEq, Nat.reduceAdd, Nat.reduceSub, Nat.reduceMul, Nat.reduceLT, Nat.reduceLeDiff, Nat.reduceEqDiff, Nat.reduceBEq, Int.reduceToNat, Int.reduceLT, Int.reduceLE, Int.reduceEq, Int.reduceNeg, Int.reduceAdd, Int.reduceSub, Int.reduceMul, ↓reduceIte, Int.reduceBEq, Int.reduceBNe, Cat_eta, Old_eta, hc, ho, hke, hos, isv, hF]
      have hTl := hlen
      generalize truthsM c o = T at hTl ⊢
      refine leastI_c (fun f => (nextN T f : Int)) F hl (by omega) (fun f hf => Next1_v hget_at hTl (hlm f hf).1 (by have := (hlm f hf).2; omega)) _ ?_
      simp -implicitDefEqProofs (maxSteps := 2000000) (disch := omega) only [go_sem, reduceCtorEq, Nat.reduceAdd, Nat.reduceSub, Nat.reduceMul, Nat.reduceLT, Nat.reduceLeDiff, Nat.reduceEqDiff, Nat.reduceBEq, Int.reduceToNat, Int.reduceLT, Int.reduceLE, Int.reduceEq, Int.reduceNeg, Int.reduceAdd, Int.reduceSub, Int.reduceMul, ↓reduceIte, Int.reduceBEq, Int.reduceBNe]
  · have hr : nextM c o = (0, 0, (knownM c o []).2) := by unfold nextM; rw [if_neg hk]
    rw [hr]
    simp -implicitDefEqProofs (maxSteps := 2000000) (disch := omega) only [go_sem, reduceCtorEq, Nat.reduceAdd, Nat.reduceSub, Nat.reduceMul, Nat.reduceLT, Nat.reduceLeDiff, Nat.reduceEqDiff, Nat.reduceBEq, Int.reduceToNat, Int.reduceLT, Int.reduceLE, Int.reduceEq, Int.reduceNeg, Int.reduceAdd, Int.reduceSub, Int.reduceMul, ↓reduceIte, Int.reduceBEq, Int.reduceBNe, Cat_eta, Old_eta, hc, ho, hk, isv]
end Go.Proofs
