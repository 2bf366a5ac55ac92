/- Texts of a proof: lemmas. -/
import Derived.Test.YthejgnlikaiddaaDoorPZB
set_option linter.unusedSimpArgs false
set_option linter.unusedVariables false
set_option maxRecDepth 100000
namespace Go.Proofs
open Go Go.Mu

/-! The law's writes and verdict. -/
theorem div_pow' {n : Int} (h : 0 ≤ n) (k : Nat) : (n / 10 ^ k).tdiv 10 = n / 10 ^ (k + 1) := by
  have h1 : 0 ≤ n / 10 ^ k := Int.ediv_nonneg h (Int.le_of_lt (Int.pow_pos (by omega)))
  rw [Int.tdiv_eq_ediv_of_nonneg h1, Int.ediv_ediv_of_nonneg (Int.le_of_lt (Int.pow_pos (by omega))), Int.pow_succ]
theorem pow_le' {n : Int} (h : 0 ≤ n) (k : Nat) : 0 ≤ n / 10 ^ k ∧ n / 10 ^ k ≤ n := ⟨Int.ediv_nonneg h (Int.le_of_lt (Int.pow_pos (by omega))), Int.ediv_le_self _ h⟩
/-- The last digits of a number, written. -/
def digS (n : Int) : Nat → ByteArray
  | 0 => ⟨#[]⟩
  | k + 1 => (⟨#[UInt8.ofNat (48 + (n / 10 ^ k) % 10).toNat]⟩ : ByteArray) ++ digS n k
theorem digS_list (n : Int) : ∀ k, (digS n k).data.toList.length = k ∧ ∀ i, i < k → (digS n k).data.toList.getD i 0 = UInt8.ofNat (48 + (n / 10 ^ (k - 1 - i)) % 10).toNat
  | 0 => ⟨rfl, fun i h => by omega⟩
  | k + 1 => by
    obtain ⟨h1, h2⟩ := digS_list n k
    have e : (digS n (k + 1)).data.toList = UInt8.ofNat (48 + (n / 10 ^ k) % 10).toNat :: (digS n k).data.toList := by
      show ((⟨#[UInt8.ofNat (48 + (n / 10 ^ k) % 10).toNat]⟩ : ByteArray) ++ digS n k).data.toList = _
      rw [ByteArray.data_append, Array.toList_append]; rfl
    refine ⟨by rw [e, List.length_cons, h1], fun i hi => ?_⟩
    rw [e]
    cases i with
    | zero => simp
    | succ i =>
      have := h2 i (by omega)
      rw [show k + 1 - 1 - (i + 1) = k - 1 - i by omega]
      simpa using this
set_option maxHeartbeats 4000000 in
theorem writes_p (pl : ByteArray) (n : Int) (hp : pl.size ≤ 4) (h0 : 0 ≤ n) (h1 : n ≤ 9999) : PureV Tryd.prog 26 [.str pl, .int .i64 n] (.bool (readsP pl n)) := by
  refine PureV.of_ev (E := Tryd.E 41 Tryd.ord26 fs0) (Tryd.envOK 41 Tryd.ord26 fs0 fs0_ok) (.bool) Tryd.kp26 Tryd.func26 rfl (by kernel_rfl) (by simp [Tryd.E]) (Callable.of Tryd.func26 (by kernel_rfl) (by kernel_rfl)) (by kernel_rfl) ?_
  intro σ
  have hpl : pl.data.toList.length = pl.size := Array.length_toList
  simp -implicitDefEqProofs (maxSteps := 2000000) (disch := omega) only [go_sem, reduceCtorEq, Nat.reduceAdd, Nat.reduceSub, Nat.reduceMul, Nat.reduceLT, Nat.reduceLeDiff, Nat.reduceEqDiff, Nat.reduceBEq, Int.reduceToNat, Int.reduceLT, Int.reduceLE, Int.reduceEq, Int.reduceNeg, Int.reduceAdd, Int.reduceSub, Int.reduceMul, ↓reduceIte, Int.reduceBEq, Int.reduceBNe]
  refine ARun.forG (Tryd.envOK 41 Tryd.ord26 fs0 fs0_ok) 4 (fun _ => True) (fun k => [(1, .int .i64 (n / 10 ^ k)), (5, .str (digS n k)), (6, .int .i64 k)]) (fun _ j => σ) [] (by kernel_rfl) (by kernel_rfl) rfl (by simp [upd, ins, subF, lookA, digS]) trivial ?_ ?_
  · intro K Q' hK k j hk _ ih
    have hd := div_pow' h0 k
    have hb := pow_le' h0 k
    have hb2 := pow_le' h0 (k + 1)
    have hdz : (digS n k).size = k := Array.length_toList.symm.trans (digS_list n k).1
    have hdS : digS n (k + 1) = (⟨#[UInt8.ofNat (48 + (n / 10 ^ k) % 10).toNat]⟩ : ByteArray) ++ digS n k := rfl
    rw [hdS] at ih
    generalize n / 10 ^ k = x at hd hb ih ⊢
    generalize n / 10 ^ (k + 1) = y at hd hb2 ih
    have hm : x.tmod 10 = x % 10 := Int.tmod_eq_emod_of_nonneg hb.1
    have hsn : strOfNums [IntKind.u8.wrap (48 + x % 10)] = { data := #[UInt8.ofNat (48 + x % 10).toNat] } := by
      have hw : IntKind.u8.wrap (48 + x % 10) = 48 + x % 10 := by
        have : IntKind.u8.wrap (48 + x % 10) = (48 + x % 10) % 256 := rfl
        rw [this]; omega
      rw [hw]; rfl
    have hz1 : (#[UInt8.ofNat (48 + x % 10).toNat] : Array UInt8).size = 1 := rfl
    simp -implicitDefEqProofs (maxSteps := 2000000) (disch := omega) only [go_sem, reduceCtorEq, Nat.reduceAdd, Nat.reduceSub, Nat.reduceMul, Nat.reduceLT, Nat.reduceLeDiff, Nat.reduceEqDiff, Nat.reduceBEq, Int.reduceToNat, Int.reduceLT, Int.reduceLE, Int.reduceEq, Int.reduceNeg, Int.reduceAdd, Int.reduceSub, Int.reduceMul, ↓reduceIte, Int.reduceBEq, Int.reduceBNe, hd, hm, hsn, hdz, hz1]
    exact (ih trivial j).castS rfl (by simp [upd, ins, subF, lookA])
  · intro j _
    obtain ⟨hl4, hg4⟩ := digS_list n 4
    have hz4 : (digS n 4).size = 4 := Array.length_toList.symm.trans hl4
    simp -implicitDefEqProofs (maxSteps := 2000000) (disch := omega) only [go_sem, reduceCtorEq, Nat.reduceAdd, Nat.reduceSub, Nat.reduceMul, Nat.reduceLT, Nat.reduceLeDiff, Nat.reduceEqDiff, Nat.reduceBEq, Int.reduceToNat, Int.reduceLT, Int.reduceLE, Int.reduceEq, Int.reduceNeg, Int.reduceAdd, Int.reduceSub, Int.reduceMul, ↓reduceIte, Int.reduceBEq, Int.reduceBNe]
    refine ARun.forS (Tryd.envOK 41 Tryd.ord26 fs0 fs0_ok) pl.size (fun i => ∀ k, k < i → readB n k (pl.data.toList.getD k 0) = true) (fun i => [(7, .int .i64 i)]) (fun i j => σ) [] (by kernel_rfl) rfl (by simp [upd, ins, subF, lookA]) (fun k hk => by omega) ?_ ?_
    · intro i j hi hP ih
      have hg := str_get hi
      have hi4 : i < 4 := by omega
      have hno : readB n i (pl.data.toList.getD i 0) = false → readsP pl n = false := fun h => Bool.eq_false_iff.2 fun h' => by have := readsP_iff.1 h' i hi; rw [h] at this; cases this
      have hyes : readB n i (pl.data.toList.getD i 0) = true → ∀ k, k < i + 1 → readB n k (pl.data.toList.getD k 0) = true := fun h k hk => by
        by_cases e : k = i
        · subst e; exact h
        · exact hP k (by omega)
      generalize pl.data.toList.getD i 0 = b at hg hno hyes
      have hdi : readB n i b = (decide ((b.toNat : Int) = 63) || decide ((b.toNat : Int) = digitAt n i)) := by
        unfold readB
        congr 1
        rw [Bool.eq_iff_iff, beq_iff_eq, decide_eq_true_eq, ← UInt8.toNat_inj]
        have : (63 : UInt8).toNat = 63 := rfl
        omega
      rw [hdi] at hno hyes
      have hltb : ((b.toNat : Nat) : Int) ≤ 255 := by have := b.toNat_lt; omega
      have hs4 : (digS n 4)[i]? = some ((digS n 4).data.toList.getD i 0) := str_get (by omega)
      have hq : (((digS n 4).data.toList.getD i 0).toNat : Int) = digitAt n i := by
        rw [hg4 i hi4, UInt8.toNat_ofNat']
        unfold digitAt
        rw [show 4 - 1 - i = 3 - i by omega]
        generalize n / 10 ^ (3 - i) = q
        omega
      clear hP hdi hg4 hl4
      have hg1 : pl[((i : Nat) : Int).toNat]? = some b := by rw [Int.toNat_natCast]; exact hg
      generalize (digS n 4).data.toList.getD i 0 = d at hs4 hq
      have hs5 : (digS n 4)[((i : Nat) : Int).toNat]? = some d := by rw [Int.toNat_natCast]; exact hs4
      generalize digS n 4 = D at hs4 hs5 hz4 ih ⊢
      generalize hx : ((b.toNat : Nat) : Int) = x at hno hyes hltb
      generalize hy : digitAt n i = y at hno hyes hq
      by_cases r1 : x = 63
      · simp -implicitDefEqProofs (maxSteps := 2000000) (disch := omega) only [go_sem, reduceCtorEq, Nat.reduceAdd, Nat.reduceSub, Nat.reduceMul, Nat.reduceLT, Nat.reduceLeDiff, Nat.reduceEqDiff, Nat.reduceBEq, Int.reduceToNat, Int.reduceLT, Int.reduceLE, Int.reduceEq, Int.reduceNeg, Int.reduceAdd, Int.reduceSub, Int.reduceMul, ↓reduceIte, Int.reduceBEq, Int.reduceBNe, Int.toNat_natCast, hg, hg1, hs4, hs5, hx, hq]
        exact (ih (hyes (by simp [r1])) j).castS rfl (by simp [upd, ins, subF, lookA])
      · by_cases r2 : x = y
        · simp -implicitDefEqProofs (maxSteps := 2000000) (disch := omega) only [go_sem, reduceCtorEq, Nat.reduceAdd, Nat.reduceSub, Nat.reduceMul, Nat.reduceLT, Nat.reduceLeDiff, Nat.reduceEqDiff, Nat.reduceBEq, Int.reduceToNat, Int.reduceLT, Int.reduceLE, Int.reduceEq, Int.reduceNeg, Int.reduceAdd, Int.reduceSub, Int.reduceMul, ↓reduceIte, Int.reduceBEq, Int.reduceBNe, Int.toNat_natCast, hg, hg1, hs4, hs5, hx, hq]
          exact (ih (hyes (by simp [r2])) j).castS rfl (by simp [upd, ins, subF, lookA])
        · simp -implicitDefEqProofs (maxSteps := 2000000) (disch := omega) only [go_sem, reduceCtorEq, Nat.reduceAdd, Nat.reduceSub, Nat.reduceMul, Nat.reduceLT, Nat.reduceLeDiff, Nat.reduceEqDiff, Nat.reduceBEq, Int.reduceToNat, Int.reduceLT, Int.reduceLE, Int.reduceEq, Int.reduceNeg, Int.reduceAdd, Int.reduceSub, Int.reduceMul, ↓reduceIte, Int.reduceBEq, Int.reduceBNe, Int.toNat_natCast, hg, hg1, hs4, hs5, hx, hq]
          exact (hno (by simp [r1, r2])).symm
    · intro j hP
      rw [readsP_iff.2 hP]
      simp -implicitDefEqProofs (maxSteps := 2000000) (disch := omega) only [go_sem, reduceCtorEq, Nat.reduceAdd, Nat.reduceSub, Nat.reduceMul, Nat.reduceLT, Nat.reduceLeDiff, Nat.reduceEqDiff, Nat.reduceBEq, Int.reduceToNat, Int.reduceLT, Int.reduceLE, Int.reduceEq, Int.reduceNeg, Int.reduceAdd, Int.reduceSub, Int.reduceMul, ↓reduceIte, Int.reduceBEq, Int.reduceBNe]
def writes_s := spw2 tyS.w tyI.w fun pl n => if pl.size ≤ 4 ∧ 0 ≤ n ∧ n ≤ 9999 then some (.bool (readsP pl n)) else none
theorem writes_ok : ∀ xs v, writes_s xs = some v → PureV Tryd.prog 26 xs v :=
  spw2_ok fun pl n v h => by have h := someIf h; rw [← h.2]; exact writes_p pl n h.1.1 h.1.2.1 h.1.2.2
def vdZ (so all : Int) : Int := if so = all then 1 else if so = 0 then 2 else 3
def lverdict_s := spec2 tI tI fun a b => some (.int .i64 (vdZ a b))
theorem lverdict_ok : ∀ xs v, lverdict_s xs = some v → PureV Tryd.prog 33 xs v := by
  refine spec2_ok fun a b v h => ?_
  simp only [Option.some.injEq] at h; subst h
  refine PureV.of_ev (E := Tryd.E 11 (fun _ => ([], [])) fs0) (Tryd.envOK 11 (fun _ => ([], [])) fs0 fs0_ok) (.int) Tryd.kp33 Tryd.func33 rfl (by kernel_rfl) (by simp [Tryd.E]) (Callable.of Tryd.func33 (by kernel_rfl) (by kernel_rfl)) (by kernel_rfl) ?_
  intro σ
  simp only [tI]
  unfold vdZ
  by_cases h1 : a = b
  · simp -implicitDefEqProofs (maxSteps := 2000000) (disch := omega) only [go_sem, reduceCtorEq, Nat.reduceAdd, Nat.reduceSub, Nat.reduceMul, Nat.reduceLT, Nat.reduceLeDiff, Nat.reduceEqDiff, Nat.reduceBEq, Int.reduceToNat, Int.reduceLT, Int.reduceLE, Int.reduceEq, Int.reduceNeg, Int.reduceAdd, Int.reduceSub, Int.reduceMul, ↓reduceIte, Int.reduceBEq, Int.reduceBNe]
    try simp [h1]
  · by_cases h2 : a = 0
    · have h3 : ¬ 0 = b := by omega
      simp -implicitDefEqProofs (maxSteps := 2000000) (disch := omega) only [go_sem, reduceCtorEq, Nat.reduceAdd, Nat.reduceSub, Nat.reduceMul, Nat.reduceLT, Nat.reduceLeDiff, Nat.reduceEqDiff, Nat.reduceBEq, Int.reduceToNat, Int.reduceLT, Int.reduceLE, Int.reduceEq, Int.reduceNeg, Int.reduceAdd, Int.reduceSub, Int.reduceMul, ↓reduceIte, Int.reduceBEq, Int.reduceBNe]
      try simp [h1, h2, h3]
    · simp -implicitDefEqProofs (maxSteps := 2000000) (disch := omega) only [go_sem, reduceCtorEq, Nat.reduceAdd, Nat.reduceSub, Nat.reduceMul, Nat.reduceLT, Nat.reduceLeDiff, Nat.reduceEqDiff, Nat.reduceBEq, Int.reduceToNat, Int.reduceLT, Int.reduceLE, Int.reduceEq, Int.reduceNeg, Int.reduceAdd, Int.reduceSub, Int.reduceMul, ↓reduceIte, Int.reduceBEq, Int.reduceBNe]
      try simp [h1, h2]
def fs60 (f : FuncId) (xs : List AV) : Option AV := if f = 26 then writes_s xs else if f = 33 then lverdict_s xs else fs21 f xs
theorem fs60_ok : ∀ f xs v, fs60 f xs = some v → PureV Tryd.prog f xs v := by
  intro f xs v h
  unfold fs60 at h
  split at h
  · rename_i e; subst e; exact writes_ok _ _ h
  split at h
  · rename_i e; subst e; exact lverdict_ok _ _ h
  exact fs21_ok _ _ _ h
attribute [go_sem] fs60 writes_s lverdict_s
end Go.Proofs
set_option linter.unusedSimpArgs false
set_option linter.unusedVariables false
set_option maxRecDepth 100000
namespace Go.Proofs
open Go Go.Mu

/-! Plain part of PlateAll. -/
def preM (c : Cat) (i : Nat) : List Made := (List.range i).flatMap fun (i : Nat) => madesOf i (c.models.getD i default)
theorem preM_zero {c : Cat} : preM c 0 = [] := rfl
theorem preM_succ {c : Cat} {i : Nat} : preM c (i + 1) = preM c i ++ madesOf i (c.models.getD i default) := by
  unfold preM; rw [List.range_succ, List.flatMap_append]; simp
theorem preM_all {c : Cat} : allMade c = preM c c.models.length := rfl
theorem preM_len {c : Cat} (hC : OkC c) : ∀ i, i ≤ c.models.length → (preM c i).length ≤ 4 * i := fun i => by
  induction i with
  | zero => intro _; rw [preM_zero]; simp
  | succ i ih =>
    intro hi
    rw [preM_succ, List.length_append]
    have hgd : c.models.getD i default = c.models[i] := by simp [List.getD, List.getElem?_eq_getElem (show i < c.models.length by omega)]
    have h1 : (madesOf i (c.models.getD i default)).length ≤ 4 := by
      rw [hgd]; unfold madesOf; rw [List.length_map, List.length_range]; exact (hC.model _ (List.getElem_mem _)).looks.2
    have := ih (by omega)
    omega
theorem numS_spec : ∀ (l : List Int) (x : Rng), ((l.foldl numS x).lo = x.lo ∨ (l.foldl numS x).lo ∈ l) ∧ (l.foldl numS x).lo ≤ x.lo ∧ (∀ y ∈ l, (l.foldl numS x).lo ≤ y) ∧ ((l.foldl numS x).hi = x.hi ∨ (l.foldl numS x).hi ∈ l) ∧ x.hi ≤ (l.foldl numS x).hi ∧ (∀ y ∈ l, y ≤ (l.foldl numS x).hi)
  | [], x => by simp
  | a :: l, x => by
    obtain ⟨h1, h2, h3, h4, h5, h6⟩ := numS_spec l (numS x a)
    rw [List.foldl_cons]
    generalize l.foldl numS (numS x a) = z at h1 h2 h3 h4 h5 h6
    have e1 : (numS x a).lo = if a < x.lo then a else x.lo := rfl
    have e2 : (numS x a).hi = if x.hi < a then a else x.hi := rfl
    rw [e1] at h1 h2
    rw [e2] at h4 h5
    refine ⟨?_, ?_, ?_, ?_, ?_, ?_⟩
    · split at h1
      · rcases h1 with h | h
        · exact .inr (by rw [h]; simp)
        · exact .inr (List.mem_cons_of_mem _ h)
      · rcases h1 with h | h
        · exact .inl h
        · exact .inr (List.mem_cons_of_mem _ h)
    · split at h2 <;> omega
    · intro y hy
      rcases List.mem_cons.1 hy with rfl | hy
      · split at h2 <;> omega
      · exact h3 y hy
    · split at h4
      · rcases h4 with h | h
        · exact .inr (by rw [h]; simp)
        · exact .inr (List.mem_cons_of_mem _ h)
      · rcases h4 with h | h
        · exact .inl h
        · exact .inr (List.mem_cons_of_mem _ h)
    · split at h5 <;> omega
    · intro y hy
      rcases List.mem_cons.1 hy with rfl | hy
      · split at h5 <;> omega
      · exact h6 y hy
theorem rng_ext {a b : Rng} (h1 : a.lo = b.lo) (h2 : a.hi = b.hi) : a = b := by cases a; cases b; simp only at h1 h2; rw [h1, h2]
/-- The least and the greatest one. -/
theorem numS_mm {l : List Int} {x : Rng} (hl : l ≠ []) (hx : ∀ y ∈ l, y < x.lo ∧ x.hi < y) : (l.foldl numS x).lo ∈ l ∧ (l.foldl numS x).hi ∈ l ∧ ∀ y ∈ l, (l.foldl numS x).lo ≤ y ∧ y ≤ (l.foldl numS x).hi := by
  obtain ⟨h1, h2, h3, h4, h5, h6⟩ := numS_spec l x
  obtain ⟨t, ht⟩ := List.exists_mem_of_ne_nil _ hl
  have a1 := hx t ht
  have a2 := h3 t ht
  have a3 := h6 t ht
  refine ⟨?_, ?_, fun y hy => ⟨h3 y hy, h6 y hy⟩⟩
  · rcases h1 with h | h
    · omega
    · exact h
  · rcases h4 with h | h
    · omega
    · exact h
theorem numS_start {l : List Int} {x x' : Rng} (hl : l ≠ []) (hx : ∀ y ∈ l, y < x.lo ∧ x.hi < y) (hx' : ∀ y ∈ l, y < x'.lo ∧ x'.hi < y) : l.foldl numS x = l.foldl numS x' := by
  obtain ⟨a1, a2, a3⟩ := numS_mm hl hx
  obtain ⟨b1, b2, b3⟩ := numS_mm hl hx'
  have c1 := a3 _ b1
  have c2 := a3 _ b2
  have c3 := b3 _ a1
  have c4 := b3 _ a2
  exact rng_ext (by omega) (by omega)
/-- Wider by a range. -/
def wideR (x w : Rng) : Rng := ⟨if w.lo < x.lo then w.lo else x.lo, if x.hi < w.hi then w.hi else x.hi⟩
theorem wideR_eq {l : List Int} {x w : Rng} (hl : l ≠ []) (hw : ∀ y ∈ l, y < w.lo ∧ w.hi < y) : wideR x (l.foldl numS w) = l.foldl numS x := by
  obtain ⟨a1, a2, a3⟩ := numS_mm hl hw
  obtain ⟨h1, h2, h3, h4, h5, h6⟩ := numS_spec l x
  have c1 := h3 _ a1
  have c2 := h6 _ a2
  unfold wideR
  refine rng_ext ?_ ?_
  · simp only
    rcases h1 with h | h
    · split <;> omega
    · have := (a3 _ h).1; split <;> omega
  · simp only
    rcases h4 with h | h
    · split <;> omega
    · have := (a3 _ h).2; split <;> omega
def ownR (P : ByteArray) (m : Made) : Rng := (numsP m.nums P).foldl numS ⟨99999, -1⟩
def allN (P : ByteArray) (L : List Made) : Rng := L.foldl (fun x m => wideR x (ownR P m)) ⟨99999, -1⟩
def allY (L : List Made) : Rng := (L.map Made.year).foldl numS ⟨9999, 0⟩
theorem numsP_in {x : Rng} {P : ByteArray} {n : Int} (h : n ∈ numsP x P) : x.lo ≤ n ∧ n ≤ x.hi := by
  unfold numsP at h
  obtain ⟨k, hk, rfl⟩ := List.mem_map.1 (List.mem_filter.1 h).1
  rw [List.mem_range] at hk; omega
theorem numF_flat {P : ByteArray} : ∀ (L : List Made) (x : Rng), L.foldl (numF P) x = (L.flatMap fun m => numsP m.nums P).foldl numS x
  | [], x => rfl
  | m :: L, x => by
    rw [List.foldl_cons, List.flatMap_cons, List.foldl_append, numF_flat L]; rfl
theorem allN_eq {P : ByteArray} {L : List Made} (hL : L ≠ []) (hm : ∀ m ∈ L, (0 ≤ m.nums.lo ∧ m.nums.hi ≤ 9999) ∧ numsP m.nums P ≠ []) : allN P L = L.foldl (numF P) ⟨10000, -1⟩ := by
  have key : ∀ (L : List Made) (x : Rng), (∀ m ∈ L, (0 ≤ m.nums.lo ∧ m.nums.hi ≤ 9999) ∧ numsP m.nums P ≠ []) → L.foldl (fun x m => wideR x (ownR P m)) x = L.foldl (numF P) x := fun L => by
    induction L with
    | nil => intro x _; rfl
    | cons m L ih =>
      intro x hm
      have h1 := hm m (by simp)
      rw [List.foldl_cons, List.foldl_cons, ih _ fun m' h' => hm m' (List.mem_cons_of_mem _ h')]
      congr 1
      exact wideR_eq h1.2 fun y hy => by have := numsP_in hy; simp only; omega
  unfold allN
  rw [key L _ hm, numF_flat, numF_flat]
  have hne : (L.flatMap fun m => numsP m.nums P) ≠ [] := by
    obtain ⟨m, hmm⟩ := List.exists_mem_of_ne_nil _ hL
    obtain ⟨n, hn⟩ := List.exists_mem_of_ne_nil _ (hm m hmm).2
    exact List.ne_nil_of_mem (List.mem_flatMap.2 ⟨m, hmm, hn⟩)
  refine numS_start hne ?_ ?_
  all_goals
    intro y hy
    obtain ⟨m, hmm, hn⟩ := List.mem_flatMap.1 hy
    have := numsP_in hn
    have := (hm m hmm).1
    simp only; omega
theorem allY_eq {L : List Made} (hL : L ≠ []) (hy : ∀ m ∈ L, 0 < m.year ∧ m.year < 9999) : allY L = ⟨tg (valuesZ Made.year L) 0, tg (valuesZ Made.year L) (((valuesZ Made.year L).length : Int) - 1)⟩ := by
  have hne : L.map Made.year ≠ [] := fun h => hL (List.map_eq_nil_iff.1 h)
  have hb : ∀ y ∈ L.map Made.year, y < (⟨9999, 0⟩ : Rng).lo ∧ (⟨9999, 0⟩ : Rng).hi < y := fun y h => by
    obtain ⟨m, hm, rfl⟩ := List.mem_map.1 h
    have := hy m hm
    simp only; omega
  obtain ⟨a1, a2, a3⟩ := numS_mm hne hb
  have hm : ∀ x, x ∈ valuesZ Made.year L ↔ x ∈ L.map Made.year := fun x => by rw [valuesZ_mem, List.mem_map]
  have hp := List.length_pos_iff.2 (valuesZ_ne (num := Made.year) hL)
  have hs := valuesZ_lt (num := Made.year) (l := L)
  unfold allY
  generalize (L.map Made.year).foldl numS ⟨9999, 0⟩ = z at a1 a2 a3 ⊢
  generalize valuesZ Made.year L = vs at hp hs hm ⊢
  have b1 := head_le hs ((hm _).2 a1)
  have b2 := head_le hs ((hm _).2 a2)
  have e0 : tg vs 0 = vs[0] := tgE (i := 0) (by omega)
  have e1 : tg vs ((vs.length : Int) - 1) = vs[vs.length - 1] := by
    rw [show ((vs.length : Int) - 1) = ((vs.length - 1 : Nat) : Int) by omega, tgE (by omega)]
  have c1 := a3 _ ((hm _).1 (List.getElem_mem (show 0 < vs.length by omega)))
  have c2 := a3 _ ((hm _).1 (List.getElem_mem (show vs.length - 1 < vs.length by omega)))
  exact rng_ext (by simp only; omega) (by simp only; omega)
/-- All looks of a feature, ascending. -/
def anyF (L : List Made) (f v : Int) : Bool := L.any fun m => decide (tg m.look f = v)
def dueL (L : List Made) (f : Int) (n : Nat) : List Int := ((List.range n).map fun (k : Nat) => ((k : Int) + 1)).filter (anyF L f)
theorem dueL_succ {L : List Made} {f : Int} {n : Nat} : dueL L f (n + 1) = dueL L f n ++ if anyF L f (n + 1) then [(n : Int) + 1] else [] := by
  unfold dueL
  rw [List.range_succ, List.map_append, List.filter_append]
  cases h : anyF L f (n + 1) <;> simp [h]
theorem dueL_le {L : List Made} {f : Int} {n : Nat} : ∀ x ∈ dueL L f n, x ≤ n := fun x hx => by
  unfold dueL at hx
  obtain ⟨k, hk, rfl⟩ := List.mem_map.1 (List.mem_filter.1 hx).1
  rw [List.mem_range] at hk; omega
theorem dueL_len {L : List Made} {f : Int} {n : Nat} : (dueL L f n).length ≤ n := by
  unfold dueL; refine Nat.le_trans (List.length_filter_le _ _) ?_; simp
theorem dueL_eq {L : List Made} {f : Int} (h : ∀ m ∈ L, 1 ≤ tg m.look f ∧ tg m.look f ≤ 3) : dueL L f 3 = valuesZ (fun m : Made => tg m.look f) L := by
  refine sorted_ext ?_ valuesZ_lt fun x => ?_
  · unfold dueL
    refine List.Pairwise.filter _ (List.pairwise_map.2 (List.pairwise_lt_range.imp ?_))
    intro a b h; omega
  · rw [valuesZ_mem]
    unfold dueL
    rw [List.mem_filter, List.mem_map]
    constructor
    · rintro ⟨⟨k, hk, rfl⟩, h⟩
      unfold anyF at h
      rw [List.any_eq_true] at h
      obtain ⟨m, hm, e⟩ := h
      exact ⟨m, hm, of_decide_eq_true e⟩
    · rintro ⟨m, hm, rfl⟩
      have hx := h m hm
      refine ⟨⟨(tg m.look f - 1).toNat, List.mem_range.2 (by omega), by omega⟩, ?_⟩
      unfold anyF
      rw [List.any_eq_true]
      exact ⟨m, hm, decide_eq_true rfl⟩
/-- The look of so many features. -/
def lkF (n : Nat) (m : Made) : List Int := m.look.take n
theorem lkF_len {n : Nat} {m : Made} (h : n ≤ 4) : (lkF n m).length = n := by
  unfold lkF Made.look; rw [List.length_take]; simp; omega
theorem lkF_tg {n : Nat} {m : Made} {f : Nat} (h : f < n) (h4 : n ≤ 4) : tg (lkF n m) (f : Int) = tg m.look f := by
  have hl := lkF_len (m := m) h4
  have h2 : m.look.length = 4 := rfl
  rw [tgE (show f < (lkF n m).length by omega), tgE (show f < m.look.length by omega)]
  unfold lkF; rw [List.getElem_take]
theorem lkF_made {i : Nat} {M : Model} {k n : Nat} (hk : k < M.looks.length) (hl : M.looks[k].length = n) (h4 : n ≤ 4) : lkF n (madeOf i M k) = M.looks[k] := by
  have hg : M.looks.getD k [] = M.looks[k] := by simp [List.getD, List.getElem?_eq_getElem hk]
  have e : (madeOf i M k).look = [tg M.looks[k] 0, tg M.looks[k] 1, tg M.looks[k] 2, tg M.looks[k] 3] := by unfold madeOf Made.look; simp only [hg]
  unfold lkF
  rw [e]
  generalize M.looks[k] = l at hl
  subst hl
  match l, h4 with
  | [], _ => rfl
  | [a], _ => rfl
  | [a, b], _ => rfl
  | [a, b, c], _ => rfl
  | [a, b, c, d], _ => rfl
theorem place_new {D : List Int} {n : Nat} (h : ∀ x ∈ D, x ≤ n) : placeL D ((n : Int) + 1) = -1 := by
  unfold placeL; rw [if_neg (fun hm => by have := h _ hm; omega)]
theorem place_old {D : List Int} {v : Int} : ¬ placeL (D ++ [v]) v < 0 := by
  unfold placeL; rw [if_pos (by simp)]; omega
def Tryd.ordP : Nat → List Nat × List (Nat × List Nat)
  | 17 => Tryd.ord7 17
  | 21 => Tryd.ord7 21
  | 30 => Tryd.ord7 30
  | 58 => Tryd.ord7 58
  | 61 => ([0, 1, 3, 7, 7, 31, 63, 7, 7, 263, 903, 2047, 4095, 8191, 16383, 16383, 65535, 131071, 262143], [(0, []), (1, []), (2, []), (3, []), (4, []), (5, []), (6, []), (7, []), (8, []), (9, []), (10, [10]), (11, []), (12, []), (13, []), (14, []), (15, []), (16, [16]), (17, []), (18, [])])
  | _ => ([], [])
theorem Tryd.ordP_17 : Tryd.ordP 17 = Tryd.ord7 17 := rfl
theorem Tryd.ordP_21 : Tryd.ordP 21 = Tryd.ord7 21 := rfl
theorem Tryd.ordP_30 : Tryd.ordP 30 = Tryd.ord7 30 := rfl
theorem Tryd.ordP_58 : Tryd.ordP 58 = Tryd.ord7 58 := rfl
theorem Tryd.ordP_61 : Tryd.ordP 61 = ([0, 1, 3, 7, 7, 31, 63, 7, 7, 263, 903, 2047, 4095, 8191, 16383, 16383, 65535, 131071, 262143], [(0, []), (1, []), (2, []), (3, []), (4, []), (5, []), (6, []), (7, []), (8, []), (9, []), (10, [10]), (11, []), (12, []), (13, []), (14, []), (15, []), (16, [16]), (17, []), (18, [])]) := rfl
attribute [go_sem] Tryd.ordP_17 Tryd.ordP_21 Tryd.ordP_30 Tryd.ordP_58 Tryd.ordP_61
end Go.Proofs
