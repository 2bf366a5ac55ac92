/- Texts of a proof: lemmas. -/
import Derived.Test.YthejgnlikaiddaaDoorPV
set_option linter.unusedSimpArgs false
set_option linter.unusedVariables false
set_option maxRecDepth 100000
namespace Go.Proofs
open Go Go.Mu

theorem copyOld_p (o : Old) (h : o.seen.length ≤ 4294967296) : PureV Tryd.prog 16 [o.av] o.av := by
  refine PureV.of_ev (E := Tryd.E 8 (fun _ => ([], [])) fs17) (Tryd.envOK 8 (fun _ => ([], [])) fs17 fs17_ok) (Old_plain _) Tryd.kp16 Tryd.func16 rfl (by kernel_rfl) (by simp [Tryd.E]) (Callable.of Tryd.func16 (by kernel_rfl) (by kernel_rfl)) (by kernel_rfl) ?_
  intro σ
  simp only [Old.av, isv]
  simp -implicitDefEqProofs (maxSteps := 2000000) (disch := omega) only [go_sem, reduceCtorEq, Nat.reduceAdd, Nat.reduceSub, Nat.reduceMul, Nat.reduceLT, Nat.reduceLeDiff, Nat.reduceEqDiff, Nat.reduceBEq, Int.reduceToNat, Int.reduceLT, Int.reduceLE, Int.reduceEq, Int.reduceNeg, Int.reduceAdd, Int.reduceSub, Int.reduceMul, ↓reduceIte, Int.reduceBEq, Int.reduceBNe]
  refine ints_c o.seen .no h _ _ ?_
  simp -implicitDefEqProofs (maxSteps := 2000000) (disch := omega) only [go_sem, reduceCtorEq, Nat.reduceAdd, Nat.reduceSub, Nat.reduceMul, Nat.reduceLT, Nat.reduceLeDiff, Nat.reduceEqDiff, Nat.reduceBEq, Int.reduceToNat, Int.reduceLT, Int.reduceLE, Int.reduceEq, Int.reduceNeg, Int.reduceAdd, Int.reduceSub, Int.reduceMul, ↓reduceIte, Int.reduceBEq, Int.reduceBNe]
def copyOld_s := spw1 tyOld.w fun o => if o.seen.length ≤ 4294967296 then some (.agg [isv o.seen, .str o.plate, .int .i64 o.changed]) else none
theorem copyOld_ok : ∀ xs v, copyOld_s xs = some v → PureV Tryd.prog 16 xs v :=
  spw1_ok fun o v h => by have h := someIf h; rw [← h.2]; exact copyOld_p o h.1
def dusty_s : List AV → Option AV
  | [] => some (.bool true)
  | _ => none
theorem dusty_ok : ∀ xs v, dusty_s xs = some v → PureV Tryd.prog 19 xs v := by
  intro xs v h
  unfold dusty_s at h
  split at h
  · simp only [Option.some.injEq] at h; rw [← h]; exact dusty_p
  · cases h
def fs19 (f : FuncId) (xs : List AV) : Option AV := if f = 16 then copyOld_s xs else if f = 19 then dusty_s xs else fs18 f xs
theorem fs19_ok : ∀ f xs v, fs19 f xs = some v → PureV Tryd.prog f xs v := by
  intro f xs v h
  unfold fs19 at h
  split at h
  · rename_i e; subst e; exact copyOld_ok _ _ h
  split at h
  · rename_i e; subst e; exact dusty_ok _ _ h
  exact fs18_ok _ _ _ h
attribute [go_sem] fs19 copyOld_s dusty_s
-- plain
theorem mem_truths {c : Cat} {o : Old} {m : Made} : m ∈ truthsM c o ↔ m ∈ allMade c ∧ isTrue o m = true := List.mem_filter
theorem isTrue_iff {o : Old} {m : Made} : isTrue o m = true ↔ (changedN m.look o.seen : Int) ≤ o.changed ∧ fitsP m.nums o.plate = true := by
  unfold isTrue; rw [Bool.and_eq_true, decide_eq_true_eq]
theorem fitsM_val {c : Cat} {o : Old} (hv : ckOld c o = 0) : fitsM c o = if truthsM c o = [] then ([], 9) else ((truthsM c o).map Made.pair, 0) := by
  have hk : knownM c o [] = if truthsM c o = [] then ([], 9) else (truthsM c o, 0) := by
    unfold knownM; rw [if_neg (by simp [hv]), if_neg (by simp [firstE])]
  unfold fitsM
  rw [hk]
  by_cases h : truthsM c o = []
  · rw [if_pos h, if_pos h]; rfl
  · rw [if_neg h, if_neg h]; rfl
theorem forgedM_val {c : Cat} {o : Old} (hv : ckOld c o = 0) (h4 : o.plate.size ≠ 0) : forgedM c o = if truthsM c o.bare = [] then (false, 9) else (decide (truthsM c o = []), 0) := by
  unfold forgedM; rw [if_neg (by simp [hv]), if_neg h4]
theorem forgedM_none {c : Cat} {o : Old} (hv : ckOld c o = 0) (h4 : o.plate.size = 0) : forgedM c o = (false, 11) := by
  unfold forgedM; rw [if_neg (by simp [hv]), if_pos h4]
theorem leastM_val {c : Cat} {o : Old} (hv : ckOld c o = 0) : leastM c o = if truthsM c o.all4 = [] then (0, 9) else ((leastL (fun m : Made => (changedN m.look o.seen : Int)) (truthsM c o.all4)).2, 0) := by
  unfold leastM; rw [if_neg (by simp [hv])]
theorem fits_mono {x : Rng} {P P' : ByteArray} (h : ∀ n, readsP P n = true → readsP P' n = true) (hf : fitsP x P = true) : fitsP x P' = true := by
  have : ∃ n, n ∈ numsP x P := by
    unfold fitsP at hf
    cases he : numsP x P with
    | nil => rw [he] at hf; cases hf
    | cons a _ => exact ⟨a, by simp⟩
  obtain ⟨n, hn⟩ := this
  have hn2 : n ∈ numsP x P' := by
    unfold numsP at hn ⊢
    rw [List.mem_filter] at hn ⊢
    exact ⟨hn.1, h n hn.2⟩
  unfold fitsP
  cases he : numsP x P' with
  | nil => rw [he] at hn2; simp at hn2
  | cons _ _ => rfl
theorem truths_mono {c : Cat} {o o' : Old} (hs : ∀ m ∈ allMade c, (changedN m.look o.seen : Int) ≤ o.changed → (changedN m.look o'.seen : Int) ≤ o'.changed) (hp : ∀ n, readsP o.plate n = true → readsP o'.plate n = true) : ∀ m ∈ truthsM c o, m ∈ truthsM c o' := fun m hm => by
  rw [mem_truths, isTrue_iff] at hm ⊢
  exact ⟨hm.1, hs m hm.1 hm.2.1, fits_mono hp hm.2.2⟩
/-- A plate with a digit that cannot be read. -/
def wornP (P : ByteArray) (i : Nat) : ByteArray := (P.extract 0 i ++ { data := #[63] }) ++ P.extract (i + 1) 4
theorem bs_ext {a b : ByteArray} (h : a.data.toList = b.data.toList) : a = b := by
  cases a; cases b; simp only at h; rw [Array.toList_inj.1 h]
theorem ext_list {P : ByteArray} {a b : Nat} : (P.extract a b).data.toList = (P.data.toList.drop a).take (b - a) := by
  rw [ByteArray.data_extract, Array.toList_extract, List.extract_eq_take_drop]
theorem app_list {a b : ByteArray} : (a ++ b).data.toList = a.data.toList ++ b.data.toList := by rw [ByteArray.data_append, Array.toList_append]
theorem wornP_list {P : ByteArray} {i : Nat} (h4 : P.size = 4) (hi : i < 4) : (wornP P i).data.toList = P.data.toList.set i 63 := by
  have hl : P.data.toList.length = 4 := by rw [Array.length_toList]; exact h4
  unfold wornP
  rw [app_list, app_list, ext_list, ext_list]
  generalize P.data.toList = L at hl
  match L, hl with
  | [a, b, c, d], _ =>
    have : i = 0 ∨ i = 1 ∨ i = 2 ∨ i = 3 := by omega
    rcases this with rfl | rfl | rfl | rfl <;> rfl
theorem wornP_size {P : ByteArray} {i : Nat} (h4 : P.size = 4) (hi : i < 4) : (wornP P i).size = 4 := by
  show (wornP P i).data.size = 4
  rw [← Array.length_toList, wornP_list h4 hi, List.length_set, Array.length_toList]; exact h4
theorem wornP_ok {P : ByteArray} {i : Nat} (h4 : P.size = 4) (hi : i < 4) (hp : okPlate P) : okPlate (wornP P i) := by
  refine ⟨by rw [wornP_size h4 hi]; omega, ?_⟩
  rw [wornP_list h4 hi, List.all_eq_true]
  intro b hb
  rcases List.mem_or_eq_of_mem_set hb with hb | rfl
  · exact List.all_eq_true.1 hp.2 b hb
  · rfl
theorem wornP_reads {P : ByteArray} {i : Nat} (h4 : P.size = 4) (hi : i < 4) {n : Int} (h : readsP P n = true) : readsP (wornP P i) n = true := by
  rw [readsP_iff] at h ⊢
  intro k hk
  rw [wornP_size h4 hi] at hk
  rw [wornP_list h4 hi]
  have hl : P.data.toList.length = 4 := by rw [Array.length_toList]; exact h4
  by_cases hki : k = i
  · subst hki
    have : (P.data.toList.set k 63).getD k 0 = 63 := by simp [List.getD, List.getElem?_set, hl, hk]
    rw [this]; rfl
  · have : (P.data.toList.set i 63).getD k 0 = P.data.toList.getD k 0 := by
      simp only [List.getD]; rw [List.getElem?_set, if_neg (fun e => hki e.symm)]
    rw [this]; exact h k (by omega)
theorem ext_size {P : ByteArray} {a b : Nat} (h : b ≤ P.size) : (P.extract a b).size = b - a := by
  rw [ByteArray.size_extract]; omega
end Go.Proofs
set_option linter.unusedSimpArgs false
set_option linter.unusedVariables false
set_option maxRecDepth 100000
namespace Go.Proofs
open Go Go.Mu

theorem ACalls.of_evN {E : Env} (n : Nat) (hE : EnvOK E) {f : FuncId} {fn : Func} {c : Code} {args : List AV} {σ : List AObj} {Q : AV → List AObj → Prop} (kp : Nat → Bool) (hf : E.P.funcs[f]? = some fn) (hb : fn.body = some c) (hN : fn.ntmps = E.N) (hA : args.length ≤ E.N)
    (hC : Callable E.P f) (hO : todoOK E [.code c] = true)
    (h : ev E none n [.code c] ⟨kp, [], number 0 args⟩ σ (retPost E fn.results.toList Q)) : ACalls E.P f args σ Q := by
  refine ACalls.of_run hE kp hf hb hN hA hC ((ev_sound hE hO h).mono fun j fr σ' ⟨h1, h2⟩ => ⟨h1, ?_⟩)
  cases hr : resAs E fr σ' fn.results.toList with
  | none => rw [hr] at h2; exact h2.elim
  | some vs => rw [hr] at h2; exact ⟨vs, rfl, h2⟩
/-- Ways that meet again: the rest is walked once. -/
theorem ARun.cutP {α : Type} {E : Env} {ro : Option Nat} {todo : List Item} {kp : Nat → Bool} {Q : Post} (J : α → Prop) (sl : α → List (Nat × AV)) (S : α → List AObj) {G : Prop}
    (f : (∀ a, J a → ARun E ro todo ⟨kp, [], sl a⟩ (S a) Q) → G) (g : ∀ a, J a → ARun E ro todo ⟨kp, [], sl a⟩ (S a) Q) : G := f g
/-- A statement whose ways meet again, walked for any rest of the code. -/
theorem ARun.cutC {α : Type} {E : Env} (hE : EnvOK E) {ro : Option Nat} {C : Code} {rest : List Item} {kp : Nat → Bool} {tm sl0 : List (Nat × AV)} {σ : List AObj} {Q : Post} (n : Nat) (J : α → Prop) (sl : α → List (Nat × AV)) (S : α → List AObj)
    (hO : todoOK E [.code C] = true) (hk : todoOK E rest = true)
    (way : ∀ (K : List Item) (Q : Post), (∀ a, J a → ARun E ro K ⟨kp, [], sl a⟩ (S a) Q) → ev E ro n (.code C :: K) ⟨kp, [], sl0⟩ σ Q)
    (g : ∀ a, J a → ARun E ro rest ⟨kp, [], sl a⟩ (S a) Q) : ARun E ro (.code C :: rest) ⟨kp, tm, sl0⟩ σ Q :=
  ARun.anew (fr := ⟨kp, tm, sl0⟩) (ev_sound hE (by
    rw [todoOK_cons, Bool.and_eq_true] at hO ⊢
    exact ⟨hO.1, hk⟩) (way rest Q g))
/-- The same, each way walked with a fuel of its own. -/
theorem ARun.cutD {α : Type} {E : Env} (hE : EnvOK E) {ro : Option Nat} {C : Code} {rest : List Item} {kp : Nat → Bool} {tm sl0 : List (Nat × AV)} {σ : List AObj} {Q : Post} (J : α → Prop) (sl : α → List (Nat × AV)) (S : α → List AObj)
    (hO : todoOK E [.code C] = true) (hk : todoOK E rest = true)
    (way : ∀ (K : List Item) (Q : Post), (∀ n, ev E ro n (.code C :: K) ⟨kp, [], sl0⟩ σ Q → ARun E ro (.code C :: K) ⟨kp, [], sl0⟩ σ Q) → (∀ a, J a → ARun E ro K ⟨kp, [], sl a⟩ (S a) Q) → ARun E ro (.code C :: K) ⟨kp, [], sl0⟩ σ Q)
    (g : ∀ a, J a → ARun E ro rest ⟨kp, [], sl a⟩ (S a) Q) : ARun E ro (.code C :: rest) ⟨kp, tm, sl0⟩ σ Q :=
  ARun.anew (fr := ⟨kp, tm, sl0⟩) (way rest Q (fun n h => ev_sound hE (n := n) (by
    rw [todoOK_cons, Bool.and_eq_true] at hO ⊢
    exact ⟨hO.1, hk⟩) h) g)
theorem pw_get {σ l : List AObj} {r a : Nat} {s : Int} (h : a < σ.length) (ha : a ≠ r) : hget (pw σ r s ++ l) a = hget σ a := by
  rw [hget_app (by rw [length_pw]; exact h)]
  exact hget_ne (fun e => ha e.symm)
theorem leastS_fold {α : Type} {num : α → Int} : ∀ {l : List α} {b : α × Int}, b.2 = num b.1 → (l.foldl (leastS num) b).2 = num (l.foldl (leastS num) b).1 ∧ ((l.foldl (leastS num) b).1 = b.1 ∨ (l.foldl (leastS num) b).1 ∈ l) ∧ (l.foldl (leastS num) b).2 ≤ b.2 ∧ ∀ x ∈ l, (l.foldl (leastS num) b).2 ≤ num x
  | [], b, h => ⟨h, .inl rfl, Int.le_refl _, by simp⟩
  | y :: l, b, h => by
    rw [List.foldl_cons]
    have hy : (leastS num b y).2 = num (leastS num b y).1 ∧ (leastS num b y).2 ≤ b.2 ∧ (leastS num b y).2 ≤ num y ∧ ((leastS num b y).1 = b.1 ∨ (leastS num b y).1 = y) := by
      unfold leastS
      by_cases c : num y < b.2
      · rw [if_pos c]; exact ⟨rfl, by simp only; omega, Int.le_refl _, .inr rfl⟩
      · rw [if_neg c]; exact ⟨h, Int.le_refl _, by omega, .inl rfl⟩
    obtain ⟨e1, e2, e3, e4⟩ := hy
    obtain ⟨h1, h2, h3, h4⟩ := leastS_fold (l := l) e1
    refine ⟨h1, ?_, by omega, fun x hx => ?_⟩
    · rcases h2 with h2 | h2
      · rcases e4 with e4 | e4
        · exact .inl (h2.trans e4)
        · exact .inr (by rw [h2, e4]; simp)
      · exact .inr (List.mem_cons_of_mem _ h2)
    · rcases List.mem_cons.1 hx with rfl | hx
      · omega
      · exact h4 x hx
theorem leastL_spec {α : Type} [Inhabited α] {num : α → Int} {l : List α} (hl : l ≠ []) : (leastL num l).1 ∈ l ∧ (leastL num l).2 = num (leastL num l).1 ∧ ∀ x ∈ l, (leastL num l).2 ≤ num x := by
  obtain ⟨y, l, rfl⟩ : ∃ y l', l = y :: l' := by cases l with | nil => exact absurd rfl hl | cons a b => exact ⟨a, b, rfl⟩
  have e : leastL num (y :: l) = l.foldl (leastS num) (y, num y) := rfl
  obtain ⟨h1, h2, h3, h4⟩ := leastS_fold (num := num) (l := l) (b := (y, num y)) rfl
  rw [e]
  refine ⟨?_, h1, fun x hx => ?_⟩
  · rcases h2 with h2 | h2
    · rw [h2]; simp
    · exact List.mem_cons_of_mem _ h2
  · rcases List.mem_cons.1 hx with rfl | hx
    · exact h3
    · exact h4 x hx
theorem least_iff {c : Cat} {S : List Int} {P : ByteArray} {ch : Int} (hv : ckOld c ⟨S, P, ch⟩ = 0) {k : Int} (h4 : k ≤ 4) : truthsM c ⟨S, P, k⟩ ≠ [] ↔ (leastM c ⟨S, P, ch⟩).2 = 0 ∧ (leastM c ⟨S, P, ch⟩).1 ≤ k := by
  have e := leastM_val hv
  have ea : (Old.all4 ⟨S, P, ch⟩) = ⟨S, P, 4⟩ := rfl
  rw [ea] at e
  rw [e]
  by_cases hn : truthsM c ⟨S, P, 4⟩ = []
  · rw [if_pos hn]
    constructor
    · intro h
      obtain ⟨m, hm⟩ := List.exists_mem_of_ne_nil _ h
      have := truths_mono (c := c) (o := ⟨S, P, k⟩) (o' := ⟨S, P, 4⟩) (fun m _ h => by simp only at h ⊢; omega) (fun n h => h) m hm
      rw [hn] at this; simp at this
    · intro h; simp at h
  · rw [if_neg hn]
    obtain ⟨h1, h2, h3⟩ := leastL_spec (num := fun m : Made => (changedN m.look S : Int)) hn
    simp only at h2 h3 ⊢
    constructor
    · intro h
      obtain ⟨m, hm⟩ := List.exists_mem_of_ne_nil _ h
      have hk := (isTrue_iff.1 (mem_truths.1 hm).2).1
      have := h3 m (truths_mono (c := c) (o := ⟨S, P, k⟩) (o' := ⟨S, P, 4⟩) (fun m _ h => by simp only at h ⊢; omega) (fun n h => h) m hm)
      simp only at hk
      exact ⟨trivial, by omega⟩
    · rintro ⟨_, h⟩ hz
      have hm := mem_truths.1 h1
      have ht := isTrue_iff.1 hm.2
      have : (leastL (fun m : Made => (changedN m.look S : Int)) (truthsM c ⟨S, P, 4⟩)).1 ∈ truthsM c ⟨S, P, k⟩ := mem_truths.2 ⟨hm.1, isTrue_iff.2 ⟨by simp only; omega, ht.2⟩⟩
      rw [hz] at this; simp at this
theorem leastM_err {c : Cat} {o : Old} (hv : ckOld c o = 0) : (leastM c o).2 = 0 ∨ (leastM c o).2 = 9 := by
  rw [leastM_val hv]
  by_cases hn : truthsM c o.all4 = []
  · rw [if_pos hn]; exact .inr rfl
  · rw [if_neg hn]; exact .inl rfl
theorem tg_pad {l : List Int} {f : Nat} (h : f < 4) : tg [tg l 0, tg l 1, tg l 2, tg l 3] (f : Int) = tg l f := by
  have : f = 0 ∨ f = 1 ∨ f = 2 ∨ f = 3 := by omega
  rcases this with rfl | rfl | rfl | rfl <;> rfl
theorem changed_pad {l seen : List Int} (h : seen.length ≤ 4) : changedN [tg l 0, tg l 1, tg l 2, tg l 3] seen = changedN l seen := by
  unfold changedN
  congr 1
  refine List.filter_congr fun i hi => ?_
  rw [List.mem_range] at hi
  unfold chg; rw [tg_pad (by omega)]
theorem made_look {i : Nat} {m : Model} {k : Nat} : (madeOf i m k).look = [tg (m.looks.getD k []) 0, tg (m.looks.getD k []) 1, tg (m.looks.getD k []) 2, tg (m.looks.getD k []) 3] := rfl
theorem seen_len {c : Cat} {o : Old} (hc : OkC c) (ho : OkO c o) : o.seen.length ≤ 4 := by have := ho.seen.1; have := hc.features; omega
theorem mem_all {c : Cat} {i k : Nat} (hi : i < c.models.length) (hk : k < (c.models.getD i default).looks.length) : madeOf i (c.models.getD i default) k ∈ allMade c := by
  unfold allMade
  rw [List.mem_flatMap]
  exact ⟨i, List.mem_range.2 hi, List.mem_map.2 ⟨k, List.mem_range.2 hk, rfl⟩⟩
theorem all_mem {c : Cat} {m : Made} (h : m ∈ allMade c) : ∃ i k : Nat, i < c.models.length ∧ k < (c.models.getD i default).looks.length ∧ m = madeOf i (c.models.getD i default) k := by
  unfold allMade at h
  rw [List.mem_flatMap] at h
  obtain ⟨i, hi, h⟩ := h
  obtain ⟨k, hk, rfl⟩ := List.mem_map.1 h
  exact ⟨i, k, List.mem_range.1 hi, List.mem_range.1 hk, rfl⟩
theorem truth_mem {c : Cat} {o : Old} {i k : Nat} {n : Int} (hc : OkC c) (h : OldP c o i k n) : madeOf i (c.models.getD i default) k ∈ truthsM c o := by
  refine mem_truths.2 ⟨mem_all h.hi h.hk, isTrue_iff.2 ⟨?_, h.tr⟩⟩
  rw [made_look, changed_pad (seen_len hc h.ok), h.ch]; exact h.le
/-- More is seen. -/
theorem changedN_mono {x S S' : List Int} (hl : S.length = S'.length) (h : ∀ f : Nat, f < S.length → tg S f = 0 ∨ tg S f = tg S' f) : changedN x S ≤ changedN x S' := by
  unfold changedN
  rw [← hl]
  have hsub : (List.range S.length).filter (chg x S) = ((List.range S.length).filter (chg x S')).filter (chg x S) := by
    rw [List.filter_filter]
    refine List.filter_congr fun i hi => ?_
    rw [List.mem_range] at hi
    rcases h i hi with e | e
    · simp [chg, e]
    · simp [chg, e]
  rw [hsub]; exact List.length_filter_le _ _
/-- A plate with a digit more. -/
theorem readsP_set {P P' : ByteArray} {i : Nat} (hl : P'.size = P.size) (hg : ∀ k, k < P.size → k ≠ i → P'.data.toList.getD k 0 = P.data.toList.getD k 0) (hi : P.data.toList.getD i 0 = 63) {n : Int} (h : readsP P' n = true) : readsP P n = true := by
  rw [readsP_iff] at h ⊢
  intro k hk
  by_cases e : k = i
  · subst e; rw [hi]; rfl
  · rw [← hg k hk e]; exact h k (by omega)
end Go.Proofs
