/- Texts of a proof: lemmas. -/
import Derived.Test.YtpodkdondibbfaaA11
set_option linter.unusedSimpArgs false
set_option linter.unusedVariables false
set_option maxRecDepth 100000
namespace Go.Proofs
open Go Go.Mu

theorem nil_keep {r : Rd} {sl : Int} {t : List Int} {m : List (Int × List (List Int))} (h : ∀ p ∈ m, p.2 ≠ []) : ∀ p ∈ outS r sl m t, p.2 ≠ [] := by
  unfold outS
  generalize showsL r sl t = ks
  induction ks generalizing m with
  | nil => exact h
  | cons k ks ih =>
    refine ih (m := pushO t m k) fun p hp => ?_
    rcases mset_mem hp with rfl | hp
    · simp
    · exact h p hp
/-- What is left by an outcome are some of the truths, and not none. -/
theorem outcomes_sub {r : Rd} {sl : Int} {l : List (List Int)} : ∀ p ∈ outcomesL r sl l, p.2 ≠ [] ∧ ∀ t ∈ p.2, t ∈ l := by
  have key : ∀ (l0 : List (List Int)) (m : List (Int × List (List Int))), (∀ p ∈ m, p.2 ≠ [] ∧ ∀ t ∈ p.2, t ∈ l) → (∀ t ∈ l0, t ∈ l) → ∀ p ∈ l0.foldl (outS r sl) m, p.2 ≠ [] ∧ ∀ t ∈ p.2, t ∈ l := by
    intro l0
    induction l0 with
    | nil => intro m h _; exact h
    | cons t l0 ih =>
      intro m h ht
      refine ih (outS r sl m t) ?_ (fun u hu => ht u (by simp [hu]))
      have htl := ht t (by simp)
      unfold outS
      generalize showsL r sl t = ks
      clear ih
      induction ks generalizing m with
      | nil => exact h
      | cons k ks ih =>
        refine ih (m := pushO t m k) fun p hp => ?_
        rcases mset_mem hp with rfl | hp
        · refine ⟨by simp, fun u hu => ?_⟩
          rcases List.mem_append.1 hu with hu | hu
          · cases hg : mget m k with
            | none => rw [hg] at hu; simp at hu
            | some v => rw [hg] at hu; exact (h _ (mget_mem hg)).2 u hu
          · simp at hu; subst hu; exact htl
        · exact h p hp
  exact key l [] (by simp) (fun t ht => ht)
/-- Whether a count over s seconds leaves a tongue known within a width, whatever it shows. -/
def gateS (sl : Int) (l : List (List Int)) (x width s : Int) : Bool := (outcomesL ⟨1, x, 0, s, ⟨0, 0⟩⟩ sl l).all fun p => decide ((spanL (fun t => tg t x) p.2).hi - (spanL (fun t => tg t x) p.2).lo ≤ width)
def gateW (m x width : Int) : Int := if 0 ≤ x ∧ x ≤ m - 1 then (if width < 0 then 1 else 0) else 3
def gateL (e : Ear) (x width : Int) : Int × Int :=
  if (askL e (gateW e.tones.length x width)).2 = 0 then
    (match (List.range 20).find? (fun k : Nat => gateS e.slack (truthsL e) x width (k + 1)) with
    | some k => ((k : Int) + 1, 0)
    | none => (0, 11))
  else (0, (askL e (gateW e.tones.length x width)).2)
theorem find_range {f : Nat → Bool} {i n : Nat} (hi : i < n) (h : ∀ k, k < i → f k = false) (hf : f i = true) : (List.range n).find? f = some i := by
  rw [List.find?_range_eq_some]
  exact ⟨hf, by simpa using hi, fun j hj => by simp [h j hj]⟩
theorem find_none {f : Nat → Bool} {n : Nat} (h : ∀ k, k < n → f k = false) : (List.range n).find? f = none := by
  rw [List.find?_eq_none]
  intro x hx
  simp at hx
  simp [h x hx]
theorem spanL_bound {l : List (List Int)} (h : ∀ t ∈ l, small t) (hl : l ≠ []) (x : Int) : 0 ≤ (spanL (fun t => tg t x) l).lo ∧ (spanL (fun t => tg t x) l).lo ≤ 1000000 ∧ 0 ≤ (spanL (fun t => tg t x) l).hi ∧ (spanL (fun t => tg t x) l).hi ≤ 1000000 := by
  have key : ∀ (l : List (List Int)) (y : Rng), (∀ t ∈ l, small t) → (0 ≤ y.lo ∧ y.lo ≤ 1000000 ∧ 0 ≤ y.hi ∧ y.hi ≤ 1000000) → (0 ≤ (l.foldl (spanS fun t => tg t x) y).lo ∧ (l.foldl (spanS fun t => tg t x) y).lo ≤ 1000000 ∧ 0 ≤ (l.foldl (spanS fun t => tg t x) y).hi ∧ (l.foldl (spanS fun t => tg t x) y).hi ≤ 1000000) := by
    intro l
    induction l with
    | nil => intro y _ hy; exact hy
    | cons t l ih =>
      intro y ht hy
      refine ih _ (fun u hu => ht u (by simp [hu])) ?_
      have := small_tg (ht t (by simp)) x
      simp only [spanS, mn, mx]
      refine ⟨?_, ?_, ?_, ?_⟩ <;> split <;> omega
  obtain ⟨t, l, rfl⟩ : ∃ t l', l = t :: l' := by cases l with | nil => exact absurd rfl hl | cons a b => exact ⟨a, b, rfl⟩
  have := small_tg (h t (by simp)) x
  exact key _ _ h (by simp only [List.headD_cons]; omega)
theorem ARun.loopJ {E : Env} (hE : EnvOK E) {ro : Option Nat} {c : Code} {k : List Item} {kp : Nat → Bool} {tm sl : List (Nat × AV)} {σ : List AObj} {Q : Post} {α : Type} (m : α → Nat) (J : α → List AObj → Prop) (lv : α → List (Nat × AV)) (x0 : α)
    (hO : todoOK E (.code c :: .inLoop c :: k) = true) (h0 : subF (upd sl (lv x0)) sl) (hJ : J x0 σ)
    (hs : ∀ x τ, J x τ → (∀ y τ', m y < m x → J y τ' → ARun E ro (.inLoop c :: k) ⟨kp, [], upd sl (lv y)⟩ τ' Q) → ev E ro 100000 (.code c :: .inLoop c :: k) ⟨kp, [], upd sl (lv x)⟩ τ Q) : ARun E ro (.code (.loop c) :: k) ⟨kp, tm, sl⟩ σ Q := by
  have key : ∀ n x τ, m x = n → J x τ → ARun E ro (.code c :: .inLoop c :: k) ⟨kp, [], upd sl (lv x)⟩ τ Q := by
    intro n
    induction n using Nat.strongRecOn with
    | _ n ih =>
      intro x τ hm hj
      exact ev_sound hE hO (hs x τ hj fun y τ' hlt hy => .inLoop (ih (m y) (by omega) y τ' rfl hy))
  exact .loop (ARun.sub (key _ x0 σ rfl hJ) h0)
theorem nextA_intro {X : AV → List AObj → Prop} {τ : List AObj} {r q c : Nat} {seen : List Nat} {es : List (AV × AV)} (hg : hget τ r = some (.iter (some q) c seen)) (hq : hget τ q = some (.map es)) (hc : c = es.length)
    (h1 : ∀ i k v, es[i]? = some (k, v) → i ∉ seen → X (.tup [.bool true, k, v]) (hset τ r (.iter (some q) c (seen ++ [i])))) (h2 : (∀ i, i < es.length → i ∈ seen) → X (.tup [.bool false]) τ) : nextA X τ (some (.ptr r 0)) := by
  unfold nextA
  simp only [hg, hq]
  exact ⟨hc, h1, h2⟩
theorem nodup_lt : ∀ {n : Nat} {l : List Nat}, l.Nodup → (∀ i ∈ l, i < n) → l.length ≤ n
  | 0, l, _, hl => by
    cases l with
    | nil => simp
    | cons a l => have := hl a (by simp); omega
  | n + 1, l, h, hl => by
    by_cases hm : n ∈ l
    · have h1 : (l.erase n).length ≤ n := nodup_lt (h.erase n) fun i hi => by
        have h2 := hl i (List.mem_of_mem_erase hi)
        have h3 : i ≠ n := (List.Nodup.mem_erase_iff h).1 hi |>.1
        omega
      rw [List.length_erase_of_mem hm] at h1
      omega
    · have := nodup_lt h fun i hi => by
        have h2 := hl i hi
        have h3 : i ≠ n := fun e => hm (e ▸ hi)
        show i < n
        omega
      omega
end Go.Proofs
