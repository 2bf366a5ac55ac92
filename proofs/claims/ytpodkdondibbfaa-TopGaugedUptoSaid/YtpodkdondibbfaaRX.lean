/- Texts of a proof: lemmas. -/
import Derived.Test.YtpodkdondibbfaaSp
import Derived.Test.YtpodkdondibbfaaRl
import Derived.Test.YtpodkdondibbfaaMu3
set_option linter.unusedSimpArgs false
set_option linter.unusedVariables false
set_option maxRecDepth 100000
namespace Go.Proofs
open Go Go.Mu

/-! Plain data and functions of the reeds' layer. -/
structure Jb where
  pitch : Rng
  tip : Rng
  root : Rng
  up : Rng
  down : Rng
  wt : Rng
  wr : Rng
  least : Int
  shifts : List Rng
  within : Int
  meter : Int
  deriving DecidableEq, Inhabited
def Rng.cells (x : Rng) : List AV := [.int .i64 x.lo, .int .i64 x.hi]
def Jb.tongue (j : Jb) : List AV := [.int .i64 j.pitch.lo, .int .i64 j.pitch.hi, .int .i64 j.tip.lo, .int .i64 j.tip.hi, .int .i64 j.root.lo, .int .i64 j.root.hi]
def Jb.file (j : Jb) : List AV := [.int .i64 j.up.lo, .int .i64 j.up.hi, .int .i64 j.down.lo, .int .i64 j.down.hi, .int .i64 j.wt.lo, .int .i64 j.wt.hi, .int .i64 j.wr.lo, .int .i64 j.wr.hi, .int .i64 j.least]
def Jb.cells (j : Jb) : List AV := [.int .i64 j.pitch.lo, .int .i64 j.pitch.hi, .int .i64 j.tip.lo, .int .i64 j.tip.hi, .int .i64 j.root.lo, .int .i64 j.root.hi, .int .i64 j.up.lo, .int .i64 j.up.hi, .int .i64 j.down.lo, .int .i64 j.down.hi, .int .i64 j.wt.lo, .int .i64 j.wt.hi, .int .i64 j.wr.lo, .int .i64 j.wr.hi, .int .i64 j.least, .list .no 2 (j.shifts.map Rng.av), .int .i64 j.within, .int .i64 j.meter]
def Jb.av (j : Jb) : AV := .agg j.cells
/-- A range within bounds. -/
def okB (lo hi : Int) (x : Rng) : Prop := lo ≤ x.lo ∧ x.lo ≤ x.hi ∧ x.hi ≤ hi
instance (lo hi : Int) (x : Rng) : Decidable (okB lo hi x) := by unfold okB; infer_instance
structure OkJ (j : Jb) : Prop where
  pitch : okB (-60) 60 j.pitch
  tip : okB 0 100 j.tip
  root : okB 0 100 j.root
  up : okB 0 12 j.up
  down : okB 0 12 j.down
  wt : okB 0 12 j.wt
  wr : okB 0 12 j.wr
  least : 0 ≤ j.least ∧ j.least ≤ 100
  len : j.shifts.length ≤ 4
  shifts : ∀ x ∈ j.shifts, okB (-60) 60 x
  within : 0 ≤ j.within ∧ j.within ≤ 60
  meter : 0 ≤ j.meter ∧ j.meter ≤ 6
instance (j : Jb) : Decidable (OkJ j) :=
  decidable_of_iff (okB (-60) 60 j.pitch ∧ okB 0 100 j.tip ∧ okB 0 100 j.root ∧ okB 0 12 j.up ∧ okB 0 12 j.down ∧ okB 0 12 j.wt ∧ okB 0 12 j.wr ∧ (0 ≤ j.least ∧ j.least ≤ 100) ∧ j.shifts.length ≤ 4 ∧ (∀ x ∈ j.shifts, okB (-60) 60 x) ∧ (0 ≤ j.within ∧ j.within ≤ 60) ∧ (0 ≤ j.meter ∧ j.meter ≤ 6))
    ⟨fun ⟨a, b, c, d, e, f, g, h, i, k, l, m⟩ => ⟨a, b, c, d, e, f, g, h, i, k, l, m⟩, fun ⟨a, b, c, d, e, f, g, h, i, k, l, m⟩ => ⟨a, b, c, d, e, f, g, h, i, k, l, m⟩⟩

def meet2 (a b : Rng) : Rng := ⟨max a.lo b.lo, min a.hi b.hi⟩
def meetL (f : Rng) (l : List Rng) : Rng := l.foldl meet2 f
def hasR (x y : Rng) : Bool := decide (x.lo ≤ y.lo ∧ y.hi ≤ x.hi)
def plusR (x y : Rng) : Rng := ⟨x.lo + y.lo, x.hi + y.hi⟩
def lessR (x y : Rng) : Rng := ⟨x.lo - y.hi, x.hi - y.lo⟩
def strictR (w : Int) (s : Rng) : Rng := ⟨0 - w - s.lo, w - s.hi⟩
def looseR (w : Int) (s : Rng) : Rng := ⟨0 - w - s.hi, w - s.lo⟩
/-- What passes surely, and what may pass. -/
def meetAll (w : Int) : List Rng → Rng
  | [] => ⟨0 - w, w⟩
  | s :: l => meetL s l
def winS (j : Jb) : Rng := meetAll j.within (j.shifts.map (strictR j.within))
def mayS (j : Jb) : Rng := meetAll j.within (j.shifts.map (looseR j.within))
def passS (j : Jb) (p : Rng) : Int := if hasR (winS j) p then 1 else if (meet2 (mayS j) p).hi < (meet2 (mayS j) p).lo then 2 else 3
/-- What can be known of a pitch when a meter has been read. -/
def rdL (p : Rng) (m : Int) : List Rng := (List.range (p.hi + m - (p.lo - m) + 1).toNat).map fun (i : Nat) => meet2 p ⟨p.lo - m + (i : Int) - m, p.lo - m + (i : Int) + m⟩
def wearL (x w : Rng) : Nat → Rng
  | 0 => x
  | n + 1 => lessR (wearL x w n) w
def spoilS (tip root : Rng) (least : Int) : Int := if tip.hi < least ∨ root.hi < least then 1 else if least ≤ tip.lo ∧ least ≤ root.lo then 2 else 3
def okS (j : Jb) (t r : Nat) : Bool := spoilS (wearL j.tip j.wt t) (wearL j.root j.wr r) j.least == 2
/-- Whether a tuner can be sure to stop. -/
def stopsL (j : Jb) : Nat → Rng → Nat → Nat → Bool
  | 0, p, _, _ => hasR (winS j) p
  | n + 1, p, t, r => hasR (winS j) p || (okS j (t + 1) r && (rdL (plusR p j.up) j.meter).all fun x => stopsL j n x (t + 1) r) || (okS j t (r + 1) && (rdL (lessR p j.down) j.meter).all fun x => stopsL j n x t (r + 1))
def strokeL (j : Jb) : Nat → Rng → Nat → Nat → Int
  | 0, _, _, _ => 0
  | n + 1, p, t, r => if okS j (t + 1) r && (rdL (plusR p j.up) j.meter).all fun x => stopsL j n x (t + 1) r then 1
    else if okS j t (r + 1) && (rdL (lessR p j.down) j.meter).all fun x => stopsL j n x t (r + 1) then 2 else 0
theorem stopsL_stroke (j : Jb) (n : Nat) (p : Rng) (t r : Nat) : stopsL j n p t r = (hasR (winS j) p || decide (0 < strokeL j n p t r)) := by
  cases n with
  | zero => simp [stopsL, strokeL]
  | succ n =>
    simp only [stopsL, strokeL]
    split
    · rename_i h; rw [h]; simp
    · rename_i h
      have h' := Bool.eq_false_iff.2 h
      rw [h']
      split
      · rename_i h2; rw [h2]; simp
      · rename_i h2; rw [Bool.eq_false_iff.2 h2]; simp
/-- The fewest strokes. -/
def fewL (f : Nat → Bool) : Option Nat := (List.range 5).find? f
def guidedS (j : Jb) : Option Nat := fewL fun n => (rdL j.pitch j.meter).all fun x => stopsL j n x 0 0
def nextS (j : Jb) : Option Nat := fewL fun n => stopsL j n j.pitch 0 0

/-! What is known more is no worse. -/
def inR (x y : Rng) : Prop := x.lo ≤ y.lo ∧ y.hi ≤ x.hi
theorem inR.refl {x : Rng} : inR x x := ⟨Int.le_refl _, Int.le_refl _⟩
theorem inR.trans {x y z : Rng} (h : inR x y) (g : inR y z) : inR x z := ⟨Int.le_trans h.1 g.1, Int.le_trans g.2 h.2⟩
theorem hasR_inR {w x y : Rng} (h : inR x y) (g : hasR w x = true) : hasR w y = true := by
  simp only [hasR, decide_eq_true_eq] at g ⊢; exact ⟨by have := h.1; omega, by have := h.2; omega⟩
theorem plusR_inR {x y u : Rng} (h : inR x y) : inR (plusR x u) (plusR y u) := ⟨by have := h.1; simp only [plusR]; omega, by have := h.2; simp only [plusR]; omega⟩
theorem lessR_inR {x y u : Rng} (h : inR x y) : inR (lessR x u) (lessR y u) := ⟨by have := h.1; simp only [lessR]; omega, by have := h.2; simp only [lessR]; omega⟩
theorem mem_rdL {p : Rng} {m : Int} {x : Rng} : x ∈ rdL p m ↔ ∃ n : Int, p.lo - m ≤ n ∧ n ≤ p.hi + m ∧ x = meet2 p ⟨n - m, n + m⟩ := by
  unfold rdL
  rw [List.mem_map]
  constructor
  · rintro ⟨i, hi, rfl⟩
    rw [List.mem_range] at hi
    exact ⟨p.lo - m + i, by omega, by omega, rfl⟩
  · rintro ⟨n, h1, h2, rfl⟩
    refine ⟨(n - (p.lo - m)).toNat, ?_, ?_⟩
    · rw [List.mem_range]; omega
    · have : p.lo - m + ((n - (p.lo - m)).toNat : Int) = n := by omega
      rw [this]
theorem rdL_inR {p q : Rng} {m : Int} (h : inR p q) (f : Rng → Bool) (hf : ∀ x y, inR x y → f x = true → f y = true) (ha : (rdL p m).all f = true) : (rdL q m).all f = true := by
  rw [List.all_eq_true] at ha ⊢
  intro y hy
  obtain ⟨n, h1, h2, rfl⟩ := mem_rdL.1 hy
  have h3 := h.1; have h4 := h.2
  refine hf (meet2 p ⟨n - m, n + m⟩) _ ?_ (ha _ (mem_rdL.2 ⟨n, by omega, by omega, rfl⟩))
  unfold inR meet2; simp only; omega
theorem stopsL_inR (j : Jb) : ∀ n p q t r, inR p q → stopsL j n p t r = true → stopsL j n q t r = true
  | 0, p, q, t, r, h, g => hasR_inR h g
  | n + 1, p, q, t, r, h, g => by
    simp only [stopsL, Bool.or_eq_true, Bool.and_eq_true] at g ⊢
    rcases g with (g | ⟨g1, g2⟩) | ⟨g1, g2⟩
    · exact .inl (.inl (hasR_inR h g))
    · exact .inl (.inr ⟨g1, rdL_inR (plusR_inR h) _ (fun x y hxy hx => stopsL_inR j n x y _ _ hxy hx) g2⟩)
    · exact .inr ⟨g1, rdL_inR (lessR_inR h) _ (fun x y hxy hx => stopsL_inR j n x y _ _ hxy hx) g2⟩
theorem fewL_mono {f g : Nat → Bool} (h : ∀ n, f n = true → g n = true) {n : Nat} (hn : fewL f = some n) : ∃ m, fewL g = some m ∧ m ≤ n := by
  have h1 : f n = true := List.find?_some hn
  have h2 : n < 5 := by have := List.mem_of_find?_eq_some hn; rwa [List.mem_range] at this
  cases hg : fewL g with
  | none =>
    have := List.find?_eq_none.1 hg n (List.mem_range.2 h2)
    exact absurd (h n h1) this
  | some m =>
    refine ⟨m, rfl, ?_⟩
    rw [fewL, List.find?_range_eq_some] at hg
    rcases Nat.lt_or_ge n m with hlt | hge
    · have := hg.2.2 n hlt
      rw [h n h1] at this; simp at this
    · exact hge
/-- With a pitch that is known better. -/
def Jb.at (j : Jb) (p : Rng) : Jb := { j with pitch := p }
theorem stopsL_at (j : Jb) (u : Rng) : ∀ n p t r, stopsL (j.at u) n p t r = stopsL j n p t r
  | 0, _, _, _ => rfl
  | n + 1, p, t, r => by
    have e1 : winS (j.at u) = winS j := rfl
    have e2 : ∀ a b, okS (j.at u) a b = okS j a b := fun _ _ => rfl
    have e3 : (fun x => stopsL (j.at u) n x (t + 1) r) = fun x => stopsL j n x (t + 1) r := funext fun x => stopsL_at j u n x _ _
    have e4 : (fun x => stopsL (j.at u) n x t (r + 1)) = fun x => stopsL j n x t (r + 1) := funext fun x => stopsL_at j u n x _ _
    simp only [stopsL, e1, e2, e3, e4]
    rfl
theorem guided_mono {j : Jb} {p q : Rng} (h : inR p q) {n : Nat} (hn : guidedS (j.at p) = some n) : ∃ m, guidedS (j.at q) = some m ∧ m ≤ n := by
  refine fewL_mono (fun k hk => ?_) hn
  have e : ∀ u, (fun x => stopsL (j.at u) k x 0 0) = fun x => stopsL j k x 0 0 := fun u => funext fun x => stopsL_at j u k x 0 0
  have e2 : ∀ u, (rdL (j.at u).pitch (j.at u).meter) = rdL u j.meter := fun _ => rfl
  rw [e, e2] at hk ⊢
  exact rdL_inR h _ (fun x y hxy hx => stopsL_inR j k x y 0 0 hxy hx) hk
/-! Verdicts. -/
theorem meetL_lo {f : Rng} {l : List Rng} {c : Int} (h : c ≤ (meetL f l).lo → True) : f.lo ≤ (meetL f l).lo ∧ (meetL f l).hi ≤ f.hi ∧ ∀ x ∈ l, x.lo ≤ (meetL f l).lo ∧ (meetL f l).hi ≤ x.hi := by
  clear h
  induction l generalizing f with
  | nil => exact ⟨Int.le_refl _, Int.le_refl _, by simp⟩
  | cons y l ih =>
    obtain ⟨h1, h2, h3⟩ := ih (f := meet2 f y)
    have e : meetL f (y :: l) = meetL (meet2 f y) l := rfl
    rw [e]
    have m1 : (meet2 f y).lo = max f.lo y.lo := rfl
    have m2 : (meet2 f y).hi = min f.hi y.hi := rfl
    rw [m1] at h1
    rw [m2] at h2
    refine ⟨by omega, by omega, fun x hx => ?_⟩
    rcases List.mem_cons.1 hx with rfl | hx
    · exact ⟨by omega, by omega⟩
    · exact h3 x hx
theorem meetL_some {f : Rng} {l : List Rng} {a b : Int} (h1 : f.lo ≤ a ∧ b ≤ f.hi) (h2 : ∀ x ∈ l, x.lo ≤ a ∧ b ≤ x.hi) : (meetL f l).lo ≤ a ∧ b ≤ (meetL f l).hi := by
  induction l generalizing f with
  | nil => exact h1
  | cons y l ih =>
    refine ih (f := meet2 f y) ?_ fun x hx => h2 x (List.mem_cons_of_mem _ hx)
    have := h2 y List.mem_cons_self
    simp only [meet2]; omega
theorem strictR_lo (w : Int) (s : Rng) : (strictR w s).lo = 0 - w - s.lo := rfl
theorem strictR_hi (w : Int) (s : Rng) : (strictR w s).hi = w - s.hi := rfl
theorem looseR_lo (w : Int) (s : Rng) : (looseR w s).lo = 0 - w - s.hi := rfl
theorem looseR_hi (w : Int) (s : Rng) : (looseR w s).hi = w - s.lo := rfl
/-- What passes surely may pass. -/
theorem win_may {j : Jb} (h : OkJ j) {a b : Int} (g : (winS j).lo ≤ a ∧ b ≤ (winS j).hi) : (mayS j).lo ≤ a ∧ b ≤ (mayS j).hi := by
  unfold winS at g; unfold mayS
  have hs := h.shifts
  cases hl : j.shifts with
  | nil => rw [hl] at g; exact g
  | cons s l =>
    rw [hl] at g hs
    simp only [List.map_cons, meetAll] at g ⊢
    obtain ⟨h1, h2, h3⟩ := meetL_lo (f := strictR j.within s) (l := l.map (strictR j.within)) (c := 0) (fun _ => trivial)
    have hs0 := hs s List.mem_cons_self
    refine meetL_some ?_ fun x hx => ?_
    · rw [strictR_lo] at h1
      rw [strictR_hi] at h2
      rw [looseR_lo, looseR_hi]
      obtain ⟨_, _, _⟩ := hs0
      omega
    · obtain ⟨y, hy, rfl⟩ := List.mem_map.1 hx
      obtain ⟨k1, k2⟩ := h3 _ (List.mem_map.2 ⟨y, hy, rfl⟩)
      obtain ⟨_, _, _⟩ := hs y (List.mem_cons_of_mem _ hy)
      rw [strictR_lo] at k1
      rw [strictR_hi] at k2
      rw [looseR_lo, looseR_hi]
      omega
theorem pass_mono {j : Jb} (hj : OkJ j) {p q : Rng} (h : inR p q) (hq : q.lo ≤ q.hi) (hv : passS j p ≠ 3) : passS j q = passS j p := by
  unfold passS at hv ⊢
  by_cases h1 : hasR (winS j) p = true
  · rw [if_pos h1, if_pos (hasR_inR h h1)]
  · rw [if_neg h1] at hv ⊢
    split at hv
    · rename_i h2
      rw [if_pos h2]
      have h3 := h.1; have h4 := h.2
      simp only [meet2] at h2
      rw [if_neg, if_pos]
      · simp only [meet2]; omega
      · intro h5
        simp only [hasR, decide_eq_true_eq] at h5
        have := win_may hj h5
        omega
    · exact absurd rfl hv
end Go.Proofs
set_option linter.unusedSimpArgs false
set_option linter.unusedVariables false
set_option maxRecDepth 100000
namespace Go.Proofs
open Go Go.Mu

def rin_s := spec3 tI tI tI fun n lo hi => some (.bool (decide (lo ≤ n ∧ n ≤ hi)))
theorem rin_ok : ∀ xs v, rin_s xs = some v → PureV Try.prog 58 xs v := by
  refine spec3_ok fun n lo hi v h => ?_
  simp only [Option.some.injEq] at h; subst h
  refine PureV.of_ev (E := Try.E 15 (fun _ => ([], [])) fs0) (Try.envOK 15 (fun _ => ([], [])) fs0 fs0_ok) (.bool) Try.kp58 Try.func58 rfl (by kernel_rfl) (by simp [Try.E]) (Callable.of Try.func58 (by kernel_rfl) (by kernel_rfl)) (by kernel_rfl) ?_
  intro σ
  simp only [tI]
  simp -implicitDefEqProofs (maxSteps := 2000000) (disch := omega) only [go_sem, reduceCtorEq, Nat.reduceAdd, Nat.reduceSub, Nat.reduceMul, Nat.reduceLT, Nat.reduceLeDiff, Nat.reduceEqDiff, Nat.reduceBEq, Int.reduceToNat, Int.reduceLT, Int.reduceLE, Int.reduceEq, Int.reduceNeg, Int.reduceAdd, Int.reduceSub, Int.reduceMul, ↓reduceIte, Int.reduceBEq, Int.reduceBNe]
  refine ⟨fun h1 => ⟨fun h2 => ?_, fun h2 => ?_⟩, fun h1 => ?_⟩ <;> simp [h1, *]
def fs200 (f : FuncId) (xs : List AV) : Option AV := if f = 58 then rin_s xs else fs0 f xs
theorem fs200_ok : ∀ f xs v, fs200 f xs = some v → PureV Try.prog f xs v := by
  intro f xs v h
  unfold fs200 at h
  split at h
  · rename_i e; subst e; exact rin_ok _ _ h
  exact fs0_ok _ _ _ h
attribute [go_sem] fs200 rin_s
theorem rck_p (x : Rng) (lo hi : Int) (h : okB lo hi x) : PureV Try.prog 56 [x.av, .int .i64 lo, .int .i64 hi] (.int .i64 0) := by
  refine PureV.of_ev (E := Try.E 28 (fun _ => ([], [])) fs200) (Try.envOK 28 (fun _ => ([], [])) fs200 fs200_ok) (.int) Try.kp56 Try.func56 rfl (by kernel_rfl) (by simp [Try.E]) (Callable.of Try.func56 (by kernel_rfl) (by kernel_rfl)) (by kernel_rfl) ?_
  intro σ
  simp only [Rng.av]
  obtain ⟨h1, h2, h3⟩ := h
  simp -implicitDefEqProofs (maxSteps := 2000000) (disch := omega) only [go_sem, reduceCtorEq, Nat.reduceAdd, Nat.reduceSub, Nat.reduceMul, Nat.reduceLT, Nat.reduceLeDiff, Nat.reduceEqDiff, Nat.reduceBEq, Int.reduceToNat, Int.reduceLT, Int.reduceLE, Int.reduceEq, Int.reduceNeg, Int.reduceAdd, Int.reduceSub, Int.reduceMul, ↓reduceIte, Int.reduceBEq, Int.reduceBNe]
def rck_s := spec3 tRng tI tI fun x lo hi => if okB lo hi x then some (.int .i64 0) else none
theorem rck_ok : ∀ xs v, rck_s xs = some v → PureV Try.prog 56 xs v :=
  spec3_ok fun x lo hi v h => by have h := someIf h; rw [← h.2]; exact rck_p x lo hi h.1
def fs201 (f : FuncId) (xs : List AV) : Option AV := if f = 56 then rck_s xs else fs200 f xs
theorem fs201_ok : ∀ f xs v, fs201 f xs = some v → PureV Try.prog f xs v := by
  intro f xs v h
  unfold fs201 at h
  split at h
  · rename_i e; subst e; exact rck_ok _ _ h
  exact fs200_ok _ _ _ h
attribute [go_sem] fs201 rck_s
def tRs : Ty (List Rng) := ⟨decL 2 decRng, fun l => .list .no 2 (l.map Rng.av), decL_inv' decRng_inv⟩
theorem tRs_dec {a : AV} : tRs.dec a = decL 2 decRng a := rfl
attribute [go_sem] tRs_dec
def okBs (lo hi : Int) (l : List Rng) : Prop := l.length ≤ 1000 ∧ ∀ x ∈ l, okB lo hi x
instance (lo hi : Int) (l : List Rng) : Decidable (okBs lo hi l) := by unfold okBs; infer_instance
theorem rall_p (lo hi : Int) (l : List Rng) (h : okBs lo hi l) : PureV Try.prog 57 [.int .i64 lo, .int .i64 hi, .list .no 2 (l.map Rng.av)] (.int .i64 0) := by
  refine PureV.of_ev (E := Try.E 24 (fun _ => ([], [])) fs201) (Try.envOK 24 (fun _ => ([], [])) fs201 fs201_ok) (.int) Try.kp57 Try.func57 rfl (by kernel_rfl) (by simp [Try.E]) (Callable.of Try.func57 (by kernel_rfl) (by kernel_rfl)) (by kernel_rfl) ?_
  intro σ
  obtain ⟨hl, h⟩ := h
  simp -implicitDefEqProofs (maxSteps := 2000000) (disch := omega) only [go_sem, reduceCtorEq, Nat.reduceAdd, Nat.reduceSub, Nat.reduceMul, Nat.reduceLT, Nat.reduceLeDiff, Nat.reduceEqDiff, Nat.reduceBEq, Int.reduceToNat, Int.reduceLT, Int.reduceLE, Int.reduceEq, Int.reduceNeg, Int.reduceAdd, Int.reduceSub, Int.reduceMul, ↓reduceIte, Int.reduceBEq, Int.reduceBNe]
  refine ARun.forJ (Try.envOK 24 (fun _ => ([], [])) fs201 fs201_ok) l.length (fun i τ => ∃ j, τ = σ ++ j) (fun i => [(12, .int .i64 i)]) (by kernel_rfl) (by simp [upd, ins, subF, lookA]) ⟨[], by simp⟩ ?_ ?_
  · rintro i τ hi ⟨j, rfl⟩ ih
    have hidx : idx (l.map Rng.av) (i : Int) = some l[i].av := idx_nat hi
    have hx := h _ (List.getElem_mem hi)
    generalize l[i] = x at hidx hx
    have hxa : x.av = .agg [.int .i64 x.lo, .int .i64 x.hi] := rfl
    simp -implicitDefEqProofs (maxSteps := 2000000) (disch := omega) only [go_sem, reduceCtorEq, Nat.reduceAdd, Nat.reduceSub, Nat.reduceMul, Nat.reduceLT, Nat.reduceLeDiff, Nat.reduceEqDiff, Nat.reduceBEq, Int.reduceToNat, Int.reduceLT, Int.reduceLE, Int.reduceEq, Int.reduceNeg, Int.reduceAdd, Int.reduceSub, Int.reduceMul, ↓reduceIte, Int.reduceBEq, Int.reduceBNe, hidx, hxa, hx]
    exact (ih _ ⟨j ++ [.cells [.int .i64 x.lo, .int .i64 x.hi]], rfl⟩).castS (by simp) (by simp [upd, ins, subF, lookA])
  · rintro τ ⟨j, rfl⟩
    simp -implicitDefEqProofs (maxSteps := 2000000) (disch := omega) only [go_sem, reduceCtorEq, Nat.reduceAdd, Nat.reduceSub, Nat.reduceMul, Nat.reduceLT, Nat.reduceLeDiff, Nat.reduceEqDiff, Nat.reduceBEq, Int.reduceToNat, Int.reduceLT, Int.reduceLE, Int.reduceEq, Int.reduceNeg, Int.reduceAdd, Int.reduceSub, Int.reduceMul, ↓reduceIte, Int.reduceBEq, Int.reduceBNe]
def rall_s := spec3 tI tI tRs fun lo hi l => if okBs lo hi l then some (.int .i64 0) else none
theorem rall_ok : ∀ xs v, rall_s xs = some v → PureV Try.prog 57 xs v :=
  spec3_ok fun lo hi l v h => by have h := someIf h; rw [← h.2]; exact rall_p lo hi l h.1
def decJb : AV → Option Jb
  | .agg [.int .i64 a1, .int .i64 a2, .int .i64 b1, .int .i64 b2, .int .i64 c1, .int .i64 c2, .int .i64 d1, .int .i64 d2, .int .i64 e1, .int .i64 e2, .int .i64 f1, .int .i64 f2, .int .i64 g1, .int .i64 g2, .int .i64 le, l, .int .i64 w, .int .i64 m] =>
    (decL 2 decRng l).bind fun s => some ⟨⟨a1, a2⟩, ⟨b1, b2⟩, ⟨c1, c2⟩, ⟨d1, d2⟩, ⟨e1, e2⟩, ⟨f1, f2⟩, ⟨g1, g2⟩, le, s, w, m⟩
  | _ => none
theorem decJb_inv (a : AV) (x : Jb) (h : decJb a = some x) : wk a x.av := by
  unfold decJb at h; split at h
  · obtain ⟨u, h1, h⟩ := Option.bind_eq_some_iff.1 h
    simp at h; subst h
    exact ⟨rfl, rfl, rfl, rfl, rfl, rfl, rfl, rfl, rfl, rfl, rfl, rfl, rfl, rfl, rfl, decL_inv decRng_inv h1, rfl, rfl, trivial⟩
  · cases h
theorem decJb_av (j : Jb) : decJb j.av = some j := by
  show (decL 2 decRng (.list .no 2 (j.shifts.map Rng.av))).bind _ = _
  rw [decL_rng]; rfl
def tJb : Ty Jb := ⟨decJb, Jb.av, fun {a x} h => decJb_inv a x h⟩
theorem tJb_dec {a : AV} : tJb.dec a = decJb a := rfl
theorem Jb_eta (j : Jb) : (⟨⟨j.pitch.lo, j.pitch.hi⟩, ⟨j.tip.lo, j.tip.hi⟩, ⟨j.root.lo, j.root.hi⟩, ⟨j.up.lo, j.up.hi⟩, ⟨j.down.lo, j.down.hi⟩, ⟨j.wt.lo, j.wt.hi⟩, ⟨j.wr.lo, j.wr.hi⟩, j.least, j.shifts, j.within, j.meter⟩ : Jb) = j := rfl
theorem Jb_eta' (j : Jb) : (⟨j.pitch, j.tip, j.root, j.up, j.down, j.wt, j.wr, j.least, j.shifts, j.within, j.meter⟩ : Jb) = j := rfl
attribute [go_sem] tJb_dec decJb decJb_av Jb_eta Jb_eta'
def fs202 (f : FuncId) (xs : List AV) : Option AV := if f = 57 then rall_s xs else fs201 f xs
theorem fs202_ok : ∀ f xs v, fs202 f xs = some v → PureV Try.prog f xs v := by
  intro f xs v h
  unfold fs202 at h
  split at h
  · rename_i e; subst e; exact rall_ok _ _ h
  exact fs201_ok _ _ _ h
attribute [go_sem] fs202 rall_s
theorem jck_p (j : Jb) (h : OkJ j) : PureV Try.prog 33 [j.av] (.int .i64 0) := by
  refine PureV.of_ev (E := Try.E 67 (fun _ => ([], [])) fs202) (Try.envOK 67 (fun _ => ([], [])) fs202 fs202_ok) (.int) Try.kp33 Try.func33 rfl (by kernel_rfl) (by simp [Try.E]) (Callable.of Try.func33 (by kernel_rfl) (by kernel_rfl)) (by kernel_rfl) ?_
  intro σ
  simp only [Jb.av, Jb.cells]
  have e1 : okB (-60) 60 ⟨j.pitch.lo, j.pitch.hi⟩ := h.pitch
  have e2 : okBs 0 100 [⟨j.tip.lo, j.tip.hi⟩, ⟨j.root.lo, j.root.hi⟩] := ⟨by simp, by simp; exact ⟨h.tip, h.root⟩⟩
  have e3 : okBs 0 12 [⟨j.up.lo, j.up.hi⟩, ⟨j.down.lo, j.down.hi⟩, ⟨j.wt.lo, j.wt.hi⟩, ⟨j.wr.lo, j.wr.hi⟩] := ⟨by simp, by simp; exact ⟨h.up, h.down, h.wt, h.wr⟩⟩
  have e4 : okBs (-60) 60 j.shifts := ⟨by have := h.len; omega, h.shifts⟩
  have h1 := h.least
  have h2 := h.len
  have h3 := h.within
  have h4 := h.meter
  clear h
  simp -implicitDefEqProofs (maxSteps := 2000000) (disch := omega) only [go_sem, reduceCtorEq, Nat.reduceAdd, Nat.reduceSub, Nat.reduceMul, Nat.reduceLT, Nat.reduceLeDiff, Nat.reduceEqDiff, Nat.reduceBEq, Int.reduceToNat, Int.reduceLT, Int.reduceLE, Int.reduceEq, Int.reduceNeg, Int.reduceAdd, Int.reduceSub, Int.reduceMul, ↓reduceIte, Int.reduceBEq, Int.reduceBNe, e1, e2, e3, e4, Rng_eta]
def jck_s := spec1 tJb fun j => if OkJ j then some (.int .i64 0) else none
theorem jck_ok : ∀ xs v, jck_s xs = some v → PureV Try.prog 33 xs v :=
  spec1_ok fun j v h => by have h := someIf h; rw [← h.2]; exact jck_p j h.1
def bigR (x : Rng) : Prop := (-1000000 ≤ x.lo ∧ x.lo ≤ 1000000) ∧ (-1000000 ≤ x.hi ∧ x.hi ≤ 1000000)
instance (x : Rng) : Decidable (bigR x) := by unfold bigR; infer_instance
theorem meet2_lo (y x : Rng) : (meet2 y x).lo = if y.lo < x.lo then x.lo else y.lo := by simp only [meet2]; split <;> omega
theorem meet2_hi (y x : Rng) : (meet2 y x).hi = if x.hi < y.hi then x.hi else y.hi := by simp only [meet2]; split <;> omega
theorem meet_p (f : Rng) (l : List Rng) (hl : l.length ≤ 1000) : PureV Try.prog 60 [f.av, .list .no 2 (l.map Rng.av)] (meetL f l).av := by
  refine PureV.of_ev (E := Try.E 26 (fun _ => ([], [])) fs0) (Try.envOK 26 (fun _ => ([], [])) fs0 fs0_ok) (Rng.plain _) Try.kp60 Try.func60 rfl (by kernel_rfl) (by simp [Try.E]) (Callable.of Try.func60 (by kernel_rfl) (by kernel_rfl)) (by kernel_rfl) ?_
  intro σ
  simp only [Rng.av]
  simp -implicitDefEqProofs (maxSteps := 2000000) (disch := omega) only [go_sem, reduceCtorEq, Nat.reduceAdd, Nat.reduceSub, Nat.reduceMul, Nat.reduceLT, Nat.reduceLeDiff, Nat.reduceEqDiff, Nat.reduceBEq, Int.reduceToNat, Int.reduceLT, Int.reduceLE, Int.reduceEq, Int.reduceNeg, Int.reduceAdd, Int.reduceSub, Int.reduceMul, ↓reduceIte, Int.reduceBEq, Int.reduceBNe]
  refine ARun.forJ (Try.envOK 26 (fun _ => ([], [])) fs0 fs0_ok) l.length (fun i τ => ∃ j, τ = σ ++ ((AObj.cells [.int .i64 (meetL f (l.take i)).lo, .int .i64 (meetL f (l.take i)).hi]) :: .cells [.int .i64 0, .int .i64 0] :: j)) (fun i => [(9, .int .i64 i)]) (by kernel_rfl) (by simp [upd, ins, subF, lookA]) ⟨[], by simp [meetL]⟩ ?_ ?_
  · rintro i τ hi ⟨j, rfl⟩ ih
    have hidx : idx (l.map Rng.av) (i : Int) = some l[i].av := idx_nat hi
    have ht : meetL f (l.take (i + 1)) = meet2 (meetL f (l.take i)) l[i] := by unfold meetL; rw [foldl_take _ _ _ _ hi]
    rw [ht] at ih
    generalize meetL f (l.take i) = y at ih ⊢
    generalize l[i] = x at hidx ih
    have hxa : x.av = .agg [.int .i64 x.lo, .int .i64 x.hi] := rfl
    simp -implicitDefEqProofs (maxSteps := 2000000) (disch := omega) only [go_sem, reduceCtorEq, Nat.reduceAdd, Nat.reduceSub, Nat.reduceMul, Nat.reduceLT, Nat.reduceLeDiff, Nat.reduceEqDiff, Nat.reduceBEq, Int.reduceToNat, Int.reduceLT, Int.reduceLE, Int.reduceEq, Int.reduceNeg, Int.reduceAdd, Int.reduceSub, Int.reduceMul, ↓reduceIte, Int.reduceBEq, Int.reduceBNe, hidx, hxa]
    refine (ih _ ⟨j ++ [.cells [.int .i64 x.lo, .int .i64 x.hi]], rfl⟩).castS ?_ (by simp [upd, ins, subF, lookA])
    rw [meet2_lo, meet2_hi]
  · rintro τ ⟨j, rfl⟩
    rw [List.take_length]
    simp -implicitDefEqProofs (maxSteps := 2000000) (disch := omega) only [go_sem, reduceCtorEq, Nat.reduceAdd, Nat.reduceSub, Nat.reduceMul, Nat.reduceLT, Nat.reduceLeDiff, Nat.reduceEqDiff, Nat.reduceBEq, Int.reduceToNat, Int.reduceLT, Int.reduceLE, Int.reduceEq, Int.reduceNeg, Int.reduceAdd, Int.reduceSub, Int.reduceMul, ↓reduceIte, Int.reduceBEq, Int.reduceBNe]
theorem has_p (x y : Rng) : PureV Try.prog 61 [x.av, y.av] (.bool (hasR x y)) := by
  refine PureV.of_ev (E := Try.E 17 (fun _ => ([], [])) fs0) (Try.envOK 17 (fun _ => ([], [])) fs0 fs0_ok) (.bool) Try.kp61 Try.func61 rfl (by kernel_rfl) (by simp [Try.E]) (Callable.of Try.func61 (by kernel_rfl) (by kernel_rfl)) (by kernel_rfl) ?_
  intro σ
  simp only [Rng.av]
  simp -implicitDefEqProofs (maxSteps := 2000000) (disch := omega) only [go_sem, reduceCtorEq, Nat.reduceAdd, Nat.reduceSub, Nat.reduceMul, Nat.reduceLT, Nat.reduceLeDiff, Nat.reduceEqDiff, Nat.reduceBEq, Int.reduceToNat, Int.reduceLT, Int.reduceLE, Int.reduceEq, Int.reduceNeg, Int.reduceAdd, Int.reduceSub, Int.reduceMul, ↓reduceIte, Int.reduceBEq, Int.reduceBNe]
  refine ⟨fun h1 => ⟨fun h2 => ?_, fun h2 => ?_⟩, fun h1 => ?_⟩ <;> simp [hasR, h1, *]
theorem plus_p (x y : Rng) (hx : bigR x) (hy : bigR y) : PureV Try.prog 76 [x.av, y.av] (plusR x y).av := by
  refine PureV.of_ev (E := Try.E 16 (fun _ => ([], [])) fs0) (Try.envOK 16 (fun _ => ([], [])) fs0 fs0_ok) (Rng.plain _) Try.kp76 Try.func76 rfl (by kernel_rfl) (by simp [Try.E]) (Callable.of Try.func76 (by kernel_rfl) (by kernel_rfl)) (by kernel_rfl) ?_
  intro σ
  obtain ⟨h1, h2⟩ := hx
  obtain ⟨h3, h4⟩ := hy
  simp only [Rng.av, plusR]
  simp -implicitDefEqProofs (maxSteps := 2000000) (disch := omega) only [go_sem, reduceCtorEq, Nat.reduceAdd, Nat.reduceSub, Nat.reduceMul, Nat.reduceLT, Nat.reduceLeDiff, Nat.reduceEqDiff, Nat.reduceBEq, Int.reduceToNat, Int.reduceLT, Int.reduceLE, Int.reduceEq, Int.reduceNeg, Int.reduceAdd, Int.reduceSub, Int.reduceMul, ↓reduceIte, Int.reduceBEq, Int.reduceBNe]
theorem less_p (x y : Rng) (hx : bigR x) (hy : bigR y) : PureV Try.prog 74 [x.av, y.av] (lessR x y).av := by
  refine PureV.of_ev (E := Try.E 16 (fun _ => ([], [])) fs0) (Try.envOK 16 (fun _ => ([], [])) fs0 fs0_ok) (Rng.plain _) Try.kp74 Try.func74 rfl (by kernel_rfl) (by simp [Try.E]) (Callable.of Try.func74 (by kernel_rfl) (by kernel_rfl)) (by kernel_rfl) ?_
  intro σ
  obtain ⟨h1, h2⟩ := hx
  obtain ⟨h3, h4⟩ := hy
  simp only [Rng.av, lessR]
  simp -implicitDefEqProofs (maxSteps := 2000000) (disch := omega) only [go_sem, reduceCtorEq, Nat.reduceAdd, Nat.reduceSub, Nat.reduceMul, Nat.reduceLT, Nat.reduceLeDiff, Nat.reduceEqDiff, Nat.reduceBEq, Int.reduceToNat, Int.reduceLT, Int.reduceLE, Int.reduceEq, Int.reduceNeg, Int.reduceAdd, Int.reduceSub, Int.reduceMul, ↓reduceIte, Int.reduceBEq, Int.reduceBNe]
end Go.Proofs
set_option linter.unusedSimpArgs false
set_option linter.unusedVariables false
set_option maxRecDepth 100000
namespace Go.Proofs
open Go Go.Mu

theorem idx_cons0 {x : AV} {l : List AV} : idx (x :: l) 0 = some x := rfl
attribute [go_sem] idx_cons0
def rmeet_s := spec2 tRng tRs fun f l => if l.length ≤ 1000 then some (meetL f l).av else none
theorem rmeet_ok : ∀ xs v, rmeet_s xs = some v → PureV Try.prog 60 xs v :=
  spec2_ok fun f l v h => by have h := someIf h; rw [← h.2]; exact meet_p f l h.1
def rhas_s := spec2 tRng tRng fun x y => some (.bool (hasR x y))
theorem rhas_ok : ∀ xs v, rhas_s xs = some v → PureV Try.prog 61 xs v :=
  spec2_ok fun x y v h => by simp only [Option.some.injEq] at h; subst h; exact has_p x y
def rplus_s := spec2 tRng tRng fun x y => if bigR x ∧ bigR y then some (plusR x y).av else none
theorem rplus_ok : ∀ xs v, rplus_s xs = some v → PureV Try.prog 76 xs v :=
  spec2_ok fun x y v h => by have h := someIf h; rw [← h.2]; exact plus_p x y h.1.1 h.1.2
def rless_s := spec2 tRng tRng fun x y => if bigR x ∧ bigR y then some (lessR x y).av else none
theorem rless_ok : ∀ xs v, rless_s xs = some v → PureV Try.prog 74 xs v :=
  spec2_ok fun x y v h => by have h := someIf h; rw [← h.2]; exact less_p x y h.1.1 h.1.2
def fs203 (f : FuncId) (xs : List AV) : Option AV := if f = 33 then jck_s xs else if f = 60 then rmeet_s xs else if f = 61 then rhas_s xs else if f = 76 then rplus_s xs else if f = 74 then rless_s xs else fs202 f xs
theorem fs203_ok : ∀ f xs v, fs203 f xs = some v → PureV Try.prog f xs v := by
  intro f xs v h
  unfold fs203 at h
  split at h
  · rename_i e; subst e; exact jck_ok _ _ h
  split at h
  · rename_i e; subst e; exact rmeet_ok _ _ h
  split at h
  · rename_i e; subst e; exact rhas_ok _ _ h
  split at h
  · rename_i e; subst e; exact rplus_ok _ _ h
  split at h
  · rename_i e; subst e; exact rless_ok _ _ h
  exact fs202_ok _ _ _ h
attribute [go_sem] fs203 jck_s rmeet_s rhas_s rplus_s rless_s
theorem drop_take1 {x : AV} {A : List Rng} : List.drop 1 (List.take ((A.length : Int) + 1).toNat (x :: A.map Rng.av)) = A.map Rng.av := by
  have : ((A.length : Int) + 1).toNat = A.length + 1 := by omega
  rw [this, List.take_succ_cons, List.drop_succ_cons, List.drop_zero, List.take_of_length_le (by simp)]
theorem strict_small {j : Jb} (h : OkJ j) {s : Rng} (hs : s ∈ j.shifts) : ((-120 ≤ 0 - j.within - s.lo ∧ 0 - j.within - s.lo ≤ 120) ∧ (-120 ≤ j.within - s.hi ∧ j.within - s.hi ≤ 120)) ∧ ((-120 ≤ 0 - j.within - s.hi ∧ 0 - j.within - s.hi ≤ 120) ∧ (-120 ≤ j.within - s.lo ∧ j.within - s.lo ≤ 120)) := by
  obtain ⟨h1, h2, h3⟩ := h.shifts s hs
  have := h.within
  omega
set_option maxHeartbeats 4000000 in
theorem windows_p (j : Jb) (h : OkJ j) : PureV Try.prog 59 [j.av] (.tup [(winS j).av, (mayS j).av]) := by
  refine PureV.of_ev (E := Try.E 69 Try.ord59 fs203) (Try.envOK 69 Try.ord59 fs203 fs203_ok) (.tup (by simp; exact ⟨Rng.plain _, Rng.plain _⟩)) Try.kp59 Try.func59 rfl (by kernel_rfl) (by simp [Try.E]) (Callable.of Try.func59 (by kernel_rfl) (by kernel_rfl)) (by kernel_rfl) ?_
  intro σ
  have hw := h.within
  have hl := h.len
  cases hsh : j.shifts with
  | nil =>
    have e1 : winS j = ⟨0 - j.within, j.within⟩ := by unfold winS; rw [hsh]; rfl
    have e2 : mayS j = ⟨0 - j.within, j.within⟩ := by unfold mayS; rw [hsh]; rfl
    rw [e1, e2]
    simp only [Jb.av, Jb.cells, hsh, List.map_nil]
    clear h e1 e2
    simp -implicitDefEqProofs (maxSteps := 2000000) (disch := omega) only [go_sem, reduceCtorEq, Nat.reduceAdd, Nat.reduceSub, Nat.reduceMul, Nat.reduceLT, Nat.reduceLeDiff, Nat.reduceEqDiff, Nat.reduceBEq, Int.reduceToNat, Int.reduceLT, Int.reduceLE, Int.reduceEq, Int.reduceNeg, Int.reduceAdd, Int.reduceSub, Int.reduceMul, ↓reduceIte, Int.reduceBEq, Int.reduceBNe]
    exact ⟨rfl, rfl, trivial⟩
  | cons s0 rest =>
    have hsm := fun s hs => strict_small h (s := s) hs
    have e1 : winS j = meetL (strictR j.within s0) (rest.map (strictR j.within)) := by unfold winS; rw [hsh]; rfl
    have e2 : mayS j = meetL (looseR j.within s0) (rest.map (looseR j.within)) := by unfold mayS; rw [hsh]; rfl
    rw [e1, e2]
    have hne : 0 < j.shifts.length := by rw [hsh]; simp
    simp only [Jb.av, Jb.cells]
    clear h e1 e2
    obtain ⟨L, hL⟩ : ∃ L, L = j.shifts := ⟨_, rfl⟩
    rw [← hL] at hsh hl hne hsm ⊢
    obtain ⟨w, hw2⟩ : ∃ w, w = j.within := ⟨_, rfl⟩
    rw [← hw2] at hsm hw ⊢
    generalize hjc : j.pitch.lo = p1
    generalize j.pitch.hi = p2
    generalize j.tip.lo = p3
    generalize j.tip.hi = p4
    generalize j.root.lo = p5
    generalize j.root.hi = p6
    generalize j.up.lo = p7
    generalize j.up.hi = p8
    generalize j.down.lo = p9
    generalize j.down.hi = p10
    generalize j.wt.lo = p11
    generalize j.wt.hi = p12
    generalize j.wr.lo = p13
    generalize j.wr.hi = p14
    generalize j.least = p15
    generalize j.meter = p16
    clear hL hw2 hjc
    simp -implicitDefEqProofs (maxSteps := 2000000) (disch := omega) only [go_sem, reduceCtorEq, Nat.reduceAdd, Nat.reduceSub, Nat.reduceMul, Nat.reduceLT, Nat.reduceLeDiff, Nat.reduceEqDiff, Nat.reduceBEq, Int.reduceToNat, Int.reduceLT, Int.reduceLE, Int.reduceEq, Int.reduceNeg, Int.reduceAdd, Int.reduceSub, Int.reduceMul, ↓reduceIte, Int.reduceBEq, Int.reduceBNe]
    refine ARun.ghost 5 2 (sz0 := 0) rfl (by simp [lookA]) ?_
    simp only [ins, ↓reduceIte, List.append_assoc, List.cons_append, List.nil_append, List.length_append, List.length_cons, List.length_nil, Nat.zero_add, Nat.reduceEqDiff, Nat.add_assoc, Nat.reduceAdd]
    refine ARun.ghost 6 2 (sz0 := 0) rfl (by simp [lookA]) ?_
    simp only [ins, ↓reduceIte, List.append_assoc, List.cons_append, List.nil_append, List.length_append, List.length_cons, List.length_nil, Nat.zero_add, Nat.reduceEqDiff, Nat.add_assoc, Nat.reduceAdd]
    refine ARun.forJ (Try.envOK 69 Try.ord59 fs203 fs203_ok) L.length (fun i τ => ∃ J, τ = σ ++ ((.cells [.int .i64 p1, .int .i64 p2, .int .i64 p3, .int .i64 p4, .int .i64 p5, .int .i64 p6, .int .i64 p7, .int .i64 p8, .int .i64 p9, .int .i64 p10, .int .i64 p11, .int .i64 p12, .int .i64 p13, .int .i64 p14, .int .i64 p15, .list .no 2 (L.map Rng.av), .int .i64 w, .int .i64 p16]) :: .cells [.int .i64 0, .int .i64 0] :: .cells [.int .i64 0, .int .i64 0] :: .cells [.int .i64 (0 - w), .int .i64 w] :: .tail i 2 :: .tail i 2 :: J)) (fun i => [(5, .list (.own (σ.length + 4)) 2 (((L.take i).map (strictR w)).map Rng.av)), (6, .list (.own (σ.length + 5)) 2 (((L.take i).map (looseR w)).map Rng.av)), (24, .int .i64 i)]) (by kernel_rfl) (by simp [upd, ins, subF, lookA]) ⟨[], by simp⟩ ?_ ?_
    · rintro i τ hi ⟨J, rfl⟩ ih
      have hidx : idx (L.map Rng.av) (i : Int) = some L[i].av := idx_nat hi
      have hb := hsm _ (List.getElem_mem hi)
      have e3 : (L.take (i + 1)).map (strictR w) = (L.take i).map (strictR w) ++ [strictR w L[i]] := by rw [List.take_succ_eq_append_getElem hi, List.map_append]; rfl
      have e4 : (L.take (i + 1)).map (looseR w) = (L.take i).map (looseR w) ++ [looseR w L[i]] := by rw [List.take_succ_eq_append_getElem hi, List.map_append]; rfl
      rw [e3, e4] at ih
      have l1 : ((L.take i).map (strictR w)).length = i := by simp; omega
      have l2 : ((L.take i).map (looseR w)).length = i := by simp; omega
      generalize (L.take i).map (strictR w) = A at ih l1 ⊢
      generalize (L.take i).map (looseR w) = B at ih l2 ⊢
      generalize L[i] = x at hidx hb ih
      have hxa : x.av = .agg [.int .i64 x.lo, .int .i64 x.hi] := rfl
      clear hsm hsh e3 e4
      simp -implicitDefEqProofs (maxSteps := 2000000) (disch := omega) only [go_sem, reduceCtorEq, Nat.reduceAdd, Nat.reduceSub, Nat.reduceMul, Nat.reduceLT, Nat.reduceLeDiff, Nat.reduceEqDiff, Nat.reduceBEq, Int.reduceToNat, Int.reduceLT, Int.reduceLE, Int.reduceEq, Int.reduceNeg, Int.reduceAdd, Int.reduceSub, Int.reduceMul, ↓reduceIte, Int.reduceBEq, Int.reduceBNe, hidx, hxa, l1, l2]
      refine (ih _ ⟨J ++ [.cells [.int .i64 x.lo, .int .i64 x.hi]], rfl⟩).castS (by simp) (by simp [upd, ins, subF, lookA, Rng.av, strictR, looseR])
    · rintro τ ⟨J, rfl⟩
      have hr : rest.length ≤ 1000 := by rw [hsh] at hl; simp at hl; omega
      clear hsm hl hne
      rw [List.take_length, hsh]
      simp only [List.map_cons]
      obtain ⟨x, hx⟩ : ∃ x, strictR w s0 = x := ⟨_, rfl⟩
      obtain ⟨y, hy⟩ : ∃ y, looseR w s0 = y := ⟨_, rfl⟩
      rw [hx, hy]
      have hxa : x.av = .agg [.int .i64 x.lo, .int .i64 x.hi] := rfl
      have hya : y.av = .agg [.int .i64 y.lo, .int .i64 y.hi] := rfl
      have hl1 : (rest.map (strictR w)).length ≤ 1000 := by simp; omega
      have hl2 : (rest.map (looseR w)).length ≤ 1000 := by simp; omega
      generalize rest.map (strictR w) = A at hl1 ⊢
      generalize rest.map (looseR w) = B at hl2 ⊢
      simp -implicitDefEqProofs (maxSteps := 2000000) (disch := omega) only [go_sem, reduceCtorEq, Nat.reduceAdd, Nat.reduceSub, Nat.reduceMul, Nat.reduceLT, Nat.reduceLeDiff, Nat.reduceEqDiff, Nat.reduceBEq, Int.reduceToNat, Int.reduceLT, Int.reduceLE, Int.reduceEq, Int.reduceNeg, Int.reduceAdd, Int.reduceSub, Int.reduceMul, ↓reduceIte, Int.reduceBEq, Int.reduceBNe, Rng.av, drop_take1]
end Go.Proofs
set_option linter.unusedSimpArgs false
set_option linter.unusedVariables false
namespace Go.Mu
open Go

/-! Maps whose keys are any data that can be told apart. -/
section
variable {κ : Type} [DecidableEq κ] {α : Type}
def gIdx (k : κ) : List (κ × α) → Nat → Option (Nat × α)
  | [], _ => none
  | (k', v) :: m, i => if k = k' then some (i, v) else gIdx k m (i + 1)
def gget (m : List (κ × α)) (k : κ) : Option α := (gIdx k m 0).map (·.2)
def gset (m : List (κ × α)) (k : κ) (v : α) : List (κ × α) := match gIdx k m 0 with
  | some (i, _) => m.set i (k, v)
  | none => m ++ [(k, v)]
theorem gIdx_get {k : κ} : ∀ {m : List (κ × α)} {i j : Nat} {v : α}, gIdx k m i = some (j, v) → i ≤ j ∧ m[j - i]? = some (k, v)
  | [], i, j, v, h => by simp [gIdx] at h
  | (k', w) :: m, i, j, v, h => by
    simp only [gIdx] at h
    split at h
    · rename_i e; subst e
      simp only [Option.some.injEq, Prod.mk.injEq] at h
      obtain ⟨rfl, rfl⟩ := h
      simp
    · obtain ⟨h1, h2⟩ := gIdx_get h
      refine ⟨by omega, ?_⟩
      rw [show j - i = (j - (i + 1)) + 1 by omega]
      simpa using h2
theorem gIdx_none {k : κ} : ∀ {m : List (κ × α)} {i : Nat}, gIdx k m i = none ↔ ∀ p ∈ m, p.1 ≠ k
  | [], i => by simp [gIdx]
  | (k', w) :: m, i => by
    have ih := gIdx_none (k := k) (m := m) (i := i + 1)
    simp only [gIdx, List.forall_mem_cons]
    split
    · rename_i e; simp [e]
    · rename_i e
      rw [ih]
      exact ⟨fun h => ⟨fun e2 => e e2.symm, h⟩, fun h => h.2⟩
theorem gget_mem {m : List (κ × α)} {k : κ} {v : α} (h : gget m k = some v) : (k, v) ∈ m := by
  unfold gget at h
  cases hi : gIdx k m 0 with
  | none => rw [hi] at h; simp at h
  | some q =>
    obtain ⟨j, w⟩ := q
    rw [hi] at h; simp at h; subst h
    exact List.mem_of_getElem? (gIdx_get hi).2
theorem gget_none {m : List (κ × α)} {k : κ} : gget m k = none ↔ ∀ p ∈ m, p.1 ≠ k := by
  unfold gget
  rw [Option.map_eq_none_iff, gIdx_none]
theorem gset_mem {m : List (κ × α)} {k : κ} {v : α} {p : κ × α} (h : p ∈ gset m k v) : p = (k, v) ∨ p ∈ m := by
  unfold gset at h
  split at h
  · rcases List.mem_or_eq_of_mem_set h with h | h
    · exact .inr h
    · exact .inl h
  · rcases List.mem_append.1 h with h | h
    · exact .inr h
    · simp at h; exact .inl h
theorem gset_new {m : List (κ × α)} {k : κ} {v : α} (h : gget m k = none) : gset m k v = m ++ [(k, v)] := by
  unfold gget at h
  rw [Option.map_eq_none_iff] at h
  unfold gset; rw [h]
variable {f : κ → AV} {g : α → AV}
theorem findA_g (hf : ∀ a b, keyEq (f a) (f b) = some (decide (a = b))) (k : κ) : ∀ (m : List (κ × α)) (i : Nat), findA (f k) (m.map fun p => (f p.1, g p.2)) i = some ((gIdx k m i).map fun q => (q.1, g q.2))
  | [], i => rfl
  | (k', v) :: m, i => by
    have ih := findA_g hf k m (i + 1)
    simp only [List.map_cons, findA, hf, gIdx]
    by_cases h : k = k'
    · subst h; simp
    · rw [decide_eq_false h, if_neg h]; exact ih
theorem updR_g (hf : ∀ a b, keyEq (f a) (f b) = some (decide (a = b))) {m : List (κ × α)} {k : κ} {v : α} {r : Nat} {σ : List AObj} :
    updR r (m.map fun p => (f p.1, g p.2)) (f k) (g v) σ (findA (f k) (m.map fun p => (f p.1, g p.2)) 0) = some (.tup [], hset σ r (.map ((gset m k v).map fun p => (f p.1, g p.2)))) := by
  rw [findA_g hf]
  unfold gset
  cases gIdx k m 0 with
  | none => simp [updR]
  | some q => simp [updR, List.map_set]
theorem lookR_g (hf : ∀ a b, keyEq (f a) (f b) = some (decide (a = b))) {m : List (κ × α)} {k : κ} {ok : Bool} {z : AV} {σ : List AObj} :
    lookR ok z σ (findA (f k) (m.map fun p => (f p.1, g p.2)) 0) = some (match gget m k with
      | some v => if ok then .tup [g v, .bool true] else g v
      | none => if ok then .tup [z, .bool false] else z, σ) := by
  rw [findA_g hf]
  unfold gget
  cases gIdx k m 0 with
  | none => rfl
  | some q => rfl
end
end Go.Mu
