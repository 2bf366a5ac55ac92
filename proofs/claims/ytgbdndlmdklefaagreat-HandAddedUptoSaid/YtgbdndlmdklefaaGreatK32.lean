/- Texts of a proof: lemmas. -/
import Derived.Test.YtgbdndlmdklefaaGreatK31
import Derived.Test.YtgbdndlmdklefaaGreatK25
import Derived.Laws.Bits64
set_option linter.unusedSimpArgs false
set_option linter.unusedVariables false
set_option maxRecDepth 100000
namespace Go.Proofs
open Go Go.Mu
variable {S : MC Tryz.prog}
theorem Ear_eta (e : Ear) : (⟨e.slack, e.tones, e.rds⟩ : Ear) = e := rfl
theorem ii_plain {a b : Int} : Plain (.tup [.int .i64 a, .int .i64 b]) := .tup (by simp; exact ⟨.int, .int⟩)
theorem gateW_ok {m x w : Int} (h : gateW m x w = 0) : (0 ≤ x ∧ x ≤ m - 1) ∧ 0 ≤ w := by unfold gateW at h; grind
set_option maxHeartbeats 1000000 in
theorem gate_p (e : Ear) (x width : Int) (h1 : e.tones.length ≤ 4294967296) (h2 : e.rds.length ≤ 4294967296) : PureV S 133 [e.av, .int .i64 x, .int .i64 width] (.tup [.int .i64 (gateL e x width).1, .int .i64 (gateL e x width).2]) := by
 refine PvE (Tryz.envOK (S := S) 63 (fun _ => ([], [])) fs9 fs9_ok) (ii_plain) Tryz.kp133 Tryz.func133 rfl ?_
 intro σ
 simp only [Ear.av]
 by_cases hk : (askL e (gateW e.tones.length x width)).2 = 0
 ·obtain ⟨hc, hw, hn, hke⟩ := askL_ok hk
  rw [hw] at hke
  have he := okE_of_ck hc
  obtain ⟨hx, hwd⟩ := gateW_ok hw
  have hlen := he.len
  have htl := truthsL_len he
  have hx2 : 0 ≤ x ∧ x ≤ 2 := by omega
  have hke' : askL ⟨e.slack, e.tones, e.rds⟩ 0 = (truthsL e, 0) := hke
  simp -implicitDefEqProofs (maxSteps := 2000000) (disch := omega) only [go_sem, simprocAttr, hke', tavs]
  refine ARun.forS (Tryz.envOK (S := S) 63 (fun _ => ([], [])) fs9 fs9_ok) 20 (fun i => ∀ k, k < i → gateS e.slack (truthsL e) x width (k + 1) = false) (fun i => [(11, .int .i64 ((i : Int) + 1))]) (fun _ j => σ ++ (.cells e.cells :: .cells [.int .i64 x] :: j)) [] (by kernel_rfl) (by simp [Ear.cells]) (by simp [upd, ins, subF, lookA]) (by simp) ?_ ?_
  ·intro i j hi hP ih
   have hr : okR ⟨1, x, 0, (i : Int) + 1, ⟨0, 0⟩⟩ := ⟨by simp only; omega, hx2, by simp only; omega, by simp only; omega, by simp only; omega, by simp only; omega⟩
   simp -implicitDefEqProofs (maxSteps := 2000000) (disch := omega) only [go_sem, simprocAttr, Ear.cells, giveB_rdv]
   refine outcomes_c ⟨1, x, 0, (i : Int) + 1, ⟨0, 0⟩⟩ e.slack (truthsL e) hr he.sl (by omega) (truthsL_ok he) _ _ fun τ m hO hm => ?_
   have hmap := hO.map
   have hlenS := hO.len
   have hold := hO.old
   have hs0 := hold σ.length (by simp)
   have hs1 := hold (σ.length + 1) (by simp)
   rw [hget_at0] at hs0
   rw [hget_at] at hs1
   simp only [List.getElem?_cons_zero, List.getElem?_cons_succ] at hs0 hs1
   simp only [List.length_append, List.length_cons] at hmap hlenS hold
   generalize hrm : σ.length + (j.length + 1 + 1) = rm at hmap hlenS hold
   have hml : (mapT m).length = m.length := by simp [mapT]
   simp -implicitDefEqProofs (maxSteps := 2000000) (disch := omega) only [go_sem, simprocAttr, hmap, hrm, hml]
   let Ok (i2 : Nat) : Prop := ∀ p, m[i2]? = some p → (spanL (fun t => tg t x) p.2.2).hi - (spanL (fun t => tg t x) p.2.2).lo ≤ width
   refine ARun.loopJ (Tryz.envOK (S := S) 63 (fun _ => ([], [])) fs9 fs9_ok) (α := List Nat) (fun seen => m.length - seen.length) (fun seen τ' => τ.length < τ'.length ∧ (∀ q, q < σ.length → hget τ' q = hget σ q) ∧ hget τ' σ.length = some (.cells e.cells) ∧ hget τ' (σ.length + 1) = some (.cells [.int .i64 x]) ∧ hget τ' rm = some (.map (mapT m)) ∧ hget τ' τ.length = some (.iter (some rm) m.length seen) ∧ seen.Nodup ∧ (∀ i2 ∈ seen, i2 < m.length ∧ Ok i2)) (fun _ => []) [] (by kernel_rfl) (by simp [upd, ins, subF, lookA]) ?_ ?_
   ·refine ⟨by simp, fun q hq => ?_, ?_, ?_, ?_, hget_at0, by simp, by simp⟩
    ·rw [hget_app (by omega), hold q (by omega), hget_app hq]
    ·rw [hget_app (by omega)]; exact hs0
    ·rw [hget_app (by omega)]; exact hs1
    ·rw [hget_app (by omega)]; exact hmap
   ·rintro seen τ' ⟨j1, j2, j3, j4, j5, j6, j7, j8⟩ ih2
    simp -implicitDefEqProofs (maxSteps := 2000000) (disch := omega) only [go_sem, simprocAttr]
    refine nextA_intro j6 j5 hml.symm (fun i2 k v hi2 hns => ?_) (fun hall => ?_)
    ·obtain ⟨p, hp, hkv⟩ : ∃ p, m[i2]? = some p ∧ (AV.int .i64 p.1, AV.list (.own p.2.1) 3 (p.2.2.map tav)) = (k, v) := by simpa [mapT] using hi2
     simp only [Prod.mk.injEq] at hkv
     obtain ⟨rfl, rfl⟩ := hkv
     have hpm : p ∈ m := List.mem_of_getElem? hp
     obtain ⟨hi2l, _⟩ := List.getElem?_eq_some_iff.1 hp
     have hpo : (p.1, p.2.2) ∈ outcomesL ⟨1, x, 0, (i : Int) + 1, ⟨0, 0⟩⟩ e.slack (truthsL e) := by rw [← hm]; exact List.mem_map.2 ⟨p, hpm, rfl⟩
     obtain ⟨hne, hsub⟩ := outcomes_sub _ hpo
     simp only at hne hsub
     have htlp := (hO.tl p hpm).2.2
     have hsm : ∀ t ∈ p.2.2, t.length = 3 ∧ small t := fun t ht => truthsL_ok he t (hsub t ht)
     obtain ⟨b1, b2, b3, b4⟩ := spanL_bound (fun t ht => (hsm t ht).2) hne x
     have hrτ : rm < τ.length := hget_lt hmap
     have k1 : hget (hset τ' τ.length (.iter (some rm) m.length (seen ++ [i2]))) τ.length = some (.iter (some rm) m.length (seen ++ [i2])) := hget_set j6 _
     have k2 : ∀ q, q ≠ τ.length → hget (hset τ' τ.length (.iter (some rm) m.length (seen ++ [i2]))) q = hget τ' q := fun q hq => hget_ne (fun e => hq e.symm)
     have k3 : (hset τ' τ.length (.iter (some rm) m.length (seen ++ [i2]))).length = τ'.length := length_hset
     generalize hset τ' τ.length (.iter (some rm) m.length (seen ++ [i2])) = τ1 at k1 k2 k3 ⊢
     have k5 : hget τ1 rm = some (.map (mapT m)) := by rw [k2 _ (by omega)]; exact j5
     have k6 : hget τ1 (σ.length + 1) = some (.cells [.int .i64 x]) := by rw [k2 _ (by omega)]; exact j4
     have hgl : (seen ++ [i2]).getLast? = some i2 := by simp
     simp -implicitDefEqProofs (maxSteps := 2000000) (disch := omega) only [go_sem, simprocAttr, k1, k5, hgl, hi2, hml]
     refine ACalls.weaken (l' := [tavs p.2.2, .fn (.func 171) [] [.ptr (σ.length + 1) 0]]) ⟨⟨rfl, .inl rfl, .inl rfl⟩, rfl, trivial⟩ (span_c (fun t => tg t x) p.2.2 hne (by omega) (fun t ht => (hsm t ht).1) (fun t ht => gate1_v k6 hx2 (hsm t ht).1) _ ?_)
     by_cases hcmp : width < (spanL (fun t => tg t x) p.2.2).hi - (spanL (fun t => tg t x) p.2.2).lo
     ·simp -implicitDefEqProofs (maxSteps := 2000000) (disch := omega) only [go_sem, simprocAttr, Rng.av]
      have hg : gateS e.slack (truthsL e) x width ((i : Int) + 1) = false := by
       unfold gateS
       rw [List.all_eq_false]
       exact ⟨_, hpo, by simp only [decide_eq_true_eq]; omega⟩
      obtain ⟨j', hj'⟩ := app_of_same (σ := σ ++ [.cells e.cells, .cells [.int .i64 x]]) (τ := τ1 ++ [.cells [.int .i64 (spanL (fun t => tg t x) p.2.2).lo, .int .i64 (spanL (fun t => tg t x) p.2.2).hi]]) (by simp; omega) (fun q hq => by
       simp only [List.length_append, List.length_cons, List.length_nil] at hq
       rw [hget_app (by omega), k2 _ (by omega)]
       rcases (by omega : q < σ.length ∨ q = σ.length ∨ q = σ.length + 1) with hq' | rfl | rfl
       ·rw [j2 q hq', hget_app hq']
       ·rw [j3, hget_at0]; rfl
       ·rw [j4, hget_at]; rfl)
      rw [hj', List.append_assoc]
      refine (ih (fun k hk2 => ?_) j').castS rfl (by simp [upd, ins, subF, lookA])
      rcases (by omega : k < i ∨ k = i) with hk3 | rfl
      ·exact hP k hk3
      ·exact hg
     ·simp -implicitDefEqProofs (maxSteps := 2000000) (disch := omega) only [go_sem, simprocAttr, Rng.av]
      have hnd : (seen ++ [i2]).Nodup := by
       rw [List.nodup_append]
       exact ⟨j7, by simp, fun a ha b hb e => by simp at hb; subst hb; exact hns (e ▸ ha)⟩
      have hall2 : ∀ i3 ∈ seen ++ [i2], i3 < m.length ∧ Ok i3 := fun i3 h3 => by
       rcases List.mem_append.1 h3 with h3 | h3
       ·exact j8 i3 h3
       ·simp at h3; subst h3
        refine ⟨hi2l, fun p' hp' => ?_⟩
        rw [hp] at hp'; simp at hp'; subst hp'; omega
      have hcard := nodup_lt hnd (fun i3 h3 => (hall2 i3 h3).1)
      simp only [List.length_append, List.length_cons, List.length_nil] at hcard
      refine (ih2 (seen ++ [i2]) _ (by simp only [List.length_append, List.length_cons, List.length_nil]; omega) ⟨by simp; omega, fun q hq => by rw [hget_app (by omega), k2 _ (by omega)]; exact j2 q hq, by rw [hget_app (by omega), k2 _ (by omega)]; exact j3, by rw [hget_app (by omega)]; exact k6, by rw [hget_app (by omega)]; exact k5, by rw [hget_app (by omega)]; exact k1, hnd, hall2⟩).castS rfl (by simp [upd, ins, subF, lookA])
    ·have hg : gateS e.slack (truthsL e) x width ((i : Int) + 1) = true := by
      unfold gateS
      rw [List.all_eq_true]
      intro p' hp'
      rw [← hm] at hp'
      obtain ⟨p, hp, rfl⟩ := List.mem_map.1 hp'
      obtain ⟨i2, hi2, rfl⟩ := List.mem_iff_getElem.1 hp
      have := (j8 i2 (hall i2 (by rw [hml]; exact hi2))).2 _ (List.getElem?_eq_getElem hi2)
      simpa using this
     have hf := find_range (f := fun k : Nat => gateS e.slack (truthsL e) x width (k + 1)) hi hP hg
     simp -implicitDefEqProofs (maxSteps := 2000000) (disch := omega) only [go_sem, simprocAttr]
     refine gives_same (by omega) (fun q hq => j2 q hq) ?_
     simp [gateL, hk, hf, wk, wkL, wk1, wk0]
  ·intro j hP
   have hf := find_none (f := fun k : Nat => gateS e.slack (truthsL e) x width (k + 1)) (n := 20) hP
   simp -implicitDefEqProofs (maxSteps := 2000000) (disch := omega) only [go_sem, simprocAttr]
   simp [gateL, hk, hf]
 ·have hk' : ¬ (askL ⟨e.slack, e.tones, e.rds⟩ (gateW e.tones.length x width)).2 = 0 := hk
  by_cases hx : 0 ≤ x ∧ x ≤ (e.tones.length : Int) - 1
  ·by_cases hw : width < 0
   ·have hv : gateW e.tones.length x width = 1 := by simp [gateW, hx, hw]
    rw [hv] at hk'
    simp -implicitDefEqProofs (maxSteps := 2000000) (disch := omega) only [go_sem, simprocAttr, hk', tavs]
    rw [hv] at hk
    simp [gateL, hk, hv, Ear_eta]
   ·have hv : gateW e.tones.length x width = 0 := by simp [gateW, hx, hw]
    rw [hv] at hk'
    simp -implicitDefEqProofs (maxSteps := 2000000) (disch := omega) only [go_sem, simprocAttr, hk', tavs]
    rw [hv] at hk
    simp [gateL, hk, hv, Ear_eta]
  ·have hv : gateW e.tones.length x width = 3 := by unfold gateW; rw [if_neg hx]
   rw [hv] at hk'
   simp -implicitDefEqProofs (maxSteps := 2000000) (disch := omega) only [go_sem, simprocAttr, hk', tavs, hx]
   rw [hv] at hk
   simp [gateL, hk, hv, Ear_eta]
def gate_s := spec3 tEar tI tI fun e a b => if e.tones.length ≤ 4294967296 ∧ e.rds.length ≤ 4294967296 then some (.tup [.int .i64 (gateL e a b).1, .int .i64 (gateL e a b).2]) else none
theorem gate_ok : ∀ xs v, gate_s xs = some v → PureV S 133 xs v :=
 spec3_ok fun e a b v h => by have h := someIf h; rw [← h.2]; exact gate_p e a b h.1.1 h.1.2
def fs10 (f : FuncId) (xs : List AV) : Option AV := if f = 133 then gate_s xs else fs9 f xs
theorem fs10_ok {S : MC Tryz.prog} : ∀ f xs v, fs10 f xs = some v → PureV S f xs v := by
 intro f xs v h
 unfold fs10 at h
 split at h
 ·rename_i e; subst e; exact gate_ok _ _ h
 exact fs9_ok _ _ _ h
attribute [go_sem] fs10 gate_s
end Go.Proofs
namespace Go.Proofs
open Go Go.Mu
end Go.Proofs
namespace Go.Proofs
open Go Go.Mu
variable {S : MC Tryz.prog}
def fs11 (f : FuncId) (xs : List AV) : Option AV :=  fs10 f xs
theorem fs11_ok {S : MC Tryz.prog} : ∀ f xs v, fs11 f xs = some v → PureV S f xs v := by
 intro f xs v h
 unfold fs11 at h
 exact fs10_ok _ _ _ h
attribute [go_sem] fs11
def fs12 (f : FuncId) (xs : List AV) : Option AV :=  fs11 f xs
theorem fs12_ok {S : MC Tryz.prog} : ∀ f xs v, fs12 f xs = some v → PureV S f xs v := by
 intro f xs v h
 unfold fs12 at h
 exact fs11_ok _ _ _ h
attribute [go_sem] fs12
theorem Ear.plain (e : Ear) : Plain e.av := .agg (by simp; exact ⟨.int, .map fun x _ => Rng.plain x, .map fun x _ => Rd.plain x⟩)
def fs13 (f : FuncId) (xs : List AV) : Option AV :=  fs12 f xs
theorem fs13_ok {S : MC Tryz.prog} : ∀ f xs v, fs13 f xs = some v → PureV S f xs v := by
 intro f xs v h
 unfold fs13 at h
 exact fs12_ok _ _ _ h
attribute [go_sem] fs13
theorem rngs_plain (l : List Rng) : Plain (.list .no 2 (l.map Rng.av)) := .map fun x _ => Rng.plain x
theorem ranges_p (l : List Rng) (hl : l.length ≤ 4294967296) : PureV S 143 [.list .no 2 (l.map Rng.av)] (.list .no 2 (l.map Rng.av)) := by
 refine PvE (Tryz.envOK (S := S) 6 (fun _ => ([], [])) fs0 fs0_ok) (rngs_plain _) Tryz.kp143 Tryz.func143 rfl ?_
 intro σ
 simp -implicitDefEqProofs (maxSteps := 2000000) (disch := omega) only [go_sem, simprocAttr]
def tRngs : Ty (List Rng) := ⟨decL 2 decRng, fun l => .list .no 2 (l.map Rng.av), decL_inv' decRng_inv⟩
theorem tRngs_dec {a : AV} : tRngs.dec a = decL 2 decRng a := rfl
def ranges_s := spec1 tRngs fun l => if l.length ≤ 4294967296 then some (.list .no 2 (l.map Rng.av)) else none
theorem ranges_ok : ∀ xs v, ranges_s xs = some v → PureV S 143 xs v :=
 spec1_ok fun l v h => by have h := someIf h; rw [← h.2]; exact ranges_p l h.1
theorem sameRanges_p (a b : List Rng) (hl : a.length ≤ 4294967296) (hl2 : b.length ≤ 4294967296) : PureV S 44 [.list .no 2 (a.map Rng.av), .list .no 2 (b.map Rng.av)] (.bool (decide (a = b))) := by
 refine PvE (Tryz.envOK (S := S) 31 Tryz.ord44 fs0 fs0_ok) (.bool) Tryz.kp44 Tryz.func44 rfl ?_
 intro σ
 simp -implicitDefEqProofs (maxSteps := 2000000) (disch := omega) only [go_sem, simprocAttr]
 have hcl : ∀ x : Rng, x.av.cells = [.int .i64 x.lo, .int .i64 x.hi] := fun _ => rfl
 have hse : ∀ x y : Rng, ([x.lo, x.hi] == [y.lo, y.hi]) = decide (x = y) := fun x y => by
  rw [Bool.eq_iff_iff]; cases x; cases y; simp
 have fin : ∀ b0 : Bool, b0 = decide (a.length = b.length) → ∀ (i : Nat) (c : Bool), i ≤ a.length → c = (decide (a.length = b.length) && decide (a.take i = b.take i)) → (c = false ∨ i = a.length) → c = decide (a = b) := by
  intro b0 hb0 i c hi hc h
  rcases h with rfl | rfl
  ·symm; rw [decide_eq_false_iff_not]; rintro rfl; simp at hc
  ·rw [hc, List.take_length]
   by_cases hl : a.length = b.length
   ·rw [hl, List.take_length]; simp [hl]
   ·have : ¬ a = b := fun e => hl (by rw [e])
    simp [hl, this]
 refine ⟨fun hlen => ?_, fun hlen => ?_⟩
 ·have hlen' : a.length = b.length := by omega
  refine ARun.loopJ (Tryz.envOK (S := S) 31 Tryz.ord44 fs0 fs0_ok) (α := Nat × Bool) (fun p => a.length - p.1) (fun p τ => τ = σ ∧ p.1 ≤ a.length ∧ p.2 = (decide (a.length = b.length) && decide (a.take p.1 = b.take p.1))) (fun p => [(5, .bool p.2), (6, .int .i64 p.1)]) (0, true) (by kernel_rfl) (by simp [upd, ins, subF, lookA]) ⟨rfl, Nat.zero_le _, by simp [hlen']⟩ ?_
  rintro ⟨i, c⟩ τ ⟨rfl, hi, hc⟩ ih
  simp only at hi hc ih
  have hfin := fin _ rfl i c hi hc
  cases c
  ·simp -implicitDefEqProofs (maxSteps := 2000000) (disch := omega) only [go_sem, simprocAttr]
   simpa using hfin
  ·by_cases hlt : i < a.length
   ·simp -implicitDefEqProofs (maxSteps := 2000000) (disch := omega) only [go_sem, simprocAttr, hcl]
    have hib : i < b.length := by omega
    have ta := List.take_succ_eq_append_getElem hlt
    have tb := List.take_succ_eq_append_getElem hib
    have hx : ([a[i].lo, a[i].hi] = [b[i].lo, b[i].hi]) = (a[i] = b[i]) := by
     have := hse a[i] b[i]
     rw [Bool.eq_iff_iff] at this
     simpa using this
    have htk : a.take i = b.take i := by simpa [hlen'] using hc
    rw [hx]
    refine ⟨fun h => (ih (i + 1, true) _ (by simp only; omega) ⟨rfl, by simp only; omega, ?_⟩).castS rfl (by simp [upd, ins, subF, lookA]), fun h => (ih (i + 1, false) _ (by simp only; omega) ⟨rfl, by simp only; omega, ?_⟩).castS rfl (by simp [upd, ins, subF, lookA])⟩
    ·have : a.take (i + 1) = b.take (i + 1) := by rw [ta, tb, htk, h]
     simp [this, hlen']
    ·have : ¬ a.take (i + 1) = b.take (i + 1) := fun e2 => by
      rw [ta, tb, htk] at e2
      exact h (by simpa only [List.append_cancel_left_eq, List.cons.injEq, and_true] using e2)
     simp [this]
   ·have : i = a.length := by omega
    simp -implicitDefEqProofs (maxSteps := 2000000) (disch := omega) only [go_sem, simprocAttr]
    simpa [this] using hfin
 ·have hlen' : ¬ a.length = b.length := by omega
  refine ARun.loopJ (Tryz.envOK (S := S) 31 Tryz.ord44 fs0 fs0_ok) (α := Nat × Bool) (fun p => a.length - p.1) (fun p τ => τ = σ ∧ p.1 ≤ a.length ∧ p.2 = false) (fun p => [(5, .bool p.2), (6, .int .i64 p.1)]) (0, false) (by kernel_rfl) (by simp [upd, ins, subF, lookA]) ⟨rfl, Nat.zero_le _, rfl⟩ ?_
  rintro ⟨i, c⟩ τ ⟨rfl, hi, hc⟩ ih
  simp only at hi hc ih
  subst hc
  simp -implicitDefEqProofs (maxSteps := 2000000) (disch := omega) only [go_sem, simprocAttr]
  have : ¬ a = b := fun e => hlen' (by rw [e])
  simp [this]
def sameRanges_s := spec2 tRngs tRngs fun a b => if a.length ≤ 4294967296 ∧ b.length ≤ 4294967296 then some (.bool (decide (a = b))) else none
theorem sameRanges_ok : ∀ xs v, sameRanges_s xs = some v → PureV S 44 xs v :=
 spec2_ok fun a b v h => by have h := someIf h; rw [← h.2]; exact sameRanges_p a b h.1.1 h.1.2
def fs14 (f : FuncId) (xs : List AV) : Option AV := if f = 143 then ranges_s xs else if f = 44 then sameRanges_s xs else fs13 f xs
theorem fs14_ok {S : MC Tryz.prog} : ∀ f xs v, fs14 f xs = some v → PureV S f xs v := by
 intro f xs v h
 unfold fs14 at h
 split at h
 ·rename_i e; subst e; exact ranges_ok _ _ h
 split at h
 ·rename_i e; subst e; exact sameRanges_ok _ _ h
 exact fs13_ok _ _ _ h
attribute [go_sem] fs14 ranges_s sameRanges_s
theorem newPot_c (l : List Int) (tk : Tok) (hl : l.length ≤ 4294967296) (σ : List AObj) (Q : AV → List AObj → Prop) (h : ∀ s junk, Q (.ptr σ.length 0) (σ ++ (.cells [.int .u64 s] :: junk))) : ACalls S 19 [.list tk 1 (l.map (.int .i64))] σ Q := by
 refine AcE (Tryz.envOK (S := S) 41 Tryz.ord19 fs0 fs0_ok) Tryz.kp19 Tryz.func19 rfl ?_
 simp -implicitDefEqProofs (maxSteps := 2000000) (disch := omega) only [go_sem, simprocAttr]
 refine ARun.forJ (Tryz.envOK (S := S) 41 Tryz.ord19 fs0 fs0_ok) l.length (fun i τ => ∃ s j, τ = σ ++ (.cells [.int .u64 s] :: j)) (fun i => [(4, .int .i64 i)]) (by kernel_rfl) (by simp [upd, ins, subF, lookA]) ⟨_, [], rfl⟩ ?_ ?_
 ·rintro i τ hi ⟨s, j, rfl⟩ ih
  simp -implicitDefEqProofs (maxSteps := 2000000) (disch := omega) only [go_sem, simprocAttr]
  exact (ih _ ⟨_, _, rfl⟩).castS rfl (by simp [upd, ins, subF, lookA])
 ·rintro τ ⟨s, j, rfl⟩
  simp -implicitDefEqProofs (maxSteps := 2000000) (disch := omega) only [go_sem, simprocAttr]
  exact h _ _
def PotAt (σ : List AObj) (r : Nat) : Prop := ∃ s, hget σ r = some (.cells [.int .u64 s])
def pw (σ : List AObj) (r : Nat) (s : Int) : List AObj := hset σ r (.cells [.int .u64 s])
theorem pw_pw {σ : List AObj} {r : Nat} {s t : Int} : pw (pw σ r s) r t = pw σ r t := hset_hset
theorem PotAt.pw {σ : List AObj} {r : Nat} (h : PotAt σ r) (s : Int) : PotAt (pw σ r s) r := by obtain ⟨u, h⟩ := h; exact ⟨s, hget_set h _⟩
theorem pw_self {σ : List AObj} {r : Nat} (h : PotAt σ r) : ∃ s, pw σ r s = σ := by obtain ⟨s, h⟩ := h; exact ⟨s, hset_same h⟩
theorem step_c (r : Nat) (σ : List AObj) (hp : PotAt σ r) (Q : AV → List AObj → Prop) (h : ∀ s' x, 0 ≤ x → x < 18446744073709551616 → Q (.int .u64 x) (pw σ r s')) : ACalls S 102 [.ptr r 0] σ Q := by
 obtain ⟨s, hg⟩ := hp
 refine AcE (Tryz.envOK (S := S) 31 (fun _ => ([], [])) fs0 fs0_ok) Tryz.kp102 Tryz.func102 rfl ?_
 have hg2 := fun o => hget_set hg o
 simp -implicitDefEqProofs (maxSteps := 2000000) (disch := omega) only [go_sem, simprocAttr, hg, hg2]
 exact h _ _ (by rw [IntKind.wrap_u64]; omega) (by rw [IntKind.wrap_u64]; omega)
theorem upto_c (r : Nat) (most : Int) (hm : most < 9223372036854775807) (σ : List AObj) (hp : PotAt σ r) (Q : AV → List AObj → Prop) (h : ∀ s' x, 0 ≤ x → x ≤ max 0 most → Q (.int .i64 x) (pw σ r s')) : ACalls S 38 [.ptr r 0, .int .i64 most] σ Q := by
 refine AcE (Tryz.envOK (S := S) 15 (fun _ => ([], [])) fs0 fs0_ok) Tryz.kp38 Tryz.func38 rfl ?_
 by_cases h1 : most < 1
 ·simp -implicitDefEqProofs (maxSteps := 2000000) (disch := omega) only [go_sem, simprocAttr]
  obtain ⟨s, hs⟩ := pw_self hp
  have := h s 0 (by omega) (by omega)
  rwa [hs] at this
 ·have e2 : IntKind.u64.wrap (most + 1) = most + 1 := by rw [IntKind.wrap_u64]; omega
  simp -implicitDefEqProofs (maxSteps := 2000000) (disch := omega) only [go_sem, simprocAttr, e2]
  refine step_c r σ hp _ fun s' x h2 h3 => ?_
  have hy : 0 ≤ x.fdiv (2 ^ min 11 64) := Int.fdiv_nonneg h2 (by decide)
  simp -implicitDefEqProofs (maxSteps := 2000000) (disch := omega) only [go_sem, simprocAttr, e2]
  generalize x.fdiv (2 ^ min 11 64) = y at hy ⊢
  have h4 := Int.tmod_nonneg (most + 1) hy
  have h5 := Int.tmod_lt_of_pos y (b := most + 1) (by omega)
  have e4 : IntKind.i64.wrap (y.tmod (most + 1)) = y.tmod (most + 1) := by rw [IntKind.wrap_i64]; omega
  try rw [e4]
  exact h _ _ h4 (by omega)
theorem within_c (r : Nat) (lo hi : Int) (h1 : -1000000000000 ≤ lo ∧ lo ≤ 1000000000000) (h2 : -1000000000000 ≤ hi ∧ hi ≤ 1000000000000) (σ : List AObj) (hp : PotAt σ r) (Q : AV → List AObj → Prop) (h : ∀ s' x, lo ≤ x → x ≤ max lo hi → Q (.int .i64 x) (pw σ r s')) : ACalls S 61 [.ptr r 0, .int .i64 lo, .int .i64 hi] σ Q := by
 refine AcE (Tryz.envOK (S := S) 14 (fun _ => ([], [])) fs0 fs0_ok) Tryz.kp61 Tryz.func61 rfl ?_
 simp -implicitDefEqProofs (maxSteps := 2000000) (disch := omega) only [go_sem, simprocAttr]
 refine upto_c r _ (by omega) σ hp _ fun s' x h3 h4 => ?_
 simp -implicitDefEqProofs (maxSteps := 2000000) (disch := omega) only [go_sem, simprocAttr]
 exact h _ _ (by omega) (by omega)
theorem odds_c (r : Nat) (n m : Int) (h1 : -1000000000000 ≤ n ∧ n ≤ 1000000000000) (h2 : -1000000000000 ≤ m ∧ m ≤ 1000000000000) (σ : List AObj) (hp : PotAt σ r) (Q : AV → List AObj → Prop) (h : ∀ s' b, Q (.bool b) (pw σ r s')) : ACalls S 21 [.ptr r 0, .int .i64 n, .int .i64 m] σ Q := by
 refine AcE (Tryz.envOK (S := S) 13 (fun _ => ([], [])) fs0 fs0_ok) Tryz.kp21 Tryz.func21 rfl ?_
 simp -implicitDefEqProofs (maxSteps := 2000000) (disch := omega) only [go_sem, simprocAttr]
 refine upto_c r _ (by omega) σ hp _ fun s' x h3 h4 => ?_
 simp -implicitDefEqProofs (maxSteps := 2000000) (disch := omega) only [go_sem, simprocAttr]
 exact ⟨fun _ => h _ _, fun _ => h _ _⟩
theorem of_c (r : Nat) (l : List Int) (tk : Tok) (hl : 1 ≤ l.length ∧ l.length ≤ 1000) (σ : List AObj) (hp : PotAt σ r) (Q : AV → List AObj → Prop) (h : ∀ s' x, x ∈ l → Q (.int .i64 x) (pw σ r s')) : ACalls S 39 [.ptr r 0, .list tk 1 (l.map (.int .i64))] σ Q := by
 refine AcE (Tryz.envOK (S := S) 16 (fun _ => ([], [])) fs0 fs0_ok) Tryz.kp39 Tryz.func39 rfl ?_
 simp -implicitDefEqProofs (maxSteps := 2000000) (disch := omega) only [go_sem, simprocAttr]
 refine upto_c r _ (by omega) σ hp _ fun s' x h3 h4 => ?_
 simp -implicitDefEqProofs (maxSteps := 2000000) (disch := omega) only [go_sem, simprocAttr, idx_tg]
 refine h _ _ ?_
 have hx : x.toNat < l.length := by omega
 have : tg l x = l[x.toNat] := by simp [tg, List.getD, List.getElem?_eq_getElem hx]
 rw [this]; exact List.getElem_mem hx
theorem near_c (r : Nat) (n least most wide : Int) (h1 : 0 ≤ least ∧ least ≤ n ∧ n ≤ most ∧ most ≤ 1000000000) (h2 : 0 ≤ wide ∧ wide ≤ 1000000) (σ : List AObj) (hp : PotAt σ r) (Q : AV → List AObj → Prop) (h : ∀ s' a b, least ≤ a → a ≤ n → n ≤ b → b ≤ most → n - wide ≤ a → b ≤ n + wide → ∀ junk, Q (Rng.mk a b).av (pw σ r s' ++ junk)) : ACalls S 122 [.ptr r 0, .int .i64 n, .int .i64 least, .int .i64 most, .int .i64 wide] σ Q := by
 refine AcE (Tryz.envOK (S := S) 32 (fun _ => ([], [])) fs0 fs0_ok) Tryz.kp122 Tryz.func122 rfl ?_
 have hr : r < σ.length := by obtain ⟨s, hg⟩ := hp; exact hget_lt hg
 have pwa : ∀ l s, pw (σ ++ l) r s = pw σ r s ++ l := fun l s => by unfold pw hset; rw [List.set_append_left _ _ hr]
 have pota : ∀ l s, PotAt (pw σ r s ++ l) r := fun l s => by
  obtain ⟨u, hg⟩ := hp.pw s
  exact ⟨u, by rw [hget_app (hget_lt hg)]; exact hg⟩
 have pwa2 : ∀ l s t, pw (pw σ r s ++ l) r t = pw σ r t ++ l := fun l s t => by
  have : r < (pw σ r s).length := by unfold pw; rw [length_hset]; exact hr
  show hset (pw σ r s ++ l) r _ = _
  unfold hset; rw [List.set_append_left _ _ this]
  show pw (pw σ r s) r t ++ l = _
  rw [pw_pw]
 have p0 : PotAt (σ ++ [.cells [.int .i64 0, .int .i64 0]]) r := by obtain ⟨u, hg⟩ := hp; exact ⟨u, by rw [hget_app hr]; exact hg⟩
 have hof : ∀ (x : Int) (σ : List AObj) (hp : PotAt σ r) (Q : AV → List AObj → Prop), (∀ s' y, (y = 0 ∨ y = x) → Q (.int .i64 y) (pw σ r s')) → ACalls S 39 [.ptr r 0, .list .full 1 [.int .i64 0, .int .i64 0, .int .i64 x]] σ Q := fun x σ hp Q hq =>
  of_c r [0, 0, x] .full (by simp) σ hp Q fun s' y hy => hq s' y (by simpa using hy)
 simp -implicitDefEqProofs (maxSteps := 2000000) (disch := omega) only [go_sem, simprocAttr]
 refine upto_c r wide (by omega) _ p0 _ fun s1 x1 a1 a2 => ?_
 rw [pwa]
 simp -implicitDefEqProofs (maxSteps := 2000000) (disch := omega) only [go_sem, simprocAttr]
 refine hof x1 _ (pota _ _) _ fun s2 y1 a3 => ?_
 rw [pwa2]
 have b1 : 0 ≤ y1 ∧ y1 ≤ wide := by omega
 simp -implicitDefEqProofs (maxSteps := 2000000) (disch := omega) only [go_sem, simprocAttr]
 refine upto_c r wide (by omega) _ (pota _ _) _ fun s3 x2 a5 a6 => ?_
 rw [pwa2]
 simp -implicitDefEqProofs (maxSteps := 2000000) (disch := omega) only [go_sem, simprocAttr]
 refine hof x2 _ (pota _ _) _ fun s4 y2 a7 => ?_
 rw [pwa2]
 have b2 : 0 ≤ y2 ∧ y2 ≤ wide := by omega
 have hlp : (pw σ r s4).length = σ.length := by unfold pw; exact length_hset
 have g1 : hget (pw σ r s4 ++ [.cells [.int .i64 0, .int .i64 0]]) σ.length = some (.cells [.int .i64 0, .int .i64 0]) := by rw [← hlp]; exact hget_at0
 have g2 : ∀ o, hset (pw σ r s4 ++ [.cells [.int .i64 0, .int .i64 0]]) σ.length o = pw σ r s4 ++ [o] := fun o => by rw [← hlp]; exact hset_at0
 have g3 : ∀ o, hget (pw σ r s4 ++ [o]) σ.length = some o := fun o => by rw [← hlp]; exact hget_at0
 simp -implicitDefEqProofs (maxSteps := 2000000) (disch := omega) only [go_sem, simprocAttr, g1, g2, g3]
 refine h s4 (if least < n - y1 then n - y1 else least) (if n + y2 < most then n + y2 else most) ?_ ?_ ?_ ?_ ?_ ?_ _ <;> (split <;> omega)
def truAV (rates by_ : List Int) : AV := .agg [ints1 rates, ints1 by_]
set_option maxHeartbeats 4000000 in
theorem off_p (r : Ros) (rates by_ : List Int) (h d : Int) (hl : r.sets.length ≤ 1000) (hh : 0 ≤ h ∧ h < rates.length) (hrl : rates.length ≤ 1000) (hd : 0 ≤ d ∧ d ≤ 60) (hr : ∀ n ∈ rates, -5 ≤ n ∧ n ≤ 5) : PureV S 69 [r.av, truAV rates by_, .int .i64 h, .int .i64 d] (.int .i64 (offX r rates h d)) := by
 refine PvE (Tryz.envOK (S := S) 53 (fun _ => ([], [])) fs0 fs0_ok) (.int) Tryz.kp69 Tryz.func69 rfl ?_
 intro σ
 obtain ⟨hands, skill, mn, mx, sets, ents⟩ := r
 simp only [Ros.av, truAV, ints1] at hl ⊢
 simp -implicitDefEqProofs (maxSteps := 2000000) (disch := omega) only [go_sem, simprocAttr]
 refine ARun.forS (Tryz.envOK (S := S) 53 (fun _ => ([], [])) fs0 fs0_ok) sets.length (fun _ => True) (fun i => [(9, .int .i64 ((sets.take i).foldl (setF h d) 0)), (10, .int .i64 i)]) (fun _ _ => σ ++ [.cells [.int .i64 hands, .int .i64 skill, .int .i64 mn, .int .i64 mx, .list .no 2 (sets.map Sg.av), .list .no 6 (ents.map Tn.av)], .cells [.list .no 1 (rates.map (.int .i64)), .list .no 1 (by_.map (.int .i64))]]) [] (by kernel_rfl) rfl (by simp [upd, ins, subF, lookA]) trivial ?_ ?_
 ·intro i j hi _ ih
  rw [take_foldl hi] at ih
  have hidx : idx (sets.map Sg.av) (i : Int) = some (Sg.av sets[i]) := idx_nat hi
  generalize (sets.take i).foldl (setF h d) 0 = m at *
  generalize sets[i] = s at hidx ih
  simp only [Sg.av] at hidx
  simp -implicitDefEqProofs (maxSteps := 2000000) (disch := omega) only [go_sem, simprocAttr, hidx]
  refine ⟨fun p1 => ⟨fun p2 => ?_, fun p2 => ?_⟩, fun p1 => ?_⟩
  ·exact (ih trivial []).castS rfl (by simp [upd, ins, subF, lookA, setF, p1, p2])
  ·exact (ih trivial []).castS rfl (by simp [upd, ins, subF, lookA, setF, p1, p2])
  ·exact (ih trivial []).castS rfl (by simp [upd, ins, subF, lookA, setF, p1])
 ·intro j _
  rw [List.take_length]
  have hfi := @fromL_in sets h d hd.1
  have hfe : sets.foldl (setF h d) 0 = fromL sets h d := rfl
  rw [hfe]
  have hrt : -5 ≤ tg rates h ∧ tg rates h ≤ 5 := by
   have hlt : h.toNat < rates.length := by omega
   have : tg rates h = rates[h.toNat] := by simp [tg, List.getD_eq_getElem?_getD, hlt]
   rw [this]; exact hr _ (List.getElem_mem hlt)
  have hoo : offX ⟨hands, skill, mn, mx, sets, ents⟩ rates h d = tg rates h * (d - fromL sets h d) := rfl
  rw [hoo]
  have hw1 : IntKind.i64.wrap (d - fromL sets h d) = d - fromL sets h d := wrap64 (by omega) (by omega)
  have hw2 : IntKind.i64.wrap (tg rates h * (d - fromL sets h d)) = tg rates h * (d - fromL sets h d) := by
   generalize tg rates h = a at hrt
   have h3 : 0 ≤ d - fromL sets h d ∧ d - fromL sets h d ≤ 60 := by omega
   generalize d - fromL sets h d = b at h3
   have : -300 ≤ a * b ∧ a * b ≤ 300 := by
    rcases (by omega : a = -5 ∨ a = -4 ∨ a = -3 ∨ a = -2 ∨ a = -1 ∨ a = 0 ∨ a = 1 ∨ a = 2 ∨ a = 3 ∨ a = 4 ∨ a = 5) with rfl | rfl | rfl | rfl | rfl | rfl | rfl | rfl | rfl | rfl | rfl <;> omega
   exact wrap64 (by omega) (by omega)
  have hidx : idx (rates.map (AV.int .i64)) h = some (.int .i64 (tg rates h)) := idx_tg hh.1 hh.2
  have hmi := @tget rates h hh.1 hh.2
  simp -implicitDefEqProofs (maxSteps := 2000000) (disch := omega) only [go_sem, simprocAttr, hw1, hw2, hidx, hmi]
theorem hlength_pw {σ : List AObj} {r : Nat} {s : Int} : (pw σ r s).length = σ.length := length_hset
theorem hhget_pw0 {σ l : List AObj} {r : Nat} {s : Int} : hget (pw σ r s ++ l) σ.length = l[0]? := by rw [← hlength_pw (σ := σ) (r := r) (s := s)]; exact hget_at0
theorem hhget_pw {σ l : List AObj} {r k : Nat} {s : Int} : hget (pw σ r s ++ l) (σ.length + k) = l[k]? := by rw [← hlength_pw (σ := σ) (r := r) (s := s)]; exact hget_at
theorem hhset_pw0 {σ l : List AObj} {r : Nat} {s : Int} {o : AObj} : hset (pw σ r s ++ l) σ.length o = pw σ r s ++ l.set 0 o := by rw [← hlength_pw (σ := σ) (r := r) (s := s)]; exact hset_at0
theorem hhset_pw {σ l : List AObj} {r k : Nat} {s : Int} {o : AObj} : hset (pw σ r s ++ l) (σ.length + k) o = pw σ r s ++ l.set k o := by rw [← hlength_pw (σ := σ) (r := r) (s := s)]; exact hset_at
theorem hpw_app {σ l : List AObj} {r : Nat} {s : Int} (hr : r < σ.length) : pw (σ ++ l) r s = pw σ r s ++ l := by unfold pw hset; rw [List.set_append_left _ _ hr]
theorem hpw_pwa {σ l : List AObj} {r : Nat} {s t : Int} (hr : r < σ.length) : pw (pw σ r s ++ l) r t = pw σ r t ++ l := by
 rw [hpw_app (by rw [hlength_pw]; exact hr), pw_pw]
theorem PotAt.app1 {σ l : List AObj} {r : Nat} (h : PotAt σ r) : PotAt (σ ++ l) r := by obtain ⟨s, hg⟩ := h; exact ⟨s, by rw [hget_app (hget_lt hg)]; exact hg⟩
theorem PotAt.lt1 {σ : List AObj} {r : Nat} (h : PotAt σ r) : r < σ.length := by obtain ⟨s, hg⟩ := h; exact hget_lt hg
structure TrueT (r : Ros) (rates : List Int) (w : Int) (x : Tn) (by_ : Int) : Prop where
 by_in : 0 ≤ by_ ∧ by_ < r.hands
 day : 0 ≤ x.day ∧ x.day ≤ 12
 hand : x.hand = by_ ∨ x.hand = -1
 due : 500 ≤ x.due ∧ x.due ≤ 2000
 ear : ∃ t lo hi rds, (-r.skill ≤ t - (x.due + offX r rates by_ x.day) ∧ t - (x.due + offX r rates by_ x.day) ≤ r.skill) ∧ (1 ≤ lo ∧ lo ≤ t ∧ t ≤ hi ∧ hi ≤ 100000 ∧ hi - lo ≤ 2 * w) ∧ (rds = [] ∨ rds = [⟨1, 0, 0, 20, ⟨t / 5, t / 5⟩⟩]) ∧ x.ear = ⟨0, [⟨lo, hi⟩], rds⟩
set_option maxHeartbeats 8000000 in
theorem tunedOf_c (p : Nat) (r : Ros) (rates by_ : List Int) (w : Int) (hw : 0 ≤ w ∧ w ≤ 10) (hh : 1 ≤ r.hands ∧ r.hands ≤ 4) (hs : 0 ≤ r.skill ∧ r.skill ≤ 3) (hrl : (rates.length : Int) = r.hands) (hr : ∀ n ∈ rates, -3 ≤ n ∧ n ≤ 3) (hsl : r.sets.length ≤ 1000)
  (σ : List AObj) (hp : PotAt σ p) (Q : AV → List AObj → Prop) (h : ∀ s' x b junk, TrueT r rates w x b → Q (.tup [x.av, .int .i64 b]) (pw σ p s' ++ junk)) :
  ACalls S 64 [.ptr p 0, r.av, truAV rates by_, .int .i64 w] σ Q := by
 refine ACalls.wkW ?_
 refine AcE (Tryz.envOK (S := S) 65 Tryz.ord64 fs0 fs0_ok) Tryz.kp64 Tryz.func64 rfl ?_
 have hpl := hp.lt1
 simp only [Ros.av, truAV, ints1]
 have hwh : IntKind.i64.wrap (r.hands - 1) = r.hands - 1 := wrap64 (by omega) (by omega)
 simp -implicitDefEqProofs (maxSteps := 2000000) (disch := omega) only [go_sem, simprocAttr, hwh]
 refine upto_c p (r.hands - 1) (by omega) _ hp.app1 _ fun s1 b b1 b2 => ?_
 rw [hpw_app hpl]
 have hb : 0 ≤ b ∧ b < r.hands := by omega
 clear b1 b2
 simp -implicitDefEqProofs (maxSteps := 2000000) (disch := omega) only [go_sem, simprocAttr, hlength_pw, hhget_pw0, hhget_pw, hhset_pw0, hhset_pw]
 refine upto_c p 12 (by omega) _ (hp.pw _).app1 _ fun s2 dy d1 d2 => ?_
 rw [hpw_pwa hpl]
 have hdy : 0 ≤ dy ∧ dy ≤ 12 := by omega
 clear d1 d2
 simp -implicitDefEqProofs (maxSteps := 2000000) (disch := omega) only [go_sem, simprocAttr, hlength_pw, hhget_pw0, hhget_pw, hhset_pw0, hhset_pw]
 refine within_c p 500 2000 (by omega) (by omega) _ (hp.pw _).app1 _ fun s3 due e1 e2 => ?_
 rw [hpw_pwa hpl]
 have hdue : 500 ≤ due ∧ due ≤ 2000 := by omega
 clear e1 e2
 simp -implicitDefEqProofs (maxSteps := 2000000) (disch := omega) only [go_sem, simprocAttr, hlength_pw, hhget_pw0, hhget_pw, hhset_pw0, hhset_pw]
 have hoff : -36 ≤ offX r rates b dy ∧ offX r rates b dy ≤ 36 := by
  have h1 := @fromL_in r.sets b dy hdy.1
  have h2 : -3 ≤ tg rates b ∧ tg rates b ≤ 3 := by
   have hlt : b.toNat < rates.length := by omega
   have : tg rates b = rates[b.toNat] := by simp [tg, List.getD_eq_getElem?_getD, hlt]
   rw [this]; exact hr _ (List.getElem_mem hlt)
  unfold offX
  generalize tg rates b = a at h2
  have h3 : 0 ≤ dy - fromL r.sets b dy ∧ dy - fromL r.sets b dy ≤ 12 := by omega
  generalize dy - fromL r.sets b dy = c at h3
  rcases (by omega : a = -3 ∨ a = -2 ∨ a = -1 ∨ a = 0 ∨ a = 1 ∨ a = 2 ∨ a = 3) with rfl | rfl | rfl | rfl | rfl | rfl | rfl <;> omega
 refine off_p r rates by_ b dy hsl ⟨hb.1, by omega⟩ (by omega) ⟨by omega, by omega⟩ (fun n hn => by have := hr n hn; omega) _ _ ?_
 obtain ⟨of, hof⟩ : ∃ of, of = offX r rates b dy := ⟨_, rfl⟩
 rw [← hof] at hoff ⊢
 have hwn : IntKind.i64.wrap (0 - r.skill) = -r.skill := by rw [wrap64 (by omega) (by omega)]; omega
 simp -implicitDefEqProofs (maxSteps := 2000000) (disch := omega) only [go_sem, simprocAttr, hlength_pw, hhget_pw0, hhget_pw, hhset_pw0, hhset_pw, hwn]
 refine within_c p (0 - r.skill) r.skill (by omega) (by omega) _ (hp.pw _).app1 _ fun s4 er f1 f2 => ?_
 rw [hpw_pwa hpl]
 have her : -r.skill ≤ er ∧ er ≤ r.skill := by omega
 clear f1 f2
 have hwt : IntKind.i64.wrap (due + of + er) = due + of + er := wrap64 (by omega) (by omega)
 have hwt1 : IntKind.i64.wrap (due + of) = due + of := wrap64 (by omega) (by omega)
 simp -implicitDefEqProofs (maxSteps := 2000000) (disch := omega) only [go_sem, simprocAttr, hlength_pw, hhget_pw0, hhget_pw, hhset_pw0, hhset_pw, hwt, hwt1]
 refine near_c p (due + of + er) 1 100000 w (by omega) (by omega) _ (hp.pw _).app1 _ fun s5 lo hi c1 c2 c3 c4 c5 c6 junk => ?_
 rw [hpw_pwa hpl, List.append_assoc]
 have hq5 : Int.tdiv (due + of + er) 5 = (due + of + er) / 5 := Int.tdiv_eq_ediv_of_nonneg (by omega)
 have hwq : IntKind.i64.wrap ((due + of + er) / 5) = (due + of + er) / 5 := wrap64 (by omega) (by omega)
 have hT : ∀ rds hd, (rds = [] ∨ rds = [⟨1, 0, 0, 20, ⟨(due + of + er) / 5, (due + of + er) / 5⟩⟩]) → (hd = b ∨ hd = -1) → TrueT r rates w ⟨dy, hd, due, ⟨0, [⟨lo, hi⟩], rds⟩⟩ b := fun rds hd g1 g2 =>
  ⟨hb, hdy, g2, hdue, due + of + er, lo, hi, rds, (show -r.skill ≤ due + of + er - (due + offX r rates b dy) ∧ due + of + er - (due + offX r rates b dy) ≤ r.skill by rw [← hof]; omega), by omega, g1, rfl⟩
 simp only [Rng.av]
 simp -implicitDefEqProofs (maxSteps := 2000000) (disch := omega) only [go_sem, simprocAttr, hlength_pw, hhget_pw0, hhget_pw, hhset_pw0, hhset_pw]
 refine odds_c p 1 4 (by omega) (by omega) _ (hp.pw _).app1 _ fun s6 q1 => ?_
 rw [hpw_pwa hpl]
 cases q1
 ·simp -implicitDefEqProofs (maxSteps := 2000000) (disch := omega) only [go_sem, simprocAttr, hlength_pw, hhget_pw0, hhget_pw, hhset_pw0, hhset_pw]
  refine odds_c p 1 2 (by omega) (by omega) _ (hp.pw _).app1 _ fun s7 q2 => ?_
  rw [hpw_pwa hpl]
  cases q2
  ·simp -implicitDefEqProofs (maxSteps := 2000000) (disch := omega) only [go_sem, simprocAttr, hlength_pw, hhget_pw0, hhget_pw, hhset_pw0, hhset_pw]
   exact ⟨_, wk_weak (by simp [wk, wkL, wk1, wk0, Tn.av, Tn.cells, Rng.av]), h _ _ _ _ (hT [] b (.inl rfl) (.inl rfl))⟩
  ·simp -implicitDefEqProofs (maxSteps := 2000000) (disch := omega) only [go_sem, simprocAttr, hlength_pw, hhget_pw0, hhget_pw, hhset_pw0, hhset_pw]
   exact ⟨_, wk_weak (by simp [wk, wkL, wk1, wk0, Tn.av, Tn.cells, Rng.av]), h _ _ _ _ (hT [] (-1) (.inl rfl) (.inr rfl))⟩
 ·simp -implicitDefEqProofs (maxSteps := 2000000) (disch := omega) only [go_sem, simprocAttr, hlength_pw, hhget_pw0, hhget_pw, hhset_pw0, hhset_pw, hq5, hwq]
  refine odds_c p 1 2 (by omega) (by omega) _ (hp.pw _).app1 _ fun s7 q2 => ?_
  rw [hpw_pwa hpl]
  cases q2
  ·simp -implicitDefEqProofs (maxSteps := 2000000) (disch := omega) only [go_sem, simprocAttr, hlength_pw, hhget_pw0, hhget_pw, hhset_pw0, hhset_pw]
   exact ⟨_, wk_weak (by simp [wk, wkL, wk1, wk0, Tn.av, Tn.cells, Rng.av, Rd.av]), h _ _ _ _ (hT _ b (.inr rfl) (.inl rfl))⟩
  ·simp -implicitDefEqProofs (maxSteps := 2000000) (disch := omega) only [go_sem, simprocAttr, hlength_pw, hhget_pw0, hhget_pw, hhset_pw0, hhset_pw]
   exact ⟨_, wk_weak (by simp [wk, wkL, wk1, wk0, Tn.av, Tn.cells, Rng.av, Rd.av]), h _ _ _ _ (hT _ (-1) (.inr rfl) (.inr rfl))⟩
end Go.Proofs
