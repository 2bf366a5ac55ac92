/- Texts of a proof: lemmas. -/
import Derived.Test.YtpodkdondibbfaaRY
import Derived.Test.YtpodkdondibbfaaA12
set_option linter.unusedSimpArgs false
set_option linter.unusedVariables false
set_option maxRecDepth 100000
namespace Go.Proofs
open Go Go.Mu

/-- What a tuner knows, within bounds. -/
structure OkL (k : Kn) : Prop where
  left : k.left ≤ 90
  lo : 1000 * (k.left : Int) - 100000 ≤ k.p.lo ∧ k.p.lo ≤ 100000 - 1000 * (k.left : Int)
  hi : 1000 * (k.left : Int) - 100000 ≤ k.p.hi ∧ k.p.hi ≤ 100000 - 1000 * (k.left : Int)
  t : k.t + k.left ≤ 100
  r : k.r + k.left ≤ 100
theorem OkL.k {k : Kn} (h : OkL k) : OkK k := by
  obtain ⟨h1, h2, h3, h4, h5⟩ := h
  exact ⟨⟨by omega, by omega⟩, by omega, by omega, by omega⟩
theorem OkL.read {k : Kn} (h : OkL k) {m : Int} (hm : 0 ≤ m) {x : Rng} (hx : x ∈ rdL k.p m) : OkL { k with p := x } := by
  obtain ⟨h1, h2, h3, h4, h5⟩ := h
  obtain ⟨n, g1, g2, rfl⟩ := mem_rdL.1 hx
  refine ⟨h1, ?_, ?_, h4, h5⟩ <;> (simp only [meet2]; omega)
theorem OkL.mv {j : Jb} (hj : OkF j) {k : Kn} (h : OkL k) (hl : 1 ≤ k.left) (s : Int) : OkL (mvK j k s) := by
  obtain ⟨h1, h2, h3, h4, h5⟩ := h
  obtain ⟨⟨u1, u2, u3⟩, ⟨d1, d2, d3⟩, _, _, _⟩ := hj
  unfold mvK
  split
  · refine ⟨by simp only; omega, ?_, ?_, by simp only; omega, by simp only; omega⟩ <;> (simp only [plusR]; omega)
  · refine ⟨by simp only; omega, ?_, ?_, by simp only; omega, by simp only; omega⟩ <;> (simp only [lessR]; omega)
def fnS (a1 a2 : Nat) : AV := .fn (.func 62) [] [.ptr a1 0, .ptr a2 0]
def StopsC (j : Jb) (a1 a2 mr n : Nat) : Prop := ∀ k, OkL k → k.left = n → ∀ σ, GH j a1 a2 mr σ → ∀ Q : AV → List AObj → Prop, (∀ σ', Sm mr σ σ' → GH j a1 a2 mr σ' → Q (.bool (stK j k)) σ') → ACalls Try.prog 62 [k.av, .ptr a1 0, .ptr a2 0] σ Q
def rdsK (j : Jb) (k : Kn) : Bool := (rdL k.p j.meter).all fun x => stopsL j k.left x k.t k.r
theorem GH.congr {j : Jb} {a1 a2 mr : Nat} {τ τ' : List AObj} (h : GH j a1 a2 mr τ) (e1 : hget τ' a1 = hget τ a1) (e2 : hget τ' a2 = hget τ a2) (e3 : hget τ' mr = hget τ mr) : GH j a1 a2 mr τ' :=
  ⟨e1.trans h.h1, e2.trans h.h2, by obtain ⟨m, hm, ho⟩ := h.hm; exact ⟨m, e3.trans hm, ho⟩⟩
theorem Sm.same {mr : Nat} {M : Nat → Prop} {a b : List AObj} (h : Sm mr a b) (hM : M mr) : Same M a b := ⟨h.1, fun q hq hm => h.2 q hq fun e => hm (e ▸ hM)⟩
theorem rng_map_inj : ∀ {a b : List Rng}, a.map Rng.av = b.map Rng.av → a = b
  | [], [], _ => rfl
  | [], _ :: _, h => by simp at h
  | _ :: _, [], h => by simp at h
  | x :: a, y :: b, h => by
    simp only [List.map_cons, List.cons.injEq] at h
    have h1 : some x = some y := by rw [← decRng_av x, h.1, decRng_av]
    rw [rng_map_inj h.2, Option.some.inj h1]
set_option maxHeartbeats 400000000 in
theorem reads_c {j : Jb} (hj : OkJ j) {a1 a2 mr n : Nat} (hS : StopsC j a1 a2 mr n) (k : Kn) (hk : OkL k) (hkn : k.left = n) (σ : List AObj) (hG : GH j a1 a2 mr σ) (Q : AV → List AObj → Prop) (hQ : ∀ σ', Sm mr σ σ' → GH j a1 a2 mr σ' → Q (.bool (rdsK j k)) σ') :
    ACalls Try.prog 38 [gamev j (winS j) (fnS a1 a2), k.av] σ Q := by
  have hm := hj.meter
  have hkb := hk.k.p
  refine ACalls.of_ev (E := Try.E 27 (fun _ => ([], [])) fs205) (Try.envOK 27 (fun _ => ([], [])) fs205 fs205_ok) Try.kp38 Try.func38 rfl (by kernel_rfl) (by simp [Try.E]) (Callable.of Try.func38 (by kernel_rfl) (by kernel_rfl)) (by kernel_rfl) ?_
  simp only [gamev, Jb.cells, Kn.av, Kn.cells, fnS, List.cons_append, List.nil_append]
  simp -implicitDefEqProofs (maxSteps := 2000000) (disch := omega) only [go_sem, reduceCtorEq, Nat.reduceAdd, Nat.reduceSub, Nat.reduceMul, Nat.reduceLT, Nat.reduceLeDiff, Nat.reduceEqDiff, Nat.reduceBEq, Int.reduceToNat, Int.reduceLT, Int.reduceLE, Int.reduceEq, Int.reduceNeg, Int.reduceAdd, Int.reduceSub, Int.reduceMul, ↓reduceIte, Int.reduceBEq, Int.reduceBNe, Rng_eta]
  refine readings_c k.p j.meter hkb (by omega) _ _ fun hI => ?_
  simp only [List.append_assoc, List.cons_append, List.nil_append, List.length_append, List.length_cons, List.length_nil, Nat.zero_add, Nat.reduceAdd, Nat.add_assoc] at hI ⊢
  simp -implicitDefEqProofs (maxSteps := 2000000) (disch := omega) only [go_sem, reduceCtorEq, Nat.reduceAdd, Nat.reduceSub, Nat.reduceMul, Nat.reduceLT, Nat.reduceLeDiff, Nat.reduceEqDiff, Nat.reduceBEq, Int.reduceToNat, Int.reduceLT, Int.reduceLE, Int.reduceEq, Int.reduceNeg, Int.reduceAdd, Int.reduceSub, Int.reduceMul, ↓reduceIte, Int.reduceBEq, Int.reduceBNe]
  obtain ⟨n1, n2, n3, n4, n5⟩ := hG.ne
  have hkc : ∀ x : Rng, Kn.av { k with p := x } = .agg [.int .i64 x.lo, .int .i64 x.hi, .int .i64 (k.t : Int), .int .i64 (k.r : Int), .int .i64 (k.left : Int)] := fun _ => rfl
  obtain ⟨G, hGe⟩ : ∃ G, G = [AV.int .i64 j.pitch.lo, .int .i64 j.pitch.hi, .int .i64 j.tip.lo, .int .i64 j.tip.hi, .int .i64 j.root.lo, .int .i64 j.root.hi, .int .i64 j.up.lo, .int .i64 j.up.hi, .int .i64 j.down.lo, .int .i64 j.down.hi, .int .i64 j.wt.lo, .int .i64 j.wt.hi, .int .i64 j.wr.lo, .int .i64 j.wr.hi, .int .i64 j.least, .list .no 2 (j.shifts.map Rng.av), .int .i64 j.within, .int .i64 j.meter, .int .i64 (winS j).lo, .int .i64 (winS j).hi, .fn (.func 62) [] [.ptr a1 0, .ptr a2 0]] := ⟨_, rfl⟩
  refine ARun.rangeIterF (g := 70) (p := []) (L := (rdL k.p j.meter).map Rng.av) (by simp [aeval, Fr.get, lookA, Try.kp38]) hI (fun q hq => ⟨rfl, by simp; omega⟩) ⟨13, rfl, by simp [Try.EN]⟩
    (fun q => q = a1 ∨ q = a2 ∨ q = mr ∨ q = σ.length ∨ q = σ.length + 1 ∨ q = σ.length + 2) (fun q hq => ⟨by omega, by simp; omega⟩)
    (fun D τ => ∃ Ds : List Rng, D = Ds.map Rng.av ∧ (Ds.all fun x => stopsL j k.left x k.t k.r) = true ∧ GH j a1 a2 mr τ ∧ hget τ σ.length = some (.cells G) ∧ hget τ (σ.length + 1) = some (.cells [.int .i64 k.p.lo, .int .i64 k.p.hi, .int .i64 (k.t : Int), .int .i64 (k.r : Int), .int .i64 (k.left : Int)]) ∧ hget τ (σ.length + 2) = some (.cells [.bool true]))
    (fun jc τ => jc = .exit 0 ∧ rdsK j k = false ∧ GH j a1 a2 mr τ ∧ hget τ (σ.length + 2) = some (.cells [.bool false]))
    ⟨[], rfl, rfl, hG.app, by rw [hGe]; simp [hget_at0], by simp [hget_at], by simp [hget_at]⟩
    (fun {D τ τ'} hc hk => by
      obtain ⟨Ds, e, ha, g, c1, c2, c3⟩ := hc
      exact ⟨Ds, e, ha, g.congr (hk _ (.inl rfl)) (hk _ (.inr (.inl rfl))) (hk _ (.inr (.inr (.inl rfl)))), (hk _ (.inr (.inr (.inr (.inl rfl))))).trans c1, (hk _ (.inr (.inr (.inr (.inr (.inl rfl)))))).trans c2, (hk _ (.inr (.inr (.inr (.inr (.inr rfl)))))).trans c3⟩)
    (fun {jc τ τ'} hc hk => ⟨hc.1, hc.2.1, hc.2.2.1.congr (hk _ (.inl rfl)) (hk _ (.inr (.inl rfl))) (hk _ (.inr (.inr (.inl rfl)))), (hk _ (.inr (.inr (.inr (.inr (.inr rfl)))))).trans hc.2.2.2⟩) ?_ ?_ ?_
  · rintro D v R fn τ hD ⟨Ds, rfl, hall, g, c1, c2, c3⟩ hlt hrec
    simp only [List.length_append, List.length_cons, List.length_nil, Nat.zero_add, Nat.reduceAdd] at hrec hlt ⊢
    obtain ⟨x, hx, rfl⟩ : ∃ x ∈ rdL k.p j.meter, x.av = v := List.mem_map.1 (by rw [hD]; simp)
    refine ev_sound (Try.envOK 27 (fun _ => ([], [])) fs205 fs205_ok) (n := 1000) (by kernel_rfl) ?_
    have hxa : x.av = .agg [.int .i64 x.lo, .int .i64 x.hi] := rfl
    simp -implicitDefEqProofs (maxSteps := 2000000) (disch := omega) only [go_sem, reduceCtorEq, Nat.reduceAdd, Nat.reduceSub, Nat.reduceMul, Nat.reduceLT, Nat.reduceLeDiff, Nat.reduceEqDiff, Nat.reduceBEq, Int.reduceToNat, Int.reduceLT, Int.reduceLE, Int.reduceEq, Int.reduceNeg, Int.reduceAdd, Int.reduceSub, Int.reduceMul, ↓reduceIte, Int.reduceBEq, Int.reduceBNe, frIn, hxa]
    refine ARun.beginRound' (by rw [hget_app hlt]; exact hrec) fun τ2 hl2 hs2 hr2 => ?_
    rw [List.length_append, List.length_singleton] at hl2
    have e0 : ∀ q, q < τ.length → q ≠ σ.length + 5 → hget τ2 q = hget τ q := fun q hq hm => by rw [hs2 _ hm, hget_app hq]
    have k1 := (e0 _ (by omega) (by omega)).trans c1
    have k2 := (e0 _ (by omega) (by omega)).trans c2
    have k3 := (e0 _ (by omega) (by omega)).trans c3
    have k4 : hget τ2 τ.length = some (.cells [.int .i64 x.lo, .int .i64 x.hi]) := by rw [hs2 _ (by omega)]; exact hget_at0
    have g2 : GH j a1 a2 mr τ2 := g.congr (e0 _ (by omega) (by omega)) (e0 _ (by omega) (by omega)) (e0 _ (by omega) (by omega))
    refine ev_sound (Try.envOK 27 (fun _ => ([], [])) fs205 fs205_ok) (n := 1000) (by kernel_rfl) ?_
    rw [hGe] at k1
    simp -implicitDefEqProofs (maxSteps := 2000000) (disch := omega) only [go_sem, reduceCtorEq, Nat.reduceAdd, Nat.reduceSub, Nat.reduceMul, Nat.reduceLT, Nat.reduceLeDiff, Nat.reduceEqDiff, Nat.reduceBEq, Int.reduceToNat, Int.reduceLT, Int.reduceLE, Int.reduceEq, Int.reduceNeg, Int.reduceAdd, Int.reduceSub, Int.reduceMul, ↓reduceIte, Int.reduceBEq, Int.reduceBNe, k1, k2, k4]
    rw [← hkc x]
    have hsx : stK j { k with p := x } = stopsL j k.left x k.t k.r := rfl
    refine hS { k with p := x } (hk.read hm.1 hx) hkn τ2 g2 _ fun τ3 s3 g3 => ?_
    rw [hsx]
    have o3 : ∀ {q o}, hget τ2 q = some o → q ≠ mr → hget τ3 q = some o := fun h hm => by rw [s3.2 _ (hget_lt h) hm]; exact h
    have r3 := o3 hr2 (by omega)
    have l3 := s3.1
    cases hb : stopsL j k.left x k.t k.r
    · have q3 := o3 k3 (by omega)
      simp -implicitDefEqProofs (maxSteps := 2000000) (disch := omega) only [go_sem, reduceCtorEq, Nat.reduceAdd, Nat.reduceSub, Nat.reduceMul, Nat.reduceLT, Nat.reduceLeDiff, Nat.reduceEqDiff, Nat.reduceBEq, Int.reduceToNat, Int.reduceLT, Int.reduceLE, Int.reduceEq, Int.reduceNeg, Int.reduceAdd, Int.reduceSub, Int.reduceMul, ↓reduceIte, Int.reduceBEq, Int.reduceBNe, q3]
      have k1' : hget τ2 σ.length = some (.cells G) := by rw [hGe]; exact k1
      refine ⟨⟨by rw [length_hset]; omega, fun q hq hm => by rw [hget_ne (by omega), s3.2 q (by omega) (by omega), hs2 q (by omega), hget_app hq]⟩, ⟨none, by rw [hget_ne (by omega)]; exact r3⟩, .exit 0, rfl, (fun t h => by cases h), rfl, ?_, g3.set (by omega) (by omega) (by omega), hget_set q3 _⟩
      exact List.all_eq_false.2 ⟨x, hx, by rw [hb]; simp⟩
    · have hxs : Ds.map Rng.av ++ [x.av] = (Ds ++ [x]).map Rng.av := by simp
      rw [hxa] at hxs
      simp -implicitDefEqProofs (maxSteps := 2000000) (disch := omega) only [go_sem, reduceCtorEq, Nat.reduceAdd, Nat.reduceSub, Nat.reduceMul, Nat.reduceLT, Nat.reduceLeDiff, Nat.reduceEqDiff, Nat.reduceBEq, Int.reduceToNat, Int.reduceLT, Int.reduceLE, Int.reduceEq, Int.reduceNeg, Int.reduceAdd, Int.reduceSub, Int.reduceMul, ↓reduceIte, Int.reduceBEq, Int.reduceBNe]
      have k1' : hget τ2 σ.length = some (.cells G) := by rw [hGe]; exact k1
      exact ⟨⟨by omega, fun q hq hm => by rw [s3.2 q (by omega) (by omega), hs2 q (by omega), hget_app hq]⟩, ⟨none, r3⟩, .inl ⟨Ds ++ [x], hxs, by rw [List.all_append, hall]; simp [hb], g3, o3 k1' (by omega), o3 k2 (by omega), o3 k3 (by omega)⟩⟩
  · rintro τ hlt hold ⟨Ds, e, hall, g, c1, c2, c3⟩
    have he : Ds = rdL k.p j.meter := (rng_map_inj e).symm
    subst he
    refine ev_sound (Try.envOK 27 (fun _ => ([], [])) fs205 fs205_ok) (n := 1000) (by kernel_rfl) ?_
    simp -implicitDefEqProofs (maxSteps := 2000000) (disch := omega) only [go_sem, reduceCtorEq, Nat.reduceAdd, Nat.reduceSub, Nat.reduceMul, Nat.reduceLT, Nat.reduceLeDiff, Nat.reduceEqDiff, Nat.reduceBEq, Int.reduceToNat, Int.reduceLT, Int.reduceLE, Int.reduceEq, Int.reduceNeg, Int.reduceAdd, Int.reduceSub, Int.reduceMul, ↓reduceIte, Int.reduceBEq, Int.reduceBNe, c3]
    have hr : rdsK j k = true := hall
    rw [hr] at hQ
    simp only [List.length_append, List.length_cons, List.length_nil, Nat.zero_add, Nat.reduceAdd] at hlt hold
    refine hQ τ ⟨by omega, fun q hq hne => ?_⟩ g
    by_cases h1 : q = a1
    · subst h1; exact g.h1.trans hG.h1.symm
    · by_cases h2 : q = a2
      · subst h2; exact g.h2.trans hG.h2.symm
      · rw [hold q (by omega) (by omega)]; exact hget_app hq
  · rintro τ jc hlt hold ⟨rfl, hf, g, c3⟩
    refine ev_sound (Try.envOK 27 (fun _ => ([], [])) fs205 fs205_ok) (n := 1000) (by kernel_rfl) ?_
    simp -implicitDefEqProofs (maxSteps := 2000000) (disch := omega) only [go_sem, reduceCtorEq, Nat.reduceAdd, Nat.reduceSub, Nat.reduceMul, Nat.reduceLT, Nat.reduceLeDiff, Nat.reduceEqDiff, Nat.reduceBEq, Int.reduceToNat, Int.reduceLT, Int.reduceLE, Int.reduceEq, Int.reduceNeg, Int.reduceAdd, Int.reduceSub, Int.reduceMul, ↓reduceIte, Int.reduceBEq, Int.reduceBNe, c3]
    have hr : rdsK j k = false := hf
    rw [hr] at hQ
    simp only [List.length_append, List.length_cons, List.length_nil, Nat.zero_add, Nat.reduceAdd] at hlt hold
    refine hQ τ ⟨by omega, fun q hq hne => ?_⟩ g
    by_cases h1 : q = a1
    · subst h1; exact g.h1.trans hG.h1.symm
    · by_cases h2 : q = a2
      · subst h2; exact g.h2.trans hG.h2.symm
      · rw [hold q (by omega) (by omega)]; exact hget_app hq
end Go.Proofs
set_option linter.unusedSimpArgs false
set_option linter.unusedVariables false
set_option maxRecDepth 100000
namespace Go.Proofs
open Go Go.Mu

def stOK (j : Jb) (k : Kn) (s : Int) : Bool := okS j (mvK j k s).t (mvK j k s).r && rdsK j (mvK j k s)
theorem strokeL_eq {j : Jb} {k : Kn} {n : Nat} (h : k.left = n + 1) : strokeL j k.left k.p k.t k.r = if stOK j k 1 then 1 else if stOK j k 2 then 2 else 0 := by
  obtain ⟨p, t, r, l⟩ := k
  simp only at h
  subst h
  rfl
set_option maxHeartbeats 400000000 in
theorem stroke_c {j : Jb} (hj : OkJ j) {a1 a2 mr : Nat} (k : Kn) (hk : OkL k) (hS : ∀ n, k.left = n + 1 → StopsC j a1 a2 mr n) (σ : List AObj) (hG : GH j a1 a2 mr σ) (Q : AV → List AObj → Prop) (hQ : ∀ σ', Sm mr σ σ' → GH j a1 a2 mr σ' → Q (.int .i64 (strokeL j k.left k.p k.t k.r)) σ') :
    ACalls Try.prog 51 [gamev j (winS j) (fnS a1 a2), k.av] σ Q := by
  refine ACalls.of_ev (E := Try.E 31 (fun _ => ([], [])) fs205) (Try.envOK 31 (fun _ => ([], [])) fs205 fs205_ok) Try.kp51 Try.func51 rfl (by kernel_rfl) (by simp [Try.E]) (Callable.of Try.func51 (by kernel_rfl) (by kernel_rfl)) (by kernel_rfl) ?_
  simp only [gamev, Jb.cells, Kn.av, Kn.cells, fnS, List.cons_append, List.nil_append]
  have hl90 := hk.left
  simp -implicitDefEqProofs (maxSteps := 2000000) (disch := omega) only [go_sem, reduceCtorEq, Nat.reduceAdd, Nat.reduceSub, Nat.reduceMul, Nat.reduceLT, Nat.reduceLeDiff, Nat.reduceEqDiff, Nat.reduceBEq, Int.reduceToNat, Int.reduceLT, Int.reduceLE, Int.reduceEq, Int.reduceNeg, Int.reduceAdd, Int.reduceSub, Int.reduceMul, ↓reduceIte, Int.reduceBEq, Int.reduceBNe]
  obtain ⟨G, hGe⟩ : ∃ G, G = [AV.int .i64 j.pitch.lo, .int .i64 j.pitch.hi, .int .i64 j.tip.lo, .int .i64 j.tip.hi, .int .i64 j.root.lo, .int .i64 j.root.hi, .int .i64 j.up.lo, .int .i64 j.up.hi, .int .i64 j.down.lo, .int .i64 j.down.hi, .int .i64 j.wt.lo, .int .i64 j.wt.hi, .int .i64 j.wr.lo, .int .i64 j.wr.hi, .int .i64 j.least, .list .no 2 (j.shifts.map Rng.av), .int .i64 j.within, .int .i64 j.meter, .int .i64 (winS j).lo, .int .i64 (winS j).hi, .fn (.func 62) [] [.ptr a1 0, .ptr a2 0]] := ⟨_, rfl⟩
  obtain ⟨n1, n2, n3, n4, n5⟩ := hG.ne
  refine ARun.loopJ (Try.envOK 31 (fun _ => ([], [])) fs205 fs205_ok) (α := Nat) (fun i => 3 - i) (fun i τ => (1 ≤ i ∧ i ≤ 3) ∧ (∀ s : Nat, 1 ≤ s → s < i → 0 < k.left → stOK j k s = false) ∧ Sm mr σ τ ∧ GH j a1 a2 mr τ ∧ σ.length + 2 ≤ τ.length ∧ hget τ σ.length = some (.cells G) ∧ hget τ (σ.length + 1) = some (.cells [.int .i64 k.p.lo, .int .i64 k.p.hi, .int .i64 (k.t : Int), .int .i64 (k.r : Int), .int .i64 (k.left : Int)])) (fun i => [(5, .int .i64 (i : Int))]) 1 (by kernel_rfl) (by simp [upd, ins, subF, lookA]) ⟨⟨by omega, by omega⟩, fun s h1 h2 => by omega, Sm.refl.app, hG.app, by simp, by rw [hGe]; exact hget_at0, by simp [hget_at]⟩ ?_
  rintro i τ ⟨⟨i1, i2⟩, hf, hs, g, hlen, c1, c2⟩ ih
  rw [hGe] at c1
  rcases Nat.eq_zero_or_pos k.left with h0 | hpos
  · have h0' : (k.left : Int) = 0 := by omega
    have e0 : strokeL j k.left k.p k.t k.r = 0 := by rw [h0]; rfl
    rw [e0] at hQ
    rcases (by omega : i = 3 ∨ i ≤ 2) with rfl | hi
    · simp -implicitDefEqProofs (maxSteps := 2000000) (disch := omega) only [go_sem, reduceCtorEq, Nat.reduceAdd, Nat.reduceSub, Nat.reduceMul, Nat.reduceLT, Nat.reduceLeDiff, Nat.reduceEqDiff, Nat.reduceBEq, Int.reduceToNat, Int.reduceLT, Int.reduceLE, Int.reduceEq, Int.reduceNeg, Int.reduceAdd, Int.reduceSub, Int.reduceMul, ↓reduceIte, Int.reduceBEq, Int.reduceBNe, c1, c2, h0']
      exact hQ _ hs g
    · simp -implicitDefEqProofs (maxSteps := 2000000) (disch := omega) only [go_sem, reduceCtorEq, Nat.reduceAdd, Nat.reduceSub, Nat.reduceMul, Nat.reduceLT, Nat.reduceLeDiff, Nat.reduceEqDiff, Nat.reduceBEq, Int.reduceToNat, Int.reduceLT, Int.reduceLE, Int.reduceEq, Int.reduceNeg, Int.reduceAdd, Int.reduceSub, Int.reduceMul, ↓reduceIte, Int.reduceBEq, Int.reduceBNe, c1, c2, h0']
      exact hQ _ hs g
  · obtain ⟨n, hn⟩ : ∃ n, k.left = n + 1 := ⟨k.left - 1, by omega⟩
    have hpos' : (0 : Int) < (k.left : Int) := by omega
    rcases (by omega : i = 3 ∨ i ≤ 2) with rfl | hi
    · have e0 : strokeL j k.left k.p k.t k.r = 0 := by
        rw [strokeL_eq hn]
        have e1 := hf 1 (by omega) (by omega) hpos
        have e2 := hf 2 (by omega) (by omega) hpos
        rw [if_neg (by rw [show stOK j k 1 = false from e1]; simp), if_neg (by rw [show stOK j k 2 = false from e2]; simp)]
      rw [e0] at hQ
      simp -implicitDefEqProofs (maxSteps := 2000000) (disch := omega) only [go_sem, reduceCtorEq, Nat.reduceAdd, Nat.reduceSub, Nat.reduceMul, Nat.reduceLT, Nat.reduceLeDiff, Nat.reduceEqDiff, Nat.reduceBEq, Int.reduceToNat, Int.reduceLT, Int.reduceLE, Int.reduceEq, Int.reduceNeg, Int.reduceAdd, Int.reduceSub, Int.reduceMul, ↓reduceIte, Int.reduceBEq, Int.reduceBNe, c1, c2, hpos']
      exact hQ _ hs g
    · have hi12 : (i : Int) = 1 ∨ (i : Int) = 2 := by omega
      simp -implicitDefEqProofs (maxSteps := 2000000) (disch := omega) only [go_sem, reduceCtorEq, Nat.reduceAdd, Nat.reduceSub, Nat.reduceMul, Nat.reduceLT, Nat.reduceLeDiff, Nat.reduceEqDiff, Nat.reduceBEq, Int.reduceToNat, Int.reduceLT, Int.reduceLE, Int.reduceEq, Int.reduceNeg, Int.reduceAdd, Int.reduceSub, Int.reduceMul, ↓reduceIte, Int.reduceBEq, Int.reduceBNe, c1, c2, hpos']
      refine moved_c j (winS j) (fnS a1 a2) rfl rfl k i hj hk.k (by omega) hi12 τ _ fun junk => ?_
      have hmk : mvK j k (i : Int) = mvK j k (i : Int) := rfl
      have hm2 := hk.mv hj.file hpos (i : Int)
      have hml : (mvK j k (i : Int)).left = n := by unfold mvK; split <;> (simp only; omega)
      have hso : stOK j k (i : Int) = (okS j (mvK j k i).t (mvK j k i).r && rdsK j (mvK j k i)) := rfl
      have hsq := strokeL_eq (j := j) hn
      generalize mvK j k (i : Int) = k1 at hm2 hml hso ⊢
      have c1' : hget (τ ++ junk) σ.length = _ := (hget_app (hget_lt c1)).trans c1
      have c2' : hget (τ ++ junk) (σ.length + 1) = _ := (hget_app (hget_lt c2)).trans c2
      have g' : GH j a1 a2 mr (τ ++ junk) := g.app
      have hs' : Sm mr σ (τ ++ junk) := hs.app
      have hlen' : σ.length + 2 ≤ (τ ++ junk).length := by simp; omega
      generalize τ ++ junk = τ1 at c1' c2' g' hs' hlen' ⊢
      have ha1 : ∀ o, hget (τ1 ++ [o]) σ.length = _ := fun o => (hget_app (hget_lt c1')).trans c1'
      have ha2 : ∀ o, hget (τ1 ++ [o]) (σ.length + 1) = _ := fun o => (hget_app (hget_lt c2')).trans c2'
      clear c1 c2 hG
      have next : ∀ τ', stOK j k (i : Int) = false → Sm mr σ τ' → GH j a1 a2 mr τ' → σ.length + 2 ≤ τ'.length → hget τ' σ.length = some (.cells G) → hget τ' (σ.length + 1) = some (.cells [.int .i64 k.p.lo, .int .i64 k.p.hi, .int .i64 (k.t : Int), .int .i64 (k.r : Int), .int .i64 (k.left : Int)]) → _ := fun τ' h1 h2 h3 h4 h5 h6 => ih (i + 1) τ' (by omega) ⟨⟨by omega, by omega⟩, fun s q1 q2 q3 => by
        rcases (by omega : s < i ∨ s = i) with q | rfl
        · exact hf s q1 q q3
        · exact h1, h2, h3, h4, h5, h6⟩
      have hc1e : G = _ := hGe
      cases ho : okS j k1.t k1.r
      · rw [ho, Bool.false_and] at hso
        simp only [Kn.av, Kn.cells]
        simp -implicitDefEqProofs (maxSteps := 2000000) (disch := omega) only [go_sem, reduceCtorEq, Nat.reduceAdd, Nat.reduceSub, Nat.reduceMul, Nat.reduceLT, Nat.reduceLeDiff, Nat.reduceEqDiff, Nat.reduceBEq, Int.reduceToNat, Int.reduceLT, Int.reduceLE, Int.reduceEq, Int.reduceNeg, Int.reduceAdd, Int.reduceSub, Int.reduceMul, ↓reduceIte, Int.reduceBEq, Int.reduceBNe, ha1, ha2]
        refine (next _ hso hs'.app g'.app (by simp; omega) (by rw [hc1e]; exact ha1 _) (ha2 _)).castS rfl (by simp [upd, ins, subF, lookA])
      · rw [ho, Bool.true_and] at hso
        simp only [Kn.av, Kn.cells]
        simp -implicitDefEqProofs (maxSteps := 2000000) (disch := omega) only [go_sem, reduceCtorEq, Nat.reduceAdd, Nat.reduceSub, Nat.reduceMul, Nat.reduceLT, Nat.reduceLeDiff, Nat.reduceEqDiff, Nat.reduceBEq, Int.reduceToNat, Int.reduceLT, Int.reduceLE, Int.reduceEq, Int.reduceNeg, Int.reduceAdd, Int.reduceSub, Int.reduceMul, ↓reduceIte, Int.reduceBEq, Int.reduceBNe, ha1, ha2]
        have hrd := reads_c hj (hS n hn) k1 hm2 hml (τ1 ++ [.cells [.int .i64 k1.p.lo, .int .i64 k1.p.hi, .int .i64 (k1.t : Int), .int .i64 (k1.r : Int), .int .i64 (k1.left : Int)]]) g'.app
        refine hrd _ fun τ3 s3 g3 => ?_
        have o3 : ∀ {q o}, hget (τ1 ++ [.cells [.int .i64 k1.p.lo, .int .i64 k1.p.hi, .int .i64 (k1.t : Int), .int .i64 (k1.r : Int), .int .i64 (k1.left : Int)]]) q = some o → q ≠ mr → hget τ3 q = some o := fun h hm => by rw [s3.2 _ (hget_lt h) hm]; exact h
        have l3 := s3.1
        rw [List.length_append, List.length_singleton] at l3
        cases hr : rdsK j k1
        · rw [hr] at hso
          simp -implicitDefEqProofs (maxSteps := 2000000) (disch := omega) only [go_sem, reduceCtorEq, Nat.reduceAdd, Nat.reduceSub, Nat.reduceMul, Nat.reduceLT, Nat.reduceLeDiff, Nat.reduceEqDiff, Nat.reduceBEq, Int.reduceToNat, Int.reduceLT, Int.reduceLE, Int.reduceEq, Int.reduceNeg, Int.reduceAdd, Int.reduceSub, Int.reduceMul, ↓reduceIte, Int.reduceBEq, Int.reduceBNe]
          refine (next _ hso (hs'.app.trans s3) g3 (by omega) (by rw [hc1e]; exact o3 (ha1 _) (by omega)) (o3 (ha2 _) (by omega))).castS rfl (by simp [upd, ins, subF, lookA])
        · rw [hr] at hso
          simp -implicitDefEqProofs (maxSteps := 2000000) (disch := omega) only [go_sem, reduceCtorEq, Nat.reduceAdd, Nat.reduceSub, Nat.reduceMul, Nat.reduceLT, Nat.reduceLeDiff, Nat.reduceEqDiff, Nat.reduceBEq, Int.reduceToNat, Int.reduceLT, Int.reduceLE, Int.reduceEq, Int.reduceNeg, Int.reduceAdd, Int.reduceSub, Int.reduceMul, ↓reduceIte, Int.reduceBEq, Int.reduceBNe]
          have e0 : strokeL j k.left k.p k.t k.r = (i : Int) := by
            rw [hsq]
            rcases (by omega : i = 1 ∨ i = 2) with rfl | rfl
            · rw [if_pos (by exact hso)]; rfl
            · have e1 := hf 1 (by omega) (by omega) hpos
              rw [if_neg (by rw [show stOK j k 1 = false from e1]; simp), if_pos (by exact hso)]; rfl
          rw [e0] at hQ
          exact hQ _ (hs'.app.trans s3) g3
end Go.Proofs
set_option linter.unusedSimpArgs false
set_option linter.unusedVariables false
set_option maxRecDepth 100000
namespace Go.Proofs
open Go Go.Mu

def fs206 (f : FuncId) (xs : List AV) : Option AV := if f = 61 then rhas_s xs else fs205 f xs
theorem fs206_ok : ∀ f xs v, fs206 f xs = some v → PureV Try.prog f xs v := by
  intro f xs v h
  unfold fs206 at h
  split at h
  · rename_i e; subst e; exact rhas_ok _ _ h
  exact fs205_ok _ _ _ h
attribute [go_sem] fs206 rhas_s
theorem stK_eq (j : Jb) (k : Kn) : stK j k = (hasR (winS j) k.p || decide (0 < strokeL j k.left k.p k.t k.r)) := stopsL_stroke j k.left k.p k.t k.r
set_option maxHeartbeats 400000000 in
theorem stops_c {j : Jb} (hj : OkJ j) {a1 a2 mr : Nat} : ∀ n, StopsC j a1 a2 mr n := by
  intro n
  induction n using Nat.strongRecOn with
  | _ n IH =>
  intro k hk hkn σ hG Q hQ
  obtain ⟨m, hm, hmo⟩ := hG.hm
  have h1 := hG.h1
  have h2 := hG.h2
  simp only [Jb.cells, List.cons_append, List.nil_append] at h1
  have eK : k.av = .agg [.int .i64 k.p.lo, .int .i64 k.p.hi, .int .i64 (k.t : Int), .int .i64 (k.r : Int), .int .i64 (k.left : Int)] := rfl
  refine ACalls.of_ev (E := Try.E 29 (fun _ => ([], [])) fs206) (Try.envOK 29 (fun _ => ([], [])) fs206 fs206_ok) Try.kp62 Try.func62 rfl (by kernel_rfl) (by simp [Try.E]) (Callable.of Try.func62 (by kernel_rfl) (by kernel_rfl)) (by kernel_rfl) ?_
  simp only [Kn.av, Kn.cells]
  obtain ⟨n1, n2, n3, n4, n5⟩ := hG.ne
  have q1 : ∀ l, hget (σ ++ l) a1 = _ := fun l => (hget_app (hget_lt h1)).trans h1
  have q2 : ∀ l, hget (σ ++ l) a2 = _ := fun l => (hget_app (hget_lt h2)).trans h2
  have q3 : ∀ l, hget (σ ++ l) mr = _ := fun l => (hget_app (hget_lt hm)).trans hm
  cases hh : hasR (winS j) k.p
  · cases hg : gget m k with
    | some b =>
      have e : b = stK j k := hmo _ (gget_mem hg)
      simp -implicitDefEqProofs (maxSteps := 2000000) (disch := omega) only [go_sem, reduceCtorEq, Nat.reduceAdd, Nat.reduceSub, Nat.reduceMul, Nat.reduceLT, Nat.reduceLeDiff, Nat.reduceEqDiff, Nat.reduceBEq, Int.reduceToNat, Int.reduceLT, Int.reduceLE, Int.reduceEq, Int.reduceNeg, Int.reduceAdd, Int.reduceSub, Int.reduceMul, ↓reduceIte, Int.reduceBEq, Int.reduceBNe, Rng_eta, q1, q2, q3, hh, hg]
      rw [e]
      exact hQ _ Sm.refl.app hG.app
    | none =>
      simp -implicitDefEqProofs (maxSteps := 2000000) (disch := omega) only [go_sem, reduceCtorEq, Nat.reduceAdd, Nat.reduceSub, Nat.reduceMul, Nat.reduceLT, Nat.reduceLeDiff, Nat.reduceEqDiff, Nat.reduceBEq, Int.reduceToNat, Int.reduceLT, Int.reduceLE, Int.reduceEq, Int.reduceNeg, Int.reduceAdd, Int.reduceSub, Int.reduceMul, ↓reduceIte, Int.reduceBEq, Int.reduceBNe, Rng_eta, q1, q2, q3, hh, hg]
      have hst := stroke_c hj k hk (fun n' hn' => IH n' (by omega)) (σ ++ [.cells [.int .i64 k.p.lo, .int .i64 k.p.hi, .int .i64 (k.t : Int), .int .i64 (k.r : Int), .int .i64 (k.left : Int)]]) hG.app
      refine hst _ fun τ3 s3 g3 => ?_
      have o3 : ∀ {q o}, hget (σ ++ [.cells [.int .i64 k.p.lo, .int .i64 k.p.hi, .int .i64 (k.t : Int), .int .i64 (k.r : Int), .int .i64 (k.left : Int)]]) q = some o → q ≠ mr → hget τ3 q = some o := fun h hm => by rw [s3.2 _ (hget_lt h) hm]; exact h
      have r1 := o3 (q1 _) (by omega)
      have r2 := o3 (q2 _) (by omega)
      have r4 := o3 (q := σ.length) hget_at0 (by omega)
      obtain ⟨m3, hm3, hmo3⟩ := g3.hm
      have e1 : stK j k = decide (0 < strokeL j k.left k.p k.t k.r) := by rw [stK_eq, hh, Bool.false_or]
      have fin : ∀ b, b = stK j k → Q (.bool b) (hset τ3 mr (.map (mapK (gset m3 k b)))) := fun b hb => by
        subst hb
        refine hQ _ ((Sm.refl.app.trans s3).set (.inr rfl)) ?_
        exact g3.sm (Sm.refl.set (.inr rfl)) ⟨_, hget_set hm3 _, fun p hp => by
          rcases gset_mem hp with rfl | hp
          · rfl
          · exact hmo3 p hp⟩
      generalize strokeL j k.left k.p k.t k.r = s at e1 ⊢
      simp -implicitDefEqProofs (maxSteps := 2000000) (disch := omega) only [go_sem, reduceCtorEq, Nat.reduceAdd, Nat.reduceSub, Nat.reduceMul, Nat.reduceLT, Nat.reduceLeDiff, Nat.reduceEqDiff, Nat.reduceBEq, Int.reduceToNat, Int.reduceLT, Int.reduceLE, Int.reduceEq, Int.reduceNeg, Int.reduceAdd, Int.reduceSub, Int.reduceMul, ↓reduceIte, Int.reduceBEq, Int.reduceBNe, r1, r2, r4, hm3]
      exact ⟨fun h => fin _ (by rw [e1, decide_eq_true h]), fun h => fin _ (by rw [e1, decide_eq_false h])⟩
  · simp -implicitDefEqProofs (maxSteps := 2000000) (disch := omega) only [go_sem, reduceCtorEq, Nat.reduceAdd, Nat.reduceSub, Nat.reduceMul, Nat.reduceLT, Nat.reduceLeDiff, Nat.reduceEqDiff, Nat.reduceBEq, Int.reduceToNat, Int.reduceLT, Int.reduceLE, Int.reduceEq, Int.reduceNeg, Int.reduceAdd, Int.reduceSub, Int.reduceMul, ↓reduceIte, Int.reduceBEq, Int.reduceBNe, Rng_eta, q1, q2, q3, hh]
    have e : stK j k = true := by rw [stK_eq, hh]; rfl
    rw [e] at hQ
    exact hQ _ Sm.refl.app hG.app
end Go.Proofs
set_option linter.unusedSimpArgs false
set_option linter.unusedVariables false
set_option maxRecDepth 100000
namespace Go.Proofs
open Go Go.Mu

set_option maxHeartbeats 400000000 in
theorem play_c {j : Jb} (hj : OkJ j) (σ : List AObj) (Q : AV → List AObj → Prop) (h : ∀ junk a1 a2 mr, GH j a1 a2 mr (σ ++ junk) → σ.length ≤ a1 → σ.length ≤ a2 → σ.length ≤ mr → Q (gamev j (winS j) (fnS a1 a2)) (σ ++ junk)) :
    ACalls Try.prog 35 [j.av] σ Q := by
  refine ACalls.of_ev (E := Try.E 19 (fun _ => ([], [])) fs206) (Try.envOK 19 (fun _ => ([], [])) fs206 fs206_ok) Try.kp35 Try.func35 rfl (by kernel_rfl) (by simp [Try.E]) (Callable.of Try.func35 (by kernel_rfl) (by kernel_rfl)) (by kernel_rfl) ?_
  have hG := fun junk a1 a2 mr => h junk a1 a2 mr
  simp only [Jb.av, Jb.cells]
  simp -implicitDefEqProofs (maxSteps := 2000000) (disch := omega) only [go_sem, reduceCtorEq, Nat.reduceAdd, Nat.reduceSub, Nat.reduceMul, Nat.reduceLT, Nat.reduceLeDiff, Nat.reduceEqDiff, Nat.reduceBEq, Int.reduceToNat, Int.reduceLT, Int.reduceLE, Int.reduceEq, Int.reduceNeg, Int.reduceAdd, Int.reduceSub, Int.reduceMul, ↓reduceIte, Int.reduceBEq, Int.reduceBNe, hj, Rng.av]
  refine h _ (σ.length + 4) (σ.length + 6) (σ.length + 5) ⟨?_, ?_, [], ?_, ?_⟩ (by omega) (by omega) (by omega)
  · simp [hget_at, Jb.cells]
  · simp [hget_at]
  · simp [hget_at, mapK]
  · intro p hp; cases hp
/-- The first number that is so. -/
theorem fewL_some {F : Nat → Bool} {n : Nat} (hn : n < 5) (h : F n = true) (hl : ∀ s, s < n → F s = false) : fewL F = some n := by
  unfold fewL
  rw [List.find?_range_eq_some]
  exact ⟨h, List.mem_range.2 hn, fun s hs => by rw [hl s hs]; rfl⟩
theorem fewL_none {F : Nat → Bool} (hl : ∀ s, s < 5 → F s = false) : fewL F = none := by
  unfold fewL
  rw [List.find?_eq_none]
  intro s hs
  rw [hl s (List.mem_range.1 hs)]; simp
def fewV : Option Nat → AV
  | some n => .tup [.int .i64 (n : Int), .bool true]
  | none => .tup [.int .i64 0, .bool false]
set_option maxHeartbeats 400000000 in
theorem fewest_c (g : FuncId) (cp : List AV) (F : Nat → Bool) (Inv : List AObj → Prop) (hg : ∀ n : Nat, n ≤ 4 → ∀ τ, Inv τ → ∀ Q : AV → List AObj → Prop, (∀ τ', Inv τ' → Q (.bool (F n)) τ') → ACalls Try.prog g (.int .i64 (n : Int) :: cp) τ Q) (σ : List AObj) (hI : Inv σ) (Q : AV → List AObj → Prop) (h : ∀ τ', Inv τ' → Q (fewV (fewL F)) τ') :
    ACalls Try.prog 36 [.fn (.func g) [] cp] σ Q := by
  refine ACalls.of_ev (E := Try.E 13 (fun _ => ([], [])) fs0) (Try.envOK 13 (fun _ => ([], [])) fs0 fs0_ok) Try.kp36 Try.func36 rfl (by kernel_rfl) (by simp [Try.E]) (Callable.of Try.func36 (by kernel_rfl) (by kernel_rfl)) (by kernel_rfl) ?_
  simp -implicitDefEqProofs (maxSteps := 2000000) (disch := omega) only [go_sem, reduceCtorEq, Nat.reduceAdd, Nat.reduceSub, Nat.reduceMul, Nat.reduceLT, Nat.reduceLeDiff, Nat.reduceEqDiff, Nat.reduceBEq, Int.reduceToNat, Int.reduceLT, Int.reduceLE, Int.reduceEq, Int.reduceNeg, Int.reduceAdd, Int.reduceSub, Int.reduceMul, ↓reduceIte, Int.reduceBEq, Int.reduceBNe]
  refine ARun.loopJ (Try.envOK 13 (fun _ => ([], [])) fs0 fs0_ok) (α := Nat) (fun i => 5 - i) (fun i τ => i ≤ 5 ∧ (∀ s, s < i → F s = false) ∧ Inv τ) (fun i => [(5, .int .i64 (i : Int))]) 0 (by kernel_rfl) (by simp [upd, ins, subF, lookA]) ⟨by omega, fun s hs => by omega, hI⟩ ?_
  rintro i τ ⟨hi, hf, hv⟩ ih
  rcases (by omega : i = 5 ∨ i < 5) with rfl | hlt
  · rw [fewL_none hf] at h
    simp -implicitDefEqProofs (maxSteps := 2000000) (disch := omega) only [go_sem, reduceCtorEq, Nat.reduceAdd, Nat.reduceSub, Nat.reduceMul, Nat.reduceLT, Nat.reduceLeDiff, Nat.reduceEqDiff, Nat.reduceBEq, Int.reduceToNat, Int.reduceLT, Int.reduceLE, Int.reduceEq, Int.reduceNeg, Int.reduceAdd, Int.reduceSub, Int.reduceMul, ↓reduceIte, Int.reduceBEq, Int.reduceBNe]
    exact h τ hv
  · have hlt' : (i : Int) < 5 := by omega
    simp -implicitDefEqProofs (maxSteps := 2000000) (disch := omega) only [go_sem, reduceCtorEq, Nat.reduceAdd, Nat.reduceSub, Nat.reduceMul, Nat.reduceLT, Nat.reduceLeDiff, Nat.reduceEqDiff, Nat.reduceBEq, Int.reduceToNat, Int.reduceLT, Int.reduceLE, Int.reduceEq, Int.reduceNeg, Int.reduceAdd, Int.reduceSub, Int.reduceMul, ↓reduceIte, Int.reduceBEq, Int.reduceBNe, hlt']
    refine hg i (by omega) τ hv _ fun τ' hv' => ?_
    cases hb : F i
    · simp -implicitDefEqProofs (maxSteps := 2000000) (disch := omega) only [go_sem, reduceCtorEq, Nat.reduceAdd, Nat.reduceSub, Nat.reduceMul, Nat.reduceLT, Nat.reduceLeDiff, Nat.reduceEqDiff, Nat.reduceBEq, Int.reduceToNat, Int.reduceLT, Int.reduceLE, Int.reduceEq, Int.reduceNeg, Int.reduceAdd, Int.reduceSub, Int.reduceMul, ↓reduceIte, Int.reduceBEq, Int.reduceBNe]
      refine (ih (i + 1) τ' (by omega) ⟨by omega, fun s hs => ?_, hv'⟩).castS rfl (by simp [upd, ins, subF, lookA])
      rcases (by omega : s < i ∨ s = i) with q | rfl
      · exact hf s q
      · exact hb
    · rw [fewL_some hlt hb hf] at h
      simp -implicitDefEqProofs (maxSteps := 2000000) (disch := omega) only [go_sem, reduceCtorEq, Nat.reduceAdd, Nat.reduceSub, Nat.reduceMul, Nat.reduceLT, Nat.reduceLeDiff, Nat.reduceEqDiff, Nat.reduceBEq, Int.reduceToNat, Int.reduceLT, Int.reduceLE, Int.reduceEq, Int.reduceNeg, Int.reduceAdd, Int.reduceSub, Int.reduceMul, ↓reduceIte, Int.reduceBEq, Int.reduceBNe]
      exact h τ' hv'
theorem Jb.atk {j : Jb} (hj : OkJ j) {n : Nat} (hn : n ≤ 4) : OkL ⟨j.pitch, 0, 0, n⟩ := by
  obtain ⟨h1, h2, h3⟩ := hj.pitch
  exact ⟨by simp only; omega, ⟨by simp only; omega, by simp only; omega⟩, ⟨by simp only; omega, by simp only; omega⟩, by simp only; omega, by simp only; omega⟩
/-- What stays, while a tuner plays: the game in one variable, the job in another. -/
structure PlI (j : Jb) (a1 a2 mr rg rj : Nat) (τ : List AObj) : Prop where
  g : GH j a1 a2 mr τ
  gm : hget τ rg = some (.cells (j.cells ++ [.int .i64 (winS j).lo, .int .i64 (winS j).hi, fnS a1 a2]))
  jb : hget τ rj = some (.cells j.cells)
  n1 : rg ≠ mr
  n2 : rj ≠ mr
theorem PlI.sm {j : Jb} {a1 a2 mr rg rj : Nat} {τ τ' : List AObj} (h : PlI j a1 a2 mr rg rj τ) (hs : Sm mr τ τ') (g : GH j a1 a2 mr τ') : PlI j a1 a2 mr rg rj τ' :=
  ⟨g, (hs.2 _ (hget_lt h.gm) h.n1).trans h.gm, (hs.2 _ (hget_lt h.jb) h.n2).trans h.jb, h.n1, h.n2⟩
set_option maxHeartbeats 400000000 in
theorem guided1_c {j : Jb} (hj : OkJ j) {a1 a2 mr rg rj : Nat} (n : Nat) (hn : n ≤ 4) (σ : List AObj) (hI : PlI j a1 a2 mr rg rj σ) (Q : AV → List AObj → Prop) (h : ∀ τ', Sm mr σ τ' → PlI j a1 a2 mr rg rj τ' → Q (.bool (rdsK j ⟨j.pitch, 0, 0, n⟩)) τ') :
    ACalls Try.prog 37 [.int .i64 (n : Int), .ptr rg 0, .ptr rj 0] σ Q := by
  refine ACalls.of_ev (E := Try.E 12 (fun _ => ([], [])) fs206) (Try.envOK 12 (fun _ => ([], [])) fs206 fs206_ok) Try.kp37 Try.func37 rfl (by kernel_rfl) (by simp [Try.E]) (Callable.of Try.func37 (by kernel_rfl) (by kernel_rfl)) (by kernel_rfl) ?_
  have h1 := hI.gm
  have h2 := hI.jb
  simp only [Jb.cells, fnS, List.cons_append, List.nil_append] at h1 h2
  simp -implicitDefEqProofs (maxSteps := 2000000) (disch := omega) only [go_sem, reduceCtorEq, Nat.reduceAdd, Nat.reduceSub, Nat.reduceMul, Nat.reduceLT, Nat.reduceLeDiff, Nat.reduceEqDiff, Nat.reduceBEq, Int.reduceToNat, Int.reduceLT, Int.reduceLE, Int.reduceEq, Int.reduceNeg, Int.reduceAdd, Int.reduceSub, Int.reduceMul, ↓reduceIte, Int.reduceBEq, Int.reduceBNe, h1, h2]
  refine reads_c hj (stops_c hj n) ⟨j.pitch, 0, 0, n⟩ (Jb.atk hj hn) rfl σ hI.g _ fun τ3 s3 g3 => ?_
  simp -implicitDefEqProofs (maxSteps := 2000000) (disch := omega) only [go_sem, reduceCtorEq, Nat.reduceAdd, Nat.reduceSub, Nat.reduceMul, Nat.reduceLT, Nat.reduceLeDiff, Nat.reduceEqDiff, Nat.reduceBEq, Int.reduceToNat, Int.reduceLT, Int.reduceLE, Int.reduceEq, Int.reduceNeg, Int.reduceAdd, Int.reduceSub, Int.reduceMul, ↓reduceIte, Int.reduceBEq, Int.reduceBNe]
  exact h τ3 s3 (hI.sm s3 g3)
set_option maxHeartbeats 400000000 in
theorem next1_c {j : Jb} (hj : OkJ j) {a1 a2 mr rg rj : Nat} (n : Nat) (hn : n ≤ 4) (σ : List AObj) (hI : PlI j a1 a2 mr rg rj σ) (Q : AV → List AObj → Prop) (h : ∀ τ', Sm mr σ τ' → PlI j a1 a2 mr rg rj τ' → Q (.bool (stK j ⟨j.pitch, 0, 0, n⟩)) τ') :
    ACalls Try.prog 50 [.int .i64 (n : Int), .ptr rg 0, .ptr rj 0] σ Q := by
  refine ACalls.of_ev (E := Try.E 13 (fun _ => ([], [])) fs206) (Try.envOK 13 (fun _ => ([], [])) fs206 fs206_ok) Try.kp50 Try.func50 rfl (by kernel_rfl) (by simp [Try.E]) (Callable.of Try.func50 (by kernel_rfl) (by kernel_rfl)) (by kernel_rfl) ?_
  have h1 := hI.gm
  have h2 := hI.jb
  simp only [Jb.cells, fnS, List.cons_append, List.nil_append] at h1 h2
  simp -implicitDefEqProofs (maxSteps := 2000000) (disch := omega) only [go_sem, reduceCtorEq, Nat.reduceAdd, Nat.reduceSub, Nat.reduceMul, Nat.reduceLT, Nat.reduceLeDiff, Nat.reduceEqDiff, Nat.reduceBEq, Int.reduceToNat, Int.reduceLT, Int.reduceLE, Int.reduceEq, Int.reduceNeg, Int.reduceAdd, Int.reduceSub, Int.reduceMul, ↓reduceIte, Int.reduceBEq, Int.reduceBNe, h1, h2]
  refine stops_c hj n ⟨j.pitch, 0, 0, n⟩ (Jb.atk hj hn) rfl σ hI.g _ fun τ3 s3 g3 => ?_
  simp -implicitDefEqProofs (maxSteps := 2000000) (disch := omega) only [go_sem, reduceCtorEq, Nat.reduceAdd, Nat.reduceSub, Nat.reduceMul, Nat.reduceLT, Nat.reduceLeDiff, Nat.reduceEqDiff, Nat.reduceBEq, Int.reduceToNat, Int.reduceLT, Int.reduceLE, Int.reduceEq, Int.reduceNeg, Int.reduceAdd, Int.reduceSub, Int.reduceMul, ↓reduceIte, Int.reduceBEq, Int.reduceBNe]
  exact h τ3 s3 (hI.sm s3 g3)
end Go.Proofs
