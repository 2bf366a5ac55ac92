/- Texts of a proof: lemmas. -/
import Derived.Test.YtpodkdondibbfaaRV
import Derived.Test.YtpodkdondibbfaaMX
set_option linter.unusedSimpArgs false
set_option linter.unusedVariables false
set_option maxRecDepth 100000
namespace Go.Proofs
open Go Go.Mu

/-- What holds behind so many strokes. -/
structure GInv (w m : Int) (n0 : Nat) (s : Nat) (j : Jb) (p a b : Int) (L : Nat) : Prop where
  ok : OkJ j
  met : j.meter = m
  up : j.up.hi ≤ 7 ∧ j.up.hi ≤ j.up.lo + 2
  down : j.down.hi ≤ 7 ∧ j.down.hi ≤ j.down.lo + 2
  lo : -21 - 8 * (s : Int) ≤ j.pitch.lo
  hi : j.pitch.hi ≤ 21 + 8 * (s : Int)
  sp : j.pitch.hi - j.pitch.lo ≤ 12
  tr : j.pitch.lo ≤ p ∧ p ≤ j.pitch.hi
  a : -1000 - 12 * (s : Int) ≤ a ∧ a ≤ 1000
  b : -1000 - 12 * (s : Int) ≤ b ∧ b ≤ 1000
  n : L + s ≤ n0
  g : rdsK j ⟨j.pitch, 0, 0, L⟩ = true
/-- What holds of the objects. -/
def GJ (w m : Int) (n r rj rt : Nat) (s : Nat) (τ : List AObj) : Prop := ∃ j p a b L, GInv w m n s j p a b L ∧ PotAt τ r ∧ hget τ rj = some (.cells j.cells) ∧ hget τ rt = some (.cells [.int .i64 p, .int .i64 a, .int .i64 b])
theorem ginv_next {w m : Int} {n s : Nat} {j : Jb} {p a b : Int} {L : Nat} (hI : GInv w m n s j p a b L) (hw : w ≤ 10) (hn : n < 5) {B : Rng} (h1 : j.pitch.lo ≤ B.lo) (h2 : B.lo ≤ p) (h3 : p ≤ B.hi) (h4 : B.hi ≤ j.pitch.hi) (h5 : B.hi - B.lo ≤ w) {k' : Nat} (hk : k' + 1 ≤ L) {st : Int} (h12 : st = 1 ∨ st = 2)
    (hsp : spoilS (strP (j.at B) st).tip (strP (j.at B) st).root j.least = 2) (hg : rdsK (strP (j.at B) st) ⟨(strP (j.at B) st).pitch, 0, 0, k'⟩ = true) {p' a' b' : Int} (q1 : st = 1 → p + j.up.lo ≤ p' ∧ p' ≤ p + j.up.hi) (q2 : st = 2 → p - j.down.hi ≤ p' ∧ p' ≤ p - j.down.lo) (q3 : a - 12 ≤ a' ∧ a' ≤ a) (q4 : b - 12 ≤ b' ∧ b' ≤ b) :
    GInv w m n (s + 1) (strP (j.at B) st) p' a' b' k' := by
  obtain ⟨ok, hme, hup, hdn, hlo, hhi, hspr, htr, ha, hb, hLn, hg0⟩ := hI
  obtain ⟨⟨o1, o2, o3⟩, ⟨t1, t2, t3⟩, ⟨r1, r2, r3⟩, ⟨u1, u2, u3⟩, ⟨d1, d2, d3⟩, ⟨w1, w2, w3⟩, ⟨v1, v2, v3⟩, hle, hln, hsh, hwi, hmt⟩ := ok
  have hs2 : j.least ≤ (strP (j.at B) st).tip.lo ∧ j.least ≤ (strP (j.at B) st).root.lo := by
    unfold spoilS at hsp
    split at hsp
    · omega
    · split at hsp
      · assumption
      · omega
  have up2 : okB 0 12 j.up := ⟨u1, u2, u3⟩
  have dn2 : okB 0 12 j.down := ⟨d1, d2, d3⟩
  have wt2 : okB 0 12 j.wt := ⟨w1, w2, w3⟩
  have wr2 : okB 0 12 j.wr := ⟨v1, v2, v3⟩
  rcases h12 with rfl | rfl
  · have e1 : (strP (j.at B) 1).pitch = ⟨B.lo + j.up.lo, B.hi + j.up.hi⟩ := rfl
    have e2 : (strP (j.at B) 1).tip = ⟨j.tip.lo - j.wt.hi, j.tip.hi - j.wt.lo⟩ := rfl
    have e3 : (strP (j.at B) 1).root = j.root := rfl
    rw [e2, e3] at hs2
    simp only at hs2
    have := q1 rfl
    refine ⟨⟨by rw [e1]; exact ⟨by simp only; omega, by simp only; omega, by simp only; omega⟩, by rw [e2]; exact ⟨by simp only; omega, by simp only; omega, by simp only; omega⟩, by rw [e3]; exact ⟨r1, r2, r3⟩, up2, dn2, wt2, wr2, hle, hln, hsh, hwi, hmt⟩, hme, hup, hdn, ?_, ?_, ?_, ?_, by omega, by omega, by omega, hg⟩ <;> rw [e1] <;> simp only <;> omega
  · have e1 : (strP (j.at B) 2).pitch = ⟨B.lo - j.down.hi, B.hi - j.down.lo⟩ := rfl
    have e2 : (strP (j.at B) 2).tip = j.tip := rfl
    have e3 : (strP (j.at B) 2).root = ⟨j.root.lo - j.wr.hi, j.root.hi - j.wr.lo⟩ := rfl
    rw [e2, e3] at hs2
    simp only at hs2
    have := q2 rfl
    refine ⟨⟨by rw [e1]; exact ⟨by simp only; omega, by simp only; omega, by simp only; omega⟩, by rw [e2]; exact ⟨t1, t2, t3⟩, by rw [e3]; exact ⟨by simp only; omega, by simp only; omega, by simp only; omega⟩, up2, dn2, wt2, wr2, hle, hln, hsh, hwi, hmt⟩, hme, hup, hdn, ?_, ?_, ?_, ?_, by omega, by omega, by omega, hg⟩ <;> rw [e1] <;> simp only <;> omega
theorem PotAt.setN {σ : List AObj} {r q : Nat} {o : AObj} (h : PotAt σ r) (hq : q ≠ r) : PotAt (hset σ q o) r := by
  obtain ⟨s, hg⟩ := h
  exact ⟨s, by rw [hget_ne hq]; exact hg⟩
set_option maxHeartbeats 400000000 in
theorem gauge_round {w m sl : Int} {n r rj rt : Nat} (hw : 0 ≤ w ∧ w ≤ 10) (hsl : 0 ≤ sl ∧ sl ≤ 1) (hm2 : 0 ≤ m ∧ m ≤ 6 ∧ w ≤ 2 * m) (hn5 : n < 5) (hne : rj ≠ r) (hn1 : rt ≠ r) (hn2 : rt ≠ rj) (s : Nat) (τ : List AObj) (hs : s < 5)
    (hJ : GJ w m n r rj rt s τ) (ih : ∀ τ', GJ w m n r rj rt (s + 1) τ' → ARun (Try.E 262 Try.ord4 fs212) none (.inLoop (loopAt Try.f4 11) :: [.inBlock 0]) ⟨Try.kp4, [], [(2, .bool false), (3, .ptr r 0), (4, .ptr rj 0), (5, .int .i64 w), (6, .int .i64 sl), (7, .int .i64 (n : Int)), (9, .ptr rt 0), (10, .int .i64 ((s + 1 : Nat) : Int))]⟩ τ' (retPost (Try.E 262 Try.ord4 fs212) [.tmp 2] fun v _ => v = AV.bool true)) :
    ARun (Try.E 262 Try.ord4 fs212) none (.code (loopAt Try.f4 11) :: .inLoop (loopAt Try.f4 11) :: [.inBlock 0]) ⟨Try.kp4, [], [(2, .bool false), (3, .ptr r 0), (4, .ptr rj 0), (5, .int .i64 w), (6, .int .i64 sl), (7, .int .i64 (n : Int)), (9, .ptr rt 0), (10, .int .i64 (s : Int))]⟩ τ (retPost (Try.E 262 Try.ord4 fs212) [.tmp 2] fun v _ => v = AV.bool true) := by
  obtain ⟨x, hx⟩ : ∃ x, (loopAt Try.f4 11) = x := ⟨_, rfl⟩
  rw [hx] at ih ⊢
  conv at hx => lhs; whnf
  subst hx
  obtain ⟨j, p, a, b, L, hI, hp, k1, k2⟩ := hJ
  have hI0 := hI
  obtain ⟨ok, hme, hup, hdn, hlo, hhi, hsp, htr, ha, hb, hLn, hg⟩ := hI
  have hok2 := ok
  obtain ⟨b1, b2, b3⟩ := ok.pitch
  have hEp : EarP 1 0 20 ⟨sl, [⟨44000 + j.pitch.lo, 44000 + j.pitch.hi⟩], []⟩ [44000 + p] := by
    refine ⟨?_, rfl, by simp, by simp, by simp, by simp only; omega, fun i h h' => ?_, fun x hx => ?_, by simp⟩
    · have f1 : firstE ckT [⟨44000 + j.pitch.lo, 44000 + j.pitch.hi⟩] = 0 := by simp only [firstE, ckT]; grind
      simp only [ck, List.length_singleton, List.length_nil, firstE]
      simp only [firstE] at f1
      grind
    · have : i = 0 := by simp at h; omega
      subst this
      simp only [List.getElem_cons_zero]; omega
    · simp at hx; omega
  have hs5 : (s : Int) ≤ 4 := by omega
  simp only [Jb.cells] at k1
  have q1 : ∀ l, hget (τ ++ l) rj = _ := fun l => (hget_app (hget_lt k1)).trans k1
  have q2 : ∀ l, hget (τ ++ l) rt = _ := fun l => (hget_app (hget_lt k2)).trans k2
  rcases gate_cases hEp (x := 0) (width := w) (by simp) hw.1 with ⟨kk, hk20, hgl, hgs, _⟩ | ⟨hgl, _⟩
  · obtain ⟨sec, hsec⟩ : ∃ sec, sec = (kk : Int) + 1 := ⟨_, rfl⟩
    rw [← hsec] at hgl hgs
    have hsb : 1 ≤ sec ∧ sec ≤ 20 := by omega
    have hsn : ¬ (n : Int) < (s : Int) := by omega
    have hxb : 43900 ≤ 44000 + p ∧ 44000 + p ≤ 44100 := by omega
    have hex1 : 0 ≤ (44000 + p) * sec := Int.mul_nonneg (by omega) (by omega)
    have hex2 : (44000 + p) * sec ≤ 900000 := by have := Int.mul_le_mul hxb.2 hsb.2 (by omega) (by omega); omega
    obtain ⟨ex, hex⟩ : ∃ ex, (44000 + p) * sec = ex := ⟨_, rfl⟩
    have hex3 : 43900 ≤ (44000 + p) * sec := by have := Int.mul_le_mul hxb.1 hsb.1 (by omega) (by omega); omega
    rw [hex] at hex1 hex2 hex3
    obtain ⟨q, hq⟩ : ∃ q, ex.tdiv 100 = q := ⟨_, rfl⟩
    have hq2 : q = ex / 100 := by rw [← hq]; exact Int.tdiv_eq_ediv_of_nonneg hex1
    have hwr : IntKind.i64.wrap ex = ex := by rw [IntKind.wrap_i64]; omega
    clear hsec hk20
    refine' ARun.cutP (α := Int × List AObj) (fun c => (0 ≤ c.1 ∧ c.1 ≤ 25000) ∧ (100 * (c.1 - 1 - sl) < ex ∧ ex < 100 * (c.1 + 1 + sl)) ∧ PotAt c.2 r ∧ hget c.2 rj = hget τ rj ∧ hget c.2 rt = hget τ rt ∧ hget c.2 τ.length = some (.cells [.int .i64 sl, .list .full 2 [.agg [.int .i64 (44000 + j.pitch.lo), .int .i64 (44000 + j.pitch.hi)]], .list .full 0 []])) (fun c => [(2, .bool false), (3, .ptr r 0), (4, .ptr rj 0), (5, .int .i64 w), (6, .int .i64 sl), (7, .int .i64 (n : Int)), (9, .ptr rt 0), (10, .int .i64 (s : Int)), (11, .ptr τ.length 0), (12, .int .i64 sec), (15, .int .i64 c.1)]) (fun c => c.2) (fun hG => ?way) ?rest
    case way =>
      refine ev_sound (Try.envOK 262 Try.ord4 fs212 fs212_ok) (n := 25) (by kernel_rfl) ?_
      simp -implicitDefEqProofs (maxSteps := 2000000) (disch := omega) only [go_sem, reduceCtorEq, Nat.reduceAdd, Nat.reduceSub, Nat.reduceMul, Nat.reduceLT, Nat.reduceLeDiff, Nat.reduceEqDiff, Nat.reduceBEq, Int.reduceToNat, Int.reduceLT, Int.reduceLE, Int.reduceEq, Int.reduceNeg, Int.reduceAdd, Int.reduceSub, Int.reduceMul, ↓reduceIte, Int.reduceBEq, Int.reduceBNe, length_pw, hget_pw0, hget_pw, hset_pw0, hset_pw, k1, k2, q1, q2, hgl, hsn, hex, hwr, hq, Ear.av, Rng.av, Rng_eta]
      refine within_c r (0 - sl) (sl + 1) (by omega) (by omega) _ hp.app _ fun s2 d d1 d2 => ?_
      rw [pw_app hp.lt]
      have k3 : hget (pw τ r s2 ++ [.cells [.int .i64 sl, .list .full 2 [.agg [.int .i64 (44000 + j.pitch.lo), .int .i64 (44000 + j.pitch.hi)]], .list .full 0 []]]) τ.length = some (.cells [.int .i64 sl, .list .full 2 [.agg [.int .i64 (44000 + j.pitch.lo), .int .i64 (44000 + j.pitch.hi)]], .list .full 0 []]) := by rw [hget_pw0]; rfl
      have k4 := pw_get (l := [.cells [.int .i64 sl, .list .full 2 [.agg [.int .i64 (44000 + j.pitch.lo), .int .i64 (44000 + j.pitch.hi)]], .list .full 0 []]]) (s := s2) (hget_lt k1) hne
      have k5 := pw_get (l := [.cells [.int .i64 sl, .list .full 2 [.agg [.int .i64 (44000 + j.pitch.lo), .int .i64 (44000 + j.pitch.hi)]], .list .full 0 []]]) (s := s2) (hget_lt k2) hn1
      have hp6 : PotAt (pw τ r s2 ++ [.cells [.int .i64 sl, .list .full 2 [.agg [.int .i64 (44000 + j.pitch.lo), .int .i64 (44000 + j.pitch.hi)]], .list .full 0 []]]) r := (hp.pw _).app
      generalize pw τ r s2 ++ [_] = τ2 at k3 k4 k5 hp6 ⊢
      have fin : ∀ c, (0 ≤ c ∧ c ≤ 25000) → (100 * (c - 1 - sl) < ex ∧ ex < 100 * (c + 1 + sl)) → _ := fun c w1 w2 => hG (c, τ2) ⟨w1, w2, hp6, k4, k5, k3⟩
      by_cases hcd : ex ≤ 100 * (q + d - 1 - sl) ∨ 100 * (q + d + 1 + sl) ≤ ex
      · have fq := fin q (by omega) (by omega)
        by_cases hcd2 : ex ≤ 100 * (q + d - 1 - sl)
        · simp -implicitDefEqProofs (maxSteps := 2000000) (disch := omega) only [go_sem, reduceCtorEq, Nat.reduceAdd, Nat.reduceSub, Nat.reduceMul, Nat.reduceLT, Nat.reduceLeDiff, Nat.reduceEqDiff, Nat.reduceBEq, Int.reduceToNat, Int.reduceLT, Int.reduceLE, Int.reduceEq, Int.reduceNeg, Int.reduceAdd, Int.reduceSub, Int.reduceMul, ↓reduceIte, Int.reduceBEq, Int.reduceBNe, hq, hcd2]
          change ARun _ _ _ _ _ _
          exact fq.castS rfl (by simp [upd, ins, subF, lookA])
        · have hcd3 : 100 * (q + d + 1 + sl) ≤ ex := by rcases hcd with h | h; exact absurd h hcd2; exact h
          have hcd4 : (100 * (q + d + 1 + sl) ≤ ex) = True := eq_true hcd3
          clear hcd hcd3
          simp -implicitDefEqProofs (maxSteps := 2000000) (disch := omega) only [go_sem, reduceCtorEq, Nat.reduceAdd, Nat.reduceSub, Nat.reduceMul, Nat.reduceLT, Nat.reduceLeDiff, Nat.reduceEqDiff, Nat.reduceBEq, Int.reduceToNat, Int.reduceLT, Int.reduceLE, Int.reduceEq, Int.reduceNeg, Int.reduceAdd, Int.reduceSub, Int.reduceMul, ↓reduceIte, Int.reduceBEq, Int.reduceBNe, hq, hcd2, hcd4]
          change ARun _ _ _ _ _ _
          exact fq.castS rfl (by simp [upd, ins, subF, lookA])
      · have hcd2 : ¬ ex ≤ 100 * (q + d - 1 - sl) := fun h => hcd (.inl h)
        have hcd3 : ¬ 100 * (q + d + 1 + sl) ≤ ex := fun h => hcd (.inr h)
        have fq := fin (q + d) (by omega) (by omega)
        simp -implicitDefEqProofs (maxSteps := 2000000) (disch := omega) only [go_sem, reduceCtorEq, Nat.reduceAdd, Nat.reduceSub, Nat.reduceMul, Nat.reduceLT, Nat.reduceLeDiff, Nat.reduceEqDiff, Nat.reduceBEq, Int.reduceToNat, Int.reduceLT, Int.reduceLE, Int.reduceEq, Int.reduceNeg, Int.reduceAdd, Int.reduceSub, Int.reduceMul, ↓reduceIte, Int.reduceBEq, Int.reduceBNe, hq, hcd2, hcd3]
        change ARun _ _ _ _ _ _
        exact fq.castS rfl (by simp [upd, ins, subF, lookA])
    case rest =>
      rintro ⟨c, τ'⟩ ⟨hcb, hcx, hp', e1, e2, e3⟩
      simp only at hcb hcx hp' e1 e2 e3 ⊢
      rw [k1] at e1
      rw [k2] at e2
      obtain ⟨hW, x, hT, x1, x2, x3, x4, x5⟩ := gauge_more (c := c) hEp (a := 44000 + j.pitch.lo) (b := 44000 + j.pitch.hi) rfl hgs hsb hcb (by rw [hex]; exact hcx)
      simp only [List.nil_append] at hW hT
      clear hgs hEp hgl hwr hq hq2 hex1 hex2 hex3 hcx hex q1 q2
      obtain ⟨k, hk⟩ := game_step (L := L) (by omega) hg (B := ptR x) (by show _ ≤ x.lo - 44000; omega) (by show x.hi - 44000 ≤ _; omega) (by show x.lo - 44000 ≤ x.hi - 44000; omega) (by rw [hme]; exact hm2.1) (by show x.hi - 44000 - (x.lo - 44000) ≤ _; rw [hme]; omega)
      have hbx : -1000000 ≤ x.lo ∧ x.lo ≤ 1000000 ∧ -1000000 ≤ x.hi ∧ x.hi ≤ 1000000 := by omega
      have okB1 : OkJ (j.at (ptR x)) := by
        obtain ⟨h1, h2, h3, h4, h5, h6, h7, h8, h9, h10, h11, h12⟩ := hok2
        exact ⟨⟨by show -60 ≤ x.lo - 44000; omega, by show x.lo - 44000 ≤ x.hi - 44000; omega, by show x.hi - 44000 ≤ 60; omega⟩, h2, h3, h4, h5, h6, h7, h8, h9, h10, h11, h12⟩
      have q1 : ∀ l, hget (τ' ++ l) rj = _ := fun l => (hget_app (hget_lt e1)).trans e1
      have q2 : ∀ l, hget (τ' ++ l) rt = _ := fun l => (hget_app (hget_lt e2)).trans e2
      have q3 : ∀ l, hget (τ' ++ l) τ.length = _ := fun l => (hget_app (hget_lt e3)).trans e3
      have q4 : ∀ l o, hget (hset (τ' ++ l) rj o) rj = some o := fun l o => hget_set (q1 l) o
      have hxw : ¬ w < x.hi - x.lo := by omega
      have hxa : x.av = .agg [.int .i64 x.lo, .int .i64 x.hi] := rfl
      refine ev_sound (Try.envOK 262 Try.ord4 fs212 fs212_ok) (n := 1000) (by kernel_rfl) ?_
      simp -implicitDefEqProofs (maxSteps := 2000000) (disch := omega) only [go_sem, reduceCtorEq, Nat.reduceAdd, Nat.reduceSub, Nat.reduceMul, Nat.reduceLT, Nat.reduceLeDiff, Nat.reduceEqDiff, Nat.reduceBEq, Int.reduceToNat, Int.reduceLT, Int.reduceLE, Int.reduceEq, Int.reduceNeg, Int.reduceAdd, Int.reduceSub, Int.reduceMul, ↓reduceIte, Int.reduceBEq, Int.reduceBNe, e1, e2, e3, q1, q2, q3, q4, hW, hT, hxa, hxw, x2, x3, Ear.av, Rd.av, Rng.av, Rng_eta, Rd_eta, Rd_eta']
      refine rnext_c okB1 _ _ fun J7 => ?_
      rw [hk.next]
      have f1 : hget (hset (τ' ++ [.cells [.int .i64 sl, .list .no 2 [.agg [.int .i64 (44000 + j.pitch.lo), .int .i64 (44000 + j.pitch.hi)]], .list .no 6 [.agg [.int .i64 1, .int .i64 0, .int .i64 0, .int .i64 sec, .int .i64 c, .int .i64 c]]]]) rj (.cells [.int .i64 (x.lo - 44000), .int .i64 (x.hi - 44000), .int .i64 j.tip.lo, .int .i64 j.tip.hi, .int .i64 j.root.lo, .int .i64 j.root.hi, .int .i64 j.up.lo, .int .i64 j.up.hi, .int .i64 j.down.lo, .int .i64 j.down.hi, .int .i64 j.wt.lo, .int .i64 j.wt.hi, .int .i64 j.wr.lo, .int .i64 j.wr.hi, .int .i64 j.least, .list .no 2 (j.shifts.map Rng.av), .int .i64 j.within, .int .i64 j.meter]) ++ J7) rj = some (.cells [.int .i64 (x.lo - 44000), .int .i64 (x.hi - 44000), .int .i64 j.tip.lo, .int .i64 j.tip.hi, .int .i64 j.root.lo, .int .i64 j.root.hi, .int .i64 j.up.lo, .int .i64 j.up.hi, .int .i64 j.down.lo, .int .i64 j.down.hi, .int .i64 j.wt.lo, .int .i64 j.wt.hi, .int .i64 j.wr.lo, .int .i64 j.wr.hi, .int .i64 j.least, .list .no 2 (j.shifts.map Rng.av), .int .i64 j.within, .int .i64 j.meter]) := by rw [hget_app (hget_lt (q4 _ _))]; exact q4 _ _
      have f2 : hget (hset (τ' ++ [.cells [.int .i64 sl, .list .no 2 [.agg [.int .i64 (44000 + j.pitch.lo), .int .i64 (44000 + j.pitch.hi)]], .list .no 6 [.agg [.int .i64 1, .int .i64 0, .int .i64 0, .int .i64 sec, .int .i64 c, .int .i64 c]]]]) rj (.cells [.int .i64 (x.lo - 44000), .int .i64 (x.hi - 44000), .int .i64 j.tip.lo, .int .i64 j.tip.hi, .int .i64 j.root.lo, .int .i64 j.root.hi, .int .i64 j.up.lo, .int .i64 j.up.hi, .int .i64 j.down.lo, .int .i64 j.down.hi, .int .i64 j.wt.lo, .int .i64 j.wt.hi, .int .i64 j.wr.lo, .int .i64 j.wr.hi, .int .i64 j.least, .list .no 2 (j.shifts.map Rng.av), .int .i64 j.within, .int .i64 j.meter]) ++ J7) rt = some (.cells [.int .i64 p, .int .i64 a, .int .i64 b]) := by
        have : hget (hset (τ' ++ [.cells [.int .i64 sl, .list .no 2 [.agg [.int .i64 (44000 + j.pitch.lo), .int .i64 (44000 + j.pitch.hi)]], .list .no 6 [.agg [.int .i64 1, .int .i64 0, .int .i64 0, .int .i64 sec, .int .i64 c, .int .i64 c]]]]) rj (.cells [.int .i64 (x.lo - 44000), .int .i64 (x.hi - 44000), .int .i64 j.tip.lo, .int .i64 j.tip.hi, .int .i64 j.root.lo, .int .i64 j.root.hi, .int .i64 j.up.lo, .int .i64 j.up.hi, .int .i64 j.down.lo, .int .i64 j.down.hi, .int .i64 j.wt.lo, .int .i64 j.wt.hi, .int .i64 j.wr.lo, .int .i64 j.wr.hi, .int .i64 j.least, .list .no 2 (j.shifts.map Rng.av), .int .i64 j.within, .int .i64 j.meter])) rt = some (.cells [.int .i64 p, .int .i64 a, .int .i64 b]) := by rw [hget_ne (Ne.symm hn2)]; exact q2 _
        rw [hget_app (hget_lt this)]; exact this
      have f3 : PotAt (hset (τ' ++ [.cells [.int .i64 sl, .list .no 2 [.agg [.int .i64 (44000 + j.pitch.lo), .int .i64 (44000 + j.pitch.hi)]], .list .no 6 [.agg [.int .i64 1, .int .i64 0, .int .i64 0, .int .i64 sec, .int .i64 c, .int .i64 c]]]]) rj (.cells [.int .i64 (x.lo - 44000), .int .i64 (x.hi - 44000), .int .i64 j.tip.lo, .int .i64 j.tip.hi, .int .i64 j.root.lo, .int .i64 j.root.hi, .int .i64 j.up.lo, .int .i64 j.up.hi, .int .i64 j.down.lo, .int .i64 j.down.hi, .int .i64 j.wt.lo, .int .i64 j.wt.hi, .int .i64 j.wr.lo, .int .i64 j.wr.hi, .int .i64 j.least, .list .no 2 (j.shifts.map Rng.av), .int .i64 j.within, .int .i64 j.meter]) ++ J7) r := (hp'.app.setN hne).app
      generalize hset (τ' ++ [.cells [.int .i64 sl, .list .no 2 [.agg [.int .i64 (44000 + j.pitch.lo), .int .i64 (44000 + j.pitch.hi)]], .list .no 6 [.agg [.int .i64 1, .int .i64 0, .int .i64 0, .int .i64 sec, .int .i64 c, .int .i64 c]]]]) rj (.cells [.int .i64 (x.lo - 44000), .int .i64 (x.hi - 44000), .int .i64 j.tip.lo, .int .i64 j.tip.hi, .int .i64 j.root.lo, .int .i64 j.root.hi, .int .i64 j.up.lo, .int .i64 j.up.hi, .int .i64 j.down.lo, .int .i64 j.down.hi, .int .i64 j.wt.lo, .int .i64 j.wt.hi, .int .i64 j.wr.lo, .int .i64 j.wr.hi, .int .i64 j.least, .list .no 2 (j.shifts.map Rng.av), .int .i64 j.within, .int .i64 j.meter]) ++ J7 = σ6 at f1 f2 f3 ⊢
      clear q1 q2 q3 q4 e1 e2 e3 hW hT k1 k2 hp hp'
      have okB2 : OkJ ⟨⟨x.lo - 44000, x.hi - 44000⟩, j.tip, j.root, j.up, j.down, j.wt, j.wr, j.least, j.shifts, j.within, j.meter⟩ := okB1
      have hkL := hk.le
      cases k with
      | zero =>
        have hd : passS ⟨⟨x.lo - 44000, x.hi - 44000⟩, j.tip, j.root, j.up, j.down, j.wt, j.wr, j.least, j.shifts, j.within, j.meter⟩ ⟨x.lo - 44000, x.hi - 44000⟩ = 1 := hk.done rfl
        simp only [nextV]
        simp -implicitDefEqProofs (maxSteps := 2000000) (disch := omega) only [go_sem, reduceCtorEq, Nat.reduceAdd, Nat.reduceSub, Nat.reduceMul, Nat.reduceLT, Nat.reduceLeDiff, Nat.reduceEqDiff, Nat.reduceBEq, Int.reduceToNat, Int.reduceLT, Int.reduceLE, Int.reduceEq, Int.reduceNeg, Int.reduceAdd, Int.reduceSub, Int.reduceMul, ↓reduceIte, Int.reduceBEq, Int.reduceBNe, f1, hd, okB2, Rng_eta]
        exact filingAwake_c _ _ fun σ' => by simp -implicitDefEqProofs (maxSteps := 2000000) (disch := omega) only [go_sem, reduceCtorEq, Nat.reduceAdd, Nat.reduceSub, Nat.reduceMul, Nat.reduceLT, Nat.reduceLeDiff, Nat.reduceEqDiff, Nat.reduceBEq, Int.reduceToNat, Int.reduceLT, Int.reduceLE, Int.reduceEq, Int.reduceNeg, Int.reduceAdd, Int.reduceSub, Int.reduceMul, ↓reduceIte, Int.reduceBEq, Int.reduceBNe]
      | succ k' =>
        obtain ⟨st, h12, hstr, hspo, hg2⟩ := hk.go (by omega)
        have hnv : nextV (j.at (ptR x)) (some (k' + 1)) = (st, ((k' + 1 : Nat) : Int), 0) := by simp only [nextV]; rw [show (j.at (ptR x)).pitch = ptR x from rfl, hstr]
        rw [hnv]
        simp only
        have z1 : ¬ (n : Int) < (s : Int) + ((k' : Int) + 1) := by omega
        have z2 : ¬ (k' : Int) + 1 = 0 := by omega
        have st1 : ¬ st = 1 → st = 2 := fun h => by rcases h12 with q | q; exact absurd q h; exact q
        have hnx := fun p' a' b' q1 q2 q3 q4 => ginv_next (p' := p') (a' := a') (b' := b') hI0 hw.2 hn5 (B := ptR x) (by show _ ≤ x.lo - 44000; omega) (by show x.lo - 44000 ≤ _; omega) (by show _ ≤ x.hi - 44000; omega) (by show x.hi - 44000 ≤ _; omega) (by show x.hi - 44000 - (x.lo - 44000) ≤ _; omega) hkL h12 hspo hg2 q1 q2 q3 q4
        have t1 : ∀ l, hget (σ6 ++ l) rj = _ := fun l => (hget_app (hget_lt f1)).trans f1
        have t2 : ∀ l, hget (σ6 ++ l) rt = _ := fun l => (hget_app (hget_lt f2)).trans f2
        have haf := fun σ Q => after_p (j.at (ptR x)) st okB1 h12 .full σ Q
        clear hI0 hg2 hspo hstr hnv hk
        rcases h12 with rfl | rfl
        · simp -implicitDefEqProofs (maxSteps := 2000000) (disch := omega) only [go_sem, reduceCtorEq, Nat.reduceAdd, Nat.reduceSub, Nat.reduceMul, Nat.reduceLT, Nat.reduceLeDiff, Nat.reduceEqDiff, Nat.reduceBEq, Int.reduceToNat, Int.reduceLT, Int.reduceLE, Int.reduceEq, Int.reduceNeg, Int.reduceAdd, Int.reduceSub, Int.reduceMul, ↓reduceIte, Int.reduceBEq, Int.reduceBNe, f1, f2, z1, z2]
          refine haf _ _ ?_
          obtain ⟨j2, hj2⟩ : ∃ j2, j2 = strP (j.at (ptR x)) 1 := ⟨_, rfl⟩
          have hj2c : Jb.cells j2 = [.int .i64 j2.pitch.lo, .int .i64 j2.pitch.hi, .int .i64 j2.tip.lo, .int .i64 j2.tip.hi, .int .i64 j2.root.lo, .int .i64 j2.root.hi, .int .i64 j.up.lo, .int .i64 j.up.hi, .int .i64 j.down.lo, .int .i64 j.down.hi, .int .i64 j.wt.lo, .int .i64 j.wt.hi, .int .i64 j.wr.lo, .int .i64 j.wr.hi, .int .i64 j.least, .list .no 2 (j.shifts.map Rng.av), .int .i64 j.within, .int .i64 j.meter] := by rw [hj2]; rfl
          rw [← hj2] at hnx ⊢
          simp only [tgv]
          clear hj2 haf
          simp -implicitDefEqProofs (maxSteps := 2000000) (disch := omega) only [go_sem, reduceCtorEq, Nat.reduceAdd, Nat.reduceSub, Nat.reduceMul, Nat.reduceLT, Nat.reduceLeDiff, Nat.reduceEqDiff, Nat.reduceBEq, Int.reduceToNat, Int.reduceLT, Int.reduceLE, Int.reduceEq, Int.reduceNeg, Int.reduceAdd, Int.reduceSub, Int.reduceMul, ↓reduceIte, Int.reduceBEq, Int.reduceBNe, t1, t2]
          refine strike_c r (j.at (ptR x)) okB1.file p a b 1 (.inl rfl) (by omega) (by omega) (by omega) _ f3.app _ fun s8 p' a' b' J8 g1 g2 g3 g4 => ?_
          rw [pw_app f3.lt, List.append_assoc]
          have m1 := (pw_get (l := [(.cells [.int .i64 j2.pitch.lo, .int .i64 j2.pitch.hi, .int .i64 j2.tip.lo, .int .i64 j2.tip.hi, .int .i64 j2.root.lo, .int .i64 j2.root.hi])] ++ J8) (s := s8) (hget_lt f1) hne).trans f1
          have m2 := (pw_get (l := [(.cells [.int .i64 j2.pitch.lo, .int .i64 j2.pitch.hi, .int .i64 j2.tip.lo, .int .i64 j2.tip.hi, .int .i64 j2.root.lo, .int .i64 j2.root.hi])] ++ J8) (s := s8) (hget_lt f2) hn1).trans f2
          have m3 : hget (pw σ6 r s8 ++ ([(.cells [.int .i64 j2.pitch.lo, .int .i64 j2.pitch.hi, .int .i64 j2.tip.lo, .int .i64 j2.tip.hi, .int .i64 j2.root.lo, .int .i64 j2.root.hi])] ++ J8)) σ6.length = some (.cells [.int .i64 j2.pitch.lo, .int .i64 j2.pitch.hi, .int .i64 j2.tip.lo, .int .i64 j2.tip.hi, .int .i64 j2.root.lo, .int .i64 j2.root.hi]) := by rw [hget_pw0]; rfl
          have m4 : PotAt (pw σ6 r s8 ++ ([(.cells [.int .i64 j2.pitch.lo, .int .i64 j2.pitch.hi, .int .i64 j2.tip.lo, .int .i64 j2.tip.hi, .int .i64 j2.root.lo, .int .i64 j2.root.hi])] ++ J8)) r := (f3.pw _).app
          have b1 : rt ≠ σ6.length := by have := hget_lt f2; omega
          have hfin := hnx p' a' b' g1 g2 g3 g4
          generalize pw σ6 r s8 ++ ([(.cells [.int .i64 j2.pitch.lo, .int .i64 j2.pitch.hi, .int .i64 j2.tip.lo, .int .i64 j2.tip.hi, .int .i64 j2.root.lo, .int .i64 j2.root.hi])] ++ J8) = σ7 at m1 m2 m3 m4 ⊢
          have n1 : ∀ o, hget (hset σ7 rt o) σ6.length = _ := fun o => (hget_ne b1).trans m3
          have n2 : ∀ o, hget (hset σ7 rt o) rj = _ := fun o => (hget_ne hn2).trans m1
          have n3 : ∀ o1 o2, hget (hset (hset σ7 rt o1) rj o2) rj = some o2 := fun o1 o2 => hget_set (n2 o1) o2
          have n4 : ∀ o1 o2, hget (hset (hset σ7 rt o1) rj o2) rt = some o1 := fun o1 o2 => (hget_ne (Ne.symm hn2)).trans (hget_set m2 o1)
          have n5 : ∀ o1 o2, PotAt (hset (hset σ7 rt o1) rj o2) r := fun o1 o2 => (m4.setN hn1).setN hne
          clear t1 t2 f1 f2 f3 hnx
          simp -implicitDefEqProofs (maxSteps := 2000000) (disch := omega) only [go_sem, reduceCtorEq, Nat.reduceAdd, Nat.reduceSub, Nat.reduceMul, Nat.reduceLT, Nat.reduceLeDiff, Nat.reduceEqDiff, Nat.reduceBEq, Int.reduceToNat, Int.reduceLT, Int.reduceLE, Int.reduceEq, Int.reduceNeg, Int.reduceAdd, Int.reduceSub, Int.reduceMul, ↓reduceIte, Int.reduceBEq, Int.reduceBNe, m1, m2, m3, n1, n2]
          refine (ih _ ⟨j2, p', a', b', k', hfin, n5 _ _, ?_, n4 _ _⟩).castS rfl (by simp [upd, ins, subF, lookA])
          rw [hj2c]
          exact n3 _ _
        · simp -implicitDefEqProofs (maxSteps := 2000000) (disch := omega) only [go_sem, reduceCtorEq, Nat.reduceAdd, Nat.reduceSub, Nat.reduceMul, Nat.reduceLT, Nat.reduceLeDiff, Nat.reduceEqDiff, Nat.reduceBEq, Int.reduceToNat, Int.reduceLT, Int.reduceLE, Int.reduceEq, Int.reduceNeg, Int.reduceAdd, Int.reduceSub, Int.reduceMul, ↓reduceIte, Int.reduceBEq, Int.reduceBNe, f1, f2, z1, z2]
          refine haf _ _ ?_
          obtain ⟨j2, hj2⟩ : ∃ j2, j2 = strP (j.at (ptR x)) 2 := ⟨_, rfl⟩
          have hj2c : Jb.cells j2 = [.int .i64 j2.pitch.lo, .int .i64 j2.pitch.hi, .int .i64 j2.tip.lo, .int .i64 j2.tip.hi, .int .i64 j2.root.lo, .int .i64 j2.root.hi, .int .i64 j.up.lo, .int .i64 j.up.hi, .int .i64 j.down.lo, .int .i64 j.down.hi, .int .i64 j.wt.lo, .int .i64 j.wt.hi, .int .i64 j.wr.lo, .int .i64 j.wr.hi, .int .i64 j.least, .list .no 2 (j.shifts.map Rng.av), .int .i64 j.within, .int .i64 j.meter] := by rw [hj2]; rfl
          rw [← hj2] at hnx ⊢
          simp only [tgv]
          clear hj2 haf
          simp -implicitDefEqProofs (maxSteps := 2000000) (disch := omega) only [go_sem, reduceCtorEq, Nat.reduceAdd, Nat.reduceSub, Nat.reduceMul, Nat.reduceLT, Nat.reduceLeDiff, Nat.reduceEqDiff, Nat.reduceBEq, Int.reduceToNat, Int.reduceLT, Int.reduceLE, Int.reduceEq, Int.reduceNeg, Int.reduceAdd, Int.reduceSub, Int.reduceMul, ↓reduceIte, Int.reduceBEq, Int.reduceBNe, t1, t2]
          refine strike_c r (j.at (ptR x)) okB1.file p a b 2 (.inr rfl) (by omega) (by omega) (by omega) _ f3.app _ fun s8 p' a' b' J8 g1 g2 g3 g4 => ?_
          rw [pw_app f3.lt, List.append_assoc]
          have m1 := (pw_get (l := [(.cells [.int .i64 j2.pitch.lo, .int .i64 j2.pitch.hi, .int .i64 j2.tip.lo, .int .i64 j2.tip.hi, .int .i64 j2.root.lo, .int .i64 j2.root.hi])] ++ J8) (s := s8) (hget_lt f1) hne).trans f1
          have m2 := (pw_get (l := [(.cells [.int .i64 j2.pitch.lo, .int .i64 j2.pitch.hi, .int .i64 j2.tip.lo, .int .i64 j2.tip.hi, .int .i64 j2.root.lo, .int .i64 j2.root.hi])] ++ J8) (s := s8) (hget_lt f2) hn1).trans f2
          have m3 : hget (pw σ6 r s8 ++ ([(.cells [.int .i64 j2.pitch.lo, .int .i64 j2.pitch.hi, .int .i64 j2.tip.lo, .int .i64 j2.tip.hi, .int .i64 j2.root.lo, .int .i64 j2.root.hi])] ++ J8)) σ6.length = some (.cells [.int .i64 j2.pitch.lo, .int .i64 j2.pitch.hi, .int .i64 j2.tip.lo, .int .i64 j2.tip.hi, .int .i64 j2.root.lo, .int .i64 j2.root.hi]) := by rw [hget_pw0]; rfl
          have m4 : PotAt (pw σ6 r s8 ++ ([(.cells [.int .i64 j2.pitch.lo, .int .i64 j2.pitch.hi, .int .i64 j2.tip.lo, .int .i64 j2.tip.hi, .int .i64 j2.root.lo, .int .i64 j2.root.hi])] ++ J8)) r := (f3.pw _).app
          have b1 : rt ≠ σ6.length := by have := hget_lt f2; omega
          have hfin := hnx p' a' b' g1 g2 g3 g4
          generalize pw σ6 r s8 ++ ([(.cells [.int .i64 j2.pitch.lo, .int .i64 j2.pitch.hi, .int .i64 j2.tip.lo, .int .i64 j2.tip.hi, .int .i64 j2.root.lo, .int .i64 j2.root.hi])] ++ J8) = σ7 at m1 m2 m3 m4 ⊢
          have n1 : ∀ o, hget (hset σ7 rt o) σ6.length = _ := fun o => (hget_ne b1).trans m3
          have n2 : ∀ o, hget (hset σ7 rt o) rj = _ := fun o => (hget_ne hn2).trans m1
          have n3 : ∀ o1 o2, hget (hset (hset σ7 rt o1) rj o2) rj = some o2 := fun o1 o2 => hget_set (n2 o1) o2
          have n4 : ∀ o1 o2, hget (hset (hset σ7 rt o1) rj o2) rt = some o1 := fun o1 o2 => (hget_ne (Ne.symm hn2)).trans (hget_set m2 o1)
          have n5 : ∀ o1 o2, PotAt (hset (hset σ7 rt o1) rj o2) r := fun o1 o2 => (m4.setN hn1).setN hne
          clear t1 t2 f1 f2 f3 hnx
          simp -implicitDefEqProofs (maxSteps := 2000000) (disch := omega) only [go_sem, reduceCtorEq, Nat.reduceAdd, Nat.reduceSub, Nat.reduceMul, Nat.reduceLT, Nat.reduceLeDiff, Nat.reduceEqDiff, Nat.reduceBEq, Int.reduceToNat, Int.reduceLT, Int.reduceLE, Int.reduceEq, Int.reduceNeg, Int.reduceAdd, Int.reduceSub, Int.reduceMul, ↓reduceIte, Int.reduceBEq, Int.reduceBNe, m1, m2, m3, n1, n2]
          refine (ih _ ⟨j2, p', a', b', k', hfin, n5 _ _, ?_, n4 _ _⟩).castS rfl (by simp [upd, ins, subF, lookA])
          rw [hj2c]
          exact n3 _ _
  · refine ev_sound (Try.envOK 262 Try.ord4 fs212 fs212_ok) (n := 1000) (by kernel_rfl) ?_
    simp -implicitDefEqProofs (maxSteps := 2000000) (disch := omega) only [go_sem, reduceCtorEq, Nat.reduceAdd, Nat.reduceSub, Nat.reduceMul, Nat.reduceLT, Nat.reduceLeDiff, Nat.reduceEqDiff, Nat.reduceBEq, Int.reduceToNat, Int.reduceLT, Int.reduceLE, Int.reduceEq, Int.reduceNeg, Int.reduceAdd, Int.reduceSub, Int.reduceMul, ↓reduceIte, Int.reduceBEq, Int.reduceBNe, k1, k2, q1, q2, hgl, Ear.av, Rng.av, Rng_eta]
    exact filingAwake_c _ _ fun σ' => by simp -implicitDefEqProofs (maxSteps := 2000000) (disch := omega) only [go_sem, reduceCtorEq, Nat.reduceAdd, Nat.reduceSub, Nat.reduceMul, Nat.reduceLT, Nat.reduceLeDiff, Nat.reduceEqDiff, Nat.reduceBEq, Int.reduceToNat, Int.reduceLT, Int.reduceLE, Int.reduceEq, Int.reduceNeg, Int.reduceAdd, Int.reduceSub, Int.reduceMul, ↓reduceIte, Int.reduceBEq, Int.reduceBNe]
end Go.Proofs
