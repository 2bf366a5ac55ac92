/- Texts of a proof: lemmas. -/
import Derived.Test.YtgbdndlmdklefaaGreatK30
import Derived.Test.YtgbdndlmdklefaaGreatK26
set_option linter.unusedSimpArgs false
set_option linter.unusedVariables false
set_option maxRecDepth 100000
namespace Go.Proofs
open Go Go.Mu
variable {S : MC Tryz.prog}
theorem ClV.ap0 {P : Program} {S : MC P} {g : FuncId} {p q : List AV} {σ : List AObj} {x : AV} {v : AV} (h : ClV S g p q σ [x] v) {Q : AV → List AObj → Prop} (hq : Q v σ) : ACalls S g (p ++ x :: q) σ Q := by
 have := h σ (Nat.le_refl _) (fun _ _ => rfl) Q hq
 simpa using this
theorem indexI_c {g : FuncId} {p q : List AV} {σ : List AObj} (f : Int → Bool) (l : List Int) (tk : Tok) (hl : l.length ≤ 4294967296) (hn : ∀ d ∈ l, ClV S g p q σ [.int .i64 d] (.bool (f d))) (Q : AV → List AObj → Prop) (h : ∀ n : Int, decide (0 ≤ n) = l.any f → Q (.int .i64 n) σ) :
  ACalls S 201 [.list tk 1 (l.map (.int .i64)), .fn (.func g) p q] σ Q := by
 refine AcE (Tryz.envOK (S := S) 19 (fun _ => ([], [])) fs0 fs0_ok) Tryz.kp201 Tryz.func201 rfl ?_
 simp -implicitDefEqProofs (maxSteps := 2000000) (disch := omega) only [go_sem, simprocAttr]
 refine ARun.forS (Tryz.envOK (S := S) 19 (fun _ => ([], [])) fs0 fs0_ok) l.length (fun i => (l.take i).any f = false) (fun i => [(8, .int .i64 i)]) (fun _ _ => σ) [] (by kernel_rfl) rfl (by simp [upd, ins, subF, lookA]) (by simp) ?_ ?_
 ·intro i j hi hp ih
  have hmi : l[i] ∈ l := List.getElem_mem hi
  simp -implicitDefEqProofs (maxSteps := 2000000) (disch := omega) only [go_sem, simprocAttr]
  refine (hn _ hmi).ap0 ?_
  cases hb : f l[i]
  ·simp -implicitDefEqProofs (maxSteps := 2000000) (disch := omega) only [go_sem, simprocAttr]
   refine (ih ?_ []).castS rfl (by simp [upd, ins, subF, lookA])
   rw [List.take_succ_eq_append_getElem hi, List.any_append, hp]; simp [hb]
  ·simp -implicitDefEqProofs (maxSteps := 2000000) (disch := omega) only [go_sem, simprocAttr]
   refine h _ ?_
   have : l.any f = true := List.any_eq_true.2 ⟨_, hmi, hb⟩
   rw [this]; simp
 ·intro j hp
  rw [List.take_length] at hp
  simp -implicitDefEqProofs (maxSteps := 2000000) (disch := omega) only [go_sem, simprocAttr]
  refine h _ ?_
  rw [hp]; simp
theorem containsI_c {g : FuncId} {p q : List AV} {σ : List AObj} (f : Int → Bool) (l : List Int) (tk : Tok) (hl : l.length ≤ 4294967296) (hn : ∀ d ∈ l, ClV S g p q σ [.int .i64 d] (.bool (f d))) (Q : AV → List AObj → Prop) (h : Q (.bool (l.any f)) σ) :
  ACalls S 155 [.list tk 1 (l.map (.int .i64)), .fn (.func g) p q] σ Q := by
 refine AcE (Tryz.envOK (S := S) 9 (fun _ => ([], [])) fs0 fs0_ok) Tryz.kp155 Tryz.func155 rfl ?_
 simp -implicitDefEqProofs (maxSteps := 2000000) (disch := omega) only [go_sem, simprocAttr]
 refine indexI_c f l tk hl hn _ fun n hn => ?_
 rw [← hn] at h
 by_cases h0 : 0 ≤ n
 ·have e : decide (0 ≤ n) = true := by simpa using h0
  rw [e] at h
  simp -implicitDefEqProofs (maxSteps := 2000000) (disch := omega) only [go_sem, simprocAttr]
  exact h
 ·have e : decide (0 ≤ n) = false := by simpa using h0
  rw [e] at h
  simp -implicitDefEqProofs (maxSteps := 2000000) (disch := omega) only [go_sem, simprocAttr]
  exact h
def Ros.wcells (r : Ros) (l : List (List Int)) : List AV := [.int .i64 r.hands, .int .i64 r.skill, .int .i64 r.mn, .int .i64 r.mx, .list .no 2 (r.sets.map Sg.av), .list .no 6 (r.ents.map Tn.av), .list .no 1 (l.map ints1)]
theorem by1_v {σ : List AObj} {re rr : Nat} {r : Ros} {ds : List (List Int)} {e d : Int} (hs : 0 ≤ r.skill ∧ r.skill ≤ 9) (he : -300 ≤ e ∧ e ≤ 300) (hd : -2000000 ≤ d ∧ d ≤ 2000000) (h1 : hget σ re = some (.cells [.int .i64 e])) (h2 : hget σ rr = some (.cells (r.wcells ds))) :
  ClV S 156 [] [.ptr re 0, .ptr rr 0] σ [.int .i64 d] (.bool (decide (-r.skill ≤ d - e ∧ d - e ≤ r.skill))) := by
 intro σ' hl' hs' Q hq
 have h1' := (hs' _ (hget_lt h1)).trans h1
 have h2' := (hs' _ (hget_lt h2)).trans h2
 simp only [List.nil_append, List.cons_append]
 refine ACalls.clean_ev (E := Tryz.E (S := S) 16 (fun _ => ([], [])) fs403) (Tryz.envOK (S := S) 16 (fun _ => ([], [])) fs403 fs403_ok) (.bool _) (hq) Tryz.kp156 Tryz.func156 rfl (by kernel_rfl) (by simp [Tryz.E]) (Callable.of Tryz.func156 (by kernel_rfl) (by kernel_rfl)) (by kernel_rfl) ?_
 have hw : IntKind.i64.wrap (d - e) = d - e := wrap64 (by omega) (by omega)
 have hw2 : IntKind.i64.wrap (-r.skill) = -r.skill := wrap64 (by omega) (by omega)
 simp -implicitDefEqProofs (maxSteps := 2000000) (disch := omega) only [go_sem, simprocAttr, h1', h2', Ros.wcells, hw, hw2]
 exact ⟨fun a b => (decide_eq_true (by omega)).symm, fun h => (decide_eq_false (by omega)).symm⟩
set_option maxHeartbeats 4000000 in
theorem by_p (r : Ros) (hr : r.Head) (ds : List (List Int)) (hds : ∀ l ∈ ds, (∀ y ∈ l, -2000000 ≤ y ∧ y ≤ 2000000) ∧ l.length ≤ 1000000) (hdl : ds.length = r.ents.length) (hde : ∀ t ∈ r.ents, 0 ≤ t.day ∧ t.day ≤ 60) (x : List Int) (hx : OkX r x) (i : Nat) (hi : i < r.ents.length) (h : Int) (hh : 0 ≤ h ∧ h < 4) :
  PureV S 111 [r.wav ds, rtv x, .int .i64 i, .int .i64 h] (.bool (byB r ds x i h)) := by
 refine PvE (Tryz.envOK (S := S) 42 Tryz.ord111 fs403 fs403_ok) (.bool) Tryz.kp111 Tryz.func111 rfl ?_
 intro σ
 have hid : i < ds.length := by omega
 have hgd : r.ents.getD i default = r.ents[i] := by simp [List.getD, List.getElem?_eq_getElem hi]
 have hgs : ds.getD i [] = ds[i] := by simp [List.getD, List.getElem?_eq_getElem hid]
 have hday := hde _ (List.getElem_mem hi)
 have hdi := hds _ (List.getElem_mem hid)
 have hoff := @offX_in r x hx h r.ents[i].day hday
 have hel := hr.entl
 have hxl := hx.len
 have hby : byB r ds x i h = if 0 ≤ r.ents[i].hand ∧ r.ents[i].hand ≠ h then false else ds[i].any fun d => decide (-r.skill ≤ d - offX r x h r.ents[i].day ∧ d - offX r x h r.ents[i].day ≤ r.skill) := by
  unfold byB; rw [hgd, hgs]
 rw [hby]
 clear hgd hgs hby hds hde
 have hav : r.wav ds = .agg (r.wcells ds) := rfl
 simp only [hav, rtv]
 simp -implicitDefEqProofs (maxSteps := 2000000) (disch := omega) only [go_sem, simprocAttr, Ros.wcells, Tn.av, Tn.cells]
 have hw : IntKind.i64.wrap (tg x h * (r.ents[i].day - fromL r.sets h r.ents[i].day)) = offX r x h r.ents[i].day := wrap64 (by unfold offX at hoff; omega) (by unfold offX at hoff; omega)
 refine ⟨fun q1 => ⟨fun q2 => ?_, fun q2 => ?_⟩, fun q1 => ?_⟩
 ·rw [if_pos ⟨q1, q2⟩]
 ·rw [if_neg (fun c => c.2 q2)]
  refine since_p r ds hr h _ hday _ _ ?_
  simp -implicitDefEqProofs (maxSteps := 2000000) (disch := omega) only [go_sem, simprocAttr, Ros.wcells, Tn.av, Tn.cells, hw, ints1]
  refine containsI_c (fun d => decide (-r.skill ≤ d - offX r x h r.ents[i].day ∧ d - offX r x h r.ents[i].day ≤ r.skill)) ds[i] .no (by omega) (fun d hd => by1_v (r := r) (ds := ds) hr.skill hoff (hdi.1 d hd) hget_at (by simp [hget_at0, Ros.wcells])) _ ?_
  simp -implicitDefEqProofs (maxSteps := 2000000) (disch := omega) only [go_sem, simprocAttr, Ros.wcells, Tn.av, Tn.cells, hw, ints1]
 ·rw [if_neg (fun c => q1 c.1)]
  refine since_p r ds hr h _ hday _ _ ?_
  simp -implicitDefEqProofs (maxSteps := 2000000) (disch := omega) only [go_sem, simprocAttr, Ros.wcells, Tn.av, Tn.cells, hw, ints1]
  refine containsI_c (fun d => decide (-r.skill ≤ d - offX r x h r.ents[i].day ∧ d - offX r x h r.ents[i].day ≤ r.skill)) ds[i] .no (by omega) (fun d hd => by1_v (r := r) (ds := ds) hr.skill hoff (hdi.1 d hd) hget_at (by simp [hget_at0, Ros.wcells])) _ ?_
  simp -implicitDefEqProofs (maxSteps := 2000000) (disch := omega) only [go_sem, simprocAttr, Ros.wcells, Tn.av, Tn.cells, hw, ints1]
structure Work (r : Ros) (ds : List (List Int)) : Prop extends r.Head where
 dev : ∀ l ∈ ds, (∀ y ∈ l, -2000000 ≤ y ∧ y ≤ 2000000) ∧ l.length ≤ 1000000
 len : ds.length = r.ents.length
 day : ∀ t ∈ r.ents, 0 ≤ t.day ∧ t.day ≤ 60
theorem Ros.Good.work {r : Ros} (h : r.Good) : Work r (entsL r) := ⟨h.toHead, h.devs, entsL_len r, fun t ht => (h.ent t ht).1⟩
theorem range_all {f : Nat → Bool} {i : Nat} : (List.range (i + 1)).all f = ((List.range i).all f && f i) := by rw [List.range_succ, List.all_append]; simp
theorem range_any {f : Nat → Bool} {i : Nat} : (List.range (i + 1)).any f = ((List.range i).any f || f i) := by rw [List.range_succ, List.any_append]; simp
set_option maxHeartbeats 4000000 in
theorem is_p (r : Ros) (ds : List (List Int)) (hr : Work r ds) (x : List Int) (hx : OkX r x) : PureV S 151 [r.wav ds, rtv x] (.bool (isB r ds x)) := by
 refine PvE (Tryz.envOK (S := S) 27 (fun _ => ([], [])) fs403 fs403_ok) (.bool) Tryz.kp151 Tryz.func151 rfl ?_
 intro σ
 have hav : r.wav ds = .agg (r.wcells ds) := rfl
 have hh := hr.hands
 have hel := hr.entl
 have hH : (r.hands.toNat : Int) = r.hands := by omega
 have hx4 : (4 ≤ x.length) = True := by rw [hx.len]; simp
 have htk : List.take 4 (x.map (AV.int .i64)) = x.map (AV.int .i64) := List.take_of_length_le (by rw [List.length_map, hx.len]; omega)
 simp only [hav, rtv]
 simp -implicitDefEqProofs (maxSteps := 2000000) (disch := omega) only [go_sem, simprocAttr, Ros.wcells, hx4, htk]
 refine ARun.forS (Tryz.envOK (S := S) 27 (fun _ => ([], [])) fs403 fs403_ok) r.ents.length (fun i => ((List.range i).all fun i => (List.range r.hands.toNat).any fun h => byB r ds x i h) = true) (fun i => [(11, .int .i64 i)]) (fun _ j => σ ++ (.cells (r.wcells ds) :: .cells (x.map (.int .i64)) :: j)) [] (by kernel_rfl) (by simp [Ros.wcells]) (by simp [upd, ins, subF, lookA]) (by simp) ?_ ?_
 ·intro i j hi hp ih
  rw [range_all, hp, Bool.true_and] at ih
  simp -implicitDefEqProofs (maxSteps := 2000000) (disch := omega) only [go_sem, simprocAttr, Ros.wcells, hx4, htk]
  refine ARun.forS (Tryz.envOK (S := S) 27 (fun _ => ([], [])) fs403 fs403_ok) r.hands.toNat (fun h => ((List.range h).any fun h => byB r ds x i h) = false) (fun h => [(17, .int .i64 h)]) (fun _ _ => σ ++ (.cells (r.wcells ds) :: .cells (x.map (.int .i64)) :: j)) [] (by kernel_rfl) (by simp [Ros.wcells]) (by simp [upd, ins, subF, lookA, hH]) (by simp) ?_ ?_
  ·intro h j2 hh2 hp2 ih2
   have hh4 : (h : Int) < 4 := by omega
   simp -implicitDefEqProofs (maxSteps := 2000000) (disch := omega) only [go_sem, simprocAttr, Ros.wcells, hx4, htk]
   refine by_p r hr.toHead ds hr.dev hr.len hr.day x hx i hi h ⟨by omega, hh4⟩ _ _ ?_
   cases hb : byB r ds x i h
   ·simp -implicitDefEqProofs (maxSteps := 2000000) (disch := omega) only [go_sem, simprocAttr, Ros.wcells, hx4, htk]
    refine (ih2 (by rw [range_any, hp2, hb]; rfl) []).castS rfl (by simp [upd, ins, subF, lookA])
   ·simp -implicitDefEqProofs (maxSteps := 2000000) (disch := omega) only [go_sem, simprocAttr, Ros.wcells, hx4, htk]
    have : ((List.range r.hands.toNat).any fun h => byB r ds x i h) = true := List.any_eq_true.2 ⟨h, List.mem_range.2 hh2, hb⟩
    refine (ih this j).castS rfl (by simp [upd, ins, subF, lookA])
  ·intro j2 hp2
   simp -implicitDefEqProofs (maxSteps := 2000000) (disch := omega) only [go_sem, simprocAttr, Ros.wcells, hx4, htk]
   have : isB r ds x = false := by
    unfold isB
    rw [List.all_eq_false]
    exact ⟨i, List.mem_range.2 hi, by rw [hp2]; simp⟩
   rw [this]
 ·intro j hp
  simp -implicitDefEqProofs (maxSteps := 2000000) (disch := omega) only [go_sem, simprocAttr, Ros.wcells, hx4, htk]
  have : isB r ds x = true := hp
  rw [this]
def withS (r : Rd) (c : Int) : Rd := ⟨r.kind, r.a, r.b, r.sec, ⟨c, c⟩⟩
def cLo (n sl : Int) : Int := mx 0 (n / 100 - sl - 1)
def cHi (n sl : Int) : Int := mn 25000 (n / 100 + sl + 2)
def outAt (r : Rd) (sl : Int) (t : List Int) (i : Nat) : List Int := ((List.range i).map fun k : Nat => cLo (tg t r.a * r.sec) sl + k).filter fun c => isR (withS r c) sl t
def showsL (r : Rd) (sl : Int) (t : List Int) : List Int :=
 if r.kind = 1 then outAt r sl t (cHi (tg t r.a * r.sec) sl - cLo (tg t r.a * r.sec) sl + 1).toNat
 else if r.kind = 2 then [dist (tg t r.a) (tg t r.b) * r.sec / 100] else [if isR r sl t then 1 else 0]
theorem outAt_succ {r : Rd} {sl : Int} {t : List Int} {i : Nat} : outAt r sl t (i + 1) = outAt r sl t i ++ (if isR (withS r (cLo (tg t r.a * r.sec) sl + i)) sl t then [cLo (tg t r.a * r.sec) sl + i] else []) := by
 simp only [outAt, List.range_succ, List.map_append, List.filter_append, List.map_cons, List.map_nil, List.filter_cons, List.filter_nil]
theorem outAt_len {r : Rd} {sl : Int} {t : List Int} {i : Nat} : (outAt r sl t i).length ≤ i := by
 unfold outAt
 exact Nat.le_trans (List.length_filter_le _ _) (by simp)
set_option maxHeartbeats 1000000 in
theorem shows1_p (a b s x y sl : Int) (t : List Int) (hr : okR ⟨1, a, b, s, ⟨x, y⟩⟩) (hsl : 0 ≤ sl ∧ sl ≤ 3) (ht : t.length = 3) (hs : small t) : PureV S 208 [rdv ⟨1, a, b, s, ⟨x, y⟩⟩ sl, tav t] (tIs.av (showsL ⟨1, a, b, s, ⟨x, y⟩⟩ sl t)) := by
 refine PvE (Tryz.envOK (S := S) 76 Tryz.ord208 fs5 fs5_ok) (Plain.ints) Tryz.kp208 Tryz.func208 rfl ?_
 intro σ
 simp only [rdv, tav, if_true]
 obtain ⟨ha, hb, hsec, hx, hy⟩ := hr.2
 simp only at ha hb hsec hx hy
 have hn := mul_le (small_tg hs a) hsec
 obtain ⟨q, hq⟩ : ∃ q, (tg t a * s).tdiv 100 = q := ⟨_, rfl⟩
 have hq2 : q = tg t a * s / 100 := by rw [← hq]; exact Int.tdiv_eq_ediv_of_nonneg hn.1
 obtain ⟨lo, hlo⟩ : ∃ lo, (if 0 < q - sl - 1 then q - sl - 1 else 0) = lo := ⟨_, rfl⟩
 obtain ⟨hi, hhi⟩ : ∃ hi, (if q + sl + 2 < 25000 then q + sl + 2 else 25000) = hi := ⟨_, rfl⟩
 have elo : cLo (tg t a * s) sl = lo := by rw [← hlo, hq2]; rfl
 have ehi : cHi (tg t a * s) sl = hi := by rw [← hhi, hq2]; rfl
 have blo : 0 ≤ lo ∧ lo ≤ 300000 := by rw [← hlo]; split <;> omega
 have bhi : 0 ≤ hi ∧ hi ≤ 25000 := by rw [← hhi]; split <;> omega
 simp -implicitDefEqProofs (maxSteps := 2000000) (disch := omega) only [go_sem, simprocAttr, hq, hlo, tC_dec]
 refine ARun.ghost 7 1 (sz0 := 0) rfl (by simp [lookA]) ?_
 simp only [ins, ↓reduceIte, List.append_assoc, List.cons_append, List.nil_append, List.length_append, List.length_cons, List.length_nil, Nat.zero_add, Nat.reduceEqDiff, Nat.reduceAdd]
 refine ARun.forJ (Tryz.envOK (S := S) 76 Tryz.ord208 fs5 fs5_ok) (hi - lo + 1).toNat (fun i σ' => ∃ x y j, σ' = σ ++ (.cells (t.map (AV.int .i64)) :: .cells [.int .i64 1, .int .i64 a, .int .i64 b, .int .i64 s, .int .i64 x, .int .i64 y, .int .i64 sl] :: .tail (outAt ⟨1, a, b, s, ⟨x, y⟩⟩ sl t i).length 1 :: j)) (fun i => [(7, .list (.own (σ.length + 2)) 1 ((outAt ⟨1, a, b, s, ⟨x, y⟩⟩ sl t i).map (AV.int .i64))), (8, .int .i64 (lo + i))]) (by kernel_rfl) (by simp [upd, ins, subF, lookA, outAt]) ⟨x, y, [], by simp [outAt]⟩ ?_ ?_
 ·rintro i σ' hi' ⟨x', y', j, rfl⟩ ih
  have hokc : okR ⟨1, a, b, s, ⟨lo + i, lo + i⟩⟩ := ⟨hr.1, ha, hb, hsec, by simp only; omega, by simp only; omega⟩
  have hsu := outAt_succ (r := ⟨1, a, b, s, ⟨x, y⟩⟩) (sl := sl) (t := t) (i := i)
  simp only [elo, withS] at hsu
  have hol := outAt_len (r := ⟨1, a, b, s, ⟨x, y⟩⟩) (sl := sl) (t := t) (i := i)
  have hE : ∀ x' y' i, outAt ⟨1, a, b, s, ⟨x', y'⟩⟩ sl t i = outAt ⟨1, a, b, s, ⟨x, y⟩⟩ sl t i := fun _ _ _ => rfl
  simp only [hE]
  cases hb2 : isR ⟨1, a, b, s, ⟨lo + i, lo + i⟩⟩ sl t
  ·rw [hb2] at hsu
   simp -implicitDefEqProofs (maxSteps := 2000000) (disch := omega) only [go_sem, simprocAttr, hq, hlo, hhi, hokc, hs, hb2, tC_dec, decC]
   refine (ih _ ⟨lo + i, lo + i, j, ?_⟩).castS rfl (by simp [upd, ins, subF, lookA, hsu, Int.add_assoc])
   simp [hE, hsu]
  ·rw [hb2] at hsu
   simp -implicitDefEqProofs (maxSteps := 2000000) (disch := omega) only [go_sem, simprocAttr, hq, hlo, hhi, hokc, hs, hb2, tC_dec, decC]
   refine (ih _ ⟨lo + i, lo + i, j, ?_⟩).castS rfl (by simp [upd, ins, subF, lookA, hsu, Int.add_assoc])
   simp [hE, hsu]
 ·rintro σ' ⟨x', y', j, rfl⟩
  simp -implicitDefEqProofs (maxSteps := 2000000) (disch := omega) only [go_sem, simprocAttr, hq, hlo, hhi]
  exact ⟨by simp [showsL, elo, ehi], .inl rfl, .inl rfl⟩
theorem shows2_p (r : Rd) (sl : Int) (t : List Int) (hr : okR r) (hk : r.kind = 2) (ht : t.length = 3) (hs : small t) : PureV S 208 [.iface 254 r.av, tav t] (tIs.av (showsL r sl t)) := by
 refine PvE (Tryz.envOK (S := S) 76 Tryz.ord208 fs5 fs5_ok) (Plain.ints) Tryz.kp208 Tryz.func208 rfl ?_
 intro σ
 obtain ⟨k, a, b, s, x, y⟩ := r
 simp only at hk
 subst hk
 simp only [Rd.av, tav]
 obtain ⟨ha, hb, hsec, hx, hy⟩ := hr.2
 simp only at ha hb hsec hx hy
 have hn := mul_le (dist_le (small_tg hs a) (small_tg hs b)) hsec
 have hq : (dist (tg t a) (tg t b) * s).tdiv 100 = dist (tg t a) (tg t b) * s / 100 := Int.tdiv_eq_ediv_of_nonneg hn.1
 simp -implicitDefEqProofs (maxSteps := 2000000) (disch := omega) only [go_sem, simprocAttr, hs, hq]
 exact ⟨by simp [showsL], .inl rfl, .inl rfl⟩
theorem shows3_p (r : Rd) (sl : Int) (t : List Int) (hr : okR r) (hsl : 0 ≤ sl ∧ sl ≤ 3) (hk : r.kind = 3) (ht : t.length = 3) (hs : small t) : PureV S 208 [.iface 255 r.av, tav t] (tIs.av (showsL r sl t)) := by
 refine PvE (Tryz.envOK (S := S) 76 Tryz.ord208 fs5 fs5_ok) (Plain.ints) Tryz.kp208 Tryz.func208 rfl ?_
 intro σ
 have hinv := @invoke_is S 76 Tryz.ord208 fs5 (fun _ => ⟨rfl, rfl, rfl⟩) r sl t
 have hrd : rdv r sl = .iface 255 r.av := by simp [rdv, hk]
 rw [hrd] at hinv
 simp only [tav]
 cases hb : isR r sl t
 ·simp -implicitDefEqProofs (maxSteps := 2000000) (disch := omega) only [go_sem, simprocAttr, hinv hr hsl ht hs, hb]
  exact ⟨by simp [showsL, hk, hb], .inl rfl, .inl rfl⟩
 ·simp -implicitDefEqProofs (maxSteps := 2000000) (disch := omega) only [go_sem, simprocAttr, hinv hr hsl ht hs, hb]
  exact ⟨by simp [showsL, hk, hb], .inl rfl, .inl rfl⟩
theorem shows_p (r : Rd) (sl : Int) (t : List Int) (hr : okR r) (hsl : 0 ≤ sl ∧ sl ≤ 3) (ht : t.length = 3) (hs : small t) : PureV S 208 [rdv r sl, tav t] (tIs.av (showsL r sl t)) := by
 have hk := hr.1
 rcases (by omega : r.kind = 1 ∨ r.kind = 2 ∨ r.kind = 3) with k | k | k
 ·obtain ⟨rk, a, b, s, x, y⟩ := r
  simp only at k
  subst k
  exact shows1_p a b s x y sl t hr hsl ht hs
 ·have := shows2_p (S := S) r sl t hr k ht hs
  simpa [rdv, k] using this
 ·have := shows3_p (S := S) r sl t hr hsl k ht hs
  simpa [rdv, k] using this
theorem showsL_len {r : Rd} {sl : Int} {t : List Int} : (showsL r sl t).length ≤ 30001 := by
 unfold showsL
 split
 ·refine Nat.le_trans outAt_len ?_
  have h1 : 0 ≤ cLo (tg t r.a * r.sec) sl := by unfold cLo mx; split <;> omega
  have h2 : cHi (tg t r.a * r.sec) sl ≤ 25000 := by unfold cHi mn; split <;> omega
  omega
 ·split <;> simp
end Go.Proofs
namespace Go.Proofs
open Go Go.Mu
end Go.Proofs
namespace Go.Proofs
open Go Go.Mu
variable {S : MC Tryz.prog}
def pushO (t : List Int) (m : List (Int × List (List Int))) (k : Int) : List (Int × List (List Int)) := mset m k ((mget m k).getD [] ++ [t])
def outS (r : Rd) (sl : Int) (m : List (Int × List (List Int))) (t : List Int) : List (Int × List (List Int)) := (showsL r sl t).foldl (pushO t) m
def outcomesL (r : Rd) (sl : Int) (l : List (List Int)) : List (Int × List (List Int)) := l.foldl (outS r sl) []
abbrev MT := List (Int × (Nat × List (List Int)))
def mapT (m : MT) : List (AV × AV) := m.map fun p => (AV.int .i64 p.1, AV.list (.own p.2.1) 3 (p.2.2.map tav))
def strip (m : MT) : List (Int × List (List Int)) := m.map fun p => (p.1, p.2.2)
theorem fIdx_strip {k : Int} : ∀ {m : MT} {i : Nat}, fIdx k (strip m) i = (fIdx k m i).map fun q => (q.1, q.2.2)
 | [], _ => rfl
 | (k', v) :: m, i => by
  simp only [strip, List.map_cons, fIdx]
  split
  ·rfl
  ·exact fIdx_strip (m := m)
theorem mget_strip {k : Int} {m : MT} : mget (strip m) k = (mget m k).map (·.2) := by
 unfold mget; rw [fIdx_strip]; cases fIdx k m 0 <;> rfl
theorem strip_mset {k : Int} {m : MT} {v : Nat × List (List Int)} : strip (mset m k v) = mset (strip m) k v.2 := by
 unfold mset; rw [fIdx_strip]
 cases fIdx k m 0 with
 | none => simp [strip]
 | some q => simp [strip, List.map_set]
theorem lookT_none {m : MT} {k : Int} {σ : List AObj} (h : mget m k = none) : lookR false (.list .full 0 []) σ (findA (.int .i64 k) (mapT m) 0) = some (.list .full 0 [], σ) := by
 have := lookR_map (f := fun v : Nat × List (List Int) => AV.list (.own v.1) 3 (v.2.map tav)) (m := m) (k := k) (ok := false) (z := .list .full 0 []) (σ := σ)
 unfold mapT; rw [this, h]; rfl
theorem lookT_some {m : MT} {k : Int} {σ : List AObj} {v : Nat × List (List Int)} (h : mget m k = some v) : lookR false (.list .full 0 []) σ (findA (.int .i64 k) (mapT m) 0) = some (.list (.own v.1) 3 (v.2.map tav), σ) := by
 have := lookR_map (f := fun v : Nat × List (List Int) => AV.list (.own v.1) 3 (v.2.map tav)) (m := m) (k := k) (ok := false) (z := .list .full 0 []) (σ := σ)
 unfold mapT; rw [this, h]; rfl
theorem updT {m : MT} {k : Int} {r id : Nat} {ts : List (List Int)} {xs : List AV} {σ : List AObj} (h : xs = ts.map tav) : updR r (mapT m) (.int .i64 k) (.list (.own id) 3 xs) σ (findA (.int .i64 k) (mapT m) 0) = some (.tup [], hset σ r (.map (mapT (mset m k (id, ts))))) := by
 subst h
 exact updR_map (f := fun v : Nat × List (List Int) => AV.list (.own v.1) 3 (v.2.map tav)) (v := (id, ts))
structure OutOK (B : Nat) (σ : List AObj) (m : MT) (τ : List AObj) : Prop where
 len : σ.length < τ.length
 old : ∀ k, k < σ.length → hget τ k = hget σ k
 map : hget τ σ.length = some (.map (mapT m))
 tl : ∀ p ∈ m, σ.length < p.2.1 ∧ hget τ p.2.1 = some (.tail p.2.2.length 3) ∧ p.2.2.length ≤ B
 nd : (m.map fun p => p.2.1).Nodup
theorem OutOK.lt {B : Nat} {σ : List AObj} {m : MT} {τ : List AObj} (h : OutOK B σ m τ) {p : Int × (Nat × List (List Int))} (hp : p ∈ m) : p.2.1 < τ.length := hget_lt (h.tl p hp).2.1
theorem OutOK.app {B : Nat} {σ : List AObj} {m : MT} {τ l : List AObj} (h : OutOK B σ m τ) : OutOK B σ m (τ ++ l) :=
 ⟨by have := h.len; simp; omega, fun k hk => by rw [hget_app (by have := h.len; omega)]; exact h.old k hk, by rw [hget_app h.len]; exact h.map, fun p hp => ⟨(h.tl p hp).1, by rw [hget_app (h.lt hp)]; exact (h.tl p hp).2.1, (h.tl p hp).2.2⟩, h.nd⟩
theorem OutOK.mono {B C : Nat} {σ : List AObj} {m : MT} {τ : List AObj} (h : OutOK B σ m τ) (hc : B ≤ C) : OutOK C σ m τ := ⟨h.len, h.old, h.map, fun p hp => ⟨(h.tl p hp).1, (h.tl p hp).2.1, Nat.le_trans (h.tl p hp).2.2 hc⟩, h.nd⟩
theorem OutOK.new {B : Nat} (hB : 1 ≤ B) {σ : List AObj} {m : MT} {τ : List AObj} (h : OutOK B σ m τ) {k : Int} {t : List Int} (hg : mget m k = none) : OutOK B σ (mset m k (τ.length, [t])) (hset (τ ++ [.tail 1 3]) σ.length (.map (mapT (mset m k (τ.length, [t]))))) := by
 have hf : fIdx k m 0 = none := by unfold mget at hg; cases hx : fIdx k m 0 with | none => rfl | some q => rw [hx] at hg; cases hg
 have hm : mset m k (τ.length, [t]) = m ++ [(k, (τ.length, [t]))] := by unfold mset; rw [hf]
 have hl := h.len
 refine ⟨by rw [length_hset]; simp; omega, fun q hq => by rw [hget_ne (by omega), hget_app (by omega)]; exact h.old q hq, hget_set (by rw [hget_app hl]; exact h.map) _, fun p hp => ?_, ?_⟩
 ·rw [hm] at hp
  rcases List.mem_append.1 hp with hp | hp
  ·have h2 := h.tl p hp
   have h3 := h.lt hp
   exact ⟨h2.1, by rw [hget_ne (by omega), hget_app h3]; exact h2.2.1, h2.2.2⟩
  ·simp at hp; subst hp
   exact ⟨hl, by rw [hget_ne (by simp only; omega)]; exact hget_at0, hB⟩
 ·rw [hm, List.map_append, List.nodup_append]
  refine ⟨h.nd, by simp, fun a ha b hb => ?_⟩
  simp at hb; subst hb
  obtain ⟨p, hp, rfl⟩ := List.mem_map.1 ha
  have := h.lt hp
  omega
theorem OutOK.more {B : Nat} {σ : List AObj} {m : MT} {τ : List AObj} (h : OutOK B σ m τ) {k : Int} {t : List Int} {id : Nat} {ts : List (List Int)} (hg : mget m k = some (id, ts)) :
  OutOK (B + 1) σ (mset m k (id, ts ++ [t])) (hset (hset τ id (.tail (ts.length + 1) 3)) σ.length (.map (mapT (mset m k (id, ts ++ [t]))))) := by
 obtain ⟨j, hf⟩ : ∃ j, fIdx k m 0 = some (j, (id, ts)) := by
  unfold mget at hg
  cases hx : fIdx k m 0 with
  | none => rw [hx] at hg; cases hg
  | some q => obtain ⟨j, v⟩ := q; rw [hx] at hg; simp at hg; subst hg; exact ⟨j, rfl⟩
 have hm : mset m k (id, ts ++ [t]) = m.set j (k, (id, ts ++ [t])) := by unfold mset; rw [hf]
 have hj := (fIdx_get hf).2
 simp only [Nat.sub_zero] at hj
 have hl := h.len
 have hmem : (k, (id, ts)) ∈ m := List.mem_of_getElem? hj
 obtain ⟨i1, i2, i3⟩ := h.tl _ hmem
 simp only at i1 i2 i3
 obtain ⟨hjl, hje⟩ := List.getElem?_eq_some_iff.1 hj
 refine ⟨by simp only [length_hset]; exact hl, fun q hq => by rw [hget_ne (by omega), hget_ne (by omega)]; exact h.old q hq, hget_set (by rw [hget_ne (by omega)]; exact h.map) _, fun p hp => ?_, ?_⟩
 ·rw [hm] at hp
  obtain ⟨i, hi, rfl⟩ := List.mem_iff_getElem.1 hp
  rw [List.getElem_set]
  by_cases e : j = i
  ·rw [if_pos e]
   exact ⟨i1, by simp only; rw [hget_ne (by omega)]; simpa using hget_set i2 _, by simp; omega⟩
  ·rw [if_neg e]
   have hi' : i < m.length := by simpa using hi
   have h2 := h.tl _ (List.getElem_mem hi')
   have hne : m[i].2.1 ≠ id := fun e2 => by
    have := h.nd
    rw [List.nodup_iff_pairwise_ne, List.pairwise_iff_getElem] at this
    rcases Nat.lt_or_gt_of_ne e with h4 | h4
    ·have := this j i (by simpa using hjl) (by simpa using hi') h4
     simp [hje] at this; exact this e2.symm
    ·have := this i j (by simpa using hi') (by simpa using hjl) h4
     simp [hje] at this; exact this e2
   exact ⟨h2.1, by rw [hget_ne (by omega), hget_ne (fun e2 => hne e2.symm)]; exact h2.2.1, by omega⟩
 ·have : (mset m k (id, ts ++ [t])).map (fun p => p.2.1) = m.map fun p => p.2.1 := by
   rw [hm, List.map_set]
   apply List.ext_getElem?
   intro i
   rw [List.getElem?_set]
   by_cases e : j = i
   ·subst e; simp [hjl, hje]
   ·simp [e]
  rw [this]; exact h.nd
set_option maxHeartbeats 1000000 in
theorem outcomes_c (r : Rd) (sl : Int) (l : List (List Int)) (hr : okR r) (hsl : 0 ≤ sl ∧ sl ≤ 3) (hl : l.length ≤ 10000) (h3 : ∀ t ∈ l, t.length = 3 ∧ small t) (σ : List AObj) (Q : AV → List AObj → Prop) (h : ∀ τ m, OutOK 300010000 σ m τ → strip m = outcomesL r sl l → Q (.map σ.length) τ) :
  ACalls S 170 [tavs l, rdv r sl] σ Q := by
 refine AcE (Tryz.envOK (S := S) 36 (fun _ => ([], [])) fs5 fs5_ok) Tryz.kp170 Tryz.func170 rfl ?_
 simp only [tavs]
 simp -implicitDefEqProofs (maxSteps := 2000000) (disch := omega) only [go_sem, simprocAttr, tav]
 refine ARun.forJ (Tryz.envOK (S := S) 36 (fun _ => ([], [])) fs5 fs5_ok) l.length (fun i τ => ∃ m, OutOK (i * 30001) σ m τ ∧ strip m = (l.take i).foldl (outS r sl) []) (fun i => [(13, .int .i64 i)]) (by kernel_rfl) (by simp [upd, ins, subF, lookA]) ⟨[], ⟨by simp, fun k hk => hget_app hk, hget_at0, by simp, by simp⟩, rfl⟩ ?_ ?_
 ·rintro i τ hi ⟨m, hO, hm⟩ ih
  have hmi : l[i] ∈ l := List.getElem_mem hi
  obtain ⟨h3i, hsi⟩ := h3 _ hmi
  rw [foldl_take _ _ _ _ hi, ← hm] at ih
  simp -implicitDefEqProofs (maxSteps := 2000000) (disch := omega) only [go_sem, simprocAttr, tav]
  refine shows_p r sl l[i] hr hsl h3i hsi _ _ ?_
  simp only [tIs]
  have hsl2 := showsL_len (r := r) (sl := sl) (t := l[i])
  simp -implicitDefEqProofs (maxSteps := 2000000) (disch := omega) only [go_sem, simprocAttr, tav]
  refine ARun.forJ (Tryz.envOK (S := S) 36 (fun _ => ([], [])) fs5 fs5_ok) (showsL r sl l[i]).length (fun i2 τ2 => ∃ m2, OutOK (i * 30001 + i2) σ m2 τ2 ∧ strip m2 = ((showsL r sl l[i]).take i2).foldl (pushO l[i]) (strip m) ∧ hget τ2 τ.length = some (.cells (l[i].map (AV.int .i64)))) (fun i2 => [(21, .int .i64 i2)]) (by kernel_rfl) (by simp [upd, ins, subF, lookA]) ⟨m, hO.app, rfl, hget_at0⟩ ?_ ?_
  ·rintro i2 τ2 hi2 ⟨m2, hO2, hm2, hb⟩ ih2
   rw [foldl_take _ _ _ _ hi2, ← hm2] at ih2
   generalize hkk : (showsL r sl l[i])[i2] = kk at ih2
   have hmap := hO2.map
   cases hg : mget m2 kk with
   | none =>
    have hmap' : ∀ l, hget (τ2 ++ l) σ.length = some (.map (mapT m2)) := fun l => by rw [hget_app hO2.len]; exact hmap
    have hu : ∀ r id σ, updR r (mapT m2) (.int .i64 kk) (.list (.own id) 3 [.agg (l[i].map (AV.int .i64))]) σ (findA (.int .i64 kk) (mapT m2) 0) = some (.tup [], hset σ r (.map (mapT (mset m2 kk (id, [l[i]]))))) := fun _ _ _ => updT rfl
    simp -implicitDefEqProofs (maxSteps := 2000000) (disch := omega) only [go_sem, simprocAttr, tav, hkk, hmap, hmap', hb, lookT_none hg, hu]
    have hbl := hget_lt hb
    have hτ : σ.length < τ.length := hO.len
    refine (ih2 _ ⟨_, (hO2.mono (by omega)).new (by omega) hg, ?_, ?_⟩).castS rfl (by simp [upd, ins, subF, lookA])
    ·rw [strip_mset, pushO, mget_strip, hg]; rfl
    ·rw [hget_ne (by omega), hget_app hbl]; exact hb
   | some v =>
    obtain ⟨id, ts⟩ := v
    obtain ⟨t1, t2, t3⟩ := hO2.tl _ (mget_mem hg)
    simp only at t1 t2 t3
    have hu : ∀ r id σ, updR r (mapT m2) (.int .i64 kk) (.list (.own id) 3 (ts.map tav ++ [.agg (l[i].map (AV.int .i64))])) σ (findA (.int .i64 kk) (mapT m2) 0) = some (.tup [], hset σ r (.map (mapT (mset m2 kk (id, ts ++ [l[i]]))))) := fun _ _ _ => updT (by simp [tav])
    have hmap' : ∀ o, hget (hset τ2 id o) σ.length = some (.map (mapT m2)) := fun o => by rw [hget_ne (by omega)]; exact hmap
    simp -implicitDefEqProofs (maxSteps := 2000000) (disch := omega) only [go_sem, simprocAttr, tav, hkk, hmap, hmap', hb, lookT_some hg, hu, t2]
    have hbl := hget_lt hb
    have hτ : σ.length < τ.length := hO.len
    have hne : id ≠ τ.length := fun e => by rw [e] at t2; rw [hb] at t2; cases t2
    refine (ih2 _ ⟨_, (hO2.more hg).mono (by omega), ?_, ?_⟩).castS rfl (by simp [upd, ins, subF, lookA])
    ·rw [strip_mset, pushO, mget_strip, hg]; rfl
    ·rw [hget_ne (by omega), hget_ne hne]; exact hb
  ·rintro τ2 ⟨m2, hO2, hm2, hb⟩
   rw [List.take_length] at hm2
   simp -implicitDefEqProofs (maxSteps := 2000000) (disch := omega) only [go_sem, simprocAttr, tav]
   refine (ih τ2 ⟨m2, hO2.mono (by rw [Nat.succ_mul]; omega), hm2⟩).castS rfl (by simp [upd, ins, subF, lookA])
 ·rintro τ ⟨m, hO, hm⟩
  rw [List.take_length] at hm
  simp -implicitDefEqProofs (maxSteps := 2000000) (disch := omega) only [go_sem, simprocAttr, tav]
  exact h τ m (hO.mono (by omega)) hm
end Go.Proofs
namespace Go.Proofs
open Go Go.Mu
theorem outcomes_sub {r : Rd} {sl : Int} {l : List (List Int)} : ∀ p ∈ outcomesL r sl l, p.2 ≠ [] ∧ ∀ t ∈ p.2, t ∈ l := by
 have key : ∀ (l0 : List (List Int)) (m : List (Int × List (List Int))), (∀ p ∈ m, p.2 ≠ [] ∧ ∀ t ∈ p.2, t ∈ l) → (∀ t ∈ l0, t ∈ l) → ∀ p ∈ l0.foldl (outS r sl) m, p.2 ≠ [] ∧ ∀ t ∈ p.2, t ∈ l := by
  intro l0
  induction l0 with
  | nil => intro m h _; exact h
  | cons t l0 ih =>
   intro m h ht
   refine ih (outS r sl m t) ?_ (fun u hu => ht u (by simp [hu]))
   have htl := ht t (by simp)
   unfold outS
   generalize showsL r sl t = ks
   clear ih
   induction ks generalizing m with
   | nil => exact h
   | cons k ks ih =>
    refine ih (m := pushO t m k) fun p hp => ?_
    rcases mset_mem hp with rfl | hp
    ·refine ⟨by simp, fun u hu => ?_⟩
     rcases List.mem_append.1 hu with hu | hu
     ·cases hg : mget m k with
      | none => rw [hg] at hu; simp at hu
      | some v => rw [hg] at hu; exact (h _ (mget_mem hg)).2 u hu
     ·simp at hu; subst hu; exact htl
    ·exact h p hp
 exact key l [] (by simp) (fun t ht => ht)
def gateS (sl : Int) (l : List (List Int)) (x width s : Int) : Bool := (outcomesL ⟨1, x, 0, s, ⟨0, 0⟩⟩ sl l).all fun p => decide ((spanL (fun t => tg t x) p.2).hi - (spanL (fun t => tg t x) p.2).lo ≤ width)
def gateW (m x width : Int) : Int := if 0 ≤ x ∧ x ≤ m - 1 then (if width < 0 then 1 else 0) else 3
def gateL (e : Ear) (x width : Int) : Int × Int :=
 if (askL e (gateW e.tones.length x width)).2 = 0 then
  (match (List.range 20).find? (fun k : Nat => gateS e.slack (truthsL e) x width (k + 1)) with
  | some k => ((k : Int) + 1, 0)
  | none => (0, 11))
 else (0, (askL e (gateW e.tones.length x width)).2)
theorem find_range {f : Nat → Bool} {i n : Nat} (hi : i < n) (h : ∀ k, k < i → f k = false) (hf : f i = true) : (List.range n).find? f = some i := by
 rw [List.find?_range_eq_some]
 exact ⟨hf, by simpa using hi, fun j hj => by simp [h j hj]⟩
theorem find_none {f : Nat → Bool} {n : Nat} (h : ∀ k, k < n → f k = false) : (List.range n).find? f = none := by
 rw [List.find?_eq_none]
 intro x hx
 simp at hx
 simp [h x hx]
theorem spanL_bound {l : List (List Int)} (h : ∀ t ∈ l, small t) (hl : l ≠ []) (x : Int) : 0 ≤ (spanL (fun t => tg t x) l).lo ∧ (spanL (fun t => tg t x) l).lo ≤ 1000000 ∧ 0 ≤ (spanL (fun t => tg t x) l).hi ∧ (spanL (fun t => tg t x) l).hi ≤ 1000000 := by
 have key : ∀ (l : List (List Int)) (y : Rng), (∀ t ∈ l, small t) → (0 ≤ y.lo ∧ y.lo ≤ 1000000 ∧ 0 ≤ y.hi ∧ y.hi ≤ 1000000) → (0 ≤ (l.foldl (spanS fun t => tg t x) y).lo ∧ (l.foldl (spanS fun t => tg t x) y).lo ≤ 1000000 ∧ 0 ≤ (l.foldl (spanS fun t => tg t x) y).hi ∧ (l.foldl (spanS fun t => tg t x) y).hi ≤ 1000000) := by
  intro l
  induction l with
  | nil => intro y _ hy; exact hy
  | cons t l ih =>
   intro y ht hy
   refine ih _ (fun u hu => ht u (by simp [hu])) ?_
   have := small_tg (ht t (by simp)) x
   simp only [spanS, mn, mx]
   refine ⟨?_, ?_, ?_, ?_⟩ <;> split <;> omega
 obtain ⟨t, l, rfl⟩ : ∃ t l', l = t :: l' := by cases l with | nil => exact absurd rfl hl | cons a b => exact ⟨a, b, rfl⟩
 have := small_tg (h t (by simp)) x
 exact key _ _ h (by simp only [List.headD_cons]; omega)
theorem ARun.loopJ {E : Env} (hE : EnvOK E) {ro : Option Nat} {c : Code} {k : List Item} {kp : Nat → Bool} {tm sl : List (Nat × AV)} {σ : List AObj} {Q : Post} {α : Type} (m : α → Nat) (J : α → List AObj → Prop) (lv : α → List (Nat × AV)) (x0 : α)
  (hO : todoOK E (.code c :: .inLoop c :: k) = true) (h0 : subF (upd sl (lv x0)) sl) (hJ : J x0 σ)
  (hs : ∀ x τ, J x τ → (∀ y τ', m y < m x → J y τ' → ARun E ro (.inLoop c :: k) ⟨kp, [], upd sl (lv y)⟩ τ' Q) → ev E ro 100000 (.code c :: .inLoop c :: k) ⟨kp, [], upd sl (lv x)⟩ τ Q) : ARun E ro (.code (.loop c) :: k) ⟨kp, tm, sl⟩ σ Q := by
 have key : ∀ n x τ, m x = n → J x τ → ARun E ro (.code c :: .inLoop c :: k) ⟨kp, [], upd sl (lv x)⟩ τ Q := by
  intro n
  induction n using Nat.strongRecOn with
  | _ n ih =>
   intro x τ hm hj
   exact ev_sound hE hO (hs x τ hj fun y τ' hlt hy => .inLoop (ih (m y) (by omega) y τ' rfl hy))
 exact .loop (ARun.sub (key _ x0 σ rfl hJ) h0)
theorem nextA_intro {X : AV → List AObj → Prop} {τ : List AObj} {r q c : Nat} {seen : List Nat} {es : List (AV × AV)} (hg : hget τ r = some (.iter (some q) c seen)) (hq : hget τ q = some (.map es)) (hc : c = es.length)
  (h1 : ∀ i k v, es[i]? = some (k, v) → i ∉ seen → X (.tup [.bool true, k, v]) (hset τ r (.iter (some q) c (seen ++ [i])))) (h2 : (∀ i, i < es.length → i ∈ seen) → X (.tup [.bool false]) τ) : nextA X τ (some (.ptr r 0)) := by
 unfold nextA
 simp only [hg, hq]
 exact ⟨hc, h1, h2⟩
theorem nodup_lt : ∀ {n : Nat} {l : List Nat}, l.Nodup → (∀ i ∈ l, i < n) → l.length ≤ n
 | 0, l, _, hl => by
  cases l with
  | nil => simp
  | cons a l => have := hl a (by simp); omega
 | n + 1, l, h, hl => by
  by_cases hm : n ∈ l
  ·have h1 : (l.erase n).length ≤ n := nodup_lt (h.erase n) fun i hi => by
    have h2 := hl i (List.mem_of_mem_erase hi)
    have h3 : i ≠ n := (List.Nodup.mem_erase_iff h).1 hi |>.1
    omega
   rw [List.length_erase_of_mem hm] at h1
   omega
  ·have := nodup_lt h fun i hi => by
    have h2 := hl i hi
    have h3 : i ≠ n := fun e => hm (e ▸ hi)
    show i < n
    omega
   omega
end Go.Proofs
