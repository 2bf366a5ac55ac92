/- Texts of a proof: lemmas. -/
import Derived.Test.YtgbdndlmdklefaaGreatK29
import Derived.Test.YtgbdndlmdklefaaGreatK25
import Derived.Test.YtgbdndlmdklefaaGreatK24
import Derived.Laws.Bits64
set_option linter.unusedSimpArgs false
set_option linter.unusedVariables false
set_option maxRecDepth 100000
set_option maxHeartbeats 40000000
namespace Go.Proofs
open Go Go.Mu
variable {S : MC Tryz.prog}
theorem ClV.ap0 {P : Program} {S : MC P} {g : FuncId} {p q : List AV} {σ : List AObj} {x : AV} {v : AV} (h : ClV S g p q σ [x] v) {Q : AV → List AObj → Prop} (hq : Q v σ) : ACalls S g (p ++ x :: q) σ Q := by
 have := h σ (Nat.le_refl _) (fun _ _ => rfl) Q hq
 simpa using this
theorem indexI_c {g : FuncId} {p q : List AV} {σ : List AObj} (f : Int → Bool) (l : List Int) (tk : Tok) (hl : l.length ≤ 4294967296) (hn : ∀ d ∈ l, ClV S g p q σ [.int .i64 d] (.bool (f d))) (Q : AV → List AObj → Prop) (h : ∀ n : Int, decide (0 ≤ n) = l.any f → Q (.int .i64 n) σ) :
  ACalls S 201 [.list tk 1 (l.map (.int .i64)), .fn (.func g) p q] σ Q := by
 refine AcE (Tryz.envOK (S := S) 19 (fun _ => ([], [])) fs0 fs0_ok) Tryz.kp201 Tryz.func201 rfl ?_
 simp -implicitDefEqProofs (maxSteps:=9^9) (disch:=omega) only [go_sem, simprocAttr]
 refine ARun.forS (Tryz.envOK (S := S) 19 (fun _ => ([], [])) fs0 fs0_ok) l.length (fun i => (l.take i).any f = false) (fun i => [(8, .int .i64 i)]) (fun _ _ => σ) [] (by kernel_rfl) rfl (by simp [upd, ins, subF, lookA]) (by simp) ?_ ?_
 ·intro i j hi hp ih
  have hmi : l[i] ∈ l := List.getElem_mem hi
  simp -implicitDefEqProofs (maxSteps:=9^9) (disch:=omega) only [go_sem, simprocAttr]
  refine (hn _ hmi).ap0 ?_
  cases hb : f l[i]
  ·simp -implicitDefEqProofs (maxSteps:=9^9) (disch:=omega) only [go_sem, simprocAttr]
   refine (ih ?_ []).castS rfl (by simp [upd, ins, subF, lookA])
   rw [List.take_succ_eq_append_getElem hi, List.any_append, hp]; simp [hb]
  ·simp -implicitDefEqProofs (maxSteps:=9^9) (disch:=omega) only [go_sem, simprocAttr]
   refine h _ ?_
   have : l.any f = true := List.any_eq_true.2 ⟨_, hmi, hb⟩
   rw [this]; simp
 ·intro j hp
  rw [List.take_length] at hp
  simp -implicitDefEqProofs (maxSteps:=9^9) (disch:=omega) only [go_sem, simprocAttr]
  refine h _ ?_
  rw [hp]; simp
theorem containsI_c {g : FuncId} {p q : List AV} {σ : List AObj} (f : Int → Bool) (l : List Int) (tk : Tok) (hl : l.length ≤ 4294967296) (hn : ∀ d ∈ l, ClV S g p q σ [.int .i64 d] (.bool (f d))) (Q : AV → List AObj → Prop) (h : Q (.bool (l.any f)) σ) :
  ACalls S 155 [.list tk 1 (l.map (.int .i64)), .fn (.func g) p q] σ Q := by
 refine AcE (Tryz.envOK (S := S) 9 (fun _ => ([], [])) fs0 fs0_ok) Tryz.kp155 Tryz.func155 rfl ?_
 simp -implicitDefEqProofs (maxSteps:=9^9) (disch:=omega) only [go_sem, simprocAttr]
 refine indexI_c f l tk hl hn _ fun n hn => ?_
 rw [← hn] at h
 by_cases h0 : 0 ≤ n
 ·have e : decide (0 ≤ n) = true := by simpa using h0
  rw [e] at h
  simp -implicitDefEqProofs (maxSteps:=9^9) (disch:=omega) only [go_sem, simprocAttr]
  exact h
 ·have e : decide (0 ≤ n) = false := by simpa using h0
  rw [e] at h
  simp -implicitDefEqProofs (maxSteps:=9^9) (disch:=omega) only [go_sem, simprocAttr]
  exact h
def Ros.wcells (r : Ros) (l : List (List Int)) : List AV := [.int .i64 r.hands, .int .i64 r.skill, .int .i64 r.mn, .int .i64 r.mx, .list .no 2 (r.sets.map Sg.av), .list .no 6 (r.ents.map Tn.av), .list .no 1 (l.map ints1)]
theorem by1_v {σ : List AObj} {re rr : Nat} {r : Ros} {ds : List (List Int)} {e d : Int} (hs : 0 ≤ r.skill ∧ r.skill ≤ 9) (he : -300 ≤ e ∧ e ≤ 300) (hd : -2000000 ≤ d ∧ d ≤ 2000000) (h1 : hget σ re = some (.cells [.int .i64 e])) (h2 : hget σ rr = some (.cells (r.wcells ds))) :
  ClV S 156 [] [.ptr re 0, .ptr rr 0] σ [.int .i64 d] (.bool (decide (-r.skill ≤ d - e ∧ d - e ≤ r.skill))) := by
 intro σ' hl' hs' Q hq
 have h1' := (hs' _ (hget_lt h1)).trans h1
 have h2' := (hs' _ (hget_lt h2)).trans h2
 simp only [List.nil_append, List.cons_append]
 refine ACalls.clean_ev (E := Tryz.E (S := S) 16 (fun _ => ([], [])) fs403) (Tryz.envOK (S := S) 16 (fun _ => ([], [])) fs403 fs403_ok) (.bool _) (hq) Tryz.kp156 Tryz.func156 rfl (by kernel_rfl) (by simp [Tryz.E]) (Callable.of Tryz.func156 (by kernel_rfl) (by kernel_rfl)) (by kernel_rfl) ?_
 have hw : IntKind.i64.wrap (d - e) = d - e := wrap64 (by omega) (by omega)
 have hw2 : IntKind.i64.wrap (-r.skill) = -r.skill := wrap64 (by omega) (by omega)
 simp -implicitDefEqProofs (maxSteps:=9^9) (disch:=omega) only [go_sem, simprocAttr, h1', h2', Ros.wcells, hw, hw2]
 exact ⟨fun a b => (decide_eq_true (by omega)).symm, fun h => (decide_eq_false (by omega)).symm⟩
theorem by_p (r : Ros) (hr : r.Head) (ds : List (List Int)) (hds : ∀ l ∈ ds, (∀ y ∈ l, -2000000 ≤ y ∧ y ≤ 2000000) ∧ l.length ≤ 1000000) (hdl : ds.length = r.ents.length) (hde : ∀ t ∈ r.ents, 0 ≤ t.day ∧ t.day ≤ 60) (x : List Int) (hx : OkX r x) (i : Nat) (hi : i < r.ents.length) (h : Int) (hh : 0 ≤ h ∧ h < 4) :
  PureV S 111 [r.wav ds, rtv x, .int .i64 i, .int .i64 h] (.bool (byB r ds x i h)) := by
 refine PvE (Tryz.envOK (S := S) 42 Tryz.ord111 fs403 fs403_ok) (.bool) Tryz.kp111 Tryz.func111 rfl ?_
 intro σ
 have hid : i < ds.length := by omega
 have hgd : r.ents.getD i default = r.ents[i] := by simp [List.getD, List.getElem?_eq_getElem hi]
 have hgs : ds.getD i [] = ds[i] := by simp [List.getD, List.getElem?_eq_getElem hid]
 have hday := hde _ (List.getElem_mem hi)
 have hdi := hds _ (List.getElem_mem hid)
 have hoff := @offX_in r x hx h r.ents[i].day hday
 have hel := hr.entl
 have hxl := hx.len
 have hby : byB r ds x i h = if 0 ≤ r.ents[i].hand ∧ r.ents[i].hand ≠ h then false else ds[i].any fun d => decide (-r.skill ≤ d - offX r x h r.ents[i].day ∧ d - offX r x h r.ents[i].day ≤ r.skill) := by
  unfold byB; rw [hgd, hgs]
 rw [hby]
 clear hgd hgs hby hds hde
 have hav : r.wav ds = .agg (r.wcells ds) := rfl
 simp only [hav, rtv]
 simp -implicitDefEqProofs (maxSteps:=9^9) (disch:=omega) only [go_sem, simprocAttr, Ros.wcells, Tn.av, Tn.cells]
 have hw : IntKind.i64.wrap (tg x h * (r.ents[i].day - fromL r.sets h r.ents[i].day)) = offX r x h r.ents[i].day := wrap64 (by unfold offX at hoff; omega) (by unfold offX at hoff; omega)
 refine ⟨fun q1 => ⟨fun q2 => ?_, fun q2 => ?_⟩, fun q1 => ?_⟩
 ·rw [if_pos ⟨q1, q2⟩]
 ·rw [if_neg (fun c => c.2 q2)]
  refine since_p r ds hr h _ hday _ _ ?_
  simp -implicitDefEqProofs (maxSteps:=9^9) (disch:=omega) only [go_sem, simprocAttr, Ros.wcells, Tn.av, Tn.cells, hw, ints1]
  refine containsI_c (fun d => decide (-r.skill ≤ d - offX r x h r.ents[i].day ∧ d - offX r x h r.ents[i].day ≤ r.skill)) ds[i] .no (by omega) (fun d hd => by1_v (r := r) (ds := ds) hr.skill hoff (hdi.1 d hd) hget_at (by simp [hget_at0, Ros.wcells])) _ ?_
  simp -implicitDefEqProofs (maxSteps:=9^9) (disch:=omega) only [go_sem, simprocAttr, Ros.wcells, Tn.av, Tn.cells, hw, ints1]
 ·rw [if_neg (fun c => q1 c.1)]
  refine since_p r ds hr h _ hday _ _ ?_
  simp -implicitDefEqProofs (maxSteps:=9^9) (disch:=omega) only [go_sem, simprocAttr, Ros.wcells, Tn.av, Tn.cells, hw, ints1]
  refine containsI_c (fun d => decide (-r.skill ≤ d - offX r x h r.ents[i].day ∧ d - offX r x h r.ents[i].day ≤ r.skill)) ds[i] .no (by omega) (fun d hd => by1_v (r := r) (ds := ds) hr.skill hoff (hdi.1 d hd) hget_at (by simp [hget_at0, Ros.wcells])) _ ?_
  simp -implicitDefEqProofs (maxSteps:=9^9) (disch:=omega) only [go_sem, simprocAttr, Ros.wcells, Tn.av, Tn.cells, hw, ints1]
structure Work (r : Ros) (ds : List (List Int)) : Prop extends r.Head where
 dev : ∀ l ∈ ds, (∀ y ∈ l, -2000000 ≤ y ∧ y ≤ 2000000) ∧ l.length ≤ 1000000
 len : ds.length = r.ents.length
 day : ∀ t ∈ r.ents, 0 ≤ t.day ∧ t.day ≤ 60
theorem Ros.Good.work {r : Ros} (h : r.Good) : Work r (entsL r) := ⟨h.toHead, h.devs, entsL_len r, fun t ht => (h.ent t ht).1⟩
theorem range_all {f : Nat → Bool} {i : Nat} : (List.range (i + 1)).all f = ((List.range i).all f && f i) := by rw [List.range_succ, List.all_append]; simp
theorem range_any {f : Nat → Bool} {i : Nat} : (List.range (i + 1)).any f = ((List.range i).any f || f i) := by rw [List.range_succ, List.any_append]; simp
theorem is_p (r : Ros) (ds : List (List Int)) (hr : Work r ds) (x : List Int) (hx : OkX r x) : PureV S 151 [r.wav ds, rtv x] (.bool (isB r ds x)) := by
 refine PvE (Tryz.envOK (S := S) 27 (fun _ => ([], [])) fs403 fs403_ok) (.bool) Tryz.kp151 Tryz.func151 rfl ?_
 intro σ
 have hav : r.wav ds = .agg (r.wcells ds) := rfl
 have hh := hr.hands
 have hel := hr.entl
 have hH : (r.hands.toNat : Int) = r.hands := by omega
 have hx4 : (4 ≤ x.length) = True := by rw [hx.len]; simp
 have htk : List.take 4 (x.map (AV.int .i64)) = x.map (AV.int .i64) := List.take_of_length_le (by rw [List.length_map, hx.len]; omega)
 simp only [hav, rtv]
 simp -implicitDefEqProofs (maxSteps:=9^9) (disch:=omega) only [go_sem, simprocAttr, Ros.wcells, hx4, htk]
 refine ARun.forS (Tryz.envOK (S := S) 27 (fun _ => ([], [])) fs403 fs403_ok) r.ents.length (fun i => ((List.range i).all fun i => (List.range r.hands.toNat).any fun h => byB r ds x i h) = true) (fun i => [(11, .int .i64 i)]) (fun _ j => σ ++ (.cells (r.wcells ds) :: .cells (x.map (.int .i64)) :: j)) [] (by kernel_rfl) (by simp [Ros.wcells]) (by simp [upd, ins, subF, lookA]) (by simp) ?_ ?_
 ·intro i j hi hp ih
  rw [range_all, hp, Bool.true_and] at ih
  simp -implicitDefEqProofs (maxSteps:=9^9) (disch:=omega) only [go_sem, simprocAttr, Ros.wcells, hx4, htk]
  refine ARun.forS (Tryz.envOK (S := S) 27 (fun _ => ([], [])) fs403 fs403_ok) r.hands.toNat (fun h => ((List.range h).any fun h => byB r ds x i h) = false) (fun h => [(17, .int .i64 h)]) (fun _ _ => σ ++ (.cells (r.wcells ds) :: .cells (x.map (.int .i64)) :: j)) [] (by kernel_rfl) (by simp [Ros.wcells]) (by simp [upd, ins, subF, lookA, hH]) (by simp) ?_ ?_
  ·intro h j2 hh2 hp2 ih2
   have hh4 : (h : Int) < 4 := by omega
   simp -implicitDefEqProofs (maxSteps:=9^9) (disch:=omega) only [go_sem, simprocAttr, Ros.wcells, hx4, htk]
   refine by_p r hr.toHead ds hr.dev hr.len hr.day x hx i hi h ⟨by omega, hh4⟩ _ _ ?_
   cases hb : byB r ds x i h
   ·simp -implicitDefEqProofs (maxSteps:=9^9) (disch:=omega) only [go_sem, simprocAttr, Ros.wcells, hx4, htk]
    refine (ih2 (by rw [range_any, hp2, hb]; rfl) []).castS rfl (by simp [upd, ins, subF, lookA])
   ·simp -implicitDefEqProofs (maxSteps:=9^9) (disch:=omega) only [go_sem, simprocAttr, Ros.wcells, hx4, htk]
    have : ((List.range r.hands.toNat).any fun h => byB r ds x i h) = true := List.any_eq_true.2 ⟨h, List.mem_range.2 hh2, hb⟩
    refine (ih this j).castS rfl (by simp [upd, ins, subF, lookA])
  ·intro j2 hp2
   simp -implicitDefEqProofs (maxSteps:=9^9) (disch:=omega) only [go_sem, simprocAttr, Ros.wcells, hx4, htk]
   have : isB r ds x = false := by
    unfold isB
    rw [List.all_eq_false]
    exact ⟨i, List.mem_range.2 hi, by rw [hp2]; simp⟩
   rw [this]
 ·intro j hp
  simp -implicitDefEqProofs (maxSteps:=9^9) (disch:=omega) only [go_sem, simprocAttr, Ros.wcells, hx4, htk]
  have : isB r ds x = true := hp
  rw [this]
end Go.Proofs
namespace Go.Proofs
open Go Go.Mu
end Go.Proofs
namespace Go.Proofs
open Go Go.Mu
variable {S : MC Tryz.prog}
end Go.Proofs
namespace Go.Proofs
open Go Go.Mu
theorem ARun.loopJ {E : Env} (hE : EnvOK E) {ro : Option Nat} {c : Code} {k : List Item} {kp : Nat → Bool} {tm sl : List (Nat × AV)} {σ : List AObj} {Q : Post} {α : Type} (m : α → Nat) (J : α → List AObj → Prop) (lv : α → List (Nat × AV)) (x0 : α)
  (hO : todoOK E (.code c :: .inLoop c :: k) = true) (h0 : subF (upd sl (lv x0)) sl) (hJ : J x0 σ)
  (hs : ∀ x τ, J x τ → (∀ y τ', m y < m x → J y τ' → ARun E ro (.inLoop c :: k) ⟨kp, [], upd sl (lv y)⟩ τ' Q) → ev E ro 100000 (.code c :: .inLoop c :: k) ⟨kp, [], upd sl (lv x)⟩ τ Q) : ARun E ro (.code (.loop c) :: k) ⟨kp, tm, sl⟩ σ Q := by
 have key : ∀ n x τ, m x = n → J x τ → ARun E ro (.code c :: .inLoop c :: k) ⟨kp, [], upd sl (lv x)⟩ τ Q := by
  intro n
  induction n using Nat.strongRecOn with
  | _ n ih =>
   intro x τ hm hj
   exact ev_sound hE hO (hs x τ hj fun y τ' hlt hy => .inLoop (ih (m y) (by omega) y τ' rfl hy))
 exact .loop (ARun.sub (key _ x0 σ rfl hJ) h0)
theorem nextA_intro {X : AV → List AObj → Prop} {τ : List AObj} {r q c : Nat} {seen : List Nat} {es : List (AV × AV)} (hg : hget τ r = some (.iter (some q) c seen)) (hq : hget τ q = some (.map es)) (hc : c = es.length)
  (h1 : ∀ i k v, es[i]? = some (k, v) → i ∉ seen → X (.tup [.bool true, k, v]) (hset τ r (.iter (some q) c (seen ++ [i])))) (h2 : (∀ i, i < es.length → i ∈ seen) → X (.tup [.bool false]) τ) : nextA X τ (some (.ptr r 0)) := by
 unfold nextA
 simp only [hg, hq]
 exact ⟨hc, h1, h2⟩
end Go.Proofs
namespace Go.Proofs
open Go Go.Mu
variable {S : MC Tryz.prog}
end Go.Proofs
namespace Go.Proofs
open Go Go.Mu
end Go.Proofs
namespace Go.Proofs
open Go Go.Mu
variable {S : MC Tryz.prog}
theorem newPot_c (l : List Int) (tk : Tok) (hl : l.length ≤ 4294967296) (σ : List AObj) (Q : AV → List AObj → Prop) (h : ∀ s junk, Q (.ptr σ.length 0) (σ ++ (.cells [.int .u64 s] :: junk))) : ACalls S 19 [.list tk 1 (l.map (.int .i64))] σ Q := by
 refine AcE (Tryz.envOK (S := S) 41 Tryz.ord19 fs0 fs0_ok) Tryz.kp19 Tryz.func19 rfl ?_
 simp -implicitDefEqProofs (maxSteps:=9^9) (disch:=omega) only [go_sem, simprocAttr]
 refine ARun.forJ (Tryz.envOK (S := S) 41 Tryz.ord19 fs0 fs0_ok) l.length (fun i τ => ∃ s j, τ = σ ++ (.cells [.int .u64 s] :: j)) (fun i => [(4, .int .i64 i)]) (by kernel_rfl) (by simp [upd, ins, subF, lookA]) ⟨_, [], rfl⟩ ?_ ?_
 ·rintro i τ hi ⟨s, j, rfl⟩ ih
  simp -implicitDefEqProofs (maxSteps:=9^9) (disch:=omega) only [go_sem, simprocAttr]
  exact (ih _ ⟨_, _, rfl⟩).castS rfl (by simp [upd, ins, subF, lookA])
 ·rintro τ ⟨s, j, rfl⟩
  simp -implicitDefEqProofs (maxSteps:=9^9) (disch:=omega) only [go_sem, simprocAttr]
  exact h _ _
def PotAt (σ : List AObj) (r : Nat) : Prop := ∃ s, hget σ r = some (.cells [.int .u64 s])
def pw (σ : List AObj) (r : Nat) (s : Int) : List AObj := hset σ r (.cells [.int .u64 s])
theorem pw_pw {σ : List AObj} {r : Nat} {s t : Int} : pw (pw σ r s) r t = pw σ r t := hset_hset
theorem PotAt.pw {σ : List AObj} {r : Nat} (h : PotAt σ r) (s : Int) : PotAt (pw σ r s) r := by obtain ⟨u, h⟩ := h; exact ⟨s, hget_set h _⟩
theorem pw_self {σ : List AObj} {r : Nat} (h : PotAt σ r) : ∃ s, pw σ r s = σ := by obtain ⟨s, h⟩ := h; exact ⟨s, hset_same h⟩
theorem step_c (r : Nat) (σ : List AObj) (hp : PotAt σ r) (Q : AV → List AObj → Prop) (h : ∀ s' x, 0 ≤ x → x < 18446744073709551616 → Q (.int .u64 x) (pw σ r s')) : ACalls S 102 [.ptr r 0] σ Q := by
 obtain ⟨s, hg⟩ := hp
 refine AcE (Tryz.envOK (S := S) 31 (fun _ => ([], [])) fs0 fs0_ok) Tryz.kp102 Tryz.func102 rfl ?_
 have hg2 := fun o => hget_set hg o
 simp -implicitDefEqProofs (maxSteps:=9^9) (disch:=omega) only [go_sem, simprocAttr, hg, hg2]
 exact h _ _ (by rw [IntKind.wrap_u64]; omega) (by rw [IntKind.wrap_u64]; omega)
theorem upto_c (r : Nat) (most : Int) (hm : most < 9223372036854775807) (σ : List AObj) (hp : PotAt σ r) (Q : AV → List AObj → Prop) (h : ∀ s' x, 0 ≤ x → x ≤ max 0 most → Q (.int .i64 x) (pw σ r s')) : ACalls S 38 [.ptr r 0, .int .i64 most] σ Q := by
 refine AcE (Tryz.envOK (S := S) 15 (fun _ => ([], [])) fs0 fs0_ok) Tryz.kp38 Tryz.func38 rfl ?_
 by_cases h1 : most < 1
 ·simp -implicitDefEqProofs (maxSteps:=9^9) (disch:=omega) only [go_sem, simprocAttr]
  obtain ⟨s, hs⟩ := pw_self hp
  have := h s 0 (by omega) (by omega)
  rwa [hs] at this
 ·have e2 : IntKind.u64.wrap (most + 1) = most + 1 := by rw [IntKind.wrap_u64]; omega
  simp -implicitDefEqProofs (maxSteps:=9^9) (disch:=omega) only [go_sem, simprocAttr, e2]
  refine step_c r σ hp _ fun s' x h2 h3 => ?_
  have hy : 0 ≤ x.fdiv (2 ^ min 11 64) := Int.fdiv_nonneg h2 (by decide)
  simp -implicitDefEqProofs (maxSteps:=9^9) (disch:=omega) only [go_sem, simprocAttr, e2]
  generalize x.fdiv (2 ^ min 11 64) = y at hy ⊢
  have h4 := Int.tmod_nonneg (most + 1) hy
  have h5 := Int.tmod_lt_of_pos y (b := most + 1) (by omega)
  have e4 : IntKind.i64.wrap (y.tmod (most + 1)) = y.tmod (most + 1) := by rw [IntKind.wrap_i64]; omega
  try rw [e4]
  exact h _ _ h4 (by omega)
theorem within_c (r : Nat) (lo hi : Int) (h1 : -1000000000000 ≤ lo ∧ lo ≤ 1000000000000) (h2 : -1000000000000 ≤ hi ∧ hi ≤ 1000000000000) (σ : List AObj) (hp : PotAt σ r) (Q : AV → List AObj → Prop) (h : ∀ s' x, lo ≤ x → x ≤ max lo hi → Q (.int .i64 x) (pw σ r s')) : ACalls S 61 [.ptr r 0, .int .i64 lo, .int .i64 hi] σ Q := by
 refine AcE (Tryz.envOK (S := S) 14 (fun _ => ([], [])) fs0 fs0_ok) Tryz.kp61 Tryz.func61 rfl ?_
 simp -implicitDefEqProofs (maxSteps:=9^9) (disch:=omega) only [go_sem, simprocAttr]
 refine upto_c r _ (by omega) σ hp _ fun s' x h3 h4 => ?_
 simp -implicitDefEqProofs (maxSteps:=9^9) (disch:=omega) only [go_sem, simprocAttr]
 exact h _ _ (by omega) (by omega)
theorem odds_c (r : Nat) (n m : Int) (h1 : -1000000000000 ≤ n ∧ n ≤ 1000000000000) (h2 : -1000000000000 ≤ m ∧ m ≤ 1000000000000) (σ : List AObj) (hp : PotAt σ r) (Q : AV → List AObj → Prop) (h : ∀ s' b, Q (.bool b) (pw σ r s')) : ACalls S 21 [.ptr r 0, .int .i64 n, .int .i64 m] σ Q := by
 refine AcE (Tryz.envOK (S := S) 13 (fun _ => ([], [])) fs0 fs0_ok) Tryz.kp21 Tryz.func21 rfl ?_
 simp -implicitDefEqProofs (maxSteps:=9^9) (disch:=omega) only [go_sem, simprocAttr]
 refine upto_c r _ (by omega) σ hp _ fun s' x h3 h4 => ?_
 simp -implicitDefEqProofs (maxSteps:=9^9) (disch:=omega) only [go_sem, simprocAttr]
 exact ⟨fun _ => h _ _, fun _ => h _ _⟩
theorem of_c (r : Nat) (l : List Int) (tk : Tok) (hl : 1 ≤ l.length ∧ l.length ≤ 1000) (σ : List AObj) (hp : PotAt σ r) (Q : AV → List AObj → Prop) (h : ∀ s' x, x ∈ l → Q (.int .i64 x) (pw σ r s')) : ACalls S 39 [.ptr r 0, .list tk 1 (l.map (.int .i64))] σ Q := by
 refine AcE (Tryz.envOK (S := S) 16 (fun _ => ([], [])) fs0 fs0_ok) Tryz.kp39 Tryz.func39 rfl ?_
 simp -implicitDefEqProofs (maxSteps:=9^9) (disch:=omega) only [go_sem, simprocAttr]
 refine upto_c r _ (by omega) σ hp _ fun s' x h3 h4 => ?_
 simp -implicitDefEqProofs (maxSteps:=9^9) (disch:=omega) only [go_sem, simprocAttr, idx_tg]
 refine h _ _ ?_
 have hx : x.toNat < l.length := by omega
 have : tg l x = l[x.toNat] := by simp [tg, List.getD, List.getElem?_eq_getElem hx]
 rw [this]; exact List.getElem_mem hx
theorem near_c (r : Nat) (n least most wide : Int) (h1 : 0 ≤ least ∧ least ≤ n ∧ n ≤ most ∧ most ≤ 1000000000) (h2 : 0 ≤ wide ∧ wide ≤ 1000000) (σ : List AObj) (hp : PotAt σ r) (Q : AV → List AObj → Prop) (h : ∀ s' a b, least ≤ a → a ≤ n → n ≤ b → b ≤ most → n - wide ≤ a → b ≤ n + wide → ∀ junk, Q (Rng.mk a b).av (pw σ r s' ++ junk)) : ACalls S 122 [.ptr r 0, .int .i64 n, .int .i64 least, .int .i64 most, .int .i64 wide] σ Q := by
 refine AcE (Tryz.envOK (S := S) 32 (fun _ => ([], [])) fs0 fs0_ok) Tryz.kp122 Tryz.func122 rfl ?_
 have hr : r < σ.length := by obtain ⟨s, hg⟩ := hp; exact hget_lt hg
 have pwa : ∀ l s, pw (σ ++ l) r s = pw σ r s ++ l := fun l s => by unfold pw hset; rw [List.set_append_left _ _ hr]
 have pota : ∀ l s, PotAt (pw σ r s ++ l) r := fun l s => by
  obtain ⟨u, hg⟩ := hp.pw s
  exact ⟨u, by rw [hget_app (hget_lt hg)]; exact hg⟩
 have pwa2 : ∀ l s t, pw (pw σ r s ++ l) r t = pw σ r t ++ l := fun l s t => by
  have : r < (pw σ r s).length := by unfold pw; rw [length_hset]; exact hr
  show hset (pw σ r s ++ l) r _ = _
  unfold hset; rw [List.set_append_left _ _ this]
  show pw (pw σ r s) r t ++ l = _
  rw [pw_pw]
 have p0 : PotAt (σ ++ [.cells [.int .i64 0, .int .i64 0]]) r := by obtain ⟨u, hg⟩ := hp; exact ⟨u, by rw [hget_app hr]; exact hg⟩
 have hof : ∀ (x : Int) (σ : List AObj) (hp : PotAt σ r) (Q : AV → List AObj → Prop), (∀ s' y, (y = 0 ∨ y = x) → Q (.int .i64 y) (pw σ r s')) → ACalls S 39 [.ptr r 0, .list .full 1 [.int .i64 0, .int .i64 0, .int .i64 x]] σ Q := fun x σ hp Q hq =>
  of_c r [0, 0, x] .full (by simp) σ hp Q fun s' y hy => hq s' y (by simpa using hy)
 simp -implicitDefEqProofs (maxSteps:=9^9) (disch:=omega) only [go_sem, simprocAttr]
 refine upto_c r wide (by omega) _ p0 _ fun s1 x1 a1 a2 => ?_
 rw [pwa]
 simp -implicitDefEqProofs (maxSteps:=9^9) (disch:=omega) only [go_sem, simprocAttr]
 refine hof x1 _ (pota _ _) _ fun s2 y1 a3 => ?_
 rw [pwa2]
 have b1 : 0 ≤ y1 ∧ y1 ≤ wide := by omega
 simp -implicitDefEqProofs (maxSteps:=9^9) (disch:=omega) only [go_sem, simprocAttr]
 refine upto_c r wide (by omega) _ (pota _ _) _ fun s3 x2 a5 a6 => ?_
 rw [pwa2]
 simp -implicitDefEqProofs (maxSteps:=9^9) (disch:=omega) only [go_sem, simprocAttr]
 refine hof x2 _ (pota _ _) _ fun s4 y2 a7 => ?_
 rw [pwa2]
 have b2 : 0 ≤ y2 ∧ y2 ≤ wide := by omega
 have hlp : (pw σ r s4).length = σ.length := by unfold pw; exact length_hset
 have g1 : hget (pw σ r s4 ++ [.cells [.int .i64 0, .int .i64 0]]) σ.length = some (.cells [.int .i64 0, .int .i64 0]) := by rw [← hlp]; exact hget_at0
 have g2 : ∀ o, hset (pw σ r s4 ++ [.cells [.int .i64 0, .int .i64 0]]) σ.length o = pw σ r s4 ++ [o] := fun o => by rw [← hlp]; exact hset_at0
 have g3 : ∀ o, hget (pw σ r s4 ++ [o]) σ.length = some o := fun o => by rw [← hlp]; exact hget_at0
 simp -implicitDefEqProofs (maxSteps:=9^9) (disch:=omega) only [go_sem, simprocAttr, g1, g2, g3]
 refine h s4 (if least < n - y1 then n - y1 else least) (if n + y2 < most then n + y2 else most) ?_ ?_ ?_ ?_ ?_ ?_ _ <;> (split <;> omega)
def truAV (rates by_ : List Int) : AV := .agg [ints1 rates, ints1 by_]
theorem off_p (r : Ros) (rates by_ : List Int) (h d : Int) (hl : r.sets.length ≤ 1000) (hh : 0 ≤ h ∧ h < rates.length) (hrl : rates.length ≤ 1000) (hd : 0 ≤ d ∧ d ≤ 60) (hr : ∀ n ∈ rates, -5 ≤ n ∧ n ≤ 5) : PureV S 69 [r.av, truAV rates by_, .int .i64 h, .int .i64 d] (.int .i64 (offX r rates h d)) := by
 refine PvE (Tryz.envOK (S := S) 53 (fun _ => ([], [])) fs0 fs0_ok) (.int) Tryz.kp69 Tryz.func69 rfl ?_
 intro σ
 obtain ⟨hands, skill, mn, mx, sets, ents⟩ := r
 simp only [Ros.av, truAV, ints1] at hl ⊢
 simp -implicitDefEqProofs (maxSteps:=9^9) (disch:=omega) only [go_sem, simprocAttr]
 refine ARun.forS (Tryz.envOK (S := S) 53 (fun _ => ([], [])) fs0 fs0_ok) sets.length (fun _ => True) (fun i => [(9, .int .i64 ((sets.take i).foldl (setF h d) 0)), (10, .int .i64 i)]) (fun _ _ => σ ++ [.cells [.int .i64 hands, .int .i64 skill, .int .i64 mn, .int .i64 mx, .list .no 2 (sets.map Sg.av), .list .no 6 (ents.map Tn.av)], .cells [.list .no 1 (rates.map (.int .i64)), .list .no 1 (by_.map (.int .i64))]]) [] (by kernel_rfl) rfl (by simp [upd, ins, subF, lookA]) trivial ?_ ?_
 ·intro i j hi _ ih
  rw [take_foldl hi] at ih
  have hidx : idx (sets.map Sg.av) (i : Int) = some (Sg.av sets[i]) := idx_nat hi
  generalize (sets.take i).foldl (setF h d) 0 = m at *
  generalize sets[i] = s at hidx ih
  simp only [Sg.av] at hidx
  simp -implicitDefEqProofs (maxSteps:=9^9) (disch:=omega) only [go_sem, simprocAttr, hidx]
  refine ⟨fun p1 => ⟨fun p2 => ?_, fun p2 => ?_⟩, fun p1 => ?_⟩
  ·exact (ih trivial []).castS rfl (by simp [upd, ins, subF, lookA, setF, p1, p2])
  ·exact (ih trivial []).castS rfl (by simp [upd, ins, subF, lookA, setF, p1, p2])
  ·exact (ih trivial []).castS rfl (by simp [upd, ins, subF, lookA, setF, p1])
 ·intro j _
  rw [List.take_length]
  have hfi := @fromL_in sets h d hd.1
  have hfe : sets.foldl (setF h d) 0 = fromL sets h d := rfl
  rw [hfe]
  have hrt : -5 ≤ tg rates h ∧ tg rates h ≤ 5 := by
   have hlt : h.toNat < rates.length := by omega
   have : tg rates h = rates[h.toNat] := by simp [tg, List.getD_eq_getElem?_getD, hlt]
   rw [this]; exact hr _ (List.getElem_mem hlt)
  have hoo : offX ⟨hands, skill, mn, mx, sets, ents⟩ rates h d = tg rates h * (d - fromL sets h d) := rfl
  rw [hoo]
  have hw1 : IntKind.i64.wrap (d - fromL sets h d) = d - fromL sets h d := wrap64 (by omega) (by omega)
  have hw2 : IntKind.i64.wrap (tg rates h * (d - fromL sets h d)) = tg rates h * (d - fromL sets h d) := by
   generalize tg rates h = a at hrt
   have h3 : 0 ≤ d - fromL sets h d ∧ d - fromL sets h d ≤ 60 := by omega
   generalize d - fromL sets h d = b at h3
   have : -300 ≤ a * b ∧ a * b ≤ 300 := by
    rcases (by omega : a = -5 ∨ a = -4 ∨ a = -3 ∨ a = -2 ∨ a = -1 ∨ a = 0 ∨ a = 1 ∨ a = 2 ∨ a = 3 ∨ a = 4 ∨ a = 5) with rfl | rfl | rfl | rfl | rfl | rfl | rfl | rfl | rfl | rfl | rfl <;> omega
   exact wrap64 (by omega) (by omega)
  have hidx : idx (rates.map (AV.int .i64)) h = some (.int .i64 (tg rates h)) := idx_tg hh.1 hh.2
  have hmi := @tget rates h hh.1 hh.2
  simp -implicitDefEqProofs (maxSteps:=9^9) (disch:=omega) only [go_sem, simprocAttr, hw1, hw2, hidx, hmi]
theorem hlength_pw {σ : List AObj} {r : Nat} {s : Int} : (pw σ r s).length = σ.length := length_hset
theorem hhget_pw0 {σ l : List AObj} {r : Nat} {s : Int} : hget (pw σ r s ++ l) σ.length = l[0]? := by rw [← hlength_pw (σ := σ) (r := r) (s := s)]; exact hget_at0
theorem hhget_pw {σ l : List AObj} {r k : Nat} {s : Int} : hget (pw σ r s ++ l) (σ.length + k) = l[k]? := by rw [← hlength_pw (σ := σ) (r := r) (s := s)]; exact hget_at
theorem hhset_pw0 {σ l : List AObj} {r : Nat} {s : Int} {o : AObj} : hset (pw σ r s ++ l) σ.length o = pw σ r s ++ l.set 0 o := by rw [← hlength_pw (σ := σ) (r := r) (s := s)]; exact hset_at0
theorem hhset_pw {σ l : List AObj} {r k : Nat} {s : Int} {o : AObj} : hset (pw σ r s ++ l) (σ.length + k) o = pw σ r s ++ l.set k o := by rw [← hlength_pw (σ := σ) (r := r) (s := s)]; exact hset_at
theorem hpw_app {σ l : List AObj} {r : Nat} {s : Int} (hr : r < σ.length) : pw (σ ++ l) r s = pw σ r s ++ l := by unfold pw hset; rw [List.set_append_left _ _ hr]
theorem hpw_pwa {σ l : List AObj} {r : Nat} {s t : Int} (hr : r < σ.length) : pw (pw σ r s ++ l) r t = pw σ r t ++ l := by
 rw [hpw_app (by rw [hlength_pw]; exact hr), pw_pw]
theorem PotAt.app1 {σ l : List AObj} {r : Nat} (h : PotAt σ r) : PotAt (σ ++ l) r := by obtain ⟨s, hg⟩ := h; exact ⟨s, by rw [hget_app (hget_lt hg)]; exact hg⟩
theorem PotAt.lt1 {σ : List AObj} {r : Nat} (h : PotAt σ r) : r < σ.length := by obtain ⟨s, hg⟩ := h; exact hget_lt hg
structure TrueT (r : Ros) (rates : List Int) (w : Int) (x : Tn) (by_ : Int) : Prop where
 by_in : 0 ≤ by_ ∧ by_ < r.hands
 day : 0 ≤ x.day ∧ x.day ≤ 12
 hand : x.hand = by_ ∨ x.hand = -1
 due : 500 ≤ x.due ∧ x.due ≤ 2000
 ear : ∃ t lo hi rds, (-r.skill ≤ t - (x.due + offX r rates by_ x.day) ∧ t - (x.due + offX r rates by_ x.day) ≤ r.skill) ∧ (1 ≤ lo ∧ lo ≤ t ∧ t ≤ hi ∧ hi ≤ 100000 ∧ hi - lo ≤ 2 * w) ∧ (rds = [] ∨ rds = [⟨1, 0, 0, 20, ⟨t / 5, t / 5⟩⟩]) ∧ x.ear = ⟨0, [⟨lo, hi⟩], rds⟩
theorem tunedOf_c (p : Nat) (r : Ros) (rates by_ : List Int) (w : Int) (hw : 0 ≤ w ∧ w ≤ 10) (hh : 1 ≤ r.hands ∧ r.hands ≤ 4) (hs : 0 ≤ r.skill ∧ r.skill ≤ 3) (hrl : (rates.length : Int) = r.hands) (hr : ∀ n ∈ rates, -3 ≤ n ∧ n ≤ 3) (hsl : r.sets.length ≤ 1000)
  (σ : List AObj) (hp : PotAt σ p) (Q : AV → List AObj → Prop) (h : ∀ s' x b junk, TrueT r rates w x b → Q (.tup [x.av, .int .i64 b]) (pw σ p s' ++ junk)) :
  ACalls S 64 [.ptr p 0, r.av, truAV rates by_, .int .i64 w] σ Q := by
 refine ACalls.wkW ?_
 refine AcE (Tryz.envOK (S := S) 65 Tryz.ord64 fs0 fs0_ok) Tryz.kp64 Tryz.func64 rfl ?_
 have hpl := hp.lt1
 simp only [Ros.av, truAV, ints1]
 have hwh : IntKind.i64.wrap (r.hands - 1) = r.hands - 1 := wrap64 (by omega) (by omega)
 simp -implicitDefEqProofs (maxSteps:=9^9) (disch:=omega) only [go_sem, simprocAttr, hwh]
 refine upto_c p (r.hands - 1) (by omega) _ hp.app1 _ fun s1 b b1 b2 => ?_
 rw [hpw_app hpl]
 have hb : 0 ≤ b ∧ b < r.hands := by omega
 clear b1 b2
 simp -implicitDefEqProofs (maxSteps:=9^9) (disch:=omega) only [go_sem, simprocAttr, hlength_pw, hhget_pw0, hhget_pw, hhset_pw0, hhset_pw]
 refine upto_c p 12 (by omega) _ (hp.pw _).app1 _ fun s2 dy d1 d2 => ?_
 rw [hpw_pwa hpl]
 have hdy : 0 ≤ dy ∧ dy ≤ 12 := by omega
 clear d1 d2
 simp -implicitDefEqProofs (maxSteps:=9^9) (disch:=omega) only [go_sem, simprocAttr, hlength_pw, hhget_pw0, hhget_pw, hhset_pw0, hhset_pw]
 refine within_c p 500 2000 (by omega) (by omega) _ (hp.pw _).app1 _ fun s3 due e1 e2 => ?_
 rw [hpw_pwa hpl]
 have hdue : 500 ≤ due ∧ due ≤ 2000 := by omega
 clear e1 e2
 simp -implicitDefEqProofs (maxSteps:=9^9) (disch:=omega) only [go_sem, simprocAttr, hlength_pw, hhget_pw0, hhget_pw, hhset_pw0, hhset_pw]
 have hoff : -36 ≤ offX r rates b dy ∧ offX r rates b dy ≤ 36 := by
  have h1 := @fromL_in r.sets b dy hdy.1
  have h2 : -3 ≤ tg rates b ∧ tg rates b ≤ 3 := by
   have hlt : b.toNat < rates.length := by omega
   have : tg rates b = rates[b.toNat] := by simp [tg, List.getD_eq_getElem?_getD, hlt]
   rw [this]; exact hr _ (List.getElem_mem hlt)
  unfold offX
  generalize tg rates b = a at h2
  have h3 : 0 ≤ dy - fromL r.sets b dy ∧ dy - fromL r.sets b dy ≤ 12 := by omega
  generalize dy - fromL r.sets b dy = c at h3
  rcases (by omega : a = -3 ∨ a = -2 ∨ a = -1 ∨ a = 0 ∨ a = 1 ∨ a = 2 ∨ a = 3) with rfl | rfl | rfl | rfl | rfl | rfl | rfl <;> omega
 refine off_p r rates by_ b dy hsl ⟨hb.1, by omega⟩ (by omega) ⟨by omega, by omega⟩ (fun n hn => by have := hr n hn; omega) _ _ ?_
 obtain ⟨of, hof⟩ : ∃ of, of = offX r rates b dy := ⟨_, rfl⟩
 rw [← hof] at hoff ⊢
 have hwn : IntKind.i64.wrap (0 - r.skill) = -r.skill := by rw [wrap64 (by omega) (by omega)]; omega
 simp -implicitDefEqProofs (maxSteps:=9^9) (disch:=omega) only [go_sem, simprocAttr, hlength_pw, hhget_pw0, hhget_pw, hhset_pw0, hhset_pw, hwn]
 refine within_c p (0 - r.skill) r.skill (by omega) (by omega) _ (hp.pw _).app1 _ fun s4 er f1 f2 => ?_
 rw [hpw_pwa hpl]
 have her : -r.skill ≤ er ∧ er ≤ r.skill := by omega
 clear f1 f2
 have hwt : IntKind.i64.wrap (due + of + er) = due + of + er := wrap64 (by omega) (by omega)
 have hwt1 : IntKind.i64.wrap (due + of) = due + of := wrap64 (by omega) (by omega)
 simp -implicitDefEqProofs (maxSteps:=9^9) (disch:=omega) only [go_sem, simprocAttr, hlength_pw, hhget_pw0, hhget_pw, hhset_pw0, hhset_pw, hwt, hwt1]
 refine near_c p (due + of + er) 1 100000 w (by omega) (by omega) _ (hp.pw _).app1 _ fun s5 lo hi c1 c2 c3 c4 c5 c6 junk => ?_
 rw [hpw_pwa hpl, List.append_assoc]
 have hq5 : Int.tdiv (due + of + er) 5 = (due + of + er) / 5 := Int.tdiv_eq_ediv_of_nonneg (by omega)
 have hwq : IntKind.i64.wrap ((due + of + er) / 5) = (due + of + er) / 5 := wrap64 (by omega) (by omega)
 have hT : ∀ rds hd, (rds = [] ∨ rds = [⟨1, 0, 0, 20, ⟨(due + of + er) / 5, (due + of + er) / 5⟩⟩]) → (hd = b ∨ hd = -1) → TrueT r rates w ⟨dy, hd, due, ⟨0, [⟨lo, hi⟩], rds⟩⟩ b := fun rds hd g1 g2 =>
  ⟨hb, hdy, g2, hdue, due + of + er, lo, hi, rds, (show -r.skill ≤ due + of + er - (due + offX r rates b dy) ∧ due + of + er - (due + offX r rates b dy) ≤ r.skill by rw [← hof]; omega), by omega, g1, rfl⟩
 simp only [Rng.av]
 simp -implicitDefEqProofs (maxSteps:=9^9) (disch:=omega) only [go_sem, simprocAttr, hlength_pw, hhget_pw0, hhget_pw, hhset_pw0, hhset_pw]
 refine odds_c p 1 4 (by omega) (by omega) _ (hp.pw _).app1 _ fun s6 q1 => ?_
 rw [hpw_pwa hpl]
 cases q1
 ·simp -implicitDefEqProofs (maxSteps:=9^9) (disch:=omega) only [go_sem, simprocAttr, hlength_pw, hhget_pw0, hhget_pw, hhset_pw0, hhset_pw]
  refine odds_c p 1 2 (by omega) (by omega) _ (hp.pw _).app1 _ fun s7 q2 => ?_
  rw [hpw_pwa hpl]
  cases q2
  ·simp -implicitDefEqProofs (maxSteps:=9^9) (disch:=omega) only [go_sem, simprocAttr, hlength_pw, hhget_pw0, hhget_pw, hhset_pw0, hhset_pw]
   exact ⟨_, wk_weak (by simp [wk, wkL, wk1, wk0, Tn.av, Tn.cells, Rng.av]), h _ _ _ _ (hT [] b (.inl rfl) (.inl rfl))⟩
  ·simp -implicitDefEqProofs (maxSteps:=9^9) (disch:=omega) only [go_sem, simprocAttr, hlength_pw, hhget_pw0, hhget_pw, hhset_pw0, hhset_pw]
   exact ⟨_, wk_weak (by simp [wk, wkL, wk1, wk0, Tn.av, Tn.cells, Rng.av]), h _ _ _ _ (hT [] (-1) (.inl rfl) (.inr rfl))⟩
 ·simp -implicitDefEqProofs (maxSteps:=9^9) (disch:=omega) only [go_sem, simprocAttr, hlength_pw, hhget_pw0, hhget_pw, hhset_pw0, hhset_pw, hq5, hwq]
  refine odds_c p 1 2 (by omega) (by omega) _ (hp.pw _).app1 _ fun s7 q2 => ?_
  rw [hpw_pwa hpl]
  cases q2
  ·simp -implicitDefEqProofs (maxSteps:=9^9) (disch:=omega) only [go_sem, simprocAttr, hlength_pw, hhget_pw0, hhget_pw, hhset_pw0, hhset_pw]
   exact ⟨_, wk_weak (by simp [wk, wkL, wk1, wk0, Tn.av, Tn.cells, Rng.av, Rd.av]), h _ _ _ _ (hT _ b (.inr rfl) (.inl rfl))⟩
  ·simp -implicitDefEqProofs (maxSteps:=9^9) (disch:=omega) only [go_sem, simprocAttr, hlength_pw, hhget_pw0, hhget_pw, hhset_pw0, hhset_pw]
   exact ⟨_, wk_weak (by simp [wk, wkL, wk1, wk0, Tn.av, Tn.cells, Rng.av, Rd.av]), h _ _ _ _ (hT _ (-1) (.inr rfl) (.inr rfl))⟩
end Go.Proofs
