/- Texts of a proof: lemmas. -/
import Derived.Test.YtgbdndlmdklefaaGreatK37
import Derived.Test.YtgbdndlmdklefaaGreatK38
import Derived.Test.YtgbdndlmdklefaaGreatK41
import Derived.Test.YtgbdndlmdklefaaGreatK36
import Derived.Test.YtgbdndlmdklefaaGreatK30
set_option linter.unusedSimpArgs false
set_option linter.unusedVariables false
set_option maxRecDepth 100000
namespace Go.Proofs
open Go Go.Mu Go.Ins Go.Shelf
def sortFs : List FuncId := [88, 141, 142, 182, 183, 184, 185, 186, 187, 188, 189, 190, 191, 192, 218, 219, 220, 221, 222, 223, 236, 89]
theorem sort_lok : LOK Tryz.prog (fun f => sortFs.contains f) := LOK.of_list (by kernel_rfl) (by kernel_rfl) (by kernel_rfl)
theorem sortG_c (zs : List Int) (hz : 0 < zs.length) (hn : zs.length ≤ 1000000) {σ : List AObj} {r : Nat} (hg : hget σ r = some (.vec 1 (zs.map (.int .i64)))) {Q : AV → List AObj → Prop} (h : Q (.tup []) (hset σ r (.vec 1 ((isort leI zs).map (.int .i64))))) :
  ACalls SBes 88 [.vec r zs.length] σ Q := by
 have e : (zs.mergeSort fun x y => decide (x ≤ y)) = isort leI zs := by
  refine isort_eq leI_trans leI_total leI_anti ?_ (List.mergeSort_perm _ _)
  refine (List.pairwise_mergeSort (le := fun x y => decide (x ≤ y)) (fun a b c h1 h2 => ?_) (fun a b => ?_) zs).imp fun {a b} h => by unfold leI; simpa using h
  ·simp only [decide_eq_true_eq] at h1 h2 ⊢; omega
  ·simp only [Bool.or_eq_true, decide_eq_true_eq]; omega
 rw [← e] at h
 exact sort_b Tryz.lays189 sort_lok (by kernel_rfl) (Callable.of Tryz.func88 (by kernel_rfl) (by kernel_rfl)) zs (List.length_pos_iff.1 hz) (by omega) hg h
def compactN (l : List Int) : List Int := Lib.compactUpTo l.toArray l.length
theorem compactG_c (zs : List Int) (hz : 0 < zs.length) (hn : zs.length ≤ 1000000) {σ : List AObj} {r : Nat} (hg : hget σ r = some (.vec 1 (zs.map (.int .i64)))) {Q : AV → List AObj → Prop} (h : Q (.list .no 1 ((compactN zs).map (.int .i64))) (hset σ r .dead)) :
  ACalls SBes 89 [.vec r zs.length] σ Q :=
 compact_b Tryz.lays20 sort_lok (by kernel_rfl) (Callable.of Tryz.func89 (by kernel_rfl) (by kernel_rfl)) zs (List.length_pos_iff.1 hz) (by omega) hg h
end Go.Proofs
namespace Go.Proofs
open Go Go.Mu Go.Ins
def ratesU (r : Ros) (h : Int) : List Int := if ratesE r h = 0 then compactN (isort leI (ratesOf (explR r (entsL r)) h)) else []
set_option maxHeartbeats 8000000 in
theorem ratesG_p (r : Ros) (hf : r.Fit) (h : Int) (hE : ratesE r h = 0) : PureV SBes 25 [r.av, .int .i64 h] (.tup [ints1 (ratesU r h), .int .i64 0]) := by
 intro σ Q hq
 rw [show ratesU r h = compactN (isort leI (ratesOf (explR r (entsL r)) h)) from if_pos hE] at hq
 have hk : knownE r [isHandE r.hands h] = 0 := by
  unfold ratesE at hE
  exact Classical.byContradiction fun hc => by rw [if_pos hc] at hE; exact hc hE
 have hne : ratesOf (explR r (entsL r)) h ≠ [] := by
  unfold ratesE at hE
  rw [if_neg (fun hc => hc hk)] at hE
  intro e
  rw [if_pos e] at hE; cases hE
 clear hE
 refine ACalls.clean ?_
 refine AcE (Tryz.envOK (S := SBes) 47 Tryz.ord25 fs407 fs407_ok) Tryz.kp25 Tryz.func25 rfl ?_
 simp only [Ros.av]
 simp -implicitDefEqProofs (maxSteps := 2000000) (disch := omega) only [go_sem, simprocAttr]
 refine isHand_p r h _ _ ?_
 simp -implicitDefEqProofs (maxSteps := 2000000) (disch := omega) only [go_sem, simprocAttr]
 refine ACalls.weaken (l' := [r.av, .list .no 1 ([isHandE r.hands h].map (.int .i64))]) ⟨⟨rfl, rfl, rfl, rfl, ⟨rfl, .inl rfl, .inl rfl⟩, ⟨rfl, .inl rfl, .inl rfl⟩, trivial⟩, ⟨rfl, .inl rfl, .inl rfl⟩, trivial⟩ ?_
 refine known_c r hf [isHandE r.hands h] (by simp) (fun hE j => absurd hk hE) (fun hO hg a j ha hm => ?_)
 have hh := hand_in hO
 have hh4 := hg.hands
 have hlen := explR_len hg.toHead (ds := entsL r)
 have hokL := explR_okL hg
 simp only [Ros.wav]
 have hm1 : hget (σ ++ AObj.cells [.int .i64 r.hands, .int .i64 r.skill, .int .i64 r.mn, .int .i64 r.mx, .list .no 2 (r.sets.map Sg.av), .list .no 6 (r.ents.map Tn.av)] :: (j ++ [AObj.cells [AV.int .i64 r.hands, .int .i64 r.skill, .int .i64 r.mn, .int .i64 r.mx, .list .no 2 (r.sets.map Sg.av), .list .no 6 (r.ents.map Tn.av), .list .no 1 ((entsL r).map ints1)]])) a = some (.map (mapX (explR r (entsL r)))) := by
  have := hgetA (l := [AObj.cells (r.wcells (entsL r))]) hm; simpa [Ros.wcells] using this
 generalize explR r (entsL r) = L at *
 have hml : (mapX L).length = L.length := by simp [mapX]
 simp -implicitDefEqProofs (maxSteps := 2000000) (disch := omega) only [go_sem, simprocAttr, hm1, hml]
 obtain ⟨J, hJ⟩ : ∃ J, AObj.cells [.int .i64 r.hands, .int .i64 r.skill, .int .i64 r.mn, .int .i64 r.mx, .list .no 2 (r.sets.map Sg.av), .list .no 6 (r.ents.map Tn.av)] :: (j ++ [AObj.cells [AV.int .i64 r.hands, .int .i64 r.skill, .int .i64 r.mn, .int .i64 r.mx, .list .no 2 (r.sets.map Sg.av), .list .no 6 (r.ents.map Tn.av), .list .no 1 ((entsL r).map ints1)]]) = J := ⟨_, rfl⟩
 obtain ⟨σ1, hσ1⟩ : ∃ σ1, σ1 = σ ++ J := ⟨_, rfl⟩
 have e1 : ∀ it, σ ++ AObj.cells [.int .i64 r.hands, .int .i64 r.skill, .int .i64 r.mn, .int .i64 r.mx, .list .no 2 (r.sets.map Sg.av), .list .no 6 (r.ents.map Tn.av)] :: (j ++ [AObj.cells [AV.int .i64 r.hands, .int .i64 r.skill, .int .i64 r.mn, .int .i64 r.mx, .list .no 2 (r.sets.map Sg.av), .list .no 6 (r.ents.map Tn.av), .list .no 1 ((entsL r).map ints1)], it]) = σ1 ++ [it] := fun it => by rw [hσ1, ← hJ]; simp
 have e2 : σ.length + (j.length + 1 + 1) = σ1.length := by rw [hσ1, ← hJ]; simp
 rw [e1, e2]
 rw [hJ, ← hσ1] at hm1
 have hσf : ∀ l, ∃ junk, σ1 ++ l = σ ++ junk := fun l => ⟨J ++ l, by rw [hσ1, List.append_assoc]⟩
 have hσl : σ.length ≤ σ1.length := by rw [hσ1]; simp
 clear e1 e2 hJ hm ha hσ1
 have hm2 : ∀ l, hget (σ1 ++ l) a = some (.map (mapX L)) := fun l => hgetA hm1
 refine ARun.ghostV 9 1 (sz0 := 0) rfl (by simp [lookA]) ?_
 simp only [ins, ↓reduceIte, List.append_assoc, List.cons_append, List.nil_append, List.length_append, List.length_cons, List.length_nil, Nat.zero_add, Nat.reduceEqDiff, Nat.reduceAdd]
 refine ARun.loopJ (Tryz.envOK (S := SBes) 47 Tryz.ord25 fs407 fs407_ok) (α := List Nat) (fun a => L.length - a.length) (fun seen τ => (∃ j, τ = σ1 ++ (.iter (some a) L.length seen :: .vec 1 ((ratesOf (seen.map fun i => L.getD i []) h).map (.int .i64)) :: j)) ∧ seen.Nodup ∧ ∀ i ∈ seen, i < L.length) (fun seen => [(9, .vec (σ1.length + 1) (ratesOf (seen.map fun i => L.getD i []) h).length)]) [] (by kernel_rfl) (by simp [upd, ins, subF, lookA, ratesOf]) ⟨⟨[], by simp [ratesOf]⟩, by simp, by simp⟩ ?_
 rintro seen τ ⟨⟨j, rfl⟩, hnd', hlt⟩ ih
 have hsl := seen_len hnd' hlt
 have hrl : (ratesOf (seen.map fun i => L.getD i []) h).length ≤ seen.length := by
  have := ratesOf_len (L := seen.map fun i => L.getD i []) (h := h); simpa using this
 simp -implicitDefEqProofs (maxSteps := 2000000) (disch := omega) only [go_sem, simprocAttr]
 refine nextA_intro (q := a) (c := L.length) (seen := seen) (es := mapX L) (by rw [hget_at0]; rfl) (hm2 _) hml.symm (fun i2 k v hi2 hns => ?_) (fun hall => ?_)
 ·obtain ⟨x, hx, hkv⟩ : ∃ x, L[i2]? = some x ∧ (rtv x, AV.bool true) = (k, v) := by simpa [mapX] using hi2
  simp only [Prod.mk.injEq] at hkv
  obtain ⟨rfl, rfl⟩ := hkv
  have hil := (List.getElem?_eq_some_iff.1 hx).1
  have hxm : x ∈ L := List.mem_of_getElem? hx
  have hok := hokL x hxm
  have hgd : L.getD i2 [] = x := by rw [List.getD_eq_getElem?_getD, hx]; rfl
  have hgl : (seen ++ [i2]).getLast? = some i2 := by simp
  have hnd2 : (seen ++ [i2]).Nodup := by
   rw [List.nodup_append]
   exact ⟨hnd', by simp, fun a ha b hb e => by simp at hb; subst hb; exact hns (e ▸ ha)⟩
  have hlt2 : ∀ i ∈ seen ++ [i2], i < L.length := fun i hi => by
   rcases List.mem_append.1 hi with hi | hi
   ·exact hlt i hi
   ·simp at hi; omega
  have hsl2 := seen_len hnd2 hlt2
  rw [List.length_append, List.length_singleton] at hsl2
  have ih2 := ih (seen ++ [i2])
  have hmm : (seen ++ [i2]).map (fun i => L.getD i []) = seen.map (fun i => L.getD i []) ++ [x] := by rw [List.map_append]; simp only [List.map_cons, List.map_nil, hgd]
  rw [hmm, ratesOf_snoc] at ih2
  clear hmm
  generalize ratesOf (seen.map fun i => L.getD i []) h = R at hrl ih2 ⊢
  have hxl := hok.len
  obtain ⟨b, c, e, f, hxe⟩ := len4 hok.len
  have hi3 : (mapX L)[i2]? = some (.agg [.int .i64 b, .int .i64 c, .int .i64 e, .int .i64 f], .bool true) := by rw [hi2, hxe]; rfl
  have hxx : [AV.int .i64 b, .int .i64 c, .int .i64 e, .int .i64 f] = x.map (AV.int .i64) := by rw [hxe]; rfl
  rw [hxx] at hi3
  have hput : putAt 0 (x.map (AV.int .i64)) [.int .i64 0, .int .i64 0, .int .i64 0, .int .i64 0] = x.map (AV.int .i64) := by rw [hxe]; rfl
  by_cases hz : tg x h = 0
  ·rw [if_pos hz, List.append_nil] at ih2
   have hz' : (tg x h = 0) = True := eq_true hz
   simp -implicitDefEqProofs (maxSteps := 2000000) (disch := omega) only [go_sem, simprocAttr, hm2, hgl, hi3, hml, hput, hz']
   exact (ih2 _ (by rw [List.length_append, List.length_singleton]; omega) ⟨⟨j ++ [.cells (x.map (.int .i64))], rfl⟩, hnd2, hlt2⟩).castS rfl (by simp [upd, ins, subF, lookA])
  ·rw [if_neg hz] at ih2
   have hz' : (tg x h = 0) = False := eq_false hz
   simp -implicitDefEqProofs (maxSteps := 2000000) (disch := omega) only [go_sem, simprocAttr, hm2, hgl, hi3, hml, hput, hz']
   exact (ih2 _ (by rw [List.length_append, List.length_singleton]; omega) ⟨⟨j ++ [.cells (x.map (.int .i64))], rfl⟩, hnd2, hlt2⟩).castS (by simp) (by simp [upd, ins, subF, lookA])
 ·have hall' : ∀ i, i < L.length → i ∈ seen := fun i hi => hall i (by rw [hml]; exact hi)
  have hps := ratesOf_perm (h := h) (seen_perm ([] : List Int) hnd' hlt hall')
  have hso : isort leI (ratesOf (seen.map fun i => L.getD i []) h) = isort leI (ratesOf L h) :=
   isort_eq leI_trans leI_total leI_anti (isort_pair leI_trans leI_total _) ((isort_perm _).trans hps)
  have hil2 := (isort_perm (le := leI) (ratesOf L h)).length_eq
  have hl2 := hps.length_eq
  have hpos : 0 < (ratesOf L h).length := List.length_pos_iff.2 hne
  rw [← hso] at hil2 hq
  clear hne ih hps hso
  generalize ratesOf (seen.map fun i => L.getD i []) h = R at *
  have hn0 : ((R.length : Int) = 0) = False := eq_false (by omega)
  simp -implicitDefEqProofs (maxSteps := 2000000) (disch := omega) only [go_sem, simprocAttr, hn0]
  refine sortG_c R (by omega) (by omega) (by rw [hget_at]; rfl) ?_
  simp -implicitDefEqProofs (maxSteps := 2000000) (disch := omega) only [go_sem, simprocAttr]
  have hRl : R.length = (isort leI R).length := by omega
  rw [hRl]
  refine compactG_c (isort leI R) (by omega) (by omega) (by rw [hget_at]; rfl) ?_
  simp -implicitDefEqProofs (maxSteps := 2000000) (disch := omega) only [go_sem, simprocAttr]
  refine ⟨_, _, (hσf _).choose_spec, Weak.refl _, ?_, hq⟩
  exact (Plain.tup (by simp; exact ⟨Plain.ints, .int⟩)) _
theorem ratesN_plain (e : Int) : Plain (.tup [ints1 [], .int .i64 e]) := .tup (by simp; exact ⟨Plain.ints, .int⟩)
set_option maxHeartbeats 8000000 in
theorem ratesN_p (r : Ros) (hf : r.Fit) (h : Int) (hE : ratesE r h ≠ 0) : PureV SBes 25 [r.av, .int .i64 h] (.tup [ints1 [], .int .i64 (ratesE r h)]) := by
 refine PvE (Tryz.envOK (S := SBes) 47 Tryz.ord25 fs407 fs407_ok) (ratesN_plain _) Tryz.kp25 Tryz.func25 rfl ?_
 intro σ
 simp only [Ros.av]
 simp -implicitDefEqProofs (maxSteps := 2000000) (disch := omega) only [go_sem, simprocAttr]
 refine isHand_p r h _ _ ?_
 simp -implicitDefEqProofs (maxSteps := 2000000) (disch := omega) only [go_sem, simprocAttr]
 refine ACalls.weaken (l' := [r.av, .list .no 1 ([isHandE r.hands h].map (.int .i64))]) ⟨⟨rfl, rfl, rfl, rfl, ⟨rfl, .inl rfl, .inl rfl⟩, ⟨rfl, .inl rfl, .inl rfl⟩, trivial⟩, ⟨rfl, .inl rfl, .inl rfl⟩, trivial⟩ ?_
 refine known_c r hf [isHandE r.hands h] (by simp) (fun hK j => ?_) (fun hO hg a j ha hm => ?_)
 ·have hK' : (knownE r [isHandE r.hands h] = 0) = False := eq_false hK
  rw [show ratesE r h = knownE r [isHandE r.hands h] from if_pos hK]
  simp -implicitDefEqProofs (maxSteps := 2000000) (disch := omega) only [go_sem, simprocAttr, hK', rosZ]
  exact ⟨rfl, .inr rfl, .inl rfl⟩
 have hz : ratesOf (explR r (entsL r)) h = [] := by
  unfold ratesE at hE
  rw [if_neg (fun c => c hO)] at hE
  exact Classical.byContradiction fun hc => by rw [if_neg hc] at hE; exact hE rfl
 have e11 : ratesE r h = 11 := by
  unfold ratesE
  rw [if_neg (fun c => c hO), if_pos hz]
 rw [e11]
 clear hE e11
 have hh := hand_in hO
 have hh4 := hg.hands
 have hlen := explR_len hg.toHead (ds := entsL r)
 have hokL := explR_okL hg
 simp only [Ros.wav]
 have hm1 : hget (σ ++ AObj.cells [.int .i64 r.hands, .int .i64 r.skill, .int .i64 r.mn, .int .i64 r.mx, .list .no 2 (r.sets.map Sg.av), .list .no 6 (r.ents.map Tn.av)] :: (j ++ [AObj.cells [AV.int .i64 r.hands, .int .i64 r.skill, .int .i64 r.mn, .int .i64 r.mx, .list .no 2 (r.sets.map Sg.av), .list .no 6 (r.ents.map Tn.av), .list .no 1 ((entsL r).map ints1)]])) a = some (.map (mapX (explR r (entsL r)))) := by
  have := hgetA (l := [AObj.cells (r.wcells (entsL r))]) hm; simpa [Ros.wcells] using this
 generalize explR r (entsL r) = L at *
 have hml : (mapX L).length = L.length := by simp [mapX]
 simp -implicitDefEqProofs (maxSteps := 2000000) (disch := omega) only [go_sem, simprocAttr, hm1, hml]
 obtain ⟨J, hJ⟩ : ∃ J, AObj.cells [.int .i64 r.hands, .int .i64 r.skill, .int .i64 r.mn, .int .i64 r.mx, .list .no 2 (r.sets.map Sg.av), .list .no 6 (r.ents.map Tn.av)] :: (j ++ [AObj.cells [AV.int .i64 r.hands, .int .i64 r.skill, .int .i64 r.mn, .int .i64 r.mx, .list .no 2 (r.sets.map Sg.av), .list .no 6 (r.ents.map Tn.av), .list .no 1 ((entsL r).map ints1)]]) = J := ⟨_, rfl⟩
 obtain ⟨σ1, hσ1⟩ : ∃ σ1, σ1 = σ ++ J := ⟨_, rfl⟩
 have e1 : ∀ it, σ ++ AObj.cells [.int .i64 r.hands, .int .i64 r.skill, .int .i64 r.mn, .int .i64 r.mx, .list .no 2 (r.sets.map Sg.av), .list .no 6 (r.ents.map Tn.av)] :: (j ++ [AObj.cells [AV.int .i64 r.hands, .int .i64 r.skill, .int .i64 r.mn, .int .i64 r.mx, .list .no 2 (r.sets.map Sg.av), .list .no 6 (r.ents.map Tn.av), .list .no 1 ((entsL r).map ints1)], it]) = σ1 ++ [it] := fun it => by rw [hσ1, ← hJ]; simp
 have e2 : σ.length + (j.length + 1 + 1) = σ1.length := by rw [hσ1, ← hJ]; simp
 rw [e1, e2]
 rw [hJ, ← hσ1] at hm1
 have hσf : ∀ l, ∃ junk, σ1 ++ l = σ ++ junk := fun l => ⟨J ++ l, by rw [hσ1, List.append_assoc]⟩
 have hσl : σ.length ≤ σ1.length := by rw [hσ1]; simp
 clear e1 e2 hJ hm ha hσ1
 have hm2 : ∀ l, hget (σ1 ++ l) a = some (.map (mapX L)) := fun l => hgetA hm1
 refine ARun.loopJ (Tryz.envOK (S := SBes) 47 Tryz.ord25 fs407 fs407_ok) (α := List Nat) (fun a => L.length - a.length) (fun seen τ => (∃ j, τ = σ1 ++ (.iter (some a) L.length seen :: j)) ∧ seen.Nodup ∧ ∀ i ∈ seen, i < L.length) (fun seen => []) [] (by kernel_rfl) (by simp [upd, ins, subF, lookA]) ⟨⟨[], by simp⟩, by simp, by simp⟩ ?_
 rintro seen τ ⟨⟨j, rfl⟩, hnd', hlt⟩ ih
 have hsl := seen_len hnd' hlt
 simp -implicitDefEqProofs (maxSteps := 2000000) (disch := omega) only [go_sem, simprocAttr]
 refine nextA_intro (q := a) (c := L.length) (seen := seen) (es := mapX L) (by rw [hget_at0]; rfl) (hm2 _) hml.symm (fun i2 k v hi2 hns => ?_) (fun hall => ?_)
 ·obtain ⟨x, hx, hkv⟩ : ∃ x, L[i2]? = some x ∧ (rtv x, AV.bool true) = (k, v) := by simpa [mapX] using hi2
  simp only [Prod.mk.injEq] at hkv
  obtain ⟨rfl, rfl⟩ := hkv
  have hil := (List.getElem?_eq_some_iff.1 hx).1
  have hxm : x ∈ L := List.mem_of_getElem? hx
  have hok := hokL x hxm
  have hgl : (seen ++ [i2]).getLast? = some i2 := by simp
  have hnd2 : (seen ++ [i2]).Nodup := by
   rw [List.nodup_append]
   exact ⟨hnd', by simp, fun a ha b hb e => by simp at hb; subst hb; exact hns (e ▸ ha)⟩
  have hlt2 : ∀ i ∈ seen ++ [i2], i < L.length := fun i hi => by
   rcases List.mem_append.1 hi with hi | hi
   ·exact hlt i hi
   ·simp at hi; omega
  have hsl2 := seen_len hnd2 hlt2
  rw [List.length_append, List.length_singleton] at hsl2
  have ih2 := ih (seen ++ [i2])
  have hxl := hok.len
  obtain ⟨b, c, e, f, hxe⟩ := len4 hok.len
  have hi3 : (mapX L)[i2]? = some (.agg [.int .i64 b, .int .i64 c, .int .i64 e, .int .i64 f], .bool true) := by rw [hi2, hxe]; rfl
  have hxx : [AV.int .i64 b, .int .i64 c, .int .i64 e, .int .i64 f] = x.map (AV.int .i64) := by rw [hxe]; rfl
  rw [hxx] at hi3
  have hput : putAt 0 (x.map (AV.int .i64)) [.int .i64 0, .int .i64 0, .int .i64 0, .int .i64 0] = x.map (AV.int .i64) := by rw [hxe]; rfl
  have hz' : (tg x h = 0) = True := eq_true (by
   apply Classical.byContradiction
   intro hc
   have : tg x h ∈ ratesOf L h := by
    unfold ratesOf
    exact List.mem_filter.2 ⟨List.mem_map.2 ⟨x, hxm, rfl⟩, by simpa using hc⟩
   rw [hz] at this; simp at this)
  simp -implicitDefEqProofs (maxSteps := 2000000) (disch := omega) only [go_sem, simprocAttr, hm2, hgl, hi3, hml, hput, hz']
  exact (ih2 _ (by rw [List.length_append, List.length_singleton]; omega) ⟨⟨j ++ [.cells (x.map (.int .i64))], rfl⟩, hnd2, hlt2⟩).castS rfl (by simp [upd, ins, subF, lookA])
 ·simp -implicitDefEqProofs (maxSteps := 2000000) (disch := omega) only [go_sem, simprocAttr]
  exact ⟨hσf _, ⟨rfl, .inr rfl, .inl rfl⟩, rfl, trivial⟩
theorem rates_p (r : Ros) (hf : r.Fit) (h : Int) : PureV SBes 25 [r.av, .int .i64 h] (.tup [ints1 (ratesU r h), .int .i64 (ratesE r h)]) := by
 by_cases hE : ratesE r h = 0
 ·rw [hE]; exact ratesG_p r hf h hE
 ·rw [show ratesU r h = [] from if_neg hE]; exact ratesN_p r hf h hE
end Go.Proofs
namespace Go.Proofs
open Go Go.Mu Go.Ins
variable {S : MC Tryz.prog}
end Go.Proofs
namespace Go.Proofs
open Go Go.Mu Go.Ins
end Go.Proofs
namespace Go.Proofs
open Go Go.Mu Go.Ins
variable {S : MC Tryz.prog}
theorem hplace_p (l : List Int) (x : Int) (hl : l.length ≤ 1000000) : PureV S 24 [.list .no 1 (l.map (.int .i64)), .int .i64 x] (.int .i64 (hplaceL l x)) := by
 refine PvE (Tryz.envOK (S := S) 19 (fun _ => ([], [])) fs0 fs0_ok) (.int) Tryz.kp24 Tryz.func24 rfl ?_
 intro σ
 simp -implicitDefEqProofs (maxSteps := 2000000) (disch := omega) only [go_sem, simprocAttr]
 refine ARun.forS (Tryz.envOK (S := S) 19 (fun _ => ([], [])) fs0 fs0_ok) l.length (fun i => x ∉ l.take i) (fun i => [(5, .int .i64 i)]) (fun _ _ => σ) [] (by kernel_rfl) rfl (by simp [upd, ins, subF, lookA]) (by simp) ?_ ?_
 ·intro i j hi hp ih
  have hli : idx (l.map (AV.int .i64)) (i : Int) = some (.int .i64 l[i]) := by rw [idx_nat hi]
  have hat := hplace_at (x := x) hi hp
  have hns := hnotin_succ (x := x) hi hp
  generalize l[i] = y at hli hat hns
  clear hp
  by_cases hy : y = x
  ·rw [hat hy]
   have hy' : (y = x) = True := eq_true hy
   simp -implicitDefEqProofs (maxSteps := 2000000) (disch := omega) only [go_sem, simprocAttr, hli, hy']
  ·have hy' : (y = x) = False := eq_false hy
   simp -implicitDefEqProofs (maxSteps := 2000000) (disch := omega) only [go_sem, simprocAttr, hli, hy']
   exact (ih (hns hy) []).castS rfl (by simp [upd, ins, subF, lookA])
 ·intro j hp
  rw [List.take_length] at hp
  have : hplaceL l x = -1 := by unfold hplaceL; rw [if_neg hp]
  rw [this]
  simp -implicitDefEqProofs (maxSteps := 2000000) (disch := omega) only [go_sem, simprocAttr]
theorem cntL_succ {l : List (List Int)} {h : Int} {i : Nat} (hi : i < l.length) : cntL (l.take (i + 1)) h = cntL (l.take i) h + if l[i].contains h then 1 else 0 := by
 unfold cntL
 rw [List.take_succ_eq_append_getElem hi, List.filter_append, List.length_append]
 cases hc : l[i].contains h
 ·simp only [List.filter_cons, hc, List.filter_nil, Bool.false_eq_true, if_false, List.length_nil]
 ·simp only [List.filter_cons, hc, List.filter_nil, if_true, List.length_cons, List.length_nil]
end Go.Proofs
namespace Go.Proofs
open Go Go.Mu Go.Ins
theorem cutG5 {α β γ δ ε : Type} {F : α → β → γ → δ → ε → Prop} (G : α → β → γ → δ → ε → Prop) {goal : Prop} (h1 : (∀ a b c d e, F a b c d e → G a b c d e) → goal) (h2 : ∀ a b c d e, F a b c d e → G a b c d e) : goal := h1 h2
theorem idx0h (a : AV) (l : List AV) : idx (a :: l) 0 = some a := rfl
set_option maxHeartbeats 16000000 in
theorem handConvicted_law (l : List Int) (hl : l.length ≤ 4294967296) (σ : List AObj) : ACalls SBes 3 [.list .no 1 (l.map (.int .i64))] σ fun v _ => v = .bool true := by
 refine AcE (Tryz.envOK (S := SBes) 121 (fun _ => ([], [])) fs408 fs408_ok) Tryz.kp3 Tryz.func3 rfl ?_
 simp -implicitDefEqProofs (maxSteps := 2000000) (disch := omega) only [go_sem, simprocAttr]
 refine newPot_c l .no hl σ _ fun s1 j1 => ?_
 obtain ⟨τ, hτ⟩ : ∃ τ, τ = σ ++ (AObj.cells [.int .u64 s1] :: j1) := ⟨_, rfl⟩
 have hp : PotAt τ σ.length := ⟨s1, by rw [hτ]; exact hget_at0⟩
 rw [← hτ]
 obtain ⟨p, hpe⟩ : ∃ p, p = σ.length := ⟨_, rfl⟩
 rw [← hpe] at hp ⊢
 clear hτ hpe
 have hpl := hp.lt1
 simp -implicitDefEqProofs (maxSteps := 2000000) (disch := omega) only [go_sem, simprocAttr]
 refine rosterOf_c p 4 4 2 (by omega) (by omega) (by omega) τ hp _ fun s2 r rates by_ j2 hT => ?_
 have hcv := hT.conv (by omega) (by omega) (by omega)
 have hcut := hT.cut (by omega) (by omega)
 have hh := hT.hands
 clear hT
 simp only [Ros.av, truAV, ints1]
 simp -implicitDefEqProofs (maxSteps := 2000000) (disch := omega) only [go_sem, simprocAttr, hlength_pw, hhget_pw0, hhget_pw, hhset_pw0, hhset_pw]
 refine odds_c p 1 8 (by omega) (by omega) _ (hp.pw _).app1 _ fun s5 b5 => ?_
 rw [hpw_pwa hpl]
 obtain ⟨hands, skill, mn, mx, sets, ents⟩ := r
 simp only at hh hcv hcut ⊢
 refine' cutG5 (F := fun (_ : Bool) (en : List Tn) (tk : Tok) (sz : Nat) (E' : List AV) => ConvOK ⟨hands, skill, mn, mx, sets, en⟩ hands ∧ wk0 (.list tk sz E') (.list .no 6 (en.map Tn.av)) ∧ E'.length = en.length) _ (fun hG => ?f) ?g
 case f =>
  have hb5 : b5 = false ∨ b5 = true := by cases b5 <;> simp
  rcases hb5 with hb5 | hb5
  ·rw [hb5]
   simp -implicitDefEqProofs (maxSteps := 2000000) (disch := omega) only [go_sem, simprocAttr, hlength_pw, hhget_pw0, hhget_pw, hhset_pw0, hhset_pw]
   obtain ⟨en, hcv', tk, sz, E', hwk, hlen, hE'⟩ : ∃ (en : List Tn), ConvOK ⟨hands, skill, mn, mx, sets, en⟩ hands ∧ ∃ tk sz E', wk0 (.list tk sz E') (.list .no 6 (en.map Tn.av)) ∧ E'.length = en.length ∧ AV.list .no 6 (ents.map Tn.av) = .list tk sz E' :=
    ⟨ents, hcv, .no, 6, ents.map Tn.av, ⟨rfl, .inl rfl, .inl rfl⟩, by simp, rfl⟩
   rw [hE']
   obtain ⟨b0, hb0⟩ : ∃ b0, false = b0 := ⟨_, rfl⟩
   rw [show ((23 : Nat), AV.bool false) = (23, AV.bool b0) by rw [hb0]]
   exact hG b0 en tk sz E' ⟨hcv', hwk, hlen⟩
  ·rw [hb5]
   simp -implicitDefEqProofs (maxSteps := 2000000) (disch := omega) only [go_sem, simprocAttr, hlength_pw, hhget_pw0, hhget_pw, hhset_pw0, hhset_pw]
   exact hG true [] .full 0 [] ⟨hcut, ⟨rfl, .inr rfl, .inl rfl⟩, rfl⟩
 case g =>
  intro b0 en tk sz E' ⟨hcv, hwk, hlen⟩
  clear hcut
  have hk := hcv.known
  have hfit := hcv.fit
  have hno := hcv.none
  have hr1 : ∀ j3, hget (pw τ p s5 ++ (j2 ++ (AObj.cells [.int .i64 hands, .int .i64 skill, .int .i64 mn, .int .i64 mx, .list .no 2 (sets.map Sg.av), .list tk sz E'] :: j3))) (τ.length + j2.length) = some (AObj.cells [.int .i64 hands, .int .i64 skill, .int .i64 mn, .int .i64 mx, .list .no 2 (sets.map Sg.av), .list tk sz E']) := fun j3 => by rw [hhget_pw]; simp
  have hwa : wkL wk [.agg [.int .i64 hands, .int .i64 skill, .int .i64 mn, .int .i64 mx, .list .no 2 (sets.map Sg.av), .list tk sz E']] [Ros.av ⟨hands, skill, mn, mx, sets, en⟩] := ⟨⟨rfl, rfl, rfl, rfl, ⟨rfl, .inl rfl, .inl rfl⟩, hwk, trivial⟩, trivial⟩
  refine ACalls.weaken hwa ?_
  refine fewest_p _ hfit _ _ ?_
  simp -implicitDefEqProofs (maxSteps := 2000000) (disch := omega) only [go_sem, simprocAttr, hlength_pw, hhget_pw0, hhget_pw, hhset_pw0, hhset_pw, hr1]
  refine ACalls.weaken hwa ?_
  refine convicts_p _ hfit _ _ ?_
  have hra := fun h => rates_p _ hfit h
  have hrE := fun (h : Nat) (hi : (h : Int) < hands) => ratesE_cnt hk (h := h) hh hi
  obtain ⟨hF6, hF4⟩ := fewL_few ⟨hands, skill, mn, mx, sets, en⟩
  obtain ⟨m0, _, hFm, hFne, _⟩ := fewL_of (known_good hk) (by
   have := hk; unfold knownE at this
   exact Classical.byContradiction fun c => by rw [if_pos c] at this; exact c this) hk
  rw [← hFm] at hFne
  rw [hk, show convL ⟨hands, skill, mn, mx, sets, en⟩ = convF (fewL ⟨hands, skill, mn, mx, sets, en⟩) hands.toNat from if_pos hk]
  clear hFm hcv
  generalize fewL ⟨hands, skill, mn, mx, sets, en⟩ = F at *
  obtain ⟨f0, Ft, rfl⟩ := List.exists_cons_of_ne_nil hFne
  have hcl : ((convF (f0 :: Ft) hands.toNat).length : Int) = hands := by unfold convF; simp; omega
  have hcl' : (convF (f0 :: Ft) hands.toNat).length = hands.toNat := by unfold convF; simp
  have hci : ∀ i : Nat, (i : Int) < hands → idx ((convF (f0 :: Ft) hands.toNat).map (AV.int .i64)) (i : Int) = some (.int .i64 (convV (f0 :: Ft) i)) := fun i hi => by
   rw [idx_nat (by rw [hcl']; omega)]
   simp [convF]
  have hcE : ((convF (f0 :: Ft) hands.toNat).map (AV.int .i64)).length = hands.toNat := by rw [List.length_map]; exact hcl'
  have hll : (((f0 :: Ft).map ints1).length : Int) = (Ft.length : Int) + 1 := by simp
  have hways : (((E'.length : Int) = 0) = True ∧ (0 < (f0.length : Int)) = False) ∨ ((E'.length : Int) = 0) = False := by
   by_cases hE0 : E'.length = 0
   ·refine .inl ⟨eq_true (by omega), eq_false ?_⟩
    have h1 : en = [] := List.eq_nil_of_length_eq_zero (by omega)
    have h2 := hno h1 f0 (by simp)
    omega
   ·exact .inr (eq_false (by omega))
  refine (?f2 : ?G2 → _) ?g2
  case f2 =>
   intro hG2
   rcases hways with ⟨hE1, hf0⟩ | hE1
   ·simp -implicitDefEqProofs (maxSteps := 2000000) (disch := omega) only [go_sem, simprocAttr, hlength_pw, hhget_pw0, hhget_pw, hhset_pw0, hhset_pw, hr1, hE1, hf0, idx0h, ints1, hcl]
    exact hG2
   ·simp -implicitDefEqProofs (maxSteps := 2000000) (disch := omega) only [go_sem, simprocAttr, hlength_pw, hhget_pw0, hhget_pw, hhset_pw0, hhset_pw, hr1, hE1, idx0h, ints1, hcl]
    exact hG2
  have hr0 := hr1 [AObj.cells [.list .no 1 (rates.map (.int .i64)), .list .no 1 (by_.map (.int .i64))]]
  generalize pw τ p s5 ++ (j2 ++ (AObj.cells [.int .i64 hands, .int .i64 skill, .int .i64 mn, .int .i64 mx, .list .no 2 (sets.map Sg.av), .list tk sz E'] :: [AObj.cells [.list .no 1 (rates.map (.int .i64)), .list .no 1 (by_.map (.int .i64))]])) = σ1 at hr0 ⊢
  clear hr1
  generalize τ.length + j2.length = k at hr0 ⊢
  have hFl : (((f0 :: Ft).length : Nat) : Int) = (Ft.length : Int) + 1 := by simp
  refine ARun.forS (Tryz.envOK (S := SBes) 121 (fun _ => ([], [])) fs408 fs408_ok) hands.toNat (fun _ => True) (fun i => [(10, .int .i64 i)]) (fun _ j => σ1 ++ j) [] (by kernel_rfl) (by simp) (by simp [upd, ins, subF, lookA]) trivial ?_ ?_
  ·intro i j hi _ ih
   have hr2 : ∀ q, hget (σ1 ++ q) k = some (AObj.cells [.int .i64 hands, .int .i64 skill, .int .i64 mn, .int .i64 mx, .list .no 2 (sets.map Sg.av), .list tk sz E']) := fun q => by rw [hget_app (hget_lt hr0)]; exact hr0
   have hiH : ((i : Int) < hands) = True := eq_true (by omega)
   have hwi : IntKind.i64.wrap ((i : Int) + 1) = ((i + 1 : Nat) : Int) := by rw [wrap64 (by omega) (by omega)]; rfl
   simp -implicitDefEqProofs (maxSteps := 2000000) (disch := omega) only [go_sem, simprocAttr, hr2, hiH]
   refine ARun.forS (Tryz.envOK (S := SBes) 121 (fun _ => ([], [])) fs408 fs408_ok) (f0 :: Ft).length (fun _ => True) (fun m => [(11, .int .i64 (cntL ((f0 :: Ft).take m) i : Nat)), (12, .int .i64 m)]) (fun _ _ => σ1 ++ j) [] (by kernel_rfl) rfl (by simp [upd, ins, subF, lookA, cntL]) trivial ?_ ?_
   ·intro m jm hm _ ih2
    have hidx : idx (AV.list .no 1 (f0.map (.int .i64)) :: Ft.map ints1) (m : Int) = some (ints1 (f0 :: Ft)[m]) := idx_nat (f := ints1) (l := f0 :: Ft) hm
    have hxl := hF4 _ (List.getElem_mem hm)
    have hle : cntL ((f0 :: Ft).take m) i ≤ m := by unfold cntL; exact Nat.le_trans (List.length_filter_le _ _) (by simp; omega)
    have hml : ((m : Int) < (Ft.length : Int) + 1) = True := eq_true (by omega)
    rw [cntL_succ hm] at ih2
    generalize cntL ((f0 :: Ft).take m) i = c at hle ih2 ⊢
    generalize (f0 :: Ft)[m] = x at hidx hxl ih2
    have hnn := hplace_nonneg (l := x) (x := (i : Int))
    have hwm : IntKind.i64.wrap ((m : Int) + 1) = ((m + 1 : Nat) : Int) := by rw [wrap64 (by omega) (by omega)]; rfl
    simp -implicitDefEqProofs (maxSteps := 2000000) (disch := omega) only [go_sem, simprocAttr, hr2, hidx, ints1, hml]
    refine hplace_p x i (by omega) _ _ ?_
    cases hc : x.contains (i : Int)
    ·rw [hc] at ih2 hnn
     have hn' : (0 ≤ hplaceL x (i : Int)) = False := by simpa using hnn
     simp -implicitDefEqProofs (maxSteps := 2000000) (disch := omega) only [go_sem, simprocAttr, hr2, hn', hwm]
     exact (ih2 trivial []).castS rfl (by simp [upd, ins, subF, lookA])
    ·rw [hc] at ih2 hnn
     have hn' : (0 ≤ hplaceL x (i : Int)) = True := by simpa using hnn
     have hwc : IntKind.i64.wrap ((c : Int) + 1) = ((c + 1 : Nat) : Int) := by rw [wrap64 (by omega) (by omega)]; rfl
     simp -implicitDefEqProofs (maxSteps := 2000000) (disch := omega) only [go_sem, simprocAttr, hr2, hn', hwc, hwm]
     exact (ih2 trivial []).castS rfl (by simp [upd, ins, subF, lookA])
   ·intro jm _
    rw [List.take_length]
    have hml : (((f0 :: Ft).length : Int) < (Ft.length : Int) + 1) = False := eq_false (by omega)
    have hcle : cntL (f0 :: Ft) i ≤ (f0 :: Ft).length := by unfold cntL; exact List.length_filter_le _ _
    obtain ⟨q1, q2⟩ := hrE i (by omega)
    have hcv0 : convV (f0 :: Ft) i = if cntL (f0 :: Ft) i = (f0 :: Ft).length then 1 else if cntL (f0 :: Ft) i = 0 then 2 else 3 := rfl
    have hidv := hci i (by omega)
    have hra1 := hra i
    generalize ratesE ⟨hands, skill, mn, mx, sets, en⟩ i = RE at q1 q2 hra1
    generalize ratesU ⟨hands, skill, mn, mx, sets, en⟩ i = RU at hra1
    generalize convV (f0 :: Ft) i = cv at hcv0 hidv
    generalize cntL (f0 :: Ft) i = c at q1 hcle hcv0 ⊢
    simp -implicitDefEqProofs (maxSteps := 2000000) (disch := omega) only [go_sem, simprocAttr, hr2, hml]
    refine ACalls.weaken (l' := [Ros.av ⟨hands, skill, mn, mx, sets, en⟩, .int .i64 i]) ⟨⟨rfl, rfl, rfl, rfl, ⟨rfl, .inl rfl, .inl rfl⟩, hwk, trivial⟩, rfl, trivial⟩ ?_
    refine hra1 _ _ ?_
    rcases (show (c = (f0 :: Ft).length ∧ cv = 1 ∧ RE = 0) ∨ (c = 0 ∧ cv = 2 ∧ RE = 11) ∨ (c ≠ (f0 :: Ft).length ∧ c ≠ 0 ∧ cv = 3 ∧ RE = 0) by
     by_cases c1 : c = (f0 :: Ft).length
     ·rw [if_pos c1] at hcv0
      exact .inl ⟨c1, hcv0, q2.resolve_right fun e => by have := q1.1 e; omega⟩
     ·rw [if_neg c1] at hcv0
      by_cases c2 : c = 0
      ·rw [if_pos c2] at hcv0; exact .inr (.inl ⟨c2, hcv0, q1.2 c2⟩)
      ·rw [if_neg c2] at hcv0; exact .inr (.inr ⟨c1, c2, hcv0, q2.resolve_right fun e => c2 (q1.1 e)⟩)) with ⟨c1, rfl, rfl⟩ | ⟨rfl, rfl, rfl⟩ | ⟨c1, c2, rfl, rfl⟩
    ·have d1 : ((c : Int) = (Ft.length : Int) + 1) = True := eq_true (by omega)
     have d2 : ((c : Int) = 0) = False := eq_false (by omega)
     simp -implicitDefEqProofs (maxSteps := 2000000) (disch := omega) only [go_sem, simprocAttr, hr2, hidv, d1, d2, hwi, ints1]
     exact (ih trivial j).castS rfl (by simp [upd, ins, subF, lookA])
    ·have d1 : ((0 : Int) = (Ft.length : Int) + 1) = False := eq_false (by omega)
     simp -implicitDefEqProofs (maxSteps := 2000000) (disch := omega) only [go_sem, simprocAttr, hr2, hidv, d1, hwi, ints1]
     exact (ih trivial j).castS rfl (by simp [upd, ins, subF, lookA])
    ·have d1 : ((c : Int) = (Ft.length : Int) + 1) = False := eq_false (by omega)
     have d2 : ((c : Int) = 0) = False := eq_false (by omega)
     simp -implicitDefEqProofs (maxSteps := 2000000) (disch := omega) only [go_sem, simprocAttr, hr2, hidv, d1, d2, hwi, ints1]
     exact (ih trivial j).castS rfl (by simp [upd, ins, subF, lookA])
  ·intro j _
   have hr2 : ∀ q, hget (σ1 ++ q) k = some (AObj.cells [.int .i64 hands, .int .i64 skill, .int .i64 mn, .int .i64 mx, .list .no 2 (sets.map Sg.av), .list tk sz E']) := fun q => by rw [hget_app (hget_lt hr0)]; exact hr0
   have hiH : (((hands.toNat : Nat) : Int) < hands) = False := eq_false (by omega)
   simp -implicitDefEqProofs (maxSteps := 2000000) (disch := omega) only [go_sem, simprocAttr, hr2, hiH]
   refine steady_p _ _ ?_
   simp -implicitDefEqProofs (maxSteps := 2000000) (disch := omega) only [go_sem, simprocAttr]
end Go.Proofs
