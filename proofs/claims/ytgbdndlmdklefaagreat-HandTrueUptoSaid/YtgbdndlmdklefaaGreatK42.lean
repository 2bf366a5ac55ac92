/- Texts of a proof: lemmas. -/
import Derived.Test.YtgbdndlmdklefaaGreatK37
import Derived.Test.YtgbdndlmdklefaaGreatK38
import Derived.Test.YtgbdndlmdklefaaGreatK41
import Derived.Test.YtgbdndlmdklefaaGreatK31
import Derived.Test.YtgbdndlmdklefaaGreatK36
import Derived.Test.YtgbdndlmdklefaaGreatK30
set_option linter.unusedSimpArgs false
set_option linter.unusedVariables false
set_option maxRecDepth 100000
namespace Go.Proofs
open Go Go.Mu Go.Ins Go.Shelf
def sortFs : List FuncId := [88, 141, 142, 182, 183, 184, 185, 186, 187, 188, 189, 190, 191, 192, 218, 219, 220, 221, 222, 223, 236, 89]
theorem sort_lok : LOK Tryz.prog (fun f => sortFs.contains f) := LOK.of_list (by kernel_rfl) (by kernel_rfl) (by kernel_rfl)
theorem sortG_c (zs : List Int) (hz : 0 < zs.length) (hn : zs.length ≤ 1000000) {σ : List AObj} {r : Nat} (hg : hget σ r = some (.vec 1 (zs.map (.int .i64)))) {Q : AV → List AObj → Prop} (h : Q (.tup []) (hset σ r (.vec 1 ((isort leI zs).map (.int .i64))))) :
  ACalls SBes 88 [.vec r zs.length] σ Q := by
 have e : (zs.mergeSort fun x y => decide (x ≤ y)) = isort leI zs := by
  refine isort_eq leI_trans leI_total leI_anti ?_ (List.mergeSort_perm _ _)
  refine (List.pairwise_mergeSort (le := fun x y => decide (x ≤ y)) (fun a b c h1 h2 => ?_) (fun a b => ?_) zs).imp fun {a b} h => by unfold leI; simpa using h
  ·simp only [decide_eq_true_eq] at h1 h2 ⊢; omega
  ·simp only [Bool.or_eq_true, decide_eq_true_eq]; omega
 rw [← e] at h
 exact sort_b Tryz.lays189 sort_lok (by kernel_rfl) (Callable.of Tryz.func88 (by kernel_rfl) (by kernel_rfl)) zs (List.length_pos_iff.1 hz) (by omega) hg h
def compactN (l : List Int) : List Int := Lib.compactUpTo l.toArray l.length
theorem compactG_c (zs : List Int) (hz : 0 < zs.length) (hn : zs.length ≤ 1000000) {σ : List AObj} {r : Nat} (hg : hget σ r = some (.vec 1 (zs.map (.int .i64)))) {Q : AV → List AObj → Prop} (h : Q (.list .no 1 ((compactN zs).map (.int .i64))) (hset σ r .dead)) :
  ACalls SBes 89 [.vec r zs.length] σ Q :=
 compact_b Tryz.lays20 sort_lok (by kernel_rfl) (Callable.of Tryz.func89 (by kernel_rfl) (by kernel_rfl)) zs (List.length_pos_iff.1 hz) (by omega) hg h
theorem hcompact_upto {l : List Int} (hs : l.Pairwise (· ≤ ·)) : ∀ m, m ≤ l.length → (Lib.compactUpTo l.toArray m).Pairwise (· < ·) ∧ ∀ x, x ∈ Lib.compactUpTo l.toArray m ↔ x ∈ l.take m
 | 0, _ => by simp [Lib.compactUpTo]
 | m + 1, hm => by
  obtain ⟨h1, h2⟩ := hcompact_upto hs m (by omega)
  rw [Lib.compactUpTo_succ]
  have hg : ∀ j (h : j < l.length), l.toArray[j]! = l[j] := fun j h => by rw [getElem!_pos l.toArray j (by simpa using h)]; simp
  rw [hg m (by omega)]
  have htk : l.take (m + 1) = l.take m ++ [l[m]] := List.take_succ_eq_append_getElem (by omega)
  cases hk : Lib.keeps l.toArray m
  ·rw [if_neg (by simp), List.append_nil]
   refine ⟨h1, fun x => ?_⟩
   rw [h2 x, htk, List.mem_append, List.mem_singleton]
   constructor
   ·exact .inl
   ·rintro (h | rfl)
    ·exact h
    ·unfold Lib.keeps at hk
     have hk := of_decide_eq_false hk
     have hm0 : m ≠ 0 := fun e => hk (.inl e)
     have he : l.toArray[m]! = l.toArray[m - 1]! := Classical.byContradiction fun e => hk (.inr e)
     rw [hg m (by omega), hg (m - 1) (by omega)] at he
     rw [he, List.mem_take_iff_getElem]
     exact ⟨m - 1, by omega, rfl⟩
  ·rw [if_pos rfl]
   refine ⟨List.pairwise_append.2 ⟨h1, by simp, fun a ha b hb => ?_⟩, fun x => by rw [List.mem_append, h2 x, htk, List.mem_append]⟩
   rw [List.mem_singleton] at hb; subst hb
   obtain ⟨j, hj, rfl⟩ := List.mem_take_iff_getElem.1 ((h2 a).1 ha)
   have hj2 : j < m := by omega
   unfold Lib.keeps at hk
   have hk := of_decide_eq_true hk
   have hne : l.toArray[m]! ≠ l.toArray[m - 1]! := by rcases hk with e | e; omega; exact e
   rw [hg m (by omega), hg (m - 1) (by omega)] at hne
   have hp := List.pairwise_iff_getElem.1 hs
   have e1 : l[j] ≤ l[m - 1] := by
    by_cases e : j = m - 1
    ·subst e; exact Int.le_refl _
    ·exact hp j (m - 1) (by omega) (by omega) (by omega)
   have e2 : l[m - 1] ≤ l[m] := hp (m - 1) m (by omega) (by omega) (by omega)
   omega
theorem compactN_mem {l : List Int} {x : Int} : x ∈ compactN (isort leI l) ↔ x ∈ l := by
 unfold compactN
 rw [(hcompact_upto (isort_pair leI_trans leI_total l) _ (Nat.le_refl _)).2 x, List.take_length]
 exact (isort_perm (le := leI) l).mem_iff
end Go.Proofs
set_option maxHeartbeats 40000000
namespace Go.Proofs
open Go Go.Mu Go.Ins
def ratesU (r : Ros) (h : Int) : List Int := if ratesE r h = 0 then compactN (isort leI (ratesOf (explR r (entsL r)) h)) else []
theorem ratesG_p (r : Ros) (hf : r.Fit) (h : Int) (hE : ratesE r h = 0) : PureV SBes 25 [r.av, .int .i64 h] (.tup [ints1 (ratesU r h), .int .i64 0]) := by
 intro σ Q hq
 rw [show ratesU r h = compactN (isort leI (ratesOf (explR r (entsL r)) h)) from if_pos hE] at hq
 have hk : knownE r [isHandE r.hands h] = 0 := by
  unfold ratesE at hE
  exact Classical.byContradiction fun hc => by rw [if_pos hc] at hE; exact hc hE
 have hne : ratesOf (explR r (entsL r)) h ≠ [] := by
  unfold ratesE at hE
  rw [if_neg (fun hc => hc hk)] at hE
  intro e
  rw [if_pos e] at hE; cases hE
 clear hE
 refine ACalls.clean ?_
 refine AcE (Tryz.envOK (S := SBes) 47 Tryz.ord25 fs407 fs407_ok) Tryz.kp25 Tryz.func25 rfl ?_
 simp only [Ros.av]
 simp -implicitDefEqProofs (maxSteps:=9^9) (disch:=omega) only [go_sem, simprocAttr]
 refine isHand_p r h _ _ ?_
 simp -implicitDefEqProofs (maxSteps:=9^9) (disch:=omega) only [go_sem, simprocAttr]
 refine ACalls.weaken (l' := [r.av, .list .no 1 ([isHandE r.hands h].map (.int .i64))]) ⟨⟨rfl, rfl, rfl, rfl, ⟨rfl, .inl rfl, .inl rfl⟩, ⟨rfl, .inl rfl, .inl rfl⟩, trivial⟩, ⟨rfl, .inl rfl, .inl rfl⟩, trivial⟩ ?_
 refine known_c r hf [isHandE r.hands h] (by simp) (fun hE j => absurd hk hE) (fun hO hg a j ha hm => ?_)
 have hh := hand_in hO
 have hh4 := hg.hands
 have hlen := explR_len hg.toHead (ds := entsL r)
 have hokL := explR_okL hg
 simp only [Ros.wav]
 have hm1 : hget (σ ++ AObj.cells [.int .i64 r.hands, .int .i64 r.skill, .int .i64 r.mn, .int .i64 r.mx, .list .no 2 (r.sets.map Sg.av), .list .no 6 (r.ents.map Tn.av)] :: (j ++ [AObj.cells [AV.int .i64 r.hands, .int .i64 r.skill, .int .i64 r.mn, .int .i64 r.mx, .list .no 2 (r.sets.map Sg.av), .list .no 6 (r.ents.map Tn.av), .list .no 1 ((entsL r).map ints1)]])) a = some (.map (mapX (explR r (entsL r)))) := by
  have := hgetA (l := [AObj.cells (r.wcells (entsL r))]) hm; simpa [Ros.wcells] using this
 generalize explR r (entsL r) = L at *
 have hml : (mapX L).length = L.length := by simp [mapX]
 simp -implicitDefEqProofs (maxSteps:=9^9) (disch:=omega) only [go_sem, simprocAttr, hm1, hml]
 obtain ⟨J, hJ⟩ : ∃ J, AObj.cells [.int .i64 r.hands, .int .i64 r.skill, .int .i64 r.mn, .int .i64 r.mx, .list .no 2 (r.sets.map Sg.av), .list .no 6 (r.ents.map Tn.av)] :: (j ++ [AObj.cells [AV.int .i64 r.hands, .int .i64 r.skill, .int .i64 r.mn, .int .i64 r.mx, .list .no 2 (r.sets.map Sg.av), .list .no 6 (r.ents.map Tn.av), .list .no 1 ((entsL r).map ints1)]]) = J := ⟨_, rfl⟩
 obtain ⟨σ1, hσ1⟩ : ∃ σ1, σ1 = σ ++ J := ⟨_, rfl⟩
 have e1 : ∀ it, σ ++ AObj.cells [.int .i64 r.hands, .int .i64 r.skill, .int .i64 r.mn, .int .i64 r.mx, .list .no 2 (r.sets.map Sg.av), .list .no 6 (r.ents.map Tn.av)] :: (j ++ [AObj.cells [AV.int .i64 r.hands, .int .i64 r.skill, .int .i64 r.mn, .int .i64 r.mx, .list .no 2 (r.sets.map Sg.av), .list .no 6 (r.ents.map Tn.av), .list .no 1 ((entsL r).map ints1)], it]) = σ1 ++ [it] := fun it => by rw [hσ1, ← hJ]; simp
 have e2 : σ.length + (j.length + 1 + 1) = σ1.length := by rw [hσ1, ← hJ]; simp
 rw [e1, e2]
 rw [hJ, ← hσ1] at hm1
 have hσf : ∀ l, ∃ junk, σ1 ++ l = σ ++ junk := fun l => ⟨J ++ l, by rw [hσ1, List.append_assoc]⟩
 have hσl : σ.length ≤ σ1.length := by rw [hσ1]; simp
 clear e1 e2 hJ hm ha hσ1
 have hm2 : ∀ l, hget (σ1 ++ l) a = some (.map (mapX L)) := fun l => hgetA hm1
 refine ARun.ghostV 9 1 (sz0 := 0) rfl (by simp [lookA]) ?_
 simp only [ins, ↓reduceIte, List.append_assoc, List.cons_append, List.nil_append, List.length_append, List.length_cons, List.length_nil, Nat.zero_add, Nat.reduceEqDiff, Nat.reduceAdd]
 refine ARun.loopJ (Tryz.envOK (S := SBes) 47 Tryz.ord25 fs407 fs407_ok) (α := List Nat) (fun a => L.length - a.length) (fun seen τ => (∃ j, τ = σ1 ++ (.iter (some a) L.length seen :: .vec 1 ((ratesOf (seen.map fun i => L.getD i []) h).map (.int .i64)) :: j)) ∧ seen.Nodup ∧ ∀ i ∈ seen, i < L.length) (fun seen => [(9, .vec (σ1.length + 1) (ratesOf (seen.map fun i => L.getD i []) h).length)]) [] (by kernel_rfl) (by simp [upd, ins, subF, lookA, ratesOf]) ⟨⟨[], by simp [ratesOf]⟩, by simp, by simp⟩ ?_
 rintro seen τ ⟨⟨j, rfl⟩, hnd', hlt⟩ ih
 have hsl := seen_len hnd' hlt
 have hrl : (ratesOf (seen.map fun i => L.getD i []) h).length ≤ seen.length := by
  have := ratesOf_len (L := seen.map fun i => L.getD i []) (h := h); simpa using this
 simp -implicitDefEqProofs (maxSteps:=9^9) (disch:=omega) only [go_sem, simprocAttr]
 refine nextA_intro (q := a) (c := L.length) (seen := seen) (es := mapX L) (by rw [hget_at0]; rfl) (hm2 _) hml.symm (fun i2 k v hi2 hns => ?_) (fun hall => ?_)
 ·obtain ⟨x, hx, hkv⟩ : ∃ x, L[i2]? = some x ∧ (rtv x, AV.bool true) = (k, v) := by simpa [mapX] using hi2
  simp only [Prod.mk.injEq] at hkv
  obtain ⟨rfl, rfl⟩ := hkv
  have hil := (List.getElem?_eq_some_iff.1 hx).1
  have hxm : x ∈ L := List.mem_of_getElem? hx
  have hok := hokL x hxm
  have hgd : L.getD i2 [] = x := by rw [List.getD_eq_getElem?_getD, hx]; rfl
  have hgl : (seen ++ [i2]).getLast? = some i2 := by simp
  have hnd2 : (seen ++ [i2]).Nodup := by
   rw [List.nodup_append]
   exact ⟨hnd', by simp, fun a ha b hb e => by simp at hb; subst hb; exact hns (e ▸ ha)⟩
  have hlt2 : ∀ i ∈ seen ++ [i2], i < L.length := fun i hi => by
   rcases List.mem_append.1 hi with hi | hi
   ·exact hlt i hi
   ·simp at hi; omega
  have hsl2 := seen_len hnd2 hlt2
  rw [List.length_append, List.length_singleton] at hsl2
  have ih2 := ih (seen ++ [i2])
  have hmm : (seen ++ [i2]).map (fun i => L.getD i []) = seen.map (fun i => L.getD i []) ++ [x] := by rw [List.map_append]; simp only [List.map_cons, List.map_nil, hgd]
  rw [hmm, ratesOf_snoc] at ih2
  clear hmm
  generalize ratesOf (seen.map fun i => L.getD i []) h = R at hrl ih2 ⊢
  have hxl := hok.len
  obtain ⟨b, c, e, f, hxe⟩ := len4 hok.len
  have hi3 : (mapX L)[i2]? = some (.agg [.int .i64 b, .int .i64 c, .int .i64 e, .int .i64 f], .bool true) := by rw [hi2, hxe]; rfl
  have hxx : [AV.int .i64 b, .int .i64 c, .int .i64 e, .int .i64 f] = x.map (AV.int .i64) := by rw [hxe]; rfl
  rw [hxx] at hi3
  have hput : putAt 0 (x.map (AV.int .i64)) [.int .i64 0, .int .i64 0, .int .i64 0, .int .i64 0] = x.map (AV.int .i64) := by rw [hxe]; rfl
  by_cases hz : tg x h = 0
  ·rw [if_pos hz, List.append_nil] at ih2
   have hz' : (tg x h = 0) = True := eq_true hz
   simp -implicitDefEqProofs (maxSteps:=9^9) (disch:=omega) only [go_sem, simprocAttr, hm2, hgl, hi3, hml, hput, hz']
   exact (ih2 _ (by rw [List.length_append, List.length_singleton]; omega) ⟨⟨j ++ [.cells (x.map (.int .i64))], rfl⟩, hnd2, hlt2⟩).castS rfl (by simp [upd, ins, subF, lookA])
  ·rw [if_neg hz] at ih2
   have hz' : (tg x h = 0) = False := eq_false hz
   simp -implicitDefEqProofs (maxSteps:=9^9) (disch:=omega) only [go_sem, simprocAttr, hm2, hgl, hi3, hml, hput, hz']
   exact (ih2 _ (by rw [List.length_append, List.length_singleton]; omega) ⟨⟨j ++ [.cells (x.map (.int .i64))], rfl⟩, hnd2, hlt2⟩).castS (by simp) (by simp [upd, ins, subF, lookA])
 ·have hall' : ∀ i, i < L.length → i ∈ seen := fun i hi => hall i (by rw [hml]; exact hi)
  have hps := ratesOf_perm (h := h) (seen_perm ([] : List Int) hnd' hlt hall')
  have hso : isort leI (ratesOf (seen.map fun i => L.getD i []) h) = isort leI (ratesOf L h) :=
   isort_eq leI_trans leI_total leI_anti (isort_pair leI_trans leI_total _) ((isort_perm _).trans hps)
  have hil2 := (isort_perm (le := leI) (ratesOf L h)).length_eq
  have hl2 := hps.length_eq
  have hpos : 0 < (ratesOf L h).length := List.length_pos_iff.2 hne
  rw [← hso] at hil2 hq
  clear hne ih hps hso
  generalize ratesOf (seen.map fun i => L.getD i []) h = R at *
  have hn0 : ((R.length : Int) = 0) = False := eq_false (by omega)
  simp -implicitDefEqProofs (maxSteps:=9^9) (disch:=omega) only [go_sem, simprocAttr, hn0]
  refine sortG_c R (by omega) (by omega) (by rw [hget_at]; rfl) ?_
  simp -implicitDefEqProofs (maxSteps:=9^9) (disch:=omega) only [go_sem, simprocAttr]
  have hRl : R.length = (isort leI R).length := by omega
  rw [hRl]
  refine compactG_c (isort leI R) (by omega) (by omega) (by rw [hget_at]; rfl) ?_
  simp -implicitDefEqProofs (maxSteps:=9^9) (disch:=omega) only [go_sem, simprocAttr]
  refine ⟨_, _, (hσf _).choose_spec, Weak.refl _, ?_, hq⟩
  exact (Plain.tup (by simp; exact ⟨Plain.ints, .int⟩)) _
theorem ratesN_plain (e : Int) : Plain (.tup [ints1 [], .int .i64 e]) := .tup (by simp; exact ⟨Plain.ints, .int⟩)
theorem ratesN_p (r : Ros) (hf : r.Fit) (h : Int) (hE : ratesE r h ≠ 0) : PureV SBes 25 [r.av, .int .i64 h] (.tup [ints1 [], .int .i64 (ratesE r h)]) := by
 refine PvE (Tryz.envOK (S := SBes) 47 Tryz.ord25 fs407 fs407_ok) (ratesN_plain _) Tryz.kp25 Tryz.func25 rfl ?_
 intro σ
 simp only [Ros.av]
 simp -implicitDefEqProofs (maxSteps:=9^9) (disch:=omega) only [go_sem, simprocAttr]
 refine isHand_p r h _ _ ?_
 simp -implicitDefEqProofs (maxSteps:=9^9) (disch:=omega) only [go_sem, simprocAttr]
 refine ACalls.weaken (l' := [r.av, .list .no 1 ([isHandE r.hands h].map (.int .i64))]) ⟨⟨rfl, rfl, rfl, rfl, ⟨rfl, .inl rfl, .inl rfl⟩, ⟨rfl, .inl rfl, .inl rfl⟩, trivial⟩, ⟨rfl, .inl rfl, .inl rfl⟩, trivial⟩ ?_
 refine known_c r hf [isHandE r.hands h] (by simp) (fun hK j => ?_) (fun hO hg a j ha hm => ?_)
 ·have hK' : (knownE r [isHandE r.hands h] = 0) = False := eq_false hK
  rw [show ratesE r h = knownE r [isHandE r.hands h] from if_pos hK]
  simp -implicitDefEqProofs (maxSteps:=9^9) (disch:=omega) only [go_sem, simprocAttr, hK', rosZ]
  exact ⟨rfl, .inr rfl, .inl rfl⟩
 have hz : ratesOf (explR r (entsL r)) h = [] := by
  unfold ratesE at hE
  rw [if_neg (fun c => c hO)] at hE
  exact Classical.byContradiction fun hc => by rw [if_neg hc] at hE; exact hE rfl
 have e11 : ratesE r h = 11 := by
  unfold ratesE
  rw [if_neg (fun c => c hO), if_pos hz]
 rw [e11]
 clear hE e11
 have hh := hand_in hO
 have hh4 := hg.hands
 have hlen := explR_len hg.toHead (ds := entsL r)
 have hokL := explR_okL hg
 simp only [Ros.wav]
 have hm1 : hget (σ ++ AObj.cells [.int .i64 r.hands, .int .i64 r.skill, .int .i64 r.mn, .int .i64 r.mx, .list .no 2 (r.sets.map Sg.av), .list .no 6 (r.ents.map Tn.av)] :: (j ++ [AObj.cells [AV.int .i64 r.hands, .int .i64 r.skill, .int .i64 r.mn, .int .i64 r.mx, .list .no 2 (r.sets.map Sg.av), .list .no 6 (r.ents.map Tn.av), .list .no 1 ((entsL r).map ints1)]])) a = some (.map (mapX (explR r (entsL r)))) := by
  have := hgetA (l := [AObj.cells (r.wcells (entsL r))]) hm; simpa [Ros.wcells] using this
 generalize explR r (entsL r) = L at *
 have hml : (mapX L).length = L.length := by simp [mapX]
 simp -implicitDefEqProofs (maxSteps:=9^9) (disch:=omega) only [go_sem, simprocAttr, hm1, hml]
 obtain ⟨J, hJ⟩ : ∃ J, AObj.cells [.int .i64 r.hands, .int .i64 r.skill, .int .i64 r.mn, .int .i64 r.mx, .list .no 2 (r.sets.map Sg.av), .list .no 6 (r.ents.map Tn.av)] :: (j ++ [AObj.cells [AV.int .i64 r.hands, .int .i64 r.skill, .int .i64 r.mn, .int .i64 r.mx, .list .no 2 (r.sets.map Sg.av), .list .no 6 (r.ents.map Tn.av), .list .no 1 ((entsL r).map ints1)]]) = J := ⟨_, rfl⟩
 obtain ⟨σ1, hσ1⟩ : ∃ σ1, σ1 = σ ++ J := ⟨_, rfl⟩
 have e1 : ∀ it, σ ++ AObj.cells [.int .i64 r.hands, .int .i64 r.skill, .int .i64 r.mn, .int .i64 r.mx, .list .no 2 (r.sets.map Sg.av), .list .no 6 (r.ents.map Tn.av)] :: (j ++ [AObj.cells [AV.int .i64 r.hands, .int .i64 r.skill, .int .i64 r.mn, .int .i64 r.mx, .list .no 2 (r.sets.map Sg.av), .list .no 6 (r.ents.map Tn.av), .list .no 1 ((entsL r).map ints1)], it]) = σ1 ++ [it] := fun it => by rw [hσ1, ← hJ]; simp
 have e2 : σ.length + (j.length + 1 + 1) = σ1.length := by rw [hσ1, ← hJ]; simp
 rw [e1, e2]
 rw [hJ, ← hσ1] at hm1
 have hσf : ∀ l, ∃ junk, σ1 ++ l = σ ++ junk := fun l => ⟨J ++ l, by rw [hσ1, List.append_assoc]⟩
 have hσl : σ.length ≤ σ1.length := by rw [hσ1]; simp
 clear e1 e2 hJ hm ha hσ1
 have hm2 : ∀ l, hget (σ1 ++ l) a = some (.map (mapX L)) := fun l => hgetA hm1
 refine ARun.loopJ (Tryz.envOK (S := SBes) 47 Tryz.ord25 fs407 fs407_ok) (α := List Nat) (fun a => L.length - a.length) (fun seen τ => (∃ j, τ = σ1 ++ (.iter (some a) L.length seen :: j)) ∧ seen.Nodup ∧ ∀ i ∈ seen, i < L.length) (fun seen => []) [] (by kernel_rfl) (by simp [upd, ins, subF, lookA]) ⟨⟨[], by simp⟩, by simp, by simp⟩ ?_
 rintro seen τ ⟨⟨j, rfl⟩, hnd', hlt⟩ ih
 have hsl := seen_len hnd' hlt
 simp -implicitDefEqProofs (maxSteps:=9^9) (disch:=omega) only [go_sem, simprocAttr]
 refine nextA_intro (q := a) (c := L.length) (seen := seen) (es := mapX L) (by rw [hget_at0]; rfl) (hm2 _) hml.symm (fun i2 k v hi2 hns => ?_) (fun hall => ?_)
 ·obtain ⟨x, hx, hkv⟩ : ∃ x, L[i2]? = some x ∧ (rtv x, AV.bool true) = (k, v) := by simpa [mapX] using hi2
  simp only [Prod.mk.injEq] at hkv
  obtain ⟨rfl, rfl⟩ := hkv
  have hil := (List.getElem?_eq_some_iff.1 hx).1
  have hxm : x ∈ L := List.mem_of_getElem? hx
  have hok := hokL x hxm
  have hgl : (seen ++ [i2]).getLast? = some i2 := by simp
  have hnd2 : (seen ++ [i2]).Nodup := by
   rw [List.nodup_append]
   exact ⟨hnd', by simp, fun a ha b hb e => by simp at hb; subst hb; exact hns (e ▸ ha)⟩
  have hlt2 : ∀ i ∈ seen ++ [i2], i < L.length := fun i hi => by
   rcases List.mem_append.1 hi with hi | hi
   ·exact hlt i hi
   ·simp at hi; omega
  have hsl2 := seen_len hnd2 hlt2
  rw [List.length_append, List.length_singleton] at hsl2
  have ih2 := ih (seen ++ [i2])
  have hxl := hok.len
  obtain ⟨b, c, e, f, hxe⟩ := len4 hok.len
  have hi3 : (mapX L)[i2]? = some (.agg [.int .i64 b, .int .i64 c, .int .i64 e, .int .i64 f], .bool true) := by rw [hi2, hxe]; rfl
  have hxx : [AV.int .i64 b, .int .i64 c, .int .i64 e, .int .i64 f] = x.map (AV.int .i64) := by rw [hxe]; rfl
  rw [hxx] at hi3
  have hput : putAt 0 (x.map (AV.int .i64)) [.int .i64 0, .int .i64 0, .int .i64 0, .int .i64 0] = x.map (AV.int .i64) := by rw [hxe]; rfl
  have hz' : (tg x h = 0) = True := eq_true (by
   apply Classical.byContradiction
   intro hc
   have : tg x h ∈ ratesOf L h := by
    unfold ratesOf
    exact List.mem_filter.2 ⟨List.mem_map.2 ⟨x, hxm, rfl⟩, by simpa using hc⟩
   rw [hz] at this; simp at this)
  simp -implicitDefEqProofs (maxSteps:=9^9) (disch:=omega) only [go_sem, simprocAttr, hm2, hgl, hi3, hml, hput, hz']
  exact (ih2 _ (by rw [List.length_append, List.length_singleton]; omega) ⟨⟨j ++ [.cells (x.map (.int .i64))], rfl⟩, hnd2, hlt2⟩).castS rfl (by simp [upd, ins, subF, lookA])
 ·simp -implicitDefEqProofs (maxSteps:=9^9) (disch:=omega) only [go_sem, simprocAttr]
  exact ⟨hσf _, ⟨rfl, .inr rfl, .inl rfl⟩, rfl, trivial⟩
theorem rates_p (r : Ros) (hf : r.Fit) (h : Int) : PureV SBes 25 [r.av, .int .i64 h] (.tup [ints1 (ratesU r h), .int .i64 (ratesE r h)]) := by
 by_cases hE : ratesE r h = 0
 ·rw [hE]; exact ratesG_p r hf h hE
 ·rw [show ratesU r h = [] from if_neg hE]; exact ratesN_p r hf h hE
theorem ratesU_mem {r : Ros} {h : Int} (hk : knownE r [isHandE r.hands h] = 0) {n : Int} : n ∈ ratesU r h ↔ n ≠ 0 ∧ ∃ x ∈ explR r (entsL r), tg x h = n := by
 have key : n ∈ ratesOf (explR r (entsL r)) h ↔ n ≠ 0 ∧ ∃ x ∈ explR r (entsL r), tg x h = n := by
  unfold ratesOf
  rw [List.mem_filter, List.mem_map, decide_eq_true_iff]
  exact And.comm
 have hE : ratesE r h = if ratesOf (explR r (entsL r)) h = [] then 11 else 0 := by
  unfold ratesE
  rw [if_neg (fun c => c hk)]
 unfold ratesU
 by_cases hr : ratesOf (explR r (entsL r)) h = []
 ·rw [if_pos hr] at hE
  rw [hE, if_neg (by decide), ← key, hr]
 ·rw [if_neg hr] at hE
  rw [hE, if_pos rfl, compactN_mem]; exact key
def tunS (r : Ros) (ds X : List (List Int)) (e : Nat) : Nat := bitsOf (fun h => decide ((h : Int) < r.hands) && X.any fun x => byB r ds x e h) 4
def tunP (r : Ros) (ds X : List (List Int)) (x : List Int) (e n : Nat) : Nat := bitsOf (fun h => decide ((h : Int) < r.hands) && ((X.any fun x => byB r ds x e h) || (decide (h < n) && byB r ds x e h))) 4
theorem bitsOf_ext {p q : Nat → Bool} {n : Nat} (h : ∀ i, i < n → p i = q i) : bitsOf p n = bitsOf q n := by
 apply Nat.eq_of_testBit_eq
 intro i
 rw [bitsOf_test, bitsOf_test]
 by_cases hi : i < n
 ·rw [h i hi]
 ·simp [hi]
theorem tunP_zero {r : Ros} {ds X : List (List Int)} {x : List Int} {e : Nat} : tunP r ds X x e 0 = tunS r ds X e := bitsOf_ext fun i hi => by simp
theorem tunP_all {r : Ros} {ds X : List (List Int)} {x : List Int} {e : Nat} : tunP r ds X x e r.hands.toNat = tunS r ds (X ++ [x]) e := bitsOf_ext fun i hi => by
 rw [List.any_append]
 by_cases h : (i : Int) < r.hands
 ·have : decide (i < r.hands.toNat) = true := decide_eq_true (by omega)
  rw [this, decide_eq_true h]; simp
 ·simp [h]
theorem tunP_succ {r : Ros} {ds X : List (List Int)} {x : List Int} {e n : Nat} (hn : (n : Int) < r.hands) (h4 : n < 4) : tunP r ds X x e (n + 1) = if byB r ds x e n then tunP r ds X x e n ||| 2 ^ n else tunP r ds X x e n := by
 apply Nat.eq_of_testBit_eq
 intro i
 unfold tunP
 rw [bitsOf_test]
 split
 ·rename_i hb
  rw [Nat.testBit_or, bitsOf_test, Nat.testBit_two_pow]
  by_cases hi : n = i
  ·subst hi; simp [hb, hn, h4]
  ·have : decide (i < n + 1) = decide (i < n) := by
    by_cases h : i < n
    ·rw [decide_eq_true h, decide_eq_true (by omega)]
    ·rw [decide_eq_false h, decide_eq_false (by omega)]
   rw [this]; simp [hi]
 ·rename_i hb
  rw [bitsOf_test]
  by_cases hi : n = i
  ·subst hi; simp [hb]
  ·have : decide (i < n + 1) = decide (i < n) := by
    by_cases h : i < n
    ·rw [decide_eq_true h, decide_eq_true (by omega)]
    ·rw [decide_eq_false h, decide_eq_false (by omega)]
   rw [this]
theorem tunP_lt {r : Ros} {ds X : List (List Int)} {x : List Int} {e n : Nat} : tunP r ds X x e n < 16 := bitsOf_lt _ 4
def entE' (r : Ros) (e : Int) : Int := if 0 ≤ e ∧ e ≤ (r.ents.length : Int) - 1 then 0 else 3
def tunersE (r : Ros) (e : Int) : Int := knownE r [entE' r e]
def tunersL (r : Ros) (e : Int) : List Int := if tunersE r e = 0 then listN (tunS r (entsL r) (explR r (entsL r)) e.toNat) else []
theorem tunS_perm {r : Ros} {ds X Y : List (List Int)} {e : Nat} (h : X.Perm Y) : tunS r ds X e = tunS r ds Y e := bitsOf_ext fun i hi => by rw [h.any_eq]
theorem tuners_p (r : Ros) (hf : r.Fit) (e : Int) : PureV SBes 56 [r.av, .int .i64 e] (.tup [ints1 (tunersL r e), .int .i64 (tunersE r e)]) := by
 refine PvE (Tryz.envOK (S := SBes) 53 (fun _ => ([], [])) fs407 fs407_ok) ((.tup (by simp; exact ⟨Plain.ints, .int⟩))) Tryz.kp56 Tryz.func56 rfl ?_
 intro σ
 have hel := hf.ents
 simp only [Ros.av]
 have hw : IntKind.i64.wrap ((r.ents.length : Int) - 1) = (r.ents.length : Int) - 1 := wrap64 (by omega) (by omega)
 by_cases he : 0 ≤ e ∧ e ≤ (r.ents.length : Int) - 1
 ·have hE : entE' r e = 0 := if_pos he
  have he' : decide (0 ≤ e ∧ e ≤ (r.ents.length : Int) - 1) = true := decide_eq_true he
  unfold tunersL tunersE
  rw [hE]
  simp -implicitDefEqProofs (maxSteps:=9^9) (disch:=omega) only [go_sem, simprocAttr, hw, he']
  refine ACalls.weaken (l' := [r.av, .list .no 1 (([0] : List Int).map (.int .i64))]) ⟨⟨rfl, rfl, rfl, rfl, ⟨rfl, .inl rfl, .inl rfl⟩, ⟨rfl, .inl rfl, .inl rfl⟩, trivial⟩, ⟨rfl, .inl rfl, .inl rfl⟩, trivial⟩ ?_
  refine known_c r hf [0] (by simp) (fun hK j => ?_) (fun hO hg a j ha hm => ?_)
  ·have hK' : (knownE r [0] = 0) = False := eq_false hK
   rw [if_neg hK]
   simp -implicitDefEqProofs (maxSteps:=9^9) (disch:=omega) only [go_sem, simprocAttr, hK', rosZ]
   exact ⟨rfl, .inr rfl, .inl rfl⟩
  rw [if_pos hO, hO]
  have hh4 := hg.hands
  have hlen := explR_len hg.toHead (ds := entsL r)
  have hokL := explR_okL hg
  have hWk := hg.work
  have hnn : ((e.toNat : Nat) : Int) = e := by omega
  have hby := fun (x : List Int) (hx : OkX r x) (h : Nat) (hh : (h : Int) < r.hands) => by_p (S := SBes) r hg.toHead (entsL r) hWk.dev hWk.len hWk.day x hx e.toNat (by omega) h ⟨by omega, by omega⟩
  simp only [hnn] at hby
  have hwav : r.wav (entsL r) = .agg (r.wcells (entsL r)) := rfl
  simp only [Ros.wav]
  have hm1 : hget (σ ++ AObj.cells [.int .i64 r.hands, .int .i64 r.skill, .int .i64 r.mn, .int .i64 r.mx, .list .no 2 (r.sets.map Sg.av), .list .no 6 (r.ents.map Tn.av)] :: (j ++ [AObj.cells [AV.int .i64 r.hands, .int .i64 r.skill, .int .i64 r.mn, .int .i64 r.mx, .list .no 2 (r.sets.map Sg.av), .list .no 6 (r.ents.map Tn.av), .list .no 1 ((entsL r).map ints1)]])) a = some (.map (mapX (explR r (entsL r)))) := by
   have := hgetA (l := [AObj.cells (r.wcells (entsL r))]) hm; simpa [Ros.wcells] using this
  generalize explR r (entsL r) = L at *
  have hml : (mapX L).length = L.length := by simp [mapX]
  simp -implicitDefEqProofs (maxSteps:=9^9) (disch:=omega) only [go_sem, simprocAttr, hm1, hml]
  obtain ⟨J, hJ⟩ : ∃ J, AObj.cells [.int .i64 r.hands, .int .i64 r.skill, .int .i64 r.mn, .int .i64 r.mx, .list .no 2 (r.sets.map Sg.av), .list .no 6 (r.ents.map Tn.av)] :: (j ++ [AObj.cells [AV.int .i64 r.hands, .int .i64 r.skill, .int .i64 r.mn, .int .i64 r.mx, .list .no 2 (r.sets.map Sg.av), .list .no 6 (r.ents.map Tn.av), .list .no 1 ((entsL r).map ints1)]]) = J := ⟨_, rfl⟩
  obtain ⟨σ1, hσ1⟩ : ∃ σ1, σ1 = σ ++ J := ⟨_, rfl⟩
  have e1 : ∀ it, σ ++ AObj.cells [.int .i64 r.hands, .int .i64 r.skill, .int .i64 r.mn, .int .i64 r.mx, .list .no 2 (r.sets.map Sg.av), .list .no 6 (r.ents.map Tn.av)] :: (j ++ [AObj.cells [AV.int .i64 r.hands, .int .i64 r.skill, .int .i64 r.mn, .int .i64 r.mx, .list .no 2 (r.sets.map Sg.av), .list .no 6 (r.ents.map Tn.av), .list .no 1 ((entsL r).map ints1)], it]) = σ1 ++ [it] := fun it => by rw [hσ1, ← hJ]; simp
  have e2 : σ.length + (j.length + 1 + 1) = σ1.length := by rw [hσ1, ← hJ]; simp
  rw [e1, e2]
  rw [hJ, ← hσ1] at hm1
  have hσf : ∀ l, ∃ junk, σ1 ++ l = σ ++ junk := fun l => ⟨J ++ l, by rw [hσ1, List.append_assoc]⟩
  have hσl : σ.length ≤ σ1.length := by rw [hσ1]; simp
  have hr2 : ∀ l, hget (σ1 ++ l) σ.length = some (.cells [.int .i64 r.hands, .int .i64 r.skill, .int .i64 r.mn, .int .i64 r.mx, .list .no 2 (r.sets.map Sg.av), .list .no 6 (r.ents.map Tn.av)]) := fun l => by rw [hσ1, ← hJ, List.append_assoc]; exact hget_at0
  have hr3 : ∀ l, hget (σ1 ++ l) (σ.length + (j.length + 1)) = some (.cells (r.wcells (entsL r))) := fun l => by rw [hσ1, ← hJ, List.append_assoc, hget_at]; simp [Ros.wcells]
  simp only [Ros.wcells] at hr3
  clear e1 e2 hJ hm ha hσ1
  have hm2 : ∀ l, hget (σ1 ++ l) a = some (.map (mapX L)) := fun l => hgetA hm1
  generalize σ.length + (j.length + 1) = wp at hr3 ⊢
  generalize entsL r = ds at *
  refine ARun.loopJ (Tryz.envOK (S := SBes) 53 (fun _ => ([], [])) fs407 fs407_ok) (α := List Nat) (fun a => L.length - a.length) (fun seen τ => (∃ j, τ = σ1 ++ (.iter (some a) L.length seen :: j)) ∧ seen.Nodup ∧ ∀ i ∈ seen, i < L.length) (fun seen => [(10, .int .u64 (tunS r ds (seen.map fun i => L.getD i []) e.toNat))]) [] (by kernel_rfl) (by simp [upd, ins, subF, lookA, tunS, bitsOf]) ⟨⟨[], by simp⟩, by simp, by simp⟩ ?_
  rintro seen τ ⟨⟨j, rfl⟩, hnd', hlt⟩ ih
  have hsl := seen_len hnd' hlt
  simp -implicitDefEqProofs (maxSteps:=9^9) (disch:=omega) only [go_sem, simprocAttr]
  refine nextA_intro (q := a) (c := L.length) (seen := seen) (es := mapX L) (by rw [hget_at0]; rfl) (hm2 _) hml.symm (fun i2 k v hi2 hns => ?_) (fun hall => ?_)
  ·obtain ⟨x, hx, hkv⟩ : ∃ x, L[i2]? = some x ∧ (rtv x, AV.bool true) = (k, v) := by simpa [mapX] using hi2
   simp only [Prod.mk.injEq] at hkv
   obtain ⟨rfl, rfl⟩ := hkv
   have hil := (List.getElem?_eq_some_iff.1 hx).1
   have hxm : x ∈ L := List.mem_of_getElem? hx
   have hok := hokL x hxm
   have hgd : L.getD i2 [] = x := by rw [List.getD_eq_getElem?_getD, hx]; rfl
   have hgl : (seen ++ [i2]).getLast? = some i2 := by simp
   have hnd2 : (seen ++ [i2]).Nodup := by
    rw [List.nodup_append]
    exact ⟨hnd', by simp, fun a ha b hb e => by simp at hb; subst hb; exact hns (e ▸ ha)⟩
   have hlt2 : ∀ i ∈ seen ++ [i2], i < L.length := fun i hi => by
    rcases List.mem_append.1 hi with hi | hi
    ·exact hlt i hi
    ·simp at hi; omega
   have hsl2 := seen_len hnd2 hlt2
   rw [List.length_append, List.length_singleton] at hsl2
   have ih2 := ih (seen ++ [i2])
   have hmm : (seen ++ [i2]).map (fun i => L.getD i []) = seen.map (fun i => L.getD i []) ++ [x] := by rw [List.map_append]; simp only [List.map_cons, List.map_nil, hgd]
   rw [hmm, ← tunP_all] at ih2
   rw [← tunP_zero (x := x)]
   generalize (seen.map fun i => L.getD i []) = X at ih2 ⊢
   have hxl := hok.len
   have hbx := hby x hok
   obtain ⟨b, c, e2, f, hxe⟩ := len4 hok.len
   have hi3 : (mapX L)[i2]? = some (.agg [.int .i64 b, .int .i64 c, .int .i64 e2, .int .i64 f], .bool true) := by rw [hi2, hxe]; rfl
   have hxx : [AV.int .i64 b, .int .i64 c, .int .i64 e2, .int .i64 f] = x.map (AV.int .i64) := by rw [hxe]; rfl
   rw [hxx] at hi3
   have hput : putAt 0 (x.map (AV.int .i64)) [.int .i64 0, .int .i64 0, .int .i64 0, .int .i64 0] = x.map (AV.int .i64) := by rw [hxe]; rfl
   simp -implicitDefEqProofs (maxSteps:=9^9) (disch:=omega) only [go_sem, simprocAttr, hm2, hgl, hi3, hml, hput, hr2, hr3]
   have e1 : ∀ q, σ1 ++ AObj.iter (some a) L.length (seen ++ [i2]) :: (j ++ q) = (σ1 ++ AObj.iter (some a) L.length (seen ++ [i2]) :: j) ++ q := fun q => by simp
   refine ARun.forS (Tryz.envOK (S := SBes) 53 (fun _ => ([], [])) fs407 fs407_ok) r.hands.toNat (fun _ => True) (fun n => [(10, .int .u64 (tunP r ds X x e.toNat n)), (39, .int .i64 n)]) (fun _ _ => σ1 ++ AObj.iter (some a) L.length (seen ++ [i2]) :: (j ++ [.cells (x.map (.int .i64))])) [] (by kernel_rfl) rfl (by simp [upd, ins, subF, lookA]) trivial ?_ ?_
   ·intro n jn hn _ ihn
    have hbn := hbx n (by omega)
    have hnl : ((n : Int) < r.hands) = True := eq_true (by omega)
    have hwn : IntKind.i64.wrap ((n : Int) + 1) = ((n + 1 : Nat) : Int) := by rw [wrap64 (by omega) (by omega)]; rfl
    have hlt3 := @tunP_lt r ds X x e.toNat n
    rw [tunP_succ (by omega) (by omega)] at ihn
    generalize tunP r ds X x e.toNat n = B at hlt3 ihn ⊢
    rw [hwav] at hbn
    simp only [Ros.wcells, rtv] at hbn
    simp -implicitDefEqProofs (maxSteps:=9^9) (disch:=omega) only [go_sem, simprocAttr, hnl, hr2, hr3]
    refine hbn _ _ ?_
    cases hb : byB r ds x e.toNat n
    ·rw [hb] at ihn
     simp -implicitDefEqProofs (maxSteps:=9^9) (disch:=omega) only [go_sem, simprocAttr, hnl, hwn]
     exact (ihn trivial []).castS rfl (by simp [upd, ins, subF, lookA])
    ·rw [hb] at ihn
     simp -implicitDefEqProofs (maxSteps:=9^9) (disch:=omega) only [go_sem, simprocAttr, hnl, hwn]
     exact (ihn trivial []).castS rfl (by simp [upd, ins, subF, lookA])
   ·intro jn _
    have hnl : (((r.hands.toNat : Nat) : Int) < r.hands) = False := eq_false (by omega)
    simp -implicitDefEqProofs (maxSteps:=9^9) (disch:=omega) only [go_sem, simprocAttr, hnl, hr2, hr3]
    exact (ih2 _ (by rw [List.length_append, List.length_singleton]; omega) ⟨⟨j ++ [.cells (x.map (.int .i64))], rfl⟩, hnd2, hlt2⟩).castS rfl (by simp [upd, ins, subF, lookA])
  ·have hall' : ∀ i, i < L.length → i ∈ seen := fun i hi => hall i (by rw [hml]; exact hi)
   have hps := seen_perm ([] : List Int) hnd' hlt hall'
   rw [tunS_perm hps]
   simp -implicitDefEqProofs (maxSteps:=9^9) (disch:=omega) only [go_sem, simprocAttr]
   refine list_p _ (bitsOf_lt _ 4) _ _ ?_
   simp -implicitDefEqProofs (maxSteps:=9^9) (disch:=omega) only [go_sem, simprocAttr, ints1]
   exact ⟨hσf _, ⟨rfl, .inl rfl, .inl rfl⟩, rfl, trivial⟩
 ·have hE : entE' r e = 3 := if_neg he
  have he' : decide (0 ≤ e ∧ e ≤ (r.ents.length : Int) - 1) = false := decide_eq_false he
  unfold tunersL tunersE
  rw [hE]
  simp -implicitDefEqProofs (maxSteps:=9^9) (disch:=omega) only [go_sem, simprocAttr, hw, he']
  refine ACalls.weaken (l' := [r.av, .list .no 1 (([3] : List Int).map (.int .i64))]) ⟨⟨rfl, rfl, rfl, rfl, ⟨rfl, .inl rfl, .inl rfl⟩, ⟨rfl, .inl rfl, .inl rfl⟩, trivial⟩, ⟨rfl, .inl rfl, .inl rfl⟩, trivial⟩ ?_
  refine known_c r hf [3] (by simp) (fun hK j => ?_) (fun hO hg a j ha hm => ?_)
  ·have hK' : (knownE r [3] = 0) = False := eq_false hK
   rw [if_neg hK]
   simp -implicitDefEqProofs (maxSteps:=9^9) (disch:=omega) only [go_sem, simprocAttr, hK', rosZ]
   exact ⟨rfl, .inr rfl, .inl rfl⟩
  ·exact absurd (known_ws hO 3 (by simp)) (by decide)
end Go.Proofs
namespace Go.Proofs
open Go Go.Mu Go.Ins
variable {S : MC Tryz.prog}
end Go.Proofs
namespace Go.Proofs
open Go Go.Mu Go.Ins
def driftT (rates : List Int) : List Int := ((List.range rates.length).filter fun (h : Nat) => decide (tg rates h ≠ 0)).map fun (h : Nat) => (h : Int)
theorem range4 : ∀ n, n < 5 → List.range 4 = List.range n ++ (List.range (4 - n)).map (n + ·) := by decide
theorem tg_big {rates : List Int} {i : Nat} (hi : rates.length ≤ i) : tg rates i = 0 := by
 unfold tg; rw [Int.toNat_natCast, List.getD_eq_getElem?_getD, List.getElem?_eq_none hi]; rfl
theorem driftT_eq {rates : List Int} (hl : rates.length ≤ 4) : driftT rates = listN (driftN (padR rates)) := by
 have hb : ∀ i, i < 4 → (driftN (padR rates)).testBit i = decide (tg rates i ≠ 0) := fun i hi => by
  unfold driftN; rw [bitsOf_test, padR_tg]; simp [hi]
 unfold driftT listN
 rw [range4 rates.length (by omega), List.filter_append]
 have h2 : ((List.range (4 - rates.length)).map (rates.length + ·)).filter (fun n => (driftN (padR rates)).testBit n) = [] := by
  rw [List.filter_eq_nil_iff]
  intro i hi
  obtain ⟨k, hk, rfl⟩ := List.mem_map.1 hi
  have := List.mem_range.1 hk
  rw [hb _ (by omega), tg_big (by omega)]; simp
 rw [h2, List.append_nil]
 congr 1
 refine List.filter_congr fun i hi => ?_
 have := List.mem_range.1 hi
 rw [hb i (by omega)]
theorem listN_asc (s : Nat) : (listN s).Pairwise (· < ·) := by
 unfold listN
 rw [List.pairwise_map]
 exact (List.pairwise_lt_range.filter _).imp fun {a b} h => by omega
theorem listN_pop : ∀ s, s < 16 → (listN s).length = popN s := fun s hs => by
 rw [← popF_eq _ (by omega)]
 exact (hcomb_mem (comb_set2 4 (by omega) s hs).1).1
theorem popN_le : ∀ n s, s < 2 ^ n → popN s ≤ n := by
 intro n
 induction n with
 | zero =>
  intro s hs; have : s = 0 := by simpa using hs
  subst this; rw [popN_zero]; omega
 | succ n ih =>
  intro s hs
  rw [popN_step]
  have := ih (s / 2) (by rw [Nat.pow_succ] at hs; omega)
  omega
theorem TrueR.fewest {H E w : Int} {r : Ros} {rates by_ : List Int} (h : TrueR H E w r rates by_) (hH : H ≤ 4) (hE : E ≤ 5) (hw : 0 ≤ w ∧ w ≤ 10) :
  htruthsR r (entsL r) (setN (driftT rates)) ≠ [] ∧ (∀ x ∈ driftT rates, 0 ≤ x ∧ x < r.hands) ∧ (driftT rates).Pairwise (· < ·) ∧
   ∃ m, fewL r ≠ [] ∧ (∀ x ∈ fewL r, x.length = m) ∧ m ≤ (driftT rates).length ∧ (m = (driftT rates).length → padR rates ∈ explR r (entsL r)) := by
 have h1 := h.hands
 have hrl := h.rl
 have hg := Ros.good_of (h.head hH hE) (h.entE hw)
 have hro := h.ro hH hE hw
 have hk := h.known hH hE hw (ws := []) rfl
 obtain ⟨t1, t2⟩ := h.truth hH hE hw
 have e := driftT_eq (rates := rates) (by omega)
 have hs16 := driftN_lt (padR rates)
 have hset : setN (driftT rates) = driftN (padR rates) := by rw [e]; exact list_set _ hs16
 have hlen : (driftT rates).length = popN (driftN (padR rates)) := by rw [e]; exact listN_pop _ hs16
 have hpl := popN_le _ _ t2
 have hm0 := (foundR_mem hg.toHead (m := popN (driftN (padR rates))) (ds := entsL r)).2 ⟨_, t2, rfl, t1⟩
 refine ⟨by rw [hset]; exact List.ne_nil_of_mem t1, fun x hx => ?_, by rw [e]; exact listN_asc _, ?_⟩
 ·unfold driftT at hx
  obtain ⟨n, hn, rfl⟩ := List.mem_map.1 hx
  have := List.mem_range.1 (List.mem_filter.1 hn).1
  omega
 ·rcases explR_spec r (entsL r) with ⟨he, _⟩ | ⟨m, g1, g2, g3, g4⟩
  ·exact absurd he (explR_ne hk)
  ·have d1 : hdue r m ≠ [] := fun c => g3 ((found_due hg.toHead g1).2 c)
   have d0 : ∀ j, j < m → hdue r j = [] := fun j hj => (found_due hg.toHead (by omega)).1 (g4 j hj)
   have hf := (fewL_some hg hro g1 d1 d0).2
   refine ⟨m, by rw [hf]; exact d1, fun x hx => hdue_len (by rw [← hf]; exact hx), ?_, fun hme => ?_⟩
   ·rw [hlen]
    refine Nat.le_of_not_lt fun c => ?_
    rw [g4 _ c] at hm0; simp at hm0
   ·rw [hlen] at hme
    exact (explR_iff g2).2 (by rw [hme]; exact hm0)
theorem conv_right {r : Ros} {rates : List Int} (hk : knownE r [] = 0) (hx : padR rates ∈ explR r (entsL r)) {h : Nat} (hh : h < 4) :
  convV (fewL r) h = 3 ∨ (convV (fewL r) h = 1 ∧ tg rates h ≠ 0) ∨ (convV (fewL r) h = 2 ∧ tg rates h = 0) := by
 have e : fewL r = setsL (explR r (entsL r)) := if_pos hk
 have hm : listN (driftN (padR rates)) ∈ fewL r := by rw [e]; exact mem_setsL.2 ⟨_, hx, rfl⟩
 have hd : (h : Int) ∈ listN (driftN (padR rates)) ↔ tg rates h ≠ 0 := by rw [mem_drift hh, padR_tg]
 unfold convV
 by_cases c1 : cntL (fewL r) h = (fewL r).length
 ·rw [if_pos c1]
  refine .inr (.inl ⟨rfl, hd.1 ?_⟩)
  unfold cntL at c1
  have := List.filter_eq_self.1 (List.filter_sublist.eq_of_length c1) _ hm
  rwa [List.contains_iff_mem] at this
 ·rw [if_neg c1]
  by_cases c2 : cntL (fewL r) h = 0
  ·rw [if_pos c2]
   refine .inr (.inr ⟨rfl, ?_⟩)
   unfold cntL at c2
   rw [List.length_eq_zero_iff, List.filter_eq_nil_iff] at c2
   have := c2 _ hm
   rw [List.contains_iff_mem, hd] at this
   exact Classical.byContradiction this
  ·rw [if_neg c2]; exact .inl rfl
theorem TrueR.tuner {H E w : Int} {r : Ros} {rates by_ : List Int} (h : TrueR H E w r rates by_) (hH : H ≤ 4) (hE : E ≤ 5) (hw : 0 ≤ w ∧ w ≤ 10) (hx : padR rates ∈ explR r (entsL r)) {i : Nat} (hi : i < by_.length) :
  tunersE r i = 0 ∧ by_[i] ∈ tunersL r i := by
 have h1 := h.hands
 have hbl := h.bl
 have hT := h.ent i (by omega) hi
 have hb := hT.by_in
 have hE0 : tunersE r i = 0 := by
  unfold tunersE
  rw [show entE' r i = 0 from if_pos ⟨by omega, by omega⟩]
  exact h.known hH hE hw rfl
 refine ⟨hE0, ?_⟩
 unfold tunersL
 rw [if_pos hE0, Int.toNat_natCast]
 have hbn : ((by_[i].toNat : Nat) : Int) = by_[i] := by omega
 rw [← hbn, mem_listN (by omega)]
 unfold tunS
 rw [bitsOf_test, decide_eq_true (show by_[i].toNat < 4 by omega), decide_eq_true (show ((by_[i].toNat : Nat) : Int) < r.hands by omega), Bool.true_and, Bool.true_and, List.any_eq_true]
 refine ⟨_, hx, ?_⟩
 rw [hbn]
 obtain ⟨_, d, hd, e1, e2⟩ := trueT_chk hT hw h.skill
 unfold byB
 have hi' : i < r.ents.length := by omega
 have hgd : r.ents.getD i default = r.ents[i] := by simp [List.getD, List.getElem?_eq_getElem hi']
 have hgs : (entsL r).getD i [] = (chkE r.ents[i] r.hands).1 := by
  unfold entsL; simp [List.getD, List.getElem?_eq_getElem hi']
 rw [hgd, hgs, if_neg (by rcases hT.hand with g | g <;> omega), List.any_eq_true]
 have ho : offX r (padR rates) by_[i] r.ents[i].day = offX r rates by_[i] r.ents[i].day := by unfold offX; rw [padR_tg]
 exact ⟨d, hd, decide_eq_true (by rw [ho]; exact ⟨e1, e2⟩)⟩
theorem true_rate {r : Ros} {rates : List Int} (hh : 1 ≤ r.hands ∧ r.hands ≤ 4) (hk : knownE r [] = 0) (hx : padR rates ∈ explR r (entsL r)) {h : Nat} (hi : (h : Int) < r.hands) (hz : tg rates h ≠ 0) :
  ratesE r h = 0 ∧ tg rates h ∈ ratesU r h := by
 have h1 : knownE r [isHandE r.hands h] = 0 := known_more hk (by rw [isHand_of hh hi]; rfl)
 have hm : tg rates h ∈ ratesU r h := (ratesU_mem h1).2 ⟨hz, _, hx, padR_tg _ _⟩
 refine ⟨Classical.byContradiction fun c => ?_, hm⟩
 rw [show ratesU r h = [] from if_neg c] at hm
 simp at hm
theorem true_errs {r : Ros} {rates : List Int} (hg : r.Good) (hx : padR rates ∈ explR r (entsL r)) {h d : Int} (hd : 0 ≤ d ∧ d ≤ 60) :
  (errsL r (explR r (entsL r)) h d).1 ≤ offX r rates h d ∧ offX r rates h d ≤ (errsL r (explR r (entsL r)) h d).2 := by
 have := (errF_ends (f := fun x => offX r x h d) (explR r (entsL r)) (100000, -100000)).2.2.1 _ hx
 have e : offX r (padR rates) h d = offX r rates h d := by unfold offX; rw [padR_tg]
 rw [e] at this
 exact this
end Go.Proofs
namespace Go.Proofs
open Go Go.Mu Go.Ins
variable {S : MC Tryz.prog}
end Go.Proofs
namespace Go.Proofs
open Go Go.Mu Go.Ins
end Go.Proofs
namespace Go.Proofs
open Go Go.Mu Go.Ins
variable {S : MC Tryz.prog}
theorem hplace_p (l : List Int) (x : Int) (hl : l.length ≤ 1000000) : PureV S 24 [.list .no 1 (l.map (.int .i64)), .int .i64 x] (.int .i64 (hplaceL l x)) := by
 refine PvE (Tryz.envOK (S := S) 19 (fun _ => ([], [])) fs0 fs0_ok) (.int) Tryz.kp24 Tryz.func24 rfl ?_
 intro σ
 simp -implicitDefEqProofs (maxSteps:=9^9) (disch:=omega) only [go_sem, simprocAttr]
 refine ARun.forS (Tryz.envOK (S := S) 19 (fun _ => ([], [])) fs0 fs0_ok) l.length (fun i => x ∉ l.take i) (fun i => [(5, .int .i64 i)]) (fun _ _ => σ) [] (by kernel_rfl) rfl (by simp [upd, ins, subF, lookA]) (by simp) ?_ ?_
 ·intro i j hi hp ih
  have hli : idx (l.map (AV.int .i64)) (i : Int) = some (.int .i64 l[i]) := by rw [idx_nat hi]
  have hat := hplace_at (x := x) hi hp
  have hns := hnotin_succ (x := x) hi hp
  generalize l[i] = y at hli hat hns
  clear hp
  by_cases hy : y = x
  ·rw [hat hy]
   have hy' : (y = x) = True := eq_true hy
   simp -implicitDefEqProofs (maxSteps:=9^9) (disch:=omega) only [go_sem, simprocAttr, hli, hy']
  ·have hy' : (y = x) = False := eq_false hy
   simp -implicitDefEqProofs (maxSteps:=9^9) (disch:=omega) only [go_sem, simprocAttr, hli, hy']
   exact (ih (hns hy) []).castS rfl (by simp [upd, ins, subF, lookA])
 ·intro j hp
  rw [List.take_length] at hp
  have : hplaceL l x = -1 := by unfold hplaceL; rw [if_neg hp]
  rw [this]
  simp -implicitDefEqProofs (maxSteps:=9^9) (disch:=omega) only [go_sem, simprocAttr]
end Go.Proofs
