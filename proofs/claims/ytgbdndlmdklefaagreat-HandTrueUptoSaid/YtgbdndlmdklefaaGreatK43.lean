/- Texts of a proof: lemmas. -/
import Derived.Test.YtgbdndlmdklefaaGreatK42
import Derived.Test.YtgbdndlmdklefaaGreatK38
set_option linter.unusedSimpArgs false
set_option linter.unusedVariables false
set_option maxRecDepth 100000
set_option maxHeartbeats 40000000
namespace Go.Proofs
open Go Go.Mu Go.Ins
def hreG (E : Env) (fr : Fr) (σ : List AObj) (d : Tmp) (op : Op) (want : Bool) : Option AV → Prop
 | some (.bool b) => b = want → give2 (fun v _ => fr.get d = some v) (hop E.ty fr σ op)
 | some (.tup []) => True
 | _ => False
theorem hreG_ff {E : Env} {fr : Fr} {σ : List AObj} {d : Tmp} {op : Op} : hreG E fr σ d op false (some (.bool false)) = give2 (fun v _ => fr.get d = some v) (hop E.ty fr σ op) := by simp [hreG]
theorem hreG_tup {E : Env} {fr : Fr} {σ : List AObj} {d : Tmp} {op : Op} {want : Bool} : hreG E fr σ d op want (some (.tup [])) = True := rfl
theorem hreOK_guardA {E : Env} {all : List Oper} {fr : Fr} {σ : List AObj} {d : Tmp} {op : Op} {type : TypeId} {pos : String} {after : Array Edge} {j : Nat} {want : Bool} : reOK E all fr σ (some ⟨some d, op, type, pos, after, some (j, want)⟩) = hreG E fr σ d op want (getO fr (dstOf all j)) := by
 have hd : dstOf all j = (all[j]?).bind (·.dst) := (dstOf_eq all j).symm
 simp only [reOK, wantA, hd]
 cases (all[j]?).bind (·.dst) with
 | none => simp [getO, hreG]
 | some t =>
  simp only [getO]
  cases fr.get t with
  | none => simp [hreG]
  | some v =>
   cases v with
   | bool b =>
    simp only [hreG]
    cases hb : b == want with
    | true =>
     have : b = want := by simpa using hb
     simp only [this, true_implies]
     cases hop E.ty fr σ op with
     | none => rfl
     | some q => rfl
    | false =>
     have : ¬ b = want := by simpa using hb
     simp [this]
   | tup l => cases l <;> simp [hreG]
   | _ => simp [hreG]
attribute [go_sem] hreG_ff hreG_tup hreOK_guardA
theorem hright_p (v : Int) (b : Bool) : PureV SBes 71 [.int .i64 v, .bool b] (.bool (decide (v = 3 ∨ (v = 1 ∧ b = true) ∨ (v = 2 ∧ b = false)))) := by
 refine PvE (Tryz.envOK (S := SBes) 22 (fun _ => ([], [])) fs0 fs0_ok) (.bool) Tryz.kp71 Tryz.func71 rfl ?_
 intro σ
 by_cases h3 : v = 3
 ·have h3' : (v = 3) = True := eq_true h3
  simp -implicitDefEqProofs (maxSteps:=9^9) (disch:=omega) only [go_sem, simprocAttr, h3']
 ·have h3' : (v = 3) = False := eq_false h3
  by_cases h1 : v = 1
  ·have h1' : (v = 1) = True := eq_true h1
   have h2' : (v = 2) = False := eq_false (by omega)
   cases b
   ·simp -implicitDefEqProofs (maxSteps:=9^9) (disch:=omega) only [go_sem, simprocAttr, h3', h1', h2']
   ·simp -implicitDefEqProofs (maxSteps:=9^9) (disch:=omega) only [go_sem, simprocAttr, h3', h1', h2']
  ·have h1' : (v = 1) = False := eq_false h1
   by_cases h2 : v = 2
   ·have h2' : (v = 2) = True := eq_true h2
    cases b
    ·simp -implicitDefEqProofs (maxSteps:=9^9) (disch:=omega) only [go_sem, simprocAttr, h3', h1', h2']
    ·simp -implicitDefEqProofs (maxSteps:=9^9) (disch:=omega) only [go_sem, simprocAttr, h3', h1', h2']
   ·have h2' : (v = 2) = False := eq_false h2
    simp -implicitDefEqProofs (maxSteps:=9^9) (disch:=omega) only [go_sem, simprocAttr, h3', h1', h2']
def hright_s := spec2 tI tB fun v b => some (.bool (decide (v = 3 ∨ (v = 1 ∧ b = true) ∨ (v = 2 ∧ b = false))))
theorem hright_ok : ∀ xs v, hright_s xs = some v → PureV SBes 71 xs v :=
 spec2_ok fun x y v h => by simp only [Option.some.injEq] at h; rw [← h]; exact hright_p x y
theorem hIn_p (w : Rng) (n : Int) : PureV SBes 72 [w.av, .int .i64 n] (.bool (decide (w.lo ≤ n ∧ n ≤ w.hi))) := by
 refine PvE (Tryz.envOK (S := SBes) 15 (fun _ => ([], [])) fs0 fs0_ok) (.bool) Tryz.kp72 Tryz.func72 rfl ?_
 intro σ
 simp only [Rng.av]
 simp -implicitDefEqProofs (maxSteps:=9^9) (disch:=omega) only [go_sem, simprocAttr]
 exact ⟨fun h1 => by simp [*], fun h1 => by simp [*]⟩
def hIn_s := spec2 tRng tI fun w n => some (.bool (decide (w.lo ≤ n ∧ n ≤ w.hi)))
theorem hIn_ok : ∀ xs v, hIn_s xs = some v → PureV SBes 72 xs v :=
 spec2_ok fun x y v h => by simp only [Option.some.injEq] at h; rw [← h]; exact hIn_p x y
theorem hwider_p (x y : Rng) : PureV SBes 73 [x.av, y.av] (.bool (decide (x.lo ≤ y.lo ∧ y.hi ≤ x.hi))) := by
 refine PvE (Tryz.envOK (S := SBes) 17 (fun _ => ([], [])) fs0 fs0_ok) (.bool) Tryz.kp73 Tryz.func73 rfl ?_
 intro σ
 simp only [Rng.av]
 simp -implicitDefEqProofs (maxSteps:=9^9) (disch:=omega) only [go_sem, simprocAttr]
 exact ⟨fun h1 => ⟨fun h2 => by simp [*], fun h2 => by simp [*]⟩, fun h1 => by simp [*]⟩
def hwider_s := spec2 tRng tRng fun x y => some (.bool (decide (x.lo ≤ y.lo ∧ y.hi ≤ x.hi)))
theorem hwider_ok : ∀ xs v, hwider_s xs = some v → PureV SBes 73 xs v :=
 spec2_ok fun x y v h => by simp only [Option.some.injEq] at h; rw [← h]; exact hwider_p x y
def fs430 (f : FuncId) (xs : List AV) : Option AV := if f = 71 then hright_s xs else if f = 72 then hIn_s xs else if f = 73 then hwider_s xs else fs408 f xs
theorem fs430_ok : ∀ f xs v, fs430 f xs = some v → PureV SBes f xs v := by
 intro f xs v h
 unfold fs430 at h
 split at h
 ·rename_i e; subst e; exact hright_ok _ _ h
 split at h
 ·rename_i e; subst e; exact hIn_ok _ _ h
 split at h
 ·rename_i e; subst e; exact hwider_ok _ _ h
 exact fs408_ok _ _ _ h
attribute [go_sem] fs430 hright_s hIn_s hwider_s
def driftK (rates : List Int) (n : Nat) : List Int := ((List.range n).filter fun (h : Nat) => decide (tg rates h ≠ 0)).map fun (h : Nat) => (h : Int)
theorem driftK_succ {rates : List Int} {n : Nat} : driftK rates (n + 1) = driftK rates n ++ if tg rates n = 0 then [] else [(n : Int)] := by
 unfold driftK
 rw [List.range_succ, List.filter_append, List.map_append]
 congr 1
 by_cases h : tg rates n = 0 <;> simp [h]
theorem tg_idx {rates : List Int} {i : Nat} (hi : i < rates.length) : idx (rates.map (AV.int .i64)) (i : Int) = some (.int .i64 (tg rates i)) := by
 rw [idx_nat hi]
 unfold tg
 rw [Int.toNat_natCast, List.getD_eq_getElem?_getD, List.getElem?_eq_getElem hi]; rfl
theorem idx0t (a : AV) (l : List AV) : idx (a :: l) 0 = some a := rfl
theorem hdrift_p (rates by_ : List Int) (hl : rates.length ≤ 1000000) : PureV SBes 67 [truAV rates by_] (ints1 (driftT rates)) := by
 refine PvE (Tryz.envOK (S := SBes) 23 (fun _ => ([], [])) fs0 fs0_ok) (Plain.ints) Tryz.kp67 Tryz.func67 rfl ?_
 intro σ
 simp only [truAV, ints1]
 simp -implicitDefEqProofs (maxSteps:=9^9) (disch:=omega) only [go_sem, simprocAttr]
 refine ARun.ghost 3 1 (sz0 := 0) rfl (by simp [lookA]) ?_
 simp only [ins, ↓reduceIte, Nat.reduceEqDiff, List.append_assoc, List.cons_append, List.nil_append, List.length_append, List.length_cons, List.length_nil, Nat.zero_add]
 refine ARun.forS (Tryz.envOK (S := SBes) 23 (fun _ => ([], [])) fs0 fs0_ok) rates.length (fun _ => True) (fun i => [(3, .list (.own (σ.length + 1)) 1 ((driftK rates i).map (.int .i64))), (4, .int .i64 i)]) (fun i _ => σ ++ [.cells [.list .no 1 (rates.map (.int .i64)), .list .no 1 (by_.map (.int .i64))], .tail (driftK rates i).length 1]) [] (by kernel_rfl) (by simp [driftK]) (by simp [upd, ins, subF, lookA, driftK]) trivial ?_ ?_
 ·intro i j hi _ ih
  have hcl : (driftK rates i).length ≤ i := by unfold driftK; rw [List.length_map]; exact Nat.le_trans (List.length_filter_le _ _) (by simp)
  have hidx : idx (rates.map (AV.int .i64)) (i : Int) = some (.int .i64 (tg rates i)) := tg_idx hi
  have hwi : IntKind.i64.wrap ((i : Int) + 1) = ((i + 1 : Nat) : Int) := by rw [wrap64 (by omega) (by omega)]; rfl
  rw [driftK_succ] at ih
  generalize driftK rates i = C at hcl ih ⊢
  by_cases hz : tg rates i = 0
  ·have hz' : (tg rates i = 0) = True := eq_true hz
   rw [if_pos hz, List.append_nil] at ih
   simp -implicitDefEqProofs (maxSteps:=9^9) (disch:=omega) only [go_sem, simprocAttr, hidx, hz', hwi]
   exact (ih trivial []).castS rfl (by simp [upd, ins, subF, lookA])
  ·have hz' : (tg rates i = 0) = False := eq_false hz
   rw [if_neg hz] at ih
   simp -implicitDefEqProofs (maxSteps:=9^9) (disch:=omega) only [go_sem, simprocAttr, hidx, hz', hwi]
   exact (ih trivial []).castS (by simp) (by simp [upd, ins, subF, lookA])
 ·intro j _
  have e : driftK rates rates.length = driftT rates := rfl
  rw [e]
  simp -implicitDefEqProofs (maxSteps:=9^9) (disch:=omega) only [go_sem, simprocAttr]
theorem ratesU_len (r : Ros) (hg : r.Good) (h : Int) : (ratesU r h).length ≤ 1000000 := by
 unfold ratesU; split
 ·unfold compactN Lib.compactUpTo
  rw [List.length_map]
  refine Nat.le_trans (List.length_filter_le _ _) ?_
  rw [List.length_range, (isort_perm (le := leI) _).length_eq]
  have h1 := ratesOf_len (L := explR r (entsL r)) (h := h)
  have h2 := explR_len hg.toHead (ds := entsL r)
  omega
 ·simp
theorem handTrue_law (l : List Int) (hl : l.length ≤ 4294967296) (σ : List AObj) : ACalls SBes 15 [.list .no 1 (l.map (.int .i64))] σ fun v _ => v = .bool true := by
 refine AcE (Tryz.envOK (S := SBes) 220 Tryz.ord15 fs430 fs430_ok) Tryz.kp15 Tryz.func15 rfl ?_
 simp -implicitDefEqProofs (maxSteps:=9^9) (disch:=omega) only [go_sem, simprocAttr]
 refine newPot_c l .no hl σ _ fun s1 j1 => ?_
 obtain ⟨τ, hτ⟩ : ∃ τ, τ = σ ++ (AObj.cells [.int .u64 s1] :: j1) := ⟨_, rfl⟩
 have hp : PotAt τ σ.length := ⟨s1, by rw [hτ]; exact hget_at0⟩
 rw [← hτ]
 obtain ⟨p, hpe⟩ : ∃ p, p = σ.length := ⟨_, rfl⟩
 rw [← hpe] at hp ⊢
 clear hτ hpe
 have hpl := hp.lt1
 simp -implicitDefEqProofs (maxSteps:=9^9) (disch:=omega) only [go_sem, simprocAttr]
 refine rosterOf_c p 4 5 3 (by omega) (by omega) (by omega) τ hp _ fun s2 r rates by_ j2 hT => ?_
 simp only [Ros.av, truAV, ints1]
 simp -implicitDefEqProofs (maxSteps:=9^9) (disch:=omega) only [go_sem, simprocAttr, hlength_pw, hhget_pw0, hhget_pw, hhset_pw0, hhset_pw]
 refine upto_c p 20 (by omega) _ (hp.pw _).app1 _ fun s3 day d1 d2 => ?_
 rw [hpw_pwa hpl]
 have hday : 0 ≤ day ∧ day ≤ 20 := by omega
 clear d1 d2
 simp -implicitDefEqProofs (maxSteps:=9^9) (disch:=omega) only [go_sem, simprocAttr, hlength_pw, hhget_pw0, hhget_pw, hhset_pw0, hhset_pw]
 refine within_c p 500 2000 (by omega) (by omega) _ (hp.pw _).app1 _ fun s4 due d1 d2 => ?_
 rw [hpw_pwa hpl]
 have hdue : 500 ≤ due ∧ due ≤ 2000 := by omega
 clear d1 d2
 have hrl := hT.rl
 have hh := hT.hands
 have hbl := hT.bl
 have hel := hT.el
 have hsk := hT.skill
 have hfit := hT.fit (by omega)
 have hhd := hT.head (by omega) (by omega)
 have hen := hT.entE (by omega)
 have hgood := Ros.good_of hhd hen
 have hk0 := hT.known (by omega) (by omega) (by omega) (ws := []) rfl
 have hkn : ∀ ws, firstNZ ws = 0 → knownE r ws = 0 := fun ws => hT.known (by omega) (by omega) (by omega)
 obtain ⟨t1, t2, t3, m0, t4, t5, t6, t7⟩ := hT.fewest (by omega) (by omega) (by omega)
 have hru : ∀ n ∈ rates, -5 ≤ n ∧ n ≤ 5 := fun n hn => by
  have h1 := hT.mn; have h2 := hT.mx
  rcases hT.rate n hn with g | g <;> omega
 have hsl := hT.sl
 have htun := fun (hx : padR rates ∈ explR r (entsL r)) (i : Nat) (hi : i < by_.length) => hT.tuner (by omega) (by omega) (by omega) hx hi
 clear hT
 have hdl : (driftT rates).length ≤ 4 := by
  unfold driftT; rw [List.length_map]
  exact Nat.le_trans (List.length_filter_le _ _) (by simp; omega)
 have hH : (r.hands.toNat : Int) = r.hands := by omega
 have hr1 : ∀ j3, hget (pw τ p s4 ++ (j2 ++ (AObj.cells [.int .i64 r.hands, .int .i64 r.skill, .int .i64 r.mn, .int .i64 r.mx, .list .no 2 (r.sets.map Sg.av), .list .no 6 (r.ents.map Tn.av)] :: j3))) (τ.length + j2.length) = some (AObj.cells [.int .i64 r.hands, .int .i64 r.skill, .int .i64 r.mn, .int .i64 r.mx, .list .no 2 (r.sets.map Sg.av), .list .no 6 (r.ents.map Tn.av)]) := fun j3 => by rw [hhget_pw]; simp
 have hr3 : ∀ j3, hget (pw τ p s4 ++ (j2 ++ (AObj.cells [.int .i64 r.hands, .int .i64 r.skill, .int .i64 r.mn, .int .i64 r.mx, .list .no 2 (r.sets.map Sg.av), .list .no 6 (r.ents.map Tn.av)] :: AObj.cells [.list .no 1 (rates.map (.int .i64)), .list .no 1 (by_.map (.int .i64))] :: j3))) (τ.length + (j2.length + 1)) = some (AObj.cells [.list .no 1 (rates.map (.int .i64)), .list .no 1 (by_.map (.int .i64))]) := fun j3 => by rw [hhget_pw]; simp
 simp -implicitDefEqProofs (maxSteps:=9^9) (disch:=omega) only [go_sem, simprocAttr, hlength_pw, hhget_pw0, hhget_pw, hhset_pw0, hhset_pw]
 refine hdrift_p rates by_ (by omega) _ _ ?_
 simp -implicitDefEqProofs (maxSteps:=9^9) (disch:=omega) only [go_sem, simprocAttr, hlength_pw, hhget_pw0, hhget_pw, hhset_pw0, hhset_pw]
 refine explains_p r hfit hgood hhd hen (driftT rates) t2 (by omega) t3 _ _ ?_
 rw [decide_eq_true t1]
 simp -implicitDefEqProofs (maxSteps:=9^9) (disch:=omega) only [go_sem, simprocAttr, hlength_pw, hhget_pw0, hhget_pw, hhset_pw0, hhset_pw]
 refine fewest_p r hfit _ _ ?_
 rw [hk0]
 simp -implicitDefEqProofs (maxSteps:=9^9) (disch:=omega) only [go_sem, simprocAttr, hlength_pw, hhget_pw0, hhget_pw, hhset_pw0, hhset_pw]
 refine convicts_p r hfit _ _ ?_
 rw [hk0, show convL r = convF (fewL r) r.hands.toNat from if_pos hk0]
 have hright := fun hx (h : Nat) (hi : h < 4) => conv_right (rates := rates) hk0 hx hi
 obtain ⟨f0, Ft, hF⟩ := List.exists_cons_of_ne_nil t4
 rw [hF] at hright t5 ⊢
 have hf0 := t5 f0 (by simp)
 have hcl' : (convF (f0 :: Ft) r.hands.toNat).length = r.hands.toNat := by unfold convF; simp
 have hci : ∀ i : Nat, (i : Int) < r.hands → idx ((convF (f0 :: Ft) r.hands.toNat).map (AV.int .i64)) (i : Int) = some (.int .i64 (convV (f0 :: Ft) i)) := fun i hi => by
  rw [idx_nat (by rw [hcl']; omega)]
  simp [convF]
 have hcE : (((convF (f0 :: Ft) r.hands.toNat).map (AV.int .i64)).length : Int) = r.hands := by rw [List.length_map, hcl']; exact hH
 simp only [ints1, List.map_cons]
 generalize (convF (f0 :: Ft) r.hands.toNat).map (AV.int .i64) = CV at hci hcE ⊢
 have hle1 : ((driftT rates).length < f0.length) = False := eq_false (by omega)
 have hle2 : (((driftT rates).length : Int) < f0.length) = False := eq_false (by omega)
 by_cases hlt : f0.length < (driftT rates).length
 ·have hlt' : ((f0.length : Int) < (driftT rates).length) = True := eq_true (by omega)
  simp -implicitDefEqProofs (maxSteps:=9^9) (disch:=omega) only [go_sem, simprocAttr, hlength_pw, hhget_pw0, hhget_pw, hhset_pw0, hhset_pw, hr1, idx0t, hcE, hle2, hlt']
  refine steady_p _ _ ?_
  simp -implicitDefEqProofs (maxSteps:=9^9) (disch:=omega) only [go_sem, simprocAttr]
 ·have hlt' : ((f0.length : Int) < (driftT rates).length) = False := eq_false (by omega)
  simp -implicitDefEqProofs (maxSteps:=9^9) (disch:=omega) only [go_sem, simprocAttr, hlength_pw, hhget_pw0, hhget_pw, hhset_pw0, hhset_pw, hr1, idx0t, hcE, hle2, hlt']
  have hx := t7 (by omega)
  have hri := fun h hi => hright hx h hi
  have htu := htun hx
  have her := fun h => true_errs (h := h) (d := day) hgood hx ⟨by omega, by omega⟩
  have hra := fun (h : Nat) (hi : (h : Int) < r.hands) (hz : tg rates h ≠ 0) => true_rate ⟨by omega, by omega⟩ hk0 hx hi hz
  have hEE := fun (h : Nat) (hi : (h : Int) < r.hands) => errors_p r hfit h day
  have hTT := fun (h : Nat) (hi : (h : Int) < r.hands) => test_p r hfit h day due
  have hE0 : ∀ (h : Nat), (h : Int) < r.hands → errorsE r h day = 0 := fun h hi => by
   unfold errorsE; rw [isHand_of ⟨by omega, by omega⟩ hi]; exact hkn _ (by rw [show isDayE day = 0 from if_pos ⟨by omega, by omega⟩]; rfl)
  have hT0 : ∀ (h : Nat), (h : Int) < r.hands → testE r h day due = 0 := fun h hi => by
   unfold testE; rw [isHand_of ⟨by omega, by omega⟩ hi]
   exact hkn _ (by rw [show dueE day due = 0 by unfold dueE; rw [if_pos ⟨by omega, by omega⟩]; exact if_pos ⟨by omega, by omega⟩]; rfl)
  have hoI : ∀ (h : Nat), (h : Int) < r.hands → -300 ≤ offX r rates h day ∧ offX r rates h day ≤ 300 := fun h hi => by
   have hpl : (padR rates).length = 4 := by unfold padR; rw [List.length_append, List.length_replicate]; omega
   have := @offX_in r (padR rates) ⟨hpl, fun n hn => by
    unfold padR at hn
    rcases List.mem_append.1 hn with hn | hn
    ·exact hru n hn
    ·rw [(List.mem_replicate.1 hn).2]; omega⟩ h day ⟨by omega, by omega⟩
   unfold offX at this ⊢; rwa [padR_tg] at this
  have heI := fun (h : Nat) => errsL_in (r := r) (L := explR r (entsL r)) (explR_okL hgood) (h := h) (d := day) ⟨by omega, by omega⟩
  have hra0 := fun (h : Nat) => rates_p r hfit h
  have hoff := fun (h : Nat) (hi : (h : Int) < r.hands) => off_p (S := SBes) r rates by_ h day (by omega) ⟨by omega, by omega⟩ (by omega) ⟨by omega, by omega⟩ hru
  have hq1 : ∀ j, hget (pw τ p s4 ++ (j2 ++ [AObj.cells [.int .i64 r.hands, .int .i64 r.skill, .int .i64 r.mn, .int .i64 r.mx, .list .no 2 (r.sets.map Sg.av), .list .no 6 (r.ents.map Tn.av)], AObj.cells [.list .no 1 (rates.map (.int .i64)), .list .no 1 (by_.map (.int .i64))]]) ++ j) (τ.length + j2.length) = some (AObj.cells [.int .i64 r.hands, .int .i64 r.skill, .int .i64 r.mn, .int .i64 r.mx, .list .no 2 (r.sets.map Sg.av), .list .no 6 (r.ents.map Tn.av)]) := fun j => by rw [List.append_assoc, List.append_assoc]; exact hr1 _
  have hq2 : ∀ j, hget (pw τ p s4 ++ (j2 ++ [AObj.cells [.int .i64 r.hands, .int .i64 r.skill, .int .i64 r.mn, .int .i64 r.mx, .list .no 2 (r.sets.map Sg.av), .list .no 6 (r.ents.map Tn.av)], AObj.cells [.list .no 1 (rates.map (.int .i64)), .list .no 1 (by_.map (.int .i64))]]) ++ j) (τ.length + (j2.length + 1)) = some (AObj.cells [.list .no 1 (rates.map (.int .i64)), .list .no 1 (by_.map (.int .i64))]) := fun j => by rw [List.append_assoc, List.append_assoc]; exact hr3 _
  have hl1 : (pw τ p s4 ++ (j2 ++ [AObj.cells [.int .i64 r.hands, .int .i64 r.skill, .int .i64 r.mn, .int .i64 r.mx, .list .no 2 (r.sets.map Sg.av), .list .no 6 (r.ents.map Tn.av)], AObj.cells [.list .no 1 (rates.map (.int .i64)), .list .no 1 (by_.map (.int .i64))]])).length = (pw τ p s4 ++ (j2 ++ [AObj.cells [.int .i64 r.hands, .int .i64 r.skill, .int .i64 r.mn, .int .i64 r.mx, .list .no 2 (r.sets.map Sg.av), .list .no 6 (r.ents.map Tn.av)], AObj.cells [.list .no 1 (rates.map (.int .i64)), .list .no 1 (by_.map (.int .i64))]])).length := rfl
  generalize pw τ p s4 ++ (j2 ++ [AObj.cells [.int .i64 r.hands, .int .i64 r.skill, .int .i64 r.mn, .int .i64 r.mx, .list .no 2 (r.sets.map Sg.av), .list .no 6 (r.ents.map Tn.av)], AObj.cells [.list .no 1 (rates.map (.int .i64)), .list .no 1 (by_.map (.int .i64))]]) = σ1 at hq1 hq2 ⊢
  clear hr1 hr3 hl1
  generalize τ.length + j2.length = q1 at hq1 ⊢
  generalize τ.length + (j2.length + 1) = q2 at hq2 ⊢
  have hq10 := hq1 []
  have hq20 := hq2 []
  rw [List.append_nil] at hq10 hq20
  refine ARun.forS (Tryz.envOK (S := SBes) 220 Tryz.ord15 fs430 fs430_ok) r.hands.toNat (fun _ => True) (fun i => [(15, .int .i64 i)]) (fun _ j => σ1 ++ j) [] (by kernel_rfl) (by simp) (by simp [upd, ins, subF, lookA]) trivial ?_ ?_
  ·intro i j hi _ ih
   have hih : (i : Int) < r.hands := by omega
   have hiH : ((i : Int) < r.hands) = True := eq_true hih
   have hwi : IntKind.i64.wrap ((i : Int) + 1) = ((i + 1 : Nat) : Int) := by rw [wrap64 (by omega) (by omega)]; rfl
   obtain ⟨σ2, hσ2⟩ : ∃ σ2, σ2 = σ1 ++ j := ⟨_, rfl⟩
   have hp1 : ∀ k, hget (σ2 ++ k) q1 = some (AObj.cells [.int .i64 r.hands, .int .i64 r.skill, .int .i64 r.mn, .int .i64 r.mx, .list .no 2 (r.sets.map Sg.av), .list .no 6 (r.ents.map Tn.av)]) := fun k => by rw [hσ2, List.append_assoc]; exact hq1 _
   have hp2 : ∀ k, hget (σ2 ++ k) q2 = some (AObj.cells [.list .no 1 (rates.map (.int .i64)), .list .no 1 (by_.map (.int .i64))]) := fun k => by rw [hσ2, List.append_assoc]; exact hq2 _
   have hp10 := hp1 []
   have hp20 := hp2 []
   rw [List.append_nil] at hp10 hp20
   have ih' : ∀ k, _ := fun k => ih trivial (j ++ k)
   simp only [← List.append_assoc] at ih'
   rw [← hσ2] at ih' ⊢
   clear ih hq1 hq2 hq10 hq20
   simp -implicitDefEqProofs (maxSteps:=9^9) (disch:=omega) only [go_sem, simprocAttr, hp1, hp2, hp10, hp20, hiH]
   refine hEE i hih _ _ ?_
   rw [hE0 i hih, show errorsL r i day = errsL r (explR r (entsL r)) i day from if_pos (hE0 i hih)]
   simp -implicitDefEqProofs (maxSteps:=9^9) (disch:=omega) only [go_sem, simprocAttr, hp1, hp2, hp10, hp20]
   refine hTT i hih _ _ ?_
   rw [hT0 i hih, show testL r i day due = (due + (errsL r (explR r (entsL r)) i day).1 - r.skill, due + (errsL r (explR r (entsL r)) i day).2 + r.skill) from if_pos (hT0 i hih)]
   have he := her i
   have heI1 := heI i
   have hoI1 := hoI i hih
   have hof := hoff i hih
   generalize errsL r (explR r (entsL r)) i day = E at he heI1 ⊢
   obtain ⟨E1, E2⟩ := E
   simp only at he heI1 ⊢
   simp -implicitDefEqProofs (maxSteps:=9^9) (disch:=omega) only [go_sem, simprocAttr, hp1, hp2, hp10, hp20]
   refine hof _ _ ?_
   generalize offX r rates i day = off at he hoI1 ⊢
   have hidv := hci i hih
   have hidt : idx (rates.map (AV.int .i64)) (i : Int) = some (.int .i64 (tg rates i)) := tg_idx (by omega)
   have hcase := hri i (by omega)
   have hra1 := hra i hih
   generalize convV (f0 :: Ft) i = cv at hidv hcase
   have w1 : IntKind.i64.wrap (due + off) = due + off := wrap64 (by omega) (by omega)
   have w2 : IntKind.i64.wrap (due + off - r.skill) = due + off - r.skill := wrap64 (by omega) (by omega)
   have w3 : IntKind.i64.wrap (due + off + r.skill) = due + off + r.skill := wrap64 (by omega) (by omega)
   have b1 : decide (E1 ≤ off ∧ off ≤ E2) = true := decide_eq_true he
   have b2 : decide (due + E1 - r.skill ≤ due + off - r.skill ∧ due + off + r.skill ≤ due + E2 + r.skill) = true := decide_eq_true (by omega)
   by_cases hz : tg rates i = 0
   ·have hz' : (tg rates i = 0) = True := eq_true hz
    have b3 : (cv = 3 ∨ cv = 2) = True := eq_true (by
     rcases hcase with g | g | g
     ·exact .inl g
     ·exact absurd hz g.2
     ·exact .inr g.1)
    simp -implicitDefEqProofs (maxSteps:=9^9) (disch:=omega) only [go_sem, simprocAttr, hp1, hp2, hp10, hp20, hidv, hidt, hz', w1, w2, w3, b1, b2, b3, Rng.av]
    refine hra0 i _ _ ?_
    simp -implicitDefEqProofs (maxSteps:=9^9) (disch:=omega) only [go_sem, simprocAttr, hp1, hp2, hp10, hp20, hidv, hidt, hz', hwi]
    exact (ih' _).castS rfl (by simp [upd, ins, subF, lookA])
   ·have hz' : (tg rates i = 0) = False := eq_false hz
    have b3 : (cv = 3 ∨ cv = 1) = True := eq_true (by
     rcases hcase with g | g | g
     ·exact .inl g
     ·exact .inr g.1
     ·exact absurd g.2 hz)
    obtain ⟨g1, g2⟩ := hra1 hz
    have hpl : decide (0 ≤ hplaceL (ratesU r i) (tg rates i)) = true := by rw [hplace_nonneg, List.contains_iff_mem]; exact g2
    have hpl' : (hplaceL (ratesU r i) (tg rates i) < 0) = False := eq_false (by have := of_decide_eq_true hpl; omega)
    have hrl2 : (ratesU r i).length ≤ 1000000 := ratesU_len r hgood i
    simp -implicitDefEqProofs (maxSteps:=9^9) (disch:=omega) only [go_sem, simprocAttr, hp1, hp2, hp10, hp20, hidv, hidt, hz', w1, w2, w3, b1, b2, b3, Rng.av]
    refine hra0 i _ _ ?_
    rw [g1]
    simp -implicitDefEqProofs (maxSteps:=9^9) (disch:=omega) only [go_sem, simprocAttr, hp1, hp2, hp10, hp20, hidv, hidt, hz', hwi]
    refine hplace_p (ratesU r i) (tg rates i) hrl2 _ _ ?_
    simp -implicitDefEqProofs (maxSteps:=9^9) (disch:=omega) only [go_sem, simprocAttr, hp1, hp2, hp10, hp20, hidt, hpl', hwi]
    exact (ih' _).castS rfl (by simp [upd, ins, subF, lookA])
  ·intro j _
   have hiH : (((r.hands.toNat : Nat) : Int) < r.hands) = False := eq_false (by omega)
   simp -implicitDefEqProofs (maxSteps:=9^9) (disch:=omega) only [go_sem, simprocAttr, hq1, hq2, hiH]
   refine ARun.forS (Tryz.envOK (S := SBes) 220 Tryz.ord15 fs430 fs430_ok) by_.length (fun _ => True) (fun i => [(23, .int .i64 i)]) (fun _ _ => σ1 ++ j) [] (by kernel_rfl) rfl (by simp [upd, ins, subF, lookA]) trivial ?_ ?_
   ·intro n jn hn _ ihn
    obtain ⟨g1, g2⟩ := htu n hn
    have htp := tuners_p r hfit (n : Int)
    have hib : idx (by_.map (AV.int .i64)) (n : Int) = some (.int .i64 by_[n]) := by rw [idx_nat hn]
    have htl : (tunersL r n).length ≤ 1000000 := by
     have e := listN_len (tunS r (entsL r) (explR r (entsL r)) ((n : Int)).toNat)
     unfold tunersL
     rw [if_pos g1]
     omega
    have hwn : IntKind.i64.wrap ((n : Int) + 1) = ((n + 1 : Nat) : Int) := by rw [wrap64 (by omega) (by omega)]; rfl
    rw [g1] at htp
    have hpl : decide (0 ≤ hplaceL (tunersL r n) by_[n]) = true := by rw [hplace_nonneg, List.contains_iff_mem]; exact g2
    generalize tunersL r n = TL at *
    generalize by_[n] = b at *
    have hpl' : (hplaceL TL b < 0) = False := eq_false (by have := of_decide_eq_true hpl; omega)
    simp -implicitDefEqProofs (maxSteps:=9^9) (disch:=omega) only [go_sem, simprocAttr, hq1, hq2]
    refine htp _ _ ?_
    simp -implicitDefEqProofs (maxSteps:=9^9) (disch:=omega) only [go_sem, simprocAttr, hq1, hq2, hib, ints1]
    refine hplace_p TL b htl _ _ ?_
    simp -implicitDefEqProofs (maxSteps:=9^9) (disch:=omega) only [go_sem, simprocAttr, hq1, hq2, hib, ints1, hpl', hwn]
    exact (ihn trivial []).castS rfl (by simp [upd, ins, subF, lookA])
   ·intro jn _
    simp -implicitDefEqProofs (maxSteps:=9^9) (disch:=omega) only [go_sem, simprocAttr, hq1, hq2]
    refine steady_p _ _ ?_
    simp -implicitDefEqProofs (maxSteps:=9^9) (disch:=omega) only [go_sem, simprocAttr]
end Go.Proofs
