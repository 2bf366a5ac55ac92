/- Texts of a proof: lemmas. -/
import Derived.Test.YtgbdndlmdklefaaGreatK40
import Derived.Test.YtgbdndlmdklefaaGreatK38
import Derived.Test.YtgbdndlmdklefaaGreatK32
import Derived.Test.YtgbdndlmdklefaaGreatK39
set_option linter.unusedSimpArgs false
set_option linter.unusedVariables false
set_option maxRecDepth 100000
namespace Go.Proofs
open Go Go.Mu Go.Ins

theorem hclSg_p (l : List Sg) (hl : l.length ≤ 4294967296) : PureV SBes 118 [.list .no 2 (l.map Sg.av)] (.list .no 2 (l.map Sg.av)) := by
  refine PureV.of_ev (E := Tryz.E (S := SBes) 8 (fun _ => ([], [])) fs0) (Tryz.envOK (S := SBes) 8 (fun _ => ([], [])) fs0 fs0_ok) (.map fun y _ => y.plain) Tryz.kp118 Tryz.func118 rfl (by kernel_rfl) (by simp [Tryz.E]) (Callable.of Tryz.func118 (by kernel_rfl) (by kernel_rfl)) (by kernel_rfl) ?_
  intro σ
  simp -implicitDefEqProofs (maxSteps := 2000000) (disch := omega) only [go_sem, simprocAttr]
  intro h
  simp at h; subst h; simp
theorem hclRng_p (l : List Rng) (hl : l.length ≤ 4294967296) : PureV SBes 120 [.list .no 2 (l.map Rng.av)] (.list .no 2 (l.map Rng.av)) := by
  refine PureV.of_ev (E := Tryz.E (S := SBes) 8 (fun _ => ([], [])) fs0) (Tryz.envOK (S := SBes) 8 (fun _ => ([], [])) fs0 fs0_ok) (rngs_plain _) Tryz.kp120 Tryz.func120 rfl (by kernel_rfl) (by simp [Tryz.E]) (Callable.of Tryz.func120 (by kernel_rfl) (by kernel_rfl)) (by kernel_rfl) ?_
  intro σ
  simp -implicitDefEqProofs (maxSteps := 2000000) (disch := omega) only [go_sem, simprocAttr]
  intro h
  simp at h; subst h; simp
theorem hclRd_p (l : List Rd) (hl : l.length ≤ 4294967296) : PureV SBes 121 [.list .no 6 (l.map Rd.av)] (.list .no 6 (l.map Rd.av)) := by
  refine PureV.of_ev (E := Tryz.E (S := SBes) 8 (fun _ => ([], [])) fs0) (Tryz.envOK (S := SBes) 8 (fun _ => ([], [])) fs0 fs0_ok) (.map fun y _ => Rd.plain y) Tryz.kp121 Tryz.func121 rfl (by kernel_rfl) (by simp [Tryz.E]) (Callable.of Tryz.func121 (by kernel_rfl) (by kernel_rfl)) (by kernel_rfl) ?_
  intro σ
  simp -implicitDefEqProofs (maxSteps := 2000000) (disch := omega) only [go_sem, simprocAttr]
  intro h
  simp at h; subst h; simp
theorem hclTn_c (l : List Tn) (hl : l.length ≤ 1000000) (σ : List AObj) (Q : AV → List AObj → Prop) (h : Q (.vec σ.length l.length) (σ ++ [.vec 6 (l.map Tn.av)])) (h0 : l = [] → Q (.list .full 0 []) σ) :
    ACalls SBes 119 [.list .no 6 (l.map Tn.av)] σ Q := by
  refine ACalls.of_ev (E := Tryz.Ew (S := SBes) 8 (fun _ => ([], [])) fs0) (Tryz.envOKW (S := SBes) 8 (fun _ => ([], [])) fs0 fs0_ok) Tryz.kp119 Tryz.func119 rfl (by kernel_rfl) (by simp [Tryz.Ew]) (Callable.of Tryz.func119 (by kernel_rfl) (by kernel_rfl)) (by kernel_rfl) ?_
  simp -implicitDefEqProofs (maxSteps := 2000000) (disch := omega) only [go_sem, simprocAttr]
  exact ⟨h, fun e => h0 (by simpa using e)⟩
/-- At a call, a part of the first argument is written into no more. -/
theorem _root_.Go.Mu.ACalls.freezeB {P : Program} {S : MC P} {f : FuncId} {σ : List AObj} {Q : AV → List AObj → Prop} {rest : List AV} (q k : Nat) {r n sz : Nat} {xs cs : List AV} (hq : hget σ q = some (.cells cs)) (hk : cs[k]? = some (.vec r n)) (hg : hget σ r = some (.vec sz xs)) (hn : xs.length = n)
    (h : ACalls S f (.agg (cs.set k (.list .no sz xs)) :: rest) (hset (hset σ r .dead) q (.cells (cs.set k (.list .no sz xs)))) Q) : ACalls S f (.agg cs :: rest) σ Q := by
  refine ⟨h.1, fun M hM K w V cargs kd fcs hR hO hV => ?_⟩
  obtain ⟨K', r1, r2, hv⟩ := hR.freezeK q k hq hk hg hn
  have hlen : (hset (hset σ r AObj.dead) q (AObj.cells (cs.set k (.list .no sz xs)))).length = σ.length := by simp [hset]
  obtain ⟨hkl, hke⟩ := List.getElem?_eq_some_iff.1 hk
  refine M.bind (h.2 M hM K' w V cargs kd fcs r1 (hO.mind hR r1 r2) ?_) fun g' w' V' ⟨fr, v, σ', K2, h1, h2, h3, h4, h5, h6, h7, h8⟩ => M.ret ⟨fr, v, σ', K2, h1, h2, h3, h4, h5, h6, h7, (StepV.of_mind r2).trans h8⟩
  rw [hlen]
  refine ⟨hV.1, fun i h1 h2 => ?_⟩
  cases i with
  | succ i =>
    have := hV.2 (i + 1) (by simpa using h1) h2
    simp only [List.getElem_cons_succ] at this ⊢
    exact this.mono r2.ext (Nat.le_refl _)
  | zero =>
    have hv0 := hV.2 0 (by simp) h2
    simp only [List.getElem_cons_zero] at hv0 ⊢
    generalize cargs.toList[0] = c0 at hv0
    cases hv0 with
    | agg _ cs' hl h1' hh =>
      refine .agg _ cs' (by rw [List.length_set]; exact hl) h1' fun i h5 h6 => ?_
      have h7 : i < cs.length := by rw [List.length_set] at h5; exact h5
      by_cases e : k = i
      · subst e
        rw [List.getElem_set_self]
        have := hh k hkl h6
        rw [hke] at this
        exact hv _ this
      · rw [List.getElem_set_ne e]
        exact (hh i h7 h6).mono r2.ext (Nat.le_refl _)
theorem hchk_p (x : Tn) (hands : Int) (hh : 0 ≤ hands ∧ hands ≤ 1000000) (h1 : x.ear.tones.length ≤ 1000000) (h2 : x.ear.rds.length ≤ 1000000) : PureV SBes 117 [x.av, .int .i64 hands] (.tup [ints1 (chkE x hands).1, .int .i64 (chkE x hands).2]) := by
  intro σ Q hq
  refine (ACalls.aside (X := fun v => v = .tup [ints1 (chkE x hands).1, .int .i64 (chkE x hands).2]) (by simp only [List.mem_cons, List.not_mem_nil, or_false, forall_eq_or_imp, forall_eq]; exact ⟨.agg x.plains, .int⟩) (chkE_c x hands hh h1 h2 fun σ' => ⟨.tup (by simp only [List.mem_cons, List.not_mem_nil, or_false, forall_eq_or_imp, forall_eq]; exact ⟨(ints1_good _).2, .int⟩), rfl⟩)).mono fun v σ' ⟨e1, e2⟩ => ?_
  subst e1 e2
  exact hq
def Ros.snoc (r : Ros) (x : Tn) : Ros := { r with ents := r.ents ++ [x] }
def ros0 : AV := .agg [.int .i64 0, .int .i64 0, .int .i64 0, .int .i64 0, .list .full 0 [], .list .full 0 []]
set_option maxHeartbeats 8000000 in
theorem with_c (r : Ros) (x : Tn) (hf : r.Fit) (hhd : headE r = 0) (hen : entsE r = 0) (hl : r.ents.length ≤ 4) (hx : (chkE x r.hands).2 = 0) (hx1 : x.ear.tones.length ≤ 1000000) (hx2 : x.ear.rds.length ≤ 1000000) {σ : List AObj} {Q : AV → List AObj → Prop}
    (hE : knownE (r.snoc x) [] ≠ 0 → ∀ j, Q (.tup [ros0, .int .i64 (knownE (r.snoc x) [])]) (σ ++ j))
    (hO : knownE (r.snoc x) [] = 0 → ∀ j, Q (.tup [(r.snoc x).av, .int .i64 0]) (σ ++ j)) :
    ACalls SBes 62 [r.av, x.av] σ Q := by
  refine ACalls.of_ev (E := Tryz.Ew (S := SBes) 89 Tryz.ord62 fs0) (Tryz.envOKW (S := SBes) 89 Tryz.ord62 fs0 fs0_ok) Tryz.kp62 Tryz.func62 rfl (by kernel_rfl) (by simp [Tryz.Ew]) (Callable.of Tryz.func62 (by kernel_rfl) (by kernel_rfl)) (by kernel_rfl) ?_
  have hro : rosE r = 0 := by unfold rosE; rw [if_neg (fun c => c hhd)]; exact hen
  have hgood := Ros.good_of hhd hen
  have hh := hgood.hands
  simp only [Ros.av, Tn.av, Tn.cells]
  simp -implicitDefEqProofs (maxSteps := 2000000) (disch := omega) only [go_sem, simprocAttr]
  refine hCheck_p r hf _ _ ?_
  have hl5 : (((r.ents.map Tn.av).length : Int) = 5) = False := by simp; omega
  rw [hro]
  simp -implicitDefEqProofs (maxSteps := 2000000) (disch := omega) only [go_sem, simprocAttr, hl5]
  refine hchk_p x r.hands (by omega) hx1 hx2 _ _ ?_
  rw [hx]
  simp only [ints1]
  simp -implicitDefEqProofs (maxSteps := 2000000) (disch := omega) only [go_sem, simprocAttr, hl5]
  refine hclSg_p r.sets (by have := hf.sets; omega) _ _ ?_
  simp -implicitDefEqProofs (maxSteps := 2000000) (disch := omega) only [go_sem, simprocAttr, hl5]
  have hLn : (r.ents ++ [x]).length = r.ents.length + 1 := by simp
  have hLm : (r.ents ++ [x]).map Tn.av = r.ents.map Tn.av ++ [.agg [.int .i64 x.day, .int .i64 x.hand, .int .i64 x.due, .int .i64 x.ear.slack, .list .no 2 (x.ear.tones.map Rng.av), .list .no 6 (x.ear.rds.map Rd.av)]] := by rw [List.map_append]; rfl
  have hLe : ∀ y ∈ r.ents ++ [x], y.ear.tones.length ≤ 1000000 ∧ y.ear.rds.length ≤ 1000000 := fun y hy => by
    rcases List.mem_append.1 hy with hy | hy
    · exact hf.ear y hy
    · simp at hy; subst hy; exact ⟨hx1, hx2⟩
  have hsn : (r.snoc x).av = .agg [.int .i64 r.hands, .int .i64 r.skill, .int .i64 r.mn, .int .i64 r.mx, .list .no 2 (r.sets.map Sg.av), .list .no 6 ((r.ents ++ [x]).map Tn.av)] := rfl
  have hfs : (r.snoc x).Fit := ⟨hf.sets, by show (r.ents ++ [x]).length ≤ 1000000; rw [hLn]; omega, hLe⟩
  obtain ⟨L, hL⟩ : ∃ L, L = r.ents ++ [x] := ⟨_, rfl⟩
  rw [← hL] at hLn hLm hLe hsn
  refine hclTn_c r.ents (by omega) _ _ ?_ (fun e => ?_)
  · simp -implicitDefEqProofs (maxSteps := 2000000) (disch := omega) only [go_sem, simprocAttr, hl5, Tn.cells]
    rw [← hLm, ← hLn]
    refine ARun.forS (Tryz.envOKW (S := SBes) 89 Tryz.ord62 fs0 fs0_ok) L.length (fun _ => True) (fun i => [(48, .int .i64 i)]) (fun _ _ => σ ++ [.cells [.int .i64 r.hands, .int .i64 r.skill, .int .i64 r.mn, .int .i64 r.mx, .list .no 2 (r.sets.map Sg.av), .list .no 6 (r.ents.map Tn.av)], .cells [.int .i64 x.day, .int .i64 x.hand, .int .i64 x.due, .int .i64 x.ear.slack, .list .no 2 (x.ear.tones.map Rng.av), .list .no 6 (x.ear.rds.map Rd.av)], .cells [.int .i64 0, .int .i64 0, .int .i64 0, .int .i64 0, .list .full 0 [], .list .full 0 []], .vec 6 (L.map Tn.av)]) [] (by kernel_rfl) (by first | rfl | simp) (by simp [upd, ins, subF, lookA]) trivial ?_ ?_
    · intro i j hi _ ih
      have hgx : (L.map Tn.av)[i]? = some (Tn.av L[i]) := by simp [List.getElem?_eq_getElem hi]
      have hte := hLe _ (List.getElem_mem hi)
      have hset : (L.map Tn.av).set i (Tn.av L[i]) = L.map Tn.av := List.ext_getElem (by simp) fun k h1 h2 => by
        rw [List.getElem_set]; split
        · rename_i e; subst e; simp
        · rfl
      generalize L[i] = t at *
      have hav : t.av = .agg [.int .i64 t.day, .int .i64 t.hand, .int .i64 t.due, .int .i64 t.ear.slack, .list .no 2 (t.ear.tones.map Rng.av), .list .no 6 (t.ear.rds.map Rd.av)] := rfl
      rw [hav] at hgx hset
      simp -implicitDefEqProofs (maxSteps := 2000000) (disch := omega) only [go_sem, simprocAttr, hgx]
      refine hclRng_p t.ear.tones (by omega) _ _ ?_
      simp -implicitDefEqProofs (maxSteps := 2000000) (disch := omega) only [go_sem, simprocAttr, hgx]
      refine hclRd_p t.ear.rds (by omega) _ _ ?_
      simp -implicitDefEqProofs (maxSteps := 2000000) (disch := omega) only [go_sem, simprocAttr, hgx, hset]
      exact (ih trivial []).castS rfl (by simp [upd, ins, subF, lookA])
    · intro j _
      simp -implicitDefEqProofs (maxSteps := 2000000) (disch := omega) only [go_sem, simprocAttr]
      refine ACalls.freezeB σ.length 5 (r := σ.length + 3) (n := L.length) (sz := 6) (xs := L.map Tn.av) (by rw [hget_at0]; rfl) rfl (by rw [hget_at]; rfl) (by simp) ?_
      rw [hset_at, hset_at0]
      simp only [List.set_cons_succ, List.set_cons_zero]
      rw [← hsn]
      refine ACalls.weaken (l' := [(r.snoc x).av, .list .no 1 (([] : List Int).map (.int .i64))]) ⟨⟨rfl, rfl, rfl, rfl, ⟨rfl, .inl rfl, .inl rfl⟩, ⟨rfl, .inl rfl, .inl rfl⟩, trivial⟩, ⟨rfl, .inr rfl, .inl rfl⟩, trivial⟩ ?_
      refine known_c (r.snoc x) hfs [] (by simp) (fun hK j => ?_) (fun hK hg a j ha hm => ?_)
      · have hK' : (knownE (r.snoc x) [] = 0) = False := eq_false hK
        have hE' := hE hK
        simp only [rosZ]
        simp -implicitDefEqProofs (maxSteps := 2000000) (disch := omega) only [go_sem, simprocAttr, hK']
        exact hE' _
      · have hO' := hO hK
        simp only [Ros.wav]
        simp -implicitDefEqProofs (maxSteps := 2000000) (disch := omega) only [go_sem, simprocAttr]
        rw [hsn] at hO'
        exact hO' _
  · have hl0 : r.ents.length = 0 := by rw [e]; rfl
    rw [e] at hLm
    simp only [List.map_nil, List.nil_append] at hLm
    simp -implicitDefEqProofs (maxSteps := 2000000) (disch := omega) only [go_sem, simprocAttr, hl5, Tn.cells]
    rw [hl0] at hLn
    have hv1 : AV.vec (σ.length + 3) 1 = AV.vec (σ.length + 3) L.length := by rw [hLn]
    have hv2 : AV.int IntKind.i64 1 = AV.int IntKind.i64 (L.length : Int) := by rw [hLn]; rfl
    rw [hv1, hv2]
    rw [← hLm]
    refine ARun.forS (Tryz.envOKW (S := SBes) 89 Tryz.ord62 fs0 fs0_ok) L.length (fun _ => True) (fun i => [(48, .int .i64 i)]) (fun _ _ => σ ++ [.cells [.int .i64 r.hands, .int .i64 r.skill, .int .i64 r.mn, .int .i64 r.mx, .list .no 2 (r.sets.map Sg.av), .list .no 6 (r.ents.map Tn.av)], .cells [.int .i64 x.day, .int .i64 x.hand, .int .i64 x.due, .int .i64 x.ear.slack, .list .no 2 (x.ear.tones.map Rng.av), .list .no 6 (x.ear.rds.map Rd.av)], .cells [.int .i64 0, .int .i64 0, .int .i64 0, .int .i64 0, .list .full 0 [], .list .full 0 []], .vec 6 (L.map Tn.av)]) [] (by kernel_rfl) (by first | rfl | simp) (by simp [upd, ins, subF, lookA]) trivial ?_ ?_
    · intro i j hi _ ih
      have hgx : (L.map Tn.av)[i]? = some (Tn.av L[i]) := by simp [List.getElem?_eq_getElem hi]
      have hte := hLe _ (List.getElem_mem hi)
      have hset : (L.map Tn.av).set i (Tn.av L[i]) = L.map Tn.av := List.ext_getElem (by simp) fun k h1 h2 => by
        rw [List.getElem_set]; split
        · rename_i e; subst e; simp
        · rfl
      generalize L[i] = t at *
      have hav : t.av = .agg [.int .i64 t.day, .int .i64 t.hand, .int .i64 t.due, .int .i64 t.ear.slack, .list .no 2 (t.ear.tones.map Rng.av), .list .no 6 (t.ear.rds.map Rd.av)] := rfl
      rw [hav] at hgx hset
      simp -implicitDefEqProofs (maxSteps := 2000000) (disch := omega) only [go_sem, simprocAttr, hgx]
      refine hclRng_p t.ear.tones (by omega) _ _ ?_
      simp -implicitDefEqProofs (maxSteps := 2000000) (disch := omega) only [go_sem, simprocAttr, hgx]
      refine hclRd_p t.ear.rds (by omega) _ _ ?_
      simp -implicitDefEqProofs (maxSteps := 2000000) (disch := omega) only [go_sem, simprocAttr, hgx, hset]
      exact (ih trivial []).castS rfl (by simp [upd, ins, subF, lookA])
    · intro j _
      simp -implicitDefEqProofs (maxSteps := 2000000) (disch := omega) only [go_sem, simprocAttr]
      refine ACalls.freezeB σ.length 5 (r := σ.length + 3) (n := L.length) (sz := 6) (xs := L.map Tn.av) (by rw [hget_at0]; rfl) rfl (by rw [hget_at]; rfl) (by simp) ?_
      rw [hset_at, hset_at0]
      simp only [List.set_cons_succ, List.set_cons_zero]
      rw [← hsn]
      refine ACalls.weaken (l' := [(r.snoc x).av, .list .no 1 (([] : List Int).map (.int .i64))]) ⟨⟨rfl, rfl, rfl, rfl, ⟨rfl, .inl rfl, .inl rfl⟩, ⟨rfl, .inl rfl, .inl rfl⟩, trivial⟩, ⟨rfl, .inr rfl, .inl rfl⟩, trivial⟩ ?_
      refine known_c (r.snoc x) hfs [] (by simp) (fun hK j => ?_) (fun hK hg a j ha hm => ?_)
      · have hK' : (knownE (r.snoc x) [] = 0) = False := eq_false hK
        have hE' := hE hK
        simp only [rosZ]
        simp -implicitDefEqProofs (maxSteps := 2000000) (disch := omega) only [go_sem, simprocAttr, hK']
        exact hE' _
      · have hO' := hO hK
        simp only [Ros.wav]
        simp -implicitDefEqProofs (maxSteps := 2000000) (disch := omega) only [go_sem, simprocAttr]
        rw [hsn] at hO'
        exact hO' _
end Go.Proofs
set_option linter.unusedSimpArgs false
set_option linter.unusedVariables false
set_option maxRecDepth 100000
namespace Go.Proofs
open Go Go.Mu Go.Ins

/-- What Fewest says, told by the lists that explain. -/
theorem fewL_of {r : Ros} (hg : r.Good) (hro : rosE r = 0) (hk : knownE r [] = 0) : ∃ m, m ≤ r.hands.toNat ∧ fewL r = hdue r m ∧ hdue r m ≠ [] ∧ ∀ j, j < m → hdue r j = [] := by
  have hne := explR_ne hk
  rcases explR_spec r (entsL r) with ⟨h, _⟩ | ⟨m, g1, g2, g3, g4⟩
  · exact absurd h hne
  · have h1 : hdue r m ≠ [] := fun e => g3 ((found_due hg.toHead g1).2 e)
    have h0 : ∀ j, j < m → hdue r j = [] := fun j hj => (found_due hg.toHead (by omega)).1 (g4 j hj)
    exact ⟨m, g1, (fewL_some hg hro g1 h1 h0).2, h1, h0⟩
theorem hdue_len {r : Ros} {m : Nat} {x : List Int} (h : x ∈ hdue r m) : x.length = m := (hcomb_mem (List.mem_filter.1 h).1).1
theorem hdue_sub {r r2 : Ros} (hh : r2.hands = r.hands) (hs : ∀ s u, u ∈ htruthsR r2 (entsL r2) s → u ∈ htruthsR r (entsL r) s) {m : Nat} {x : List Int} (h : x ∈ hdue r2 m) : x ∈ hdue r m := by
  unfold hdue at h ⊢
  rw [hh] at h
  rw [List.mem_filter, decide_eq_true_eq] at h ⊢
  refine ⟨h.1, ?_⟩
  obtain ⟨u, hu⟩ := List.exists_mem_of_ne_nil _ h.2
  exact List.ne_nil_of_mem (hs _ _ hu)
/-- Whether an entry can have been tuned by some hand. -/
def entB (r : Ros) (x : Tn) (d u : List Int) : Bool := (List.range r.hands.toNat).any fun (h : Nat) => if 0 ≤ x.hand ∧ x.hand ≠ (h : Int) then false else d.any fun e => decide (-r.skill ≤ e - offX r u h x.day ∧ e - offX r u h x.day ≤ r.skill)
theorem isB_ent {r : Ros} {ds : List (List Int)} {u : List Int} : isB r ds u = (List.range r.ents.length).all fun i => entB r (r.ents.getD i default) (ds.getD i []) u := rfl
theorem allR_snoc {r : Ros} {x : Tn} {s : Nat} : ∀ (m : Nat) (v : List Int) (a : Nat), allR (r.snoc x) s m v a = allR r s m v a
  | 0, v, a => rfl
  | m + 1, v, a => by
    simp only [allR]
    have e : (fun (k : Nat) => if (r.snoc x).mn + (k : Int) = 0 then [] else allR (r.snoc x) s m (setI v a ((r.snoc x).mn + k)) (a + 1)) = fun (k : Nat) => if r.mn + (k : Int) = 0 then [] else allR r s m (setI v a (r.mn + k)) (a + 1) := by
      funext k; rw [allR_snoc m]; rfl
    rw [e, allR_snoc m]; rfl
theorem entsL_snoc {r : Ros} {x : Tn} : entsL (r.snoc x) = entsL r ++ [(chkE x r.hands).1] := by
  show ((r.ents ++ [x]).map fun x => (chkE x r.hands).1) = _
  rw [List.map_append]; rfl
theorem snoc_truth {r : Ros} {x : Tn} {s : Nat} {u : List Int} : u ∈ htruthsR (r.snoc x) (entsL (r.snoc x)) s ↔ u ∈ htruthsR r (entsL r) s ∧ entB r x (chkE x r.hands).1 u = true := by
  unfold htruthsR
  have e : isB (r.snoc x) (entsL (r.snoc x)) u = (isB r (entsL r) u && entB r x (chkE x r.hands).1 u) := by
    rw [isB_ent, isB_ent, entsL_snoc]
    show (List.range (r.ents ++ [x]).length).all _ = _
    rw [List.length_append, List.length_singleton, List.range_succ, List.all_append]
    have hl : (entsL r).length = r.ents.length := entsL_len r
    congr 1
    · rw [Bool.eq_iff_iff, List.all_eq_true, List.all_eq_true]
      refine forall_congr' fun i => ?_
      refine ⟨fun h hi => ?_, fun h hi => ?_⟩
      all_goals
        have hi' := List.mem_range.1 hi
        have h1 := h hi
        have e1 : (r.snoc x).ents.getD i default = r.ents.getD i default := by
          show (r.ents ++ [x]).getD i default = _
          rw [List.getD_eq_getElem?_getD, List.getD_eq_getElem?_getD, List.getElem?_append_left hi']
        have e2 : (entsL r ++ [(chkE x r.hands).1]).getD i [] = (entsL r).getD i [] := by
          rw [List.getD_eq_getElem?_getD, List.getD_eq_getElem?_getD, List.getElem?_append_left (by omega)]
        first
          | (rw [e1, e2] at h1; exact h1)
          | (rw [e1, e2]; exact h1)
    · rw [List.all_cons, List.all_nil, Bool.and_true]
      have e1 : (r.snoc x).ents.getD r.ents.length default = x := by
        show (r.ents ++ [x]).getD r.ents.length default = _
        rw [List.getD_eq_getElem?_getD, List.getElem?_append_right (Nat.le_refl _)]; simp
      have e2 : (entsL r ++ [(chkE x r.hands).1]).getD r.ents.length [] = (chkE x r.hands).1 := by
        rw [List.getD_eq_getElem?_getD, List.getElem?_append_right (by omega), hl]; simp
      rw [e1, e2]; rfl
  rw [List.mem_filter, List.mem_filter, e, Bool.and_eq_true]
  show u ∈ allR (r.snoc x) s r.hands.toNat [0, 0, 0, 0] 0 ∧ _ ↔ _
  rw [allR_snoc, and_assoc]
theorem snoc_sub {r : Ros} {x : Tn} : ∀ s u, u ∈ htruthsR (r.snoc x) (entsL (r.snoc x)) s → u ∈ htruthsR r (entsL r) s := fun s u h => (snoc_truth.1 h).1
/-- Ends of the errors. -/
theorem errF_ends {f : List Int → Int} : ∀ (L : List (List Int)) (m : Int × Int), (L.foldl (errF f) m).1 ≤ m.1 ∧ m.2 ≤ (L.foldl (errF f) m).2 ∧ (∀ x ∈ L, (L.foldl (errF f) m).1 ≤ f x ∧ f x ≤ (L.foldl (errF f) m).2) ∧ ((L.foldl (errF f) m).1 = m.1 ∨ ∃ x ∈ L, (L.foldl (errF f) m).1 = f x) ∧ ((L.foldl (errF f) m).2 = m.2 ∨ ∃ x ∈ L, (L.foldl (errF f) m).2 = f x)
  | [], m => ⟨Int.le_refl _, Int.le_refl _, by simp, .inl rfl, .inl rfl⟩
  | x :: L, m => by
    obtain ⟨h1, h2, h3, h4, h5⟩ := errF_ends L (errF f m x)
    rw [List.foldl_cons]
    have e1 : (errF f m x).1 = if f x < m.1 then f x else m.1 := rfl
    have e2 : (errF f m x).2 = if m.2 < f x then f x else m.2 := rfl
    generalize L.foldl (errF f) (errF f m x) = g at *
    rw [e1] at h1 h4
    rw [e2] at h2 h5
    refine ⟨by split at h1 <;> omega, by split at h2 <;> omega, fun y hy => ?_, ?_, ?_⟩
    · rcases List.mem_cons.1 hy with rfl | hy
      · constructor
        · split at h1 <;> omega
        · split at h2 <;> omega
      · exact h3 y hy
    · rcases h4 with h4 | ⟨y, hy, h4⟩
      · split at h4
        · exact .inr ⟨x, by simp, h4⟩
        · exact .inl h4
      · exact .inr ⟨y, by simp [hy], h4⟩
    · rcases h5 with h5 | ⟨y, hy, h5⟩
      · split at h5
        · exact .inr ⟨x, by simp, h5⟩
        · exact .inl h5
      · exact .inr ⟨y, by simp [hy], h5⟩
theorem errsL_ends {r : Ros} {L : List (List Int)} (hL : ∀ x ∈ L, OkX r x) (hne : L ≠ []) {h d : Int} (hd : 0 ≤ d ∧ d ≤ 60) :
    (∀ u ∈ L, (errsL r L h d).1 ≤ offX r u h d ∧ offX r u h d ≤ (errsL r L h d).2) ∧ (∃ u ∈ L, offX r u h d = (errsL r L h d).1) ∧ (∃ u ∈ L, offX r u h d = (errsL r L h d).2) := by
  obtain ⟨h1, h2, h3, h4, h5⟩ := errF_ends (f := fun x => offX r x h d) L (100000, -100000)
  obtain ⟨x, hx⟩ := List.exists_mem_of_ne_nil _ hne
  have hb := offX_in (hL x hx) (h := h) hd
  have h3x := h3 x hx
  refine ⟨h3, ?_, ?_⟩
  · rcases h4 with h4 | ⟨u, hu, h4⟩
    · rw [h4] at h3x; simp only at h3x; omega
    · exact ⟨u, hu, h4.symm⟩
  · rcases h5 with h5 | ⟨u, hu, h5⟩
    · rw [h5] at h3x; simp only at h3x; omega
    · exact ⟨u, hu, h5.symm⟩
end Go.Proofs
set_option linter.unusedSimpArgs false
set_option linter.unusedVariables false
set_option maxRecDepth 100000
namespace Go.Proofs
open Go Go.Mu
variable {S : MC Tryz.prog}

/-- One round of a loop. -/
theorem ARun.once {E : Env} (hE : EnvOK E) {ro : Option Nat} {c : Code} {k : List Item} {kp : Nat → Bool} {tm sl : List (Nat × AV)} {σ : List AObj} {Q : Post}
    (hO : todoOK E (.code c :: .inLoop c :: k) = true) (h : ev E ro 100000 (.code c :: .inLoop c :: k) ⟨kp, [], sl⟩ σ Q) : ARun E ro (.code (.loop c) :: k) ⟨kp, tm, sl⟩ σ Q :=
  ARun.anew (fr := ⟨kp, tm, sl⟩) (.loop (ev_sound hE hO h))
theorem same_step {α : Type} [DecidableEq α] {a b : List α} {i : Nat} (hl : a.length = b.length) (h : i < a.length) (ht : a.take i = b.take i) : (a.take (i + 1) = b.take (i + 1)) ↔ a[i] = b[i]'(by omega) := by
  have ta := List.take_succ_eq_append_getElem h
  have tb := List.take_succ_eq_append_getElem (l := b) (i := i) (by omega)
  rw [ta, tb, ht]
  simp only [List.append_cancel_left_eq, List.cons.injEq, and_true]
theorem sameInts_p (a b : List Int) (hl : a.length ≤ 4294967296) (hl2 : b.length ≤ 4294967296) : PureV S 51 [.list .no 1 (a.map (.int .i64)), .list .no 1 (b.map (.int .i64))] (.bool (decide (a = b))) := by
  refine PureV.of_ev (E := Tryz.E (S := S) 31 Tryz.ord51 fs0) (Tryz.envOK (S := S) 31 Tryz.ord51 fs0 fs0_ok) (.bool) Tryz.kp51 Tryz.func51 rfl (by kernel_rfl) (by simp [Tryz.E]) (Callable.of Tryz.func51 (by kernel_rfl) (by kernel_rfl)) (by kernel_rfl) ?_
  intro σ
  by_cases hlen : a.length = b.length
  · have hz : ((a.length : Int) = b.length) := by omega
    simp -implicitDefEqProofs (maxSteps := 2000000) (disch := omega) only [go_sem, simprocAttr]
    refine ARun.loopJ (Tryz.envOK (S := S) 31 Tryz.ord51 fs0 fs0_ok) (α := Nat × Bool) (fun p => a.length - p.1) (fun p τ => τ = σ ∧ p.1 ≤ a.length ∧ p.2 = decide (a.take p.1 = b.take p.1)) (fun p => [(5, .bool p.2), (6, .int .i64 p.1)]) (0, true) (by kernel_rfl) (by simp [upd, ins, subF, lookA]) ⟨rfl, Nat.zero_le _, by simp⟩ ?_
    rintro ⟨i, c⟩ τ ⟨rfl, hi, hc⟩ ih
    simp only at hi hc ih
    cases c
    · simp -implicitDefEqProofs (maxSteps := 2000000) (disch := omega) only [go_sem, simprocAttr]
      have : ¬ a = b := fun e => by subst e; simp at hc
      simp [this]
    · have htk : a.take i = b.take i := by simpa using hc
      by_cases hlt : i < a.length
      · have hst := same_step hlen hlt htk
        have hia : idx (a.map (AV.int .i64)) (i : Int) = some (.int .i64 a[i]) := idx_nat hlt
        have hib : idx (b.map (AV.int .i64)) (i : Int) = some (.int .i64 (b[i]'(by omega))) := idx_nat (by omega)
        generalize a[i] = x at hst hia
        generalize b[i]'(by omega) = y at hst hib
        clear hc htk
        simp -implicitDefEqProofs (maxSteps := 2000000) (disch := omega) only [go_sem, simprocAttr, hia, hib]
        refine ⟨fun h => (ih (i + 1, true) _ (by simp only; omega) ⟨rfl, by simp only; omega, ?_⟩).castS rfl (by simp [upd, ins, subF, lookA]), fun h => (ih (i + 1, false) _ (by simp only; omega) ⟨rfl, by simp only; omega, ?_⟩).castS rfl (by simp [upd, ins, subF, lookA])⟩
        · simp [hst, h]
        · simp [hst, h]
      · have : i = a.length := by omega
        subst this
        simp -implicitDefEqProofs (maxSteps := 2000000) (disch := omega) only [go_sem, simprocAttr]
        have : a = b := by rwa [List.take_length, hlen, List.take_length] at htk
        simp [this]
  · have hz : ¬ ((a.length : Int) = b.length) := by omega
    have : ¬ a = b := fun e => hlen (by rw [e])
    simp -implicitDefEqProofs (maxSteps := 2000000) (disch := omega) only [go_sem, simprocAttr]
    refine ARun.once (Tryz.envOK (S := S) 31 Tryz.ord51 fs0 fs0_ok) (by kernel_rfl) ?_
    simp -implicitDefEqProofs (maxSteps := 2000000) (disch := omega) only [go_sem, simprocAttr]
    simp [this]
def sameInts_s := spec2 tIs tIs fun a b => if a.length ≤ 4294967296 ∧ b.length ≤ 4294967296 then some (.bool (decide (a = b))) else none
theorem sameInts_ok : ∀ xs v, sameInts_s xs = some v → PureV S 51 xs v :=
  spec2_ok fun a b v h => by have h := someIf h; rw [← h.2]; exact sameInts_p a b h.1.1 h.1.2
end Go.Proofs
set_option linter.unusedSimpArgs false
set_option linter.unusedVariables false
set_option maxRecDepth 100000
namespace Go.Proofs
open Go Go.Mu Go.Ins
variable {S : MC Tryz.prog}

theorem hto_p (a b : Int) : PureV S 60 [.int .i64 a, .int .i64 b] (Rng.mk a b).av := by
  refine PureV.of_ev (E := Tryz.E (S := S) 8 (fun _ => ([], [])) fs0) (Tryz.envOK (S := S) 8 (fun _ => ([], [])) fs0 fs0_ok) (Rng.plain _) Tryz.kp60 Tryz.func60 rfl (by kernel_rfl) (by simp [Tryz.E]) (Callable.of Tryz.func60 (by kernel_rfl) (by kernel_rfl)) (by kernel_rfl) ?_
  intro σ
  simp -implicitDefEqProofs (maxSteps := 2000000) (disch := omega) only [go_sem, simprocAttr, Rng.av]
def hto_s := spec2 tI tI fun a b => some (Rng.mk a b).av
theorem hto_ok : ∀ xs v, hto_s xs = some v → PureV S 60 xs v :=
  spec2_ok fun a b v h => by simp only [Option.some.injEq] at h; rw [← h]; exact hto_p a b
def fs408 (f : FuncId) (xs : List AV) : Option AV := if f = 60 then hto_s xs else if f = 51 then sameInts_s xs else fs407 f xs
theorem fs408_ok {S : MC Tryz.prog} : ∀ f xs v, fs408 f xs = some v → PureV S f xs v := by
  intro f xs v h
  unfold fs408 at h
  split at h
  · rename_i e; subst e; exact hto_ok _ _ h
  split at h
  · rename_i e; subst e; exact sameInts_ok _ _ h
  exact fs407_ok _ _ _ h
attribute [go_sem] fs408 hto_s sameInts_s
theorem htuned_p (d b due lo hi : Int) : PureV S 63 [.int .i64 d, .int .i64 b, .int .i64 due, .int .i64 lo, .int .i64 hi] (tnd d b due lo hi).av := by
  refine PureV.of_ev (E := Tryz.E (S := S) 20 (fun _ => ([], [])) fs408) (Tryz.envOK (S := S) 20 (fun _ => ([], [])) fs408 fs408_ok) ((Plain.agg (Tn.plains _))) Tryz.kp63 Tryz.func63 rfl (by kernel_rfl) (by simp [Tryz.E]) (Callable.of Tryz.func63 (by kernel_rfl) (by kernel_rfl)) (by kernel_rfl) ?_
  intro σ
  simp -implicitDefEqProofs (maxSteps := 2000000) (disch := omega) only [go_sem, simprocAttr, Rng.av, Tn.av, Tn.cells, tnd]
theorem shop_p : PureV S 91 [] shopR.av := by
  refine PureV.of_ev (E := Tryz.E (S := S) 7 (fun _ => ([], [])) fs408) (Tryz.envOK (S := S) 7 (fun _ => ([], [])) fs408 fs408_ok) (Ros.plain _) Tryz.kp91 Tryz.func91 rfl (by kernel_rfl) (by simp [Tryz.E]) (Callable.of Tryz.func91 (by kernel_rfl) (by kernel_rfl)) (by kernel_rfl) ?_
  intro σ
  simp -implicitDefEqProofs (maxSteps := 2000000) (disch := omega) only [go_sem, simprocAttr, Rng.av]
  refine htuned_p _ _ _ _ _ _ _ ?_
  simp -implicitDefEqProofs (maxSteps := 2000000) (disch := omega) only [go_sem, simprocAttr, Rng.av]
  refine htuned_p _ _ _ _ _ _ _ ?_
  simp -implicitDefEqProofs (maxSteps := 2000000) (disch := omega) only [go_sem, simprocAttr, Rng.av]
  refine htuned_p _ _ _ _ _ _ _ ?_
  simp only [Tn.av, Tn.cells, tnd, List.map_cons, List.map_nil, Rng.av]
  simp -implicitDefEqProofs (maxSteps := 2000000) (disch := omega) only [go_sem, simprocAttr, Rng.av, Ros.av, shopR, Tn.av, Tn.cells, tnd]
theorem lone_p : PureV S 90 [] loneR.av := by
  refine PureV.of_ev (E := Tryz.E (S := S) 7 (fun _ => ([], [])) fs408) (Tryz.envOK (S := S) 7 (fun _ => ([], [])) fs408 fs408_ok) (Ros.plain _) Tryz.kp90 Tryz.func90 rfl (by kernel_rfl) (by simp [Tryz.E]) (Callable.of Tryz.func90 (by kernel_rfl) (by kernel_rfl)) (by kernel_rfl) ?_
  intro σ
  simp -implicitDefEqProofs (maxSteps := 2000000) (disch := omega) only [go_sem, simprocAttr, Rng.av]
  refine shop_p _ _ ?_
  simp only [Ros.av]
  simp -implicitDefEqProofs (maxSteps := 2000000) (disch := omega) only [go_sem, simprocAttr, Rng.av]
  refine htuned_p _ _ _ _ _ _ _ ?_
  simp only [Tn.av, Tn.cells, tnd, List.map_cons, List.map_nil, Rng.av]
  simp -implicitDefEqProofs (maxSteps := 2000000) (disch := omega) only [go_sem, simprocAttr, Rng.av, Ros.av, shopR, loneR, Tn.av, Tn.cells, tnd]
theorem hsameLists_p (a b : List (List Int)) (hl : a.length ≤ 4294967296) (hl2 : b.length ≤ 4294967296) (ha : ∀ x ∈ a, x.length ≤ 4294967296) (hb : ∀ x ∈ b, x.length ≤ 4294967296) : PureV S 50 [.list .no 1 (a.map ints1), .list .no 1 (b.map ints1)] (.bool (decide (a = b))) := by
  refine PureV.of_ev (E := Tryz.E (S := S) 31 Tryz.ord50 fs408) (Tryz.envOK (S := S) 31 Tryz.ord50 fs408 fs408_ok) (.bool) Tryz.kp50 Tryz.func50 rfl (by kernel_rfl) (by simp [Tryz.E]) (Callable.of Tryz.func50 (by kernel_rfl) (by kernel_rfl)) (by kernel_rfl) ?_
  intro σ
  by_cases hlen : a.length = b.length
  · have hz : ((a.length : Int) = b.length) := by omega
    simp -implicitDefEqProofs (maxSteps := 2000000) (disch := omega) only [go_sem, simprocAttr]
    refine ARun.loopJ (Tryz.envOK (S := S) 31 Tryz.ord50 fs408 fs408_ok) (α := Nat × Bool) (fun p => a.length - p.1) (fun p τ => τ = σ ∧ p.1 ≤ a.length ∧ p.2 = decide (a.take p.1 = b.take p.1)) (fun p => [(5, .bool p.2), (6, .int .i64 p.1)]) (0, true) (by kernel_rfl) (by simp [upd, ins, subF, lookA]) ⟨rfl, Nat.zero_le _, by simp⟩ ?_
    rintro ⟨i, c⟩ τ ⟨rfl, hi, hc⟩ ih
    simp only at hi hc ih
    cases c
    · simp -implicitDefEqProofs (maxSteps := 2000000) (disch := omega) only [go_sem, simprocAttr]
      have : ¬ a = b := fun e => by subst e; simp at hc
      simp [this]
    · have htk : a.take i = b.take i := by simpa using hc
      by_cases hlt : i < a.length
      · have hst := same_step hlen hlt htk
        have hia : idx (a.map ints1) (i : Int) = some (ints1 a[i]) := idx_nat hlt
        have hib : idx (b.map ints1) (i : Int) = some (ints1 (b[i]'(by omega))) := idx_nat (by omega)
        have hxl := ha _ (List.getElem_mem hlt)
        have hyl := hb _ (List.getElem_mem (show i < b.length by omega))
        generalize a[i] = x at hst hia hxl
        generalize b[i]'(by omega) = y at hst hib hyl
        clear hc htk
        simp -implicitDefEqProofs (maxSteps := 2000000) (disch := omega) only [go_sem, simprocAttr, hia, hib, ints1]
        refine ⟨fun h => (ih (i + 1, true) _ (by simp only; omega) ⟨rfl, by simp only; omega, ?_⟩).castS rfl (by simp [upd, ins, subF, lookA]), fun h => (ih (i + 1, false) _ (by simp only; omega) ⟨rfl, by simp only; omega, ?_⟩).castS rfl (by simp [upd, ins, subF, lookA])⟩
        · simp [hst, h]
        · simp [hst, h]
      · have : i = a.length := by omega
        subst this
        simp -implicitDefEqProofs (maxSteps := 2000000) (disch := omega) only [go_sem, simprocAttr]
        have : a = b := by rwa [List.take_length, hlen, List.take_length] at htk
        simp [this]
  · have hz : ¬ ((a.length : Int) = b.length) := by omega
    have : ¬ a = b := fun e => hlen (by rw [e])
    simp -implicitDefEqProofs (maxSteps := 2000000) (disch := omega) only [go_sem, simprocAttr]
    refine ARun.once (Tryz.envOK (S := S) 31 Tryz.ord50 fs408 fs408_ok) (by kernel_rfl) ?_
    simp -implicitDefEqProofs (maxSteps := 2000000) (disch := omega) only [go_sem, simprocAttr]
    simp [this]
end Go.Proofs
set_option linter.unusedSimpArgs false
set_option linter.unusedVariables false
set_option maxRecDepth 100000
namespace Go.Proofs
open Go Go.Mu Go.Ins

theorem truthsL_at (t : Int) : truthsL ⟨0, [⟨t, t⟩], []⟩ = [[t, 0, 0]] := by
  rw [truthsL_one]
  have e : (t - t + 1).toNat = 1 := by omega
  rw [e]
  have hts : setI [0, 0, 0] ((0 : Nat) : Int) (t + ((0 : Nat) : Int)) = [t, 0, 0] := by
    rw [show t + ((0 : Nat) : Int) = t by omega]; rfl
  show (allT ⟨0, [⟨t, t⟩], []⟩ 0 (setI [0, 0, 0] ((0 : Nat) : Int) (t + ((0 : Nat) : Int))) 1) ++ [] = _
  rw [hts]
  rfl
theorem tnd_chk {r : Ros} {day who due t : Int} (hd : 0 ≤ day ∧ day ≤ 60) (hw : 0 ≤ who ∧ who < r.hands) (hdu : 1 ≤ due ∧ due ≤ 100000) (ht : 1 ≤ t ∧ t ≤ 99000) : chkE (tnd day who due t t) r.hands = ([t - due], 0) := by
  have hck : ck ⟨0, [⟨t, t⟩], []⟩ = 0 := by
    unfold ck
    have hT : firstE ckT [(⟨t, t⟩ : Rng)] = 0 := by
      refine hfirstE_of (fun y hy => ?_)
      simp at hy; subst hy
      unfold ckT
      dsimp only
      repeat' split
      all_goals omega
    simp only [List.length_cons, List.length_nil, Nat.zero_add]
    rw [if_neg (by omega), if_neg (by omega), if_neg (by omega), if_neg (fun c => c hT), if_neg (by omega)]
    rfl
  have hn : truthsL ⟨0, [⟨t, t⟩], []⟩ ≠ [] := by rw [truthsL_at]; simp
  rw [chkE_one (x := tnd day who due t t) hd ⟨by show -1 ≤ who; omega, by show who ≤ r.hands - 1; omega⟩ hdu hck rfl hn]
  show ((firstsL ((truthsL ⟨0, [⟨t, t⟩], []⟩).map fun t => tg t 0)).map (· - due), (0 : Int)) = _
  rw [truthsL_at]
  rfl
theorem headE_snoc {r : Ros} {x : Tn} (h : headE r = 0) (hl : r.ents.length ≤ 4) : headE (r.snoc x) = 0 := by
  unfold headE at h ⊢
  have e1 : (r.snoc x).hands = r.hands := rfl
  have e2 : (r.snoc x).skill = r.skill := rfl
  have e3 : (r.snoc x).mn = r.mn := rfl
  have e4 : (r.snoc x).mx = r.mx := rfl
  have e5 : (r.snoc x).sets = r.sets := rfl
  have e6 : (r.snoc x).ents.length = r.ents.length + 1 := by show (r.ents ++ [x]).length = _; simp
  rw [e1, e2, e3, e4, e5, e6]
  revert h
  repeat' split
  all_goals first | (intro h; omega) | (intro h; exact h)
theorem entsE_snoc {r : Ros} {x : Tn} (h : entsE r = 0) (hx : (chkE x r.hands).2 = 0) : entsE (r.snoc x) = 0 := by
  unfold entsE
  refine firstNZ_zero fun e he => ?_
  have he' : e ∈ (r.ents ++ [x]).map fun x => (chkE x r.hands).2 := he
  rw [List.map_append, List.mem_append] at he'
  rcases he' with g | g
  · exact firstNZ_all h e g
  · simp at g; rw [g]; exact hx
theorem known_two {r : Ros} (hro : rosE r = 0) : knownE r [] = 0 ∨ knownE r [] = 11 := by
  unfold knownE
  rw [if_neg (fun c => c hro), if_neg (fun c => c rfl)]
  by_cases h : explR r (entsL r) = []
  · rw [if_pos h]; exact .inr rfl
  · rw [if_neg h]; exact .inl rfl
def toneX (lo hi : Int) : Nat → Int
  | 0 => lo
  | 1 => hi
  | 2 => lo - 1
  | _ => hi + 1
theorem tested_law {r : Ros} (hhd : headE r = 0) (hen : entsE r = 0) (hl : r.ents.length ≤ 4) (hk : knownE r [] = 0) (hs : 0 ≤ r.skill ∧ r.skill ≤ 3) {day who due : Int} (hd : 0 ≤ day ∧ day ≤ 20) (hw : 0 ≤ who ∧ who < r.hands) (hdu : 500 ≤ due ∧ due ≤ 2000) {E : Int × Int} (hE : E = errsL r (explR r (entsL r)) who day) (i : Nat) (hi : i < 4) {x : Tn}
    (hx : x = tnd day who due (toneX (due + E.1 - r.skill) (due + E.2 + r.skill) i) (toneX (due + E.1 - r.skill) (due + E.2 + r.skill) i)) :
    -300 ≤ E.1 ∧ E.1 ≤ E.2 ∧ E.2 ≤ 300 ∧ (chkE x r.hands).2 = 0 ∧ headE (r.snoc x) = 0 ∧ entsE (r.snoc x) = 0 ∧ ((knownE (r.snoc x) [] = 11 ∧ 1 < i) ∨ (knownE (r.snoc x) [] = 0 ∧ ∃ f0 F g0 G, fewL r = f0 :: F ∧ fewL (r.snoc x) = g0 :: G ∧ (g0.length = f0.length ↔ i < 2))) := by
  have hg := Ros.good_of hhd hen
  have hro : rosE r = 0 := by unfold rosE; rw [if_neg (fun c => c hhd)]; exact hen
  have hne := explR_ne hk
  have hL : ∀ u ∈ explR r (entsL r), OkX r u := fun u hu => explR_ok hg.toHead hu
  obtain ⟨q1, q2, q3⟩ := errsL_ends hL hne (h := who) (d := day) (by omega)
  rw [← hE] at q1 q2 q3
  have hb : -300 ≤ E.1 ∧ E.1 ≤ E.2 ∧ E.2 ≤ 300 := by
    obtain ⟨u, hu, e1⟩ := q2
    obtain ⟨v, hv, e2⟩ := q3
    have a1 := offX_in (hL u hu) (h := who) (d := day) (by omega)
    have a2 := offX_in (hL v hv) (h := who) (d := day) (by omega)
    have a3 := q1 u hu
    omega
  obtain ⟨t, ht⟩ : ∃ t, t = toneX (due + E.1 - r.skill) (due + E.2 + r.skill) i := ⟨_, rfl⟩
  rw [← ht] at hx
  have htb : (i = 0 ∧ t = due + E.1 - r.skill) ∨ (i = 1 ∧ t = due + E.2 + r.skill) ∨ (i = 2 ∧ t = due + E.1 - r.skill - 1) ∨ (i = 3 ∧ t = due + E.2 + r.skill + 1) := by
    rcases (by omega : i = 0 ∨ i = 1 ∨ i = 2 ∨ i = 3) with rfl | rfl | rfl | rfl
    · exact .inl ⟨rfl, ht⟩
    · exact .inr (.inl ⟨rfl, ht⟩)
    · exact .inr (.inr (.inl ⟨rfl, ht⟩))
    · exact .inr (.inr (.inr ⟨rfl, ht⟩))
  have hch : chkE x r.hands = ([t - due], 0) := by rw [hx]; exact tnd_chk (by omega) hw (by omega) (by omega)
  have hhd2 := headE_snoc (x := x) hhd hl
  have hen2 := entsE_snoc (x := x) hen (by rw [hch])
  have hg2 := Ros.good_of hhd2 hen2
  have hro2 : rosE (r.snoc x) = 0 := by unfold rosE; rw [if_neg (fun c => c hhd2)]; exact hen2
  refine ⟨hb.1, hb.2.1, hb.2.2, by rw [hch], hhd2, hen2, ?_⟩
  have hent : ∀ u, entB r x (chkE x r.hands).1 u = true ↔ -r.skill ≤ t - due - offX r u who day ∧ t - due - offX r u who day ≤ r.skill := fun u => by
    unfold entB
    rw [hch, List.any_eq_true]
    have hxh : x.hand = who := by rw [hx]; rfl
    have hxd : x.day = day := by rw [hx]; rfl
    rw [hxh, hxd]
    constructor
    · rintro ⟨h, _, g⟩
      by_cases c : 0 ≤ who ∧ who ≠ (h : Int)
      · rw [if_pos c] at g; cases g
      · rw [if_neg c] at g
        have : (h : Int) = who := by omega
        rw [this] at g
        simpa using g
    · intro g
      refine ⟨who.toNat, List.mem_range.2 (by omega), ?_⟩
      rw [Int.toNat_of_nonneg hw.1, if_neg (by omega)]
      simpa using g
  rcases explR_spec r (entsL r) with ⟨h, _⟩ | ⟨m, g1, g2, g3, g4⟩
  · exact absurd h hne
  have h1 : hdue r m ≠ [] := fun e => g3 ((found_due hg.toHead g1).2 e)
  have h0 : ∀ j, j < m → hdue r j = [] := fun j hj => (found_due hg.toHead (by omega)).1 (g4 j hj)
  have hfr := (fewL_some hg hro g1 h1 h0).2
  obtain ⟨f0, F, hF⟩ := List.exists_cons_of_ne_nil h1
  have hf0 : f0.length = m := hdue_len (r := r) (by rw [hF]; simp)
  have h02 : ∀ j, j < m → hdue (r.snoc x) j = [] := fun j hj => by
    refine List.eq_nil_iff_forall_not_mem.2 fun y hy => ?_
    have := hdue_sub (r := r) (r2 := r.snoc x) rfl snoc_sub hy
    rw [h0 j hj] at this; simp at this
  by_cases hi2 : i < 2
  · obtain ⟨u, hu, hin⟩ : ∃ u ∈ explR r (entsL r), -r.skill ≤ t - due - offX r u who day ∧ t - due - offX r u who day ≤ r.skill := by
      rcases htb with ⟨_, e⟩ | ⟨_, e⟩ | ⟨e, _⟩ | ⟨e, _⟩
      · obtain ⟨u, hu, e1⟩ := q2
        exact ⟨u, hu, by omega⟩
      · obtain ⟨u, hu, e1⟩ := q3
        exact ⟨u, hu, by omega⟩
      · omega
      · omega
    obtain ⟨s, s1, s2, s3⟩ := (foundR_mem hg.toHead).1 ((explR_iff g2).1 hu)
    have hmem : u ∈ htruthsR (r.snoc x) (entsL (r.snoc x)) s := snoc_truth.2 ⟨s3, (hent u).2 hin⟩
    have h12 : hdue (r.snoc x) m ≠ [] := fun e => by
      have := (found_due hg2.toHead g1).2 e
      have hm := (foundR_mem hg2.toHead (m := m)).2 ⟨s, s1, s2, hmem⟩
      rw [this] at hm; simp at hm
    obtain ⟨k1, k2⟩ := fewL_some hg2 hro2 g1 h12 h02
    obtain ⟨g0, G, hG⟩ := List.exists_cons_of_ne_nil h12
    have hg0 : g0.length = m := hdue_len (r := r.snoc x) (by rw [hG]; simp)
    exact .inr ⟨k1, f0, F, g0, G, by rw [hfr, hF], by rw [k2, hG], by rw [hf0, hg0]; simp [hi2]⟩
  · rcases known_two hro2 with k | k
    · obtain ⟨m2, b1, b2, b3, b4⟩ := fewL_of hg2 hro2 k
      obtain ⟨g0, G, hG⟩ := List.exists_cons_of_ne_nil b3
      have hg0 : g0.length = m2 := hdue_len (r := r.snoc x) (by rw [hG]; simp)
      refine .inr ⟨k, f0, F, g0, G, by rw [hfr, hF], by rw [b2, hG], ?_⟩
      rw [hf0, hg0]
      refine ⟨fun e => absurd ?_ b3, fun c => absurd c hi2⟩
      subst e
      refine (found_due hg2.toHead g1).1 (List.eq_nil_iff_forall_not_mem.2 fun u hu => ?_)
      obtain ⟨s, s1, s2, s3⟩ := (foundR_mem hg2.toHead).1 hu
      obtain ⟨s4, s5⟩ := snoc_truth.1 s3
      have hul := (explR_iff g2).2 ((foundR_mem hg.toHead).2 ⟨s, s1, s2, s4⟩)
      have a1 := q1 u hul
      have a2 := (hent u).1 s5
      omega
    · exact .inl ⟨k, by omega⟩
end Go.Proofs
