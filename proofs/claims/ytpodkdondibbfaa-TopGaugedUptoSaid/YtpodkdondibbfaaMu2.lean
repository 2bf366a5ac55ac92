/- Part Vc of the abstract layer: slices that are written into. -/
import Derived.Test.YtpodkdondibbfaaMu1
import Derived.Laws.BytesArg
import Derived.Laws.Cover3
import Derived.OrdersIn
set_option linter.unusedSimpArgs false
set_option linter.unusedVariables false
namespace Go.Mu
open Go

variable {P : Program} {K : Kr} {n N : Nat} {ty : Nat → TI}

theorem hset_same' {σ : List AObj} {r : Nat} {x : AObj} (h : hget σ r = some x) : hset σ r x = σ := by
  unfold hget at h; unfold hset
  obtain ⟨h1, h2⟩ := List.getElem?_eq_some_iff.1 h
  rw [← h2]; exact List.set_getElem_self h1

theorem VR.one {v : AV} {c : Value} (h : VR K n v c) (h1 : c.oneCell' = true) : v.cells = [v] := by
  cases h <;> simp [AV.cells, Value.oneCell'] at h1 ⊢
theorem ofCells_cells {x : AV} {c : Value} {cs : List AV} {cc : List Value} (hx : VR K n x c) (hf : x.flat = true) (hl : cs.length = x.cells.length) (hv : VRs K n cs cc) (h1 : ∀ c ∈ cc, c.oneCell' = true) : (ofCells x cs).cells = cs ∧ (ofCells x cs).flat = true := by
  cases x with
  | agg ds => exact ⟨rfl, rfl⟩
  | tup ds => simp [AV.flat] at hf
  | _ =>
    simp [AV.cells] at hl
    obtain ⟨c', rfl⟩ := List.length_eq_one_iff.1 hl
    obtain ⟨d, rfl⟩ := List.length_eq_one_iff.1 (hv.1.symm.trans hl)
    have hd := h1 d (by simp)
    have := hv.head.one hd
    refine ⟨this, ?_⟩
    have hq := hv.head
    show c'.flat = true
    cases hq <;> simp [AV.flat, Value.oneCell'] at hd ⊢

theorem flatMap_set (sz : Nat) : ∀ (xs : List AV) (i : Nat) (x' : AV) (off : Nat) (new : List AV) (hs : ∀ i (h : i < xs.length), (xs[i]).cells.length = sz) (hi : i < xs.length), x'.cells = putAt off new (xs[i]).cells → off + new.length ≤ sz →
    (xs.set i x').flatMap AV.cells = putAt (i * sz + off) new (xs.flatMap AV.cells)
  | [], i, x', off, new, hs, hi, _, _ => by simp at hi
  | x :: xs, 0, x', off, new, hs, hi, he, hl => by
    have h0 : x.cells.length = sz := hs 0 (by simp)
    simp only [List.getElem_cons_zero] at he
    simp only [List.set_cons_zero, List.flatMap_cons, he, putAt, Nat.zero_mul, Nat.zero_add]
    rw [List.take_append_of_le_length (by omega), List.drop_append_of_le_length (by omega)]
    simp
  | x :: xs, i + 1, x', off, new, hs, hi, he, hl => by
    have h0 : x.cells.length = sz := hs 0 (by simp)
    have hr : ∀ i (h : i < xs.length), (xs[i]).cells.length = sz := fun i hi => by have := hs (i + 1) (by simpa using hi); simpa using this
    simp only [List.set_cons_succ, List.flatMap_cons]
    rw [flatMap_set sz xs i x' off new hr (by simpa using hi) (by simpa using he) hl]
    have e : (i + 1) * sz + off = x.cells.length + (i * sz + off) := by rw [Nat.add_mul, h0]; omega
    rw [e]
    have e3 : ∀ (F : List AV) k, (x.cells ++ F).take (x.cells.length + k) = x.cells ++ F.take k := fun F k => List.take_length_add_append ..
    have e4 : ∀ (F : List AV) k, (x.cells ++ F).drop (x.cells.length + k + new.length) = F.drop (k + new.length) := fun F k => by rw [Nat.add_assoc, List.drop_length_add_append]
    unfold putAt
    rw [e3, e4]
    simp only [List.append_assoc]

/-- The cells of a vector, in a row. -/
theorem vec_row {w : World} {r sz : Nat} {xs : List AV} (h : ObjR K n w r (.vec sz xs)) :
    ∃ a cap cc, K.tl r xs.length = some (a, cap) ∧ xs.length ≤ cap ∧ cc.length = xs.length * sz ∧ VRs K n (xs.flatMap AV.cells) cc ∧ (∀ c ∈ cc, c.oneCell' = true) ∧
      (xs.length ≠ 0 → ∃ b o, a = some ⟨b, o, none⟩ ∧ ∀ p (hp : p < cc.length), w.cell? ⟨b, o + p, none⟩ = some cc[p]) := by
  obtain ⟨a, cap, h1, h2, h3, h4, h5⟩ := h
  by_cases hc : 0 < cap
  · obtain ⟨b, o, cc, E, rfl, g2, g3, g4, g5, g6⟩ := h5 hc
    have hle : xs.length * sz ≤ cap * sz := Nat.mul_le_mul_right sz h2
    have hl : ((cc.toList.drop o).take (xs.length * sz)).length = xs.length * sz := by simp; omega
    refine ⟨_, cap, (cc.toList.drop o).take (xs.length * sz), h1, h2, hl, g4, fun c hc => g5 c (List.mem_of_mem_drop (List.mem_of_mem_take hc)), fun _ => ⟨b, o, rfl, fun p hp => ?_⟩⟩
    have : o + p < cc.size := by omega
    simp [World.cell?, g2, this]
  · have h0 : xs = [] := List.eq_nil_of_length_eq_zero (by omega)
    subst h0
    exact ⟨a, cap, [], h1, h2, by simp, .nil, by simp, fun h => absurd rfl h⟩

theorem cell_drew {w : World} {d : Nat} {a : Addr} : ({ w with drawn := d } : World).cell? a = w.cell? a := rfl
theorem run_firstCellsW {w : World} {a : Option Addr} {len cap sz k : Nat} {cc : List Value} (hk : cc.length = k * sz)
    (ha : k ≠ 0 → ∃ b o, a = some ⟨b, o, none⟩ ∧ ∀ p (hp : p < cc.length), w.cell? ⟨b, o + p, none⟩ = some cc[p]) : (Builtin.firstCells sz k (.slice a len cap)).run P w = .ok cc.toArray w := by
  by_cases h0 : k = 0
  · subst h0
    simp at hk; subst hk
    cases a with
    | none => rfl
    | some a => simp [Builtin.firstCells, loadCells, loadCellsFrom]
  · obtain ⟨b, o, rfl, h⟩ := ha h0
    simp only [Builtin.firstCells]
    rw [← hk]
    refine run_loadCells_list w ⟨b, o, none⟩ cc fun j v hv => ?_
    obtain ⟨hj, rfl⟩ := List.getElem?_eq_some_iff.1 hv
    rw [addr_add]
    exact h j hj

/-- An element is loaded. -/
theorem vload_sound (hT : TysOK P ty) {σ : List AObj} {w : World} (hR : R K σ w) {r sz i off t : Nat} {xs : List AV} (hg : hget σ r = some (.vec sz xs)) {c : Value} (hv : VR K σ.length (.vptr r xs.length sz i off) c) (hi : i < xs.length) {v : AV}
    (hs : subAt off (ty t).sz (xs[i]).cells (ty t).kd.agg = some v) : ∃ b o c', c = .pointer (some ⟨b, o, none⟩) ∧ (loadVar t ⟨b, o, none⟩).run P w = .ok c' w ∧ VR K σ.length v c' := by
  have hO := hR.obj r _ hg
  have hsz : ∀ i (h : i < xs.length), (xs[i]).cells.length = sz := by obtain ⟨_, _, _, _, _, h, _⟩ := hO; exact h
  obtain ⟨a, cap, cc, h1, h2, hl, h3, h4, h5⟩ := vec_row hO
  obtain ⟨b, o, rfl, h6⟩ := h5 (by omega)
  cases hv with
  | vptr _ _ _ _ _ b' o' cap' hr ht =>
    rw [h1] at ht
    simp only [Option.some.injEq, Prod.mk.injEq, Addr.mk.injEq] at ht
    obtain ⟨⟨rfl, rfl, _⟩, rfl⟩ := ht
    have hmul : (i + 1) * sz ≤ xs.length * sz := Nat.mul_le_mul_right sz hi
    rw [Nat.add_mul] at hmul
    have key := load_sound (P := P) (K := K) (n := σ.length) (w := w) (b := b) (o := o + i * sz) (f := fun j => cc.getD (i * sz + j) undef) hT (cs := (xs[i]).cells) (fun j hj => ?_) hs
    · obtain ⟨c', k1, k2⟩ := key
      exact ⟨b, o + (i * sz + off), c', rfl, by rw [← Nat.add_assoc]; exact k1, k2⟩
    · have hj' : j < sz := by rw [← hsz i hi]; exact hj
      have hlt : i * sz + j < cc.length := by omega
      have hd : cc.getD (i * sz + j) undef = cc[i * sz + j] := by simp [List.getD, List.getElem?_eq_getElem hlt]
      have hgm := flatMap_get sz xs i j hsz hj'
      have hlt' : i * sz + j < (xs.flatMap AV.cells).length := by rw [h3.1]; exact hlt
      rw [List.getElem?_eq_getElem hlt', List.getElem?_eq_getElem hi] at hgm
      simp only [Option.bind_some, List.getElem?_eq_getElem hj, Option.some.injEq] at hgm
      have hvr := h3.2 _ hlt' hlt
      rw [hgm] at hvr
      refine ⟨?_, ?_, ?_⟩
      · show _ = some (cc.getD (i * sz + j) undef)
        rw [hd, Nat.add_assoc]; exact h6 _ hlt
      · show (cc.getD (i * sz + j) undef).oneCell' = true
        rw [hd]; exact h4 _ (List.getElem_mem hlt)
      · show VR K σ.length _ (cc.getD (i * sz + j) undef)
        rw [hd]; exact hvr

/-- An element is turned. -/
theorem vstore_sound (hT : TysOK P ty) {σ : List AObj} {w : World} (hR : R K σ w) {r sz i off t : Nat} {xs : List AV} (hk : (ty t).kd.agg.isSome = true) (hg : hget σ r = some (.vec sz xs)) {c : Value} (hp : VR K σ.length (.vptr r xs.length sz i off) c) (hi : i < xs.length)
    (hfx : (xs[i]).flat = true) {v : AV} {d : Value} (hv : VR K σ.length v d) (hf : v.flat = true) (hl : v.cells.length = (ty t).sz) (hlen : off + v.cells.length ≤ sz) :
    ∃ w', (Instr.storeAt t c d).run P w = .ok () w' ∧ R K (hset σ r (.vec sz (xs.set i (ofCells (xs[i]) (putAt off v.cells (xs[i]).cells))))) w' ∧ Step K σ w K (hset σ r (.vec sz (xs.set i (ofCells (xs[i]) (putAt off v.cells (xs[i]).cells))))) w' := by
  obtain ⟨a, cap, h1, h2, h3, hsz, h5⟩ := hR.obj r _ hg
  obtain ⟨b, o, cc, E, rfl, g2, g3, g4, g5, g6⟩ := h5 (by omega)
  obtain ⟨q1, q2⟩ := hv.cells hf
  have hdz : d.cells.size = (ty t).sz := by have := q1.1; simp at this; omega
  cases hp with
  | vptr _ _ _ _ _ b' o' cap' hr ht =>
    rw [h1] at ht
    simp only [Option.some.injEq, Prod.mk.injEq, Addr.mk.injEq] at ht
    obtain ⟨⟨rfl, rfl, _⟩, rfl⟩ := ht
    have hmul : (i + 1) * sz ≤ xs.length * sz := Nat.mul_le_mul_right sz hi
    have hmul2 : xs.length * sz ≤ cap * sz := Nat.mul_le_mul_right sz h2
    rw [Nat.add_mul] at hmul
    have hst := run_storeCells_at P b (o + (i * sz + off)) E d.cells.toList 0 cc w g2 (by simp; omega) (fun x hx => q2 x hx)
    simp only [Nat.add_zero] at hst
    have hdl : d.cells.toList.length = v.cells.length := q1.1.symm
    have hrow : VRs K σ.length (xs.flatMap AV.cells) ((cc.toList.drop o).take (xs.length * sz)) := g4
    have hxi : VRs K σ.length (xs[i]).cells (((cc.toList.drop o).take (xs.length * sz)).drop (i * sz) |>.take sz) := by
      have := (hrow.drop (i * sz)).take sz
      have e : ((xs.flatMap AV.cells).drop (i * sz)).take sz = (xs[i]).cells := by
        apply List.ext_getElem?
        intro j
        by_cases hj : j < sz
        · rw [List.getElem?_take_of_lt hj, List.getElem?_drop, flatMap_get sz xs i j hsz hj, List.getElem?_eq_getElem hi]; rfl
        · rw [List.getElem?_take_eq_none (by omega), List.getElem?_eq_none (by rw [hsz i hi]; omega)]
      rwa [e] at this
    have hone : ∀ c ∈ (((cc.toList.drop o).take (xs.length * sz)).drop (i * sz) |>.take sz), c.oneCell' = true := fun c hc => g5 c (List.mem_of_mem_drop (List.mem_of_mem_take (List.mem_of_mem_drop (List.mem_of_mem_take hc))))
    have hput : VRs K σ.length (putAt off v.cells (xs[i]).cells) (let l := (((cc.toList.drop o).take (xs.length * sz)).drop (i * sz) |>.take sz); l.take off ++ d.cells.toList ++ l.drop (off + v.cells.length)) := ((hxi.take off).append q1).append (hxi.drop _)
    have hpl : (putAt off v.cells (xs[i]).cells).length = (xs[i]).cells.length := by
      have := hsz i hi
      simp only [putAt, List.length_append, List.length_take, List.length_drop]; omega
    have hoc : (ofCells (xs[i]) (putAt off v.cells (xs[i]).cells)).cells = putAt off v.cells (xs[i]).cells ∧ (ofCells (xs[i]) (putAt off v.cells (xs[i]).cells)).flat = true := by
      cases hx : xs[i] with
      | agg ds => exact ⟨rfl, rfl⟩
      | tup ds => rw [hx] at hfx; simp [AV.flat] at hfx
      | _ =>
        rw [hx] at hxi hput hpl
        have hx1 := hxi.1
        simp only [AV.cells, List.length_singleton] at hx1 hxi hpl
        obtain ⟨e, he⟩ := List.length_eq_one_iff.1 hx1.symm
        rw [he] at hxi
        refine ofCells_cells (K := K) (n := σ.length) hxi.head (by rw [hx] at hfx; exact hfx) hpl hput fun c hc => ?_
        simp only [List.mem_append] at hc
        rcases hc with (hc | hc) | hc
        · exact hone c (List.mem_of_mem_take hc)
        · exact q2 c hc
        · exact hone c (List.mem_of_mem_drop hc)
    have hfm := flatMap_set sz xs i _ off v.cells hsz hi hoc.1 hlen
    refine ⟨w.setRow b (cc.toList.take (o + (i * sz + off)) ++ d.cells.toList ++ cc.toList.drop (o + (i * sz + off) + d.cells.toList.length)).toArray, ?_, ?_⟩
    · simp only [Instr.storeAt, Instr.sureAddr, storeVar, Sem.run_bind, Sem.run_pure, Result.andThen_ok, run_size hT (kd_of_agg hk), hdz, ne_eq, not_true_eq_false, if_false]
      exact hst
    · refine hR.turn hg b ⟨_, cap, h1, by omega, rfl⟩ K (.refl _ _) (fun _ _ => rfl) (fun b hb => setRow_other w _ _ _ hb) (setRow_size _ _ _) (fun _ _ _ => rfl) (fun p v' hv' => by rw [g6 p] at hv'; cases hv') (fun b' hb => ?_) ?_ rfl rfl rfl (by rw [setRow_heap w _ cc _ E (0, 0) g2, g2]; rfl)
      · obtain ⟨a', cap', k1, k2, rfl⟩ := hb
        simp only [List.length_set] at k1
        rw [h1] at k1; simp at k1; rw [← k1.1]
      · refine ⟨_, cap, by simpa using h1, by simpa using h2, by simpa using h3, fun j hj => ?_, fun hc => ⟨b, o, _, E, rfl, setRow_heap w _ cc _ E (0, 0) g2, ?_, ?_, ?_, g6⟩⟩
        · rw [List.getElem_set]
          split
          · rw [hoc.1, hpl]; exact hsz i hi
          · exact hsz j (by simpa using hj)
        · simp only [List.size_toArray, List.length_append, List.length_take, List.length_drop, Array.length_toList]; omega
        · rw [hfm]
          simp only [List.length_set]
          have hnew : ((cc.toList.take (o + (i * sz + off)) ++ d.cells.toList ++ cc.toList.drop (o + (i * sz + off) + d.cells.toList.length)).drop o).take (xs.length * sz) =
              (let l := (cc.toList.drop o).take (xs.length * sz); l.take (i * sz + off) ++ d.cells.toList ++ l.drop (i * sz + off + v.cells.length)) := by
            have hsz2 : cc.toList.length = cc.size := by simp
            apply List.ext_getElem?
            intro j
            simp only [List.getElem?_take, List.getElem?_drop, List.getElem?_append, List.length_append, List.length_take, List.length_drop, hdl, hsz2]
            grind
          rw [hnew]
          exact ((hrow.take _).append q1).append (hrow.drop _)
        · intro x hx
          simp only [List.mem_append] at hx
          rcases hx with (hx | hx) | hx
          · exact g5 x (List.mem_of_mem_take hx)
          · exact q2 x hx
          · exact g5 x (List.mem_of_mem_drop hx)

theorem append_room (hT : TysOK P ty) {w w' : World} {t0 t1 e e' : Nat} {ats : Array TypeId} (ht0 : ats[0]? = some t0) (ht1 : ats[1]? = some t1) (hk0 : (ty t0).kd = .slice e) (hk1 : (ty t1).kd = .slice e') (hag : (ty e).kd.agg.isSome = true) (type : TypeId)
    {a a2 : Option Addr} {l cap l2 cap2 : Nat} {cc2 : List Value} (hle : l + l2 ≤ cap) (hfc2 : (Builtin.firstCells (ty e).sz l2 (.slice a2 l2 cap2)).run P w = .ok cc2.toArray w)
    (hst : ∀ b, a = some b → (storeCells (b.add (l * (ty e).sz)) cc2).run P w = .ok () w') (hno : a = none → w' = w) :
    (Builtin.append_ ats type #[.slice a l cap, .slice a2 l2 cap2]).run P w = .ok (.slice a (l + l2) cap) w' := by
  have hk0' : (ty t0).kd ≠ .other := by rw [hk0]; simp
  have hk1' : (ty t1).kd ≠ .other := by rw [hk1]; simp
  obtain ⟨d0, hd0, hu0⟩ := run_under hT hk0'
  obtain ⟨d1, hd1, hu1⟩ := run_under hT hk1'
  rw [hk0] at hd0; rw [hk1] at hd1
  simp only [KdOK] at hd0 hd1; subst hd0; subst hd1
  cases a with
  | none => simp [Builtin.append_, ht0, ht1, hu0 w, hu1 w, run_size hT (kd_of_agg hag), Builtin.lenOf, hle, hfc2, hno rfl]
  | some b => simp [Builtin.append_, ht0, ht1, hu0 w, hu1 w, run_size hT (kd_of_agg hag), Builtin.lenOf, hle, hfc2, hst b rfl]

theorem append_grow (hT : TysOK P ty) {w : World} {t0 t1 e e' : Nat} {ats : Array TypeId} (ht0 : ats[0]? = some t0) (ht1 : ats[1]? = some t1) (hk0 : (ty t0).kd = .slice e) (hk1 : (ty t1).kd = .slice e') (hag : (ty e).kd.agg.isSome = true) (hby : (ty e).bytes ≤ 4096)
    (hzl : (ty e).zero.cells.length = (ty e).sz) (type : TypeId)
    {a a2 : Option Addr} {l cap l2 cap2 : Nat} {cc cc2 : List Value} (hlt : cap < l + l2) (hbound : l + l2 ≤ 4294967296) (hfd1 : ∀ d, (Builtin.firstCells (ty e).sz l (.slice a l cap)).run P { w with drawn := d } = .ok cc.toArray { w with drawn := d })
    (hfd2 : ∀ d, (Builtin.firstCells (ty e).sz l2 (.slice a2 l2 cap2)).run P { w with drawn := d } = .ok cc2.toArray { w with drawn := d }) :
    ∃ nc rest d, l + l2 ≤ nc ∧ rest.length = (nc - (l + l2)) * (ty e).sz ∧ (∀ x ∈ rest, x.oneCell' = true) ∧
      (Builtin.append_ ats type #[.slice a l cap, .slice a2 l2 cap2]).run P w = .ok (.slice (some ⟨w.heap.size, 0, none⟩) (l + l2) nc) (({ w with drawn := d } : World).alloc (.cells (cc ++ cc2 ++ rest).toArray e (0, 0))) := by
  have hk0' : (ty t0).kd ≠ .other := by rw [hk0]; simp
  have hk1' : (ty t1).kd ≠ .other := by rw [hk1]; simp
  obtain ⟨d0, hd0, hu0⟩ := run_under hT hk0'
  obtain ⟨d1, hd1, hu1⟩ := run_under hT hk1'
  rw [hk0] at hd0; rw [hk1] at hd1
  simp only [KdOK] at hd0 hd1; subst hd0; subst hd1
  obtain ⟨z, hz, hzr⟩ := run_zero (K := ⟨fun _ => 0, fun _ _ => none, fun _ _ => none⟩) (n := 0) hT (kd_of_agg hag)
  obtain ⟨ti, hi1, hi2, _, hir⟩ := run_info hT (kd_of_agg hag)
  have hzc := hz.cells (zero_flat hT (kd_of_agg hag))
  have hzs : z.cells.size = (ty e).sz := by
    have := hzc.1.1; simp at this; omega
  have hq : Builtin.nextslicecap (l + l2) cap * (ty e).bytes ≤ 2 ^ 48 := by
    have h3 := nextcap_le _ _ hlt
    have h4 : Builtin.nextslicecap (l + l2) cap ≤ 8589934792 := by omega
    calc _ ≤ 8589934792 * 4096 := Nat.mul_le_mul h4 hby
      _ ≤ 2 ^ 48 := by decide
  generalize hnc : (l + l2) + w.tape w.drawn (.appendCap (l + l2) cap e) % (2 ^ 63 - (l + l2)) = nc
  have hncl : l + l2 ≤ nc := by omega
  let wd : World := { w with drawn := w.drawn + 1 }
  have hfd1' : (Builtin.firstCells (ty e).sz l (.slice a l cap)).run P wd = .ok cc.toArray wd := hfd1 _
  have hfd2' : (Builtin.firstCells (ty e).sz l2 (.slice a2 l2 cap2)).run P wd = .ok cc2.toArray wd := hfd2 _
  have hch : (choose (.appendCap (l + l2) cap e)).run P w = .ok nc wd := by
    rw [run_choose]; simp only [Question.forced, Question.cut, Bool.false_eq_true, if_false, hnc]; rfl
  refine ⟨nc, (Builtin.zeroCells z.cells (nc - (l + l2))).toList, w.drawn + 1, hncl, by rw [Array.length_toList, zeroCells_size, hzs], fun x hx => ?_, ?_⟩
  · simp only [Builtin.zeroCells, Array.toList_map, List.mem_map] at hx
    obtain ⟨q, hq, rfl⟩ := hx
    have hq' : q < (nc - (l + l2)) * z.cells.size := by simpa using hq
    have hpos : 0 < z.cells.size := by
      rcases Nat.eq_zero_or_pos z.cells.size with h | h
      · rw [h] at hq'; simp at hq'
      · exact h
    have hm := Nat.mod_lt q hpos
    rw [getElem!_pos z.cells (q % z.cells.size) hm]
    exact hzc.2 _ (by simp)
  have hle : ¬ l + l2 ≤ cap := by omega
  have hb : ¬ (Builtin.nextslicecap (l + l2) cap * ti.bytes > 2 ^ 48) := by rw [hi2]; omega
  have hb' : ¬ (281474976710656 < Builtin.nextslicecap (l + l2) cap * ti.bytes) := by simpa using hb
  have hn9 : ¬ (IntKind.i64.max < (l : Int) + l2) := by simp [IntKind.max, IntKind.signed, IntKind.bits]; omega
  simp [Builtin.append_, ht0, ht1, hu0 w, hu1 w, run_size hT (kd_of_agg hag), Builtin.lenOf, hle, hir, hb', hn9, hch, hfd1', hfd2', hzr, newRow]
  rw [if_neg (by omega), if_neg (by simp [Question.forced])]
  have hdrew : w.drew = wd := rfl
  rw [hdrew, hfd1', Result.andThen_ok, hfd2', Result.andThen_ok]
  have hcut : (Question.appendCap (l + l2) cap e).cut (w.tape w.drawn (Question.appendCap (l + l2) cap e)) = nc := hnc
  rw [hcut]
  have harr : cc.toArray ++ (cc2.toArray ++ Builtin.zeroCells z.cells (nc - (l + l2))) = (cc ++ cc2 ++ (Builtin.zeroCells z.cells (nc - (l + l2))).toList).toArray := by
    apply Array.ext'; simp
  rw [harr, List.append_assoc]

theorem len_app_sz {sz : Nat} {xs ys : List AV} (hs1 : ∀ i (h : i < xs.length), (xs[i]).cells.length = sz) (hs2 : ∀ i (h : i < ys.length), (ys[i]).cells.length = sz) : ∀ i (h : i < (xs ++ ys).length), ((xs ++ ys)[i]).cells.length = sz := fun i hi => by
  by_cases e : i < xs.length
  · rw [List.getElem_append_left e]; exact hs1 i e
  · rw [List.getElem_append_right (by omega)]; exact hs2 _ _

/-- THE FIRST APPEND TO AN EMPTY LIST. -/
theorem fapp_sound (hT : TysOK P ty) {σ σ' : List AObj} {w : World} (hR : R K σ w) {t0 t1 e e' : Nat} {ats : Array TypeId} (ht0 : ats[0]? = some t0) (ht1 : ats[1]? = some t1) (hk0 : (ty t0).kd = .slice e) (hk1 : (ty t1).kd = .slice e')
    {t' : Tok} {sz sz' : Nat} {ys : List AV} {c1 c2 : Value} {v : AV} (hv1 : VR K σ.length (.list .full sz []) c1) (hv2 : VR K σ.length (.list t' sz' ys) c2) (h : appF (ty e) σ sz' ys = some (v, σ')) (type : TypeId) :
    ∃ c K' w', (Builtin.append_ ats type #[c1, c2]).run P w = .ok c w' ∧ VR K' σ'.length v c ∧ R K' σ' w' ∧ Step K σ w K' σ' w' := by
  unfold appF at h
  split at h
  case isFalse => cases h
  rename_i hc
  obtain ⟨hag, hpos, hby, hzl, hsz', hbound⟩ := hc
  simp only [Option.some.injEq, Prod.mk.injEq] at h
  obtain ⟨rfl, rfl⟩ := h
  obtain ⟨a2, cap2, cc2, rfl, hcap2, _, hs2, hvr2, h2, ha2⟩ := hv2.list_row
  obtain ⟨a, cap, cc, rfl, hcap, htok, _⟩ := hv1.list_row
  have hc0 : cap = 0 := htok
  subst hc0
  have hs2' : ∀ i (h : i < ys.length), (ys[i]).cells.length = (ty e).sz := fun i hi => by
    rcases hsz' with e | e
    · rw [← e]; exact hs2 i hi
    · subst e; simp at hi
  have hl2 : cc2.length = ys.length * (ty e).sz := by rw [← hvr2.1, flatMap_len _ ys hs2']
  have hfc2 := run_firstCells (P := P) (w := w) hR (a := a2) (len := ys.length) (cap := cap2) hl2 (fun hx => ha2 (list_len_pos hx))
  have hnewq : ∀ (o : AObj) q o', q ≠ σ.length → (σ ++ [o])[q]? = some o' → σ[q]? = some o' := fun o q o' hq hg => by
    rw [List.getElem?_append] at hg
    split at hg
    · exact hg
    · cases hk : q - σ.length with
      | zero => omega
      | succ j => rw [hk] at hg; simp at hg
  by_cases hyn : ys = []
  · subst hyn
    have hc0 : cc2 = [] := List.eq_nil_of_length_eq_zero (by rw [hl2]; simp)
    let K' : Kr := K.setT σ.length fun k => if k = 0 then some (a, 0) else none
    have hext : Ext σ.length K K' := ⟨fun _ _ => rfl, fun q hq k x hx => by simp only [K', Kr.setT]; rw [if_neg (by omega)]; exact hx, fun _ _ _ h => h⟩
    have hK' : ∀ k, K'.tl σ.length k = if k = 0 then some (a, 0) else none := fun k => by simp only [K', Kr.setT, if_true]
    obtain ⟨r1, r2⟩ := hR.ghostAt (σ' := σ ++ [.vec (ty e).sz []]) σ.length (.vec (ty e).sz []) K' hext (by simp) (by simp) (hnewq _)
      (fun q hq => by simp only [K', Kr.setT]; rw [if_neg hq]) rfl
      (fun b hb => by
        obtain ⟨a', cap', g1, g2, _⟩ := hb
        rw [hK'] at g1; simp at g1; omega)
      ⟨a, 0, by rw [hK']; rfl, Nat.le_refl _, fun k hk => by rw [hK', if_neg (by simp at hk; omega)], fun i hi => by simp at hi, fun h => absurd h (Nat.lt_irrefl _)⟩
    refine ⟨_, K', w, append_room hT ht0 ht1 hk0 hk1 hag type (by simp) hfc2 (fun b _ => by subst hc0; rfl) (fun _ => rfl), ?_, r1, r2⟩
    exact .vec _ _ a 0 (by simp) (by simp) (by rw [hK']; rfl) (.inl rfl)
  have hyl : 0 < ys.length := List.length_pos_iff.2 hyn
  obtain ⟨nc, rest, d, g1, g2, g2', g3⟩ := append_grow hT ht0 ht1 hk0 hk1 hag hby hzl type (a := a) (a2 := a2) (cap2 := cap2) (cc := []) (cc2 := cc2) (w := w) (l := 0) (l2 := ys.length) (cap := 0) (by omega) (by omega)
    (fun d => run_firstCellsW (by simp) (fun hx => absurd rfl hx))
    (fun d => run_firstCells (hR.drew d) hl2 (fun hx => ha2 (list_len_pos hx)))
  let K' : Kr := K.setT σ.length fun k => if k = ys.length then some (some ⟨w.heap.size, 0, none⟩, nc) else none
  have hext : Ext σ.length K K' := ⟨fun _ _ => rfl, fun q hq k x hx => by simp only [K', Kr.setT]; rw [if_neg (by omega)]; exact hx, fun _ _ _ h => h⟩
  have hK' : ∀ k, K'.tl σ.length k = if k = ys.length then some (some ⟨w.heap.size, 0, none⟩, nc) else none := fun k => by simp only [K', Kr.setT, if_true]
  have htot : (cc2 ++ rest).length = nc * (ty e).sz := by
    simp only [List.length_append, g2]
    have : nc * (ty e).sz = ys.length * (ty e).sz + (nc - (0 + ys.length)) * (ty e).sz := by rw [← Nat.add_mul]; congr 1; omega
    omega
  have hg3 : ([] ++ cc2 ++ rest) = cc2 ++ rest := by simp
  rw [hg3] at g3
  obtain ⟨r1, r2⟩ := (hR.drew d).newAt (σ' := σ ++ [.vec (ty e).sz ys]) σ.length (.vec (ty e).sz ys) (.cells (cc2 ++ rest).toArray e (0, 0)) K' hext (by simp) (by simp) (by simp) (hnewq _)
    (fun q hq => by simp only [K', Kr.setT]; rw [if_neg hq]) (fun b p v hv => .inl hv)
    (fun b hb => by
      obtain ⟨a', cap', k1, k2, rfl⟩ := hb
      rw [hK'] at k1; simp at k1; rw [← k1.1])
    ⟨_, nc, by rw [hK', if_pos rfl], by omega, fun k hk => by rw [hK', if_neg (by omega)], hs2', fun _ => ⟨w.heap.size, 0, _, e, rfl, heap_alloc_new _ _, by
        simp only [Nat.zero_add, List.size_toArray, htot]; exact Nat.le_refl _, by
        simp only [List.drop_zero]
        rw [← hl2, List.take_left']
        · exact hvr2.mono hext (by simp)
        · rfl, by
        intro x hx
        simp only [List.mem_append] at hx
        rcases hx with hx | hx
        · exact h2 x hx
        · exact g2' x hx, fun p => by
        cases hk : K.S w.heap.size p with
        | none => exact hk
        | some v => have := hR.lt hk; omega⟩⟩
  refine ⟨_, K', _, g3, ?_, r1, r2.drew d⟩
  rw [Nat.zero_add]
  exact .vec _ _ _ nc (by simp) (by omega) (by rw [hK', if_pos rfl]) (.inr ⟨_, _, rfl⟩)

/-- A new slice of zeros. -/
theorem makeSlice_sound (hT : TysOK P ty) {σ : List AObj} {w : World} (hR : R K σ w) {t e : Nat} {l : Int} {k k' : IntKind} (hkd : (ty t).kd = .slice e) (h0 : 0 ≤ l) (h1 : l ≤ 1048576) (hag : (ty e).kd.agg.isSome = true) (hby : (ty e).bytes ≤ 4096) (hpos : 0 < (ty e).sz) (hzl : (ty e).zero.cells.length = (ty e).sz) :
    ∃ c K' w', (Instr.makeSlice t (.int k l) (.int k' l)).run P w = .ok c w' ∧ VR K' (σ.length + 1) (.vec σ.length l.toNat) c ∧ R K' (σ ++ [.vec (ty e).sz (List.replicate l.toNat (ty e).zero)]) w' ∧ Step K σ w K' (σ ++ [.vec (ty e).sz (List.replicate l.toNat (ty e).zero)]) w' := by
  have hk0' : (ty t).kd ≠ .other := by rw [hkd]; simp
  obtain ⟨d0, hd0, hu0⟩ := run_under hT hk0'
  rw [hkd] at hd0
  simp only [KdOK] at hd0; subst hd0
  obtain ⟨z, hz, hzr⟩ := run_zero (K := K) (n := σ.length) hT (kd_of_agg hag)
  obtain ⟨ti, hi1, hi2, _, hir⟩ := run_info hT (kd_of_agg hag)
  obtain ⟨q1, q2⟩ := hz.cells (zero_flat hT (kd_of_agg hag))
  have hzs : z.cells.size = (ty e).sz := by have := q1.1; simp at this; omega
  have hw : IntKind.i64.wrap l = l := by rw [IntKind.wrap_i64]; omega
  generalize hn : l.toNat = n
  have hln : l = n := by omega
  let row : Array Value := (Array.range (n * (ty e).sz)).map (z.cells[· % z.cells.size]!)
  have hrow : row.size = n * (ty e).sz := by simp [row]
  have hone : ∀ c ∈ row.toList, c.oneCell' = true := fun c hc => by
    simp only [row, Array.toList_map, List.mem_map] at hc
    obtain ⟨q, hq, rfl⟩ := hc
    have hm := Nat.mod_lt q (show 0 < z.cells.size by omega)
    rw [getElem!_pos z.cells (q % z.cells.size) hm]
    exact q2 _ (by simp)
  have hVR : VRs K σ.length ((List.replicate n (ty e).zero).flatMap AV.cells) row.toList := by
    have hl : ((List.replicate n (ty e).zero).flatMap AV.cells).length = n * (ty e).sz := by rw [flatMap_len (ty e).sz _ (fun i hi => by simp [hzl])]; simp
    refine ⟨by rw [hl]; simp [row], fun i g1 g2 => ?_⟩
    rw [hl] at g1
    have hd : i / (ty e).sz < n := (Nat.div_lt_iff_lt_mul hpos).2 g1
    have hm := Nat.mod_lt i hpos
    have hgm := flatMap_get (ty e).sz (List.replicate n (ty e).zero) (i / (ty e).sz) (i % (ty e).sz) (fun i hi => by simp [hzl]) hm
    have hdm : i / (ty e).sz * (ty e).sz + i % (ty e).sz = i := by rw [Nat.mul_comm]; exact Nat.div_add_mod i _
    rw [hdm, List.getElem?_eq_getElem (by rw [hl]; exact g1), List.getElem?_eq_getElem (by simpa using hd)] at hgm
    simp only [Option.bind_some, List.getElem_replicate] at hgm
    have hlt : i % (ty e).sz < (ty e).zero.cells.length := by omega
    rw [List.getElem?_eq_getElem hlt, Option.some.injEq] at hgm
    rw [hgm]
    have hm' : i % z.cells.size < z.cells.size := by rw [hzs]; exact hm
    have hr : row.toList[i] = z.cells.toList[i % (ty e).sz]'(by simp; omega) := by
      simp only [row, Array.getElem_toList, Array.getElem_map, Array.getElem_range]
      rw [getElem!_pos z.cells (i % z.cells.size) hm']
      simp [hzs]
    rw [hr]
    exact q1.2 _ hlt _
  let K' : Kr := K.setT σ.length fun k => if k = n then some (some ⟨w.heap.size, 0, none⟩, n) else none
  have hext : Ext σ.length K K' := ⟨fun _ _ => rfl, fun q hq k x hx => by simp only [K', Kr.setT]; rw [if_neg (by omega)]; exact hx, fun _ _ _ h => h⟩
  have hK' : ∀ k, K'.tl σ.length k = if k = n then some (some ⟨w.heap.size, 0, none⟩, n) else none := fun k => by simp only [K', Kr.setT, if_true]
  obtain ⟨r1, r2⟩ := hR.new (.vec (ty e).sz (List.replicate n (ty e).zero)) (.cells row e (0, 0)) K' hext
    (fun q hq => by simp only [K', Kr.setT]; rw [if_neg hq]) (fun b p v hv => .inl hv)
    (fun b hb => by
      obtain ⟨a', cap', k1, k2, rfl⟩ := hb
      rw [List.length_replicate, hK', if_pos rfl] at k1; simp at k1; rw [← k1.1])
    ⟨_, n, by rw [List.length_replicate, hK', if_pos rfl], by simp, fun k hk => by rw [List.length_replicate] at hk; rw [hK', if_neg (by omega)], fun i hi => by simp [hzl], fun _ => ⟨w.heap.size, 0, row, e, rfl, heap_alloc_new _ _, by
        rw [hrow, Nat.zero_add]; exact Nat.le_refl _, by
        rw [List.drop_zero, List.length_replicate, List.take_of_length_le (by simp [row])]
        exact hVR.mono hext (by omega), hone, fun p => by
        cases hk : K.S w.heap.size p with
        | none => exact hk
        | some v => have := hR.lt hk; omega⟩⟩
  refine ⟨.slice (some ⟨w.heap.size, 0, none⟩) n n, K', _, ?_, .vec _ _ _ n (by omega) (Nat.le_refl _) (by rw [hK', if_pos rfl]) (.inr ⟨_, _, rfl⟩), r1, r2⟩
  have hby' : (ti.bytes : Int) * l ≤ 4096 * 1048576 := Int.mul_le_mul (by omega) h1 h0 (by decide)
  have hnn : ¬ (281474976710656 < (ti.bytes : Int) * l) := by omega
  have hl0 : ¬ l < 0 := by omega
  by_cases hn0 : n * (ty e).sz = 0
  · have hn1 : n = 0 := by
      rcases Nat.eq_zero_or_pos n with h | h
      · exact h
      · have := Nat.mul_pos h hpos; omega
    have hrow0 : row = #[] := by
      apply Array.eq_empty_of_size_eq_zero
      rw [hrow, hn0]
    rw [hrow0]
    simp [Instr.makeSlice, asInt, asIntOf, hu0 w, hir, hw, hl0, hnn, hn, run_size hT (kd_of_agg hag), newRow, hn1]
    congr 2
    apply Array.eq_empty_of_size_eq_zero
    simp
  · simp [Instr.makeSlice, asInt, asIntOf, hu0 w, hir, hw, hl0, hnn, hn, run_size hT (kd_of_agg hag), newRow, hn0, hzr, row]

/-- AN APPEND TO A VECTOR. -/
theorem vapp_sound (hT : TysOK P ty) {σ σ' : List AObj} {w : World} (hR : R K σ w) {t0 t1 e e' : Nat} {ats : Array TypeId} (ht0 : ats[0]? = some t0) (ht1 : ats[1]? = some t1) (hk0 : (ty t0).kd = .slice e) (hk1 : (ty t1).kd = .slice e')
    {t' : Tok} {r len sz' : Nat} {ys : List AV} {c1 c2 : Value} {v : AV} (hv1 : VR K σ.length (.vec r len) c1) (hv2 : VR K σ.length (.list t' sz' ys) c2) (h : appV (ty e) σ r len sz' ys = some (v, σ')) (type : TypeId) :
    ∃ c K' w', (Builtin.append_ ats type #[c1, c2]).run P w = .ok c w' ∧ VR K' σ'.length v c ∧ R K' σ' w' ∧ Step K σ w K' σ' w' := by
  unfold appV at h
  split at h
  case h_2 => cases h
  rename_i sz xs hg
  split at h
  case isFalse => cases h
  rename_i hc
  obtain ⟨hag, hpos, hby, hzl, rfl, hsz', rfl, hbound⟩ := hc
  simp only [Option.some.injEq, Prod.mk.injEq] at h
  obtain ⟨rfl, rfl⟩ := h
  obtain ⟨a2, cap2, cc2, rfl, hcap2, _, hs2, hvr2, h2, ha2⟩ := hv2.list_row
  have hs2' : ∀ i (h : i < ys.length), (ys[i]).cells.length = (ty e).sz := fun i hi => by
    rcases hsz' with e | e
    · rw [← e]; exact hs2 i hi
    · subst e; simp at hi
  have hl2 : cc2.length = ys.length * (ty e).sz := by rw [← hvr2.1, flatMap_len _ ys hs2']
  have hO := hR.obj r _ hg
  have hr := hget_lt hg
  obtain ⟨a, cap, cc, h1, hcap, hl1, hvr1, hone, hrow⟩ := vec_row hO
  cases hv1 with
  | vec _ _ a' cap' _ hlc ht ha =>
  rw [h1] at ht; simp only [Option.some.injEq, Prod.mk.injEq] at ht
  obtain ⟨rfl, rfl⟩ := ht
  obtain ⟨a'', cap'', k1, _, hnew, hs1, hblk⟩ := hO
  rw [h1] at k1; simp only [Option.some.injEq, Prod.mk.injEq] at k1
  obtain ⟨rfl, rfl⟩ := k1
  have hsl : ∀ o, (hset σ r o).length = σ.length := fun o => by simp [hset]
  have hfc2 := run_firstCells (P := P) (w := w) hR (a := a2) (len := ys.length) (cap := cap2) hl2 (fun hx => ha2 (list_len_pos hx))
  by_cases hyn : ys = []
  · subst hyn
    have hσ : hset σ r (.vec (ty e).sz (xs ++ [])) = σ := by rw [List.append_nil]; exact hset_same' hg
    have hc0 : cc2 = [] := List.eq_nil_of_length_eq_zero (by rw [hl2]; simp)
    rw [hσ]
    refine ⟨_, K, w, append_room hT ht0 ht1 hk0 hk1 hag type (by simpa using hcap) hfc2 (fun b _ => by subst hc0; rfl) (fun _ => rfl), ?_, hR, .refl _ _ _⟩
    exact .vec r _ a cap hr (by simpa using hcap) (by simpa using h1) (by simpa using ha)
  have hyl : 0 < ys.length := List.length_pos_iff.2 hyn
  have hall := len_app_sz hs1 hs2'
  by_cases hle : xs.length + ys.length ≤ cap
  · obtain ⟨b, o, cells, E, rfl, g2, g3, g4, g5, g6⟩ := hblk (by omega)
    have hle2 : (xs.length + ys.length) * (ty e).sz ≤ cap * (ty e).sz := Nat.mul_le_mul_right _ hle
    rw [Nat.add_mul] at hle2
    have hst := run_storeCells_at P b (o + xs.length * (ty e).sz) E cc2 0 cells w g2 (by omega) h2
    simp only [Nat.add_zero] at hst
    let K' : Kr := { K with tl := fun q k => if q = r ∧ k = xs.length + ys.length then some (some ⟨b, o, none⟩, cap) else K.tl q k }
    have hext : Ext σ.length K K' := ⟨fun _ _ => rfl, fun q hq k x hx => by
      show (if q = r ∧ k = xs.length + ys.length then _ else _) = _
      by_cases e : q = r ∧ k = xs.length + ys.length
      · obtain ⟨e1, e2⟩ := e
        rw [e1, e2, hnew _ (by omega)] at hx; cases hx
      · rw [if_neg e]; exact hx, fun _ _ _ h => h⟩
    have hK' : K'.tl r (xs ++ ys).length = some (some ⟨b, o, none⟩, cap) := if_pos ⟨rfl, by simp⟩
    obtain ⟨r1, r2⟩ := hR.turn (w' := w.setRow b (cells.toList.take (o + xs.length * (ty e).sz) ++ cc2 ++ cells.toList.drop (o + xs.length * (ty e).sz + cc2.length)).toArray) hg b ⟨_, cap, h1, by omega, rfl⟩ K' hext
      (o' := .vec (ty e).sz (xs ++ ys))
      (fun q hq => by funext k; show (if q = r ∧ k = _ then _ else _) = _; rw [if_neg (fun h => hq h.1)])
      (fun b' hb => setRow_other w _ _ _ hb) (setRow_size _ _ _) (fun _ _ _ => rfl) (fun p v hv => by rw [show K'.S b p = K.S b p from rfl, g6 p] at hv; cases hv)
      (fun b' hb => by
        obtain ⟨a', cap', k1, k2, rfl⟩ := hb
        rw [hK'] at k1; simp at k1; rw [← k1.1])
      ⟨some ⟨b, o, none⟩, cap, hK', by simpa using hle, fun k hk => by
          simp only [List.length_append] at hk
          show (if r = r ∧ k = _ then _ else _) = _
          rw [if_neg (by omega)]; exact hnew k (by omega), hall, fun _ => ⟨b, o, _, E, rfl, setRow_heap w b cells _ E (0, 0) g2, by
          simp only [List.size_toArray, List.length_append, List.length_take, List.length_drop, Array.length_toList]; omega, by
          have hnew2 : ((cells.toList.take (o + xs.length * (ty e).sz) ++ cc2 ++ cells.toList.drop (o + xs.length * (ty e).sz + cc2.length)).drop o).take ((xs ++ ys).length * (ty e).sz) = (cells.toList.drop o).take (xs.length * (ty e).sz) ++ cc2 := by
            have hsz2 : cells.toList.length = cells.size := by simp
            rw [List.length_append, Nat.add_mul, ← hl2]
            apply List.ext_getElem?
            intro j
            simp only [List.getElem?_take, List.getElem?_drop, List.getElem?_append, List.length_append, List.length_take, List.length_drop, hsz2]
            grind
          simp only []
          rw [hnew2, List.flatMap_append]
          exact (g4.append hvr2).mono hext (Nat.le_refl _), by
          intro x hx
          simp only [List.mem_append] at hx
          rcases hx with (hx | hx) | hx
          · exact g5 x (List.mem_of_mem_take hx)
          · exact h2 x hx
          · exact g5 x (List.mem_of_mem_drop hx), g6⟩⟩
      rfl rfl rfl (by rw [setRow_heap w b cells _ E (0, 0) g2, g2]; rfl)
    refine ⟨_, K', _, append_room hT ht0 ht1 hk0 hk1 hag type hle hfc2 (fun b' hb => by simp only [Option.some.injEq] at hb; subst hb; rw [addr_add]; exact hst) (fun h => by cases h), ?_, r1, r2⟩
    rw [hsl]
    exact .vec r _ _ cap hr hle (by simpa using hK') (.inr ⟨b, o, rfl⟩)
  · obtain ⟨nc, rest, d, g1, g2, g2', g3⟩ := append_grow hT ht0 ht1 hk0 hk1 hag hby hzl type (a := a) (a2 := a2) (cap2 := cap2) (cc := cc) (cc2 := cc2) (w := w) (l := xs.length) (l2 := ys.length) (cap := cap) (by omega) hbound
      (fun d => run_firstCellsW hl1 (fun hx => by obtain ⟨b, o, q1, q2⟩ := hrow hx; exact ⟨b, o, q1, q2⟩))
      (fun d => run_firstCells (hR.drew d) hl2 (fun hx => ha2 (list_len_pos hx)))
    let K' : Kr := K.setT r fun k => if k = xs.length + ys.length then some (some ⟨w.heap.size, 0, none⟩, nc) else K.tl r k
    have hext : Ext σ.length K K' := ⟨fun _ _ => rfl, fun q hq k x hx => by
      simp only [K', Kr.setT]
      by_cases e : q = r
      · subst e
        rw [if_pos rfl]
        by_cases e2 : k = xs.length + ys.length
        · rw [e2, hnew _ (by omega)] at hx; cases hx
        · rw [if_neg e2]; exact hx
      · rw [if_neg e]; exact hx, fun _ _ _ h => h⟩
    have hK' : K'.tl r (xs ++ ys).length = some (some ⟨w.heap.size, 0, none⟩, nc) := by simp only [K', Kr.setT, if_true]; rw [if_pos (by simp)]
    have htot : (cc ++ cc2 ++ rest).length = nc * (ty e).sz := by
      simp only [List.length_append, g2]
      have : nc * (ty e).sz = xs.length * (ty e).sz + ys.length * (ty e).sz + (nc - (xs.length + ys.length)) * (ty e).sz := by rw [← Nat.add_mul, ← Nat.add_mul]; congr 1; omega
      omega
    obtain ⟨r1, r2⟩ := (hR.drew d).newAt (σ' := hset σ r (.vec (ty e).sz (xs ++ ys))) r (.vec (ty e).sz (xs ++ ys)) (.cells (cc ++ cc2 ++ rest).toArray e (0, 0)) K' hext (by rw [hsl]; exact Nat.le_refl _) (by rw [hsl]; exact hr) (hset_get_same hr) (fun q o' hq hg => hset_get_other hq hg)
      (fun q hq => by simp only [K', Kr.setT]; rw [if_neg hq]) (fun b p v hv => .inl hv)
      (fun b hb => by
        obtain ⟨a', cap', k1, k2, rfl⟩ := hb
        rw [hK'] at k1; simp at k1; rw [← k1.1])
      ⟨_, nc, hK', by simpa using g1, fun k hk => by
          simp only [List.length_append] at hk
          simp only [K', Kr.setT, if_true]; rw [if_neg (by omega)]; exact hnew k (by omega), hall, fun _ => ⟨w.heap.size, 0, _, e, rfl, heap_alloc_new _ _, by
          simp only [Nat.zero_add, List.size_toArray, htot]; exact Nat.le_refl _, by
          simp only [List.drop_zero]
          have hl12 : (xs ++ ys).length * (ty e).sz = (cc ++ cc2).length := by simp only [List.length_append, Nat.add_mul, hl1, hl2]
          rw [hl12, List.take_left', List.flatMap_append]
          · rw [hsl]; exact (hvr1.append hvr2).mono hext (Nat.le_refl _)
          · rfl, by
          intro x hx
          simp only [List.mem_append] at hx
          rcases hx with (hx | hx) | hx
          · exact hone x hx
          · exact h2 x hx
          · exact g2' x hx, fun p => by
          cases hk : K.S w.heap.size p with
          | none => exact hk
          | some v => have := hR.lt hk; omega⟩⟩
    refine ⟨_, K', _, g3, ?_, r1, r2.drew d⟩
    rw [hsl]
    exact .vec r _ _ nc hr g1 (by simpa using hK') (.inr ⟨_, _, rfl⟩)
end Go.Mu
set_option linter.unusedSimpArgs false
set_option linter.unusedVariables false
namespace Go.Mu
open Go

variable {P : Program} {K : Kr} {n : Nat} {ty : Nat → TI}

def EntL (K : Kr) (n : Nat) (es : List (AV × AV)) (es' : List MapEntry) : Prop :=
  es.length = es'.length ∧ ∀ i (h : i < es.length) (h' : i < es'.length), VR K n (es[i]).1 (es'[i]).key ∧ VR K n (es[i]).2 (es'[i]).val

theorem bytes_same (a b : ByteArray) : (a == b) = true ↔ a = b := by
  obtain ⟨x⟩ := a
  obtain ⟨y⟩ := b
  constructor
  · intro h
    have e : x = y := by simpa using (show (x == y) = true from h)
    rw [e]
  · intro h
    cases h
    show (x == x) = true
    simp
theorem keyEq_int {k : IntKind} {x : Int} {k' : AV} {t : Bool} (h : keyEq (.int k x) k' = some t) : ∃ y, k' = .int k y ∧ t = (x == y) := by
  unfold keyEq at h
  split at h
  · rename_i e
    simp only [AV.int.injEq] at e
    obtain ⟨rfl, rfl⟩ := e
    split at h
    · rename_i e2; subst e2; simp at h; exact ⟨_, rfl, h.symm⟩
    · cases h
  all_goals (first | (cases h; done) | (rename_i e; cases e))
theorem keyEq_str {x : ByteArray} {k' : AV} {t : Bool} (h : keyEq (.str x) k' = some t) : ∃ y, k' = .str y ∧ t = (x == y) := by
  unfold keyEq at h
  split at h
  · rename_i e; cases e
  · rename_i e
    simp only [AV.str.injEq] at e
    subst e
    simp only [Option.some.injEq] at h; exact ⟨_, rfl, h.symm⟩
  · rename_i e; cases e
  · cases h
theorem keyEq_agg {cs : List AV} {xs : List Int} {k' : AV} {t : Bool} (hx : intsA cs = some xs) (h : keyEq (.agg cs) k' = some t) : ∃ cs2 ys, k' = .agg cs2 ∧ intsA cs2 = some ys ∧ cs.length = cs2.length ∧ t = (xs == ys) := by
  unfold keyEq at h
  split at h
  · rename_i e; cases e
  · rename_i e; cases e
  · rename_i a b e
    simp only [AV.agg.injEq] at e
    subst e
    rw [hx] at h
    cases hx2 : intsA b with
    | none => rw [hx2] at h; cases h
    | some ys =>
      rw [hx2] at h
      simp only at h
      split at h
      · rename_i e; simp only [Option.some.injEq] at h; exact ⟨_, _, rfl, hx2, e, h.symm⟩
      · cases h
  · cases h
theorem isInt_inv {k : TK} (h : isInt k = true) : ∃ kk, k = .int kk := by cases k <;> simp [isInt] at h; exact ⟨_, rfl⟩
theorem isStrK_inv {k : TK} (h : isStrK k = true) : k = .str := by cases k <;> simp [isStrK] at h; rfl

theorem run_getMap {w : World} {b : Nat} {es : Array MapEntry} {c : Nat} (h : w.heap[b]? = some (.map es c)) : (getObj b).run P w = .ok (.map es c) w := by
  simp [getObj, Sem.run, h]
theorem run_setMap {w : World} {b : Nat} {es : Array MapEntry} {c : Nat} (o' : Obj) (h : w.heap[b]? = some (.map es c)) : (setObj b o').run P w = .ok () { w with heap := w.heap.setIfInBounds b o' } := by
  simp [setObj, Sem.run, h]

/-- What a search finds. -/
def FindR (K : Kr) (n i : Nat) (c : Value) (es' : List MapEntry) : Option (Nat × AV) → Option (Nat × Value) → Prop
  | none, none => True
  | some (j, v), some (j', v') => j = j' ∧ i ≤ j ∧ j < i + es'.length ∧ VR K n v v' ∧ (es'[j - i]?).map (·.key) = some c
  | _, _ => False
theorem EntL.tl {k' v : AV} {e : MapEntry} {es : List (AV × AV)} {es' : List MapEntry} (h : EntL K n ((k', v) :: es) (e :: es')) : EntL K n es es' :=
  ⟨by have := h.1; simp at this; exact this, fun j a b => by
    have := h.2 (j + 1) (by simp; exact a) (by simp; exact b)
    simpa using this⟩
theorem FindR.tl {i : Nat} {c : Value} {e : MapEntry} {es' : List MapEntry} : ∀ {r : Option (Nat × AV)} {r' : Option (Nat × Value)}, FindR K n (i + 1) c es' r r' → FindR K n i c (e :: es') r r'
  | none, none, _ => trivial
  | some (j, v), some (j', v'), ⟨a1, a2, a3, a4, a7⟩ => by
    refine ⟨a1, by omega, by simp; omega, a4, ?_⟩
    have : j - i = (j - (i + 1)) + 1 := by omega
    rw [this]; simpa using a7
theorem findNow_gen {d : TypeDesc} {key : AV} {c : Value} (hs : ∀ k' ck t, VR K n k' ck → keyEq key k' = some t → Instr.sameNow d c ck = some t ∧ (t = true → ck = c)) : ∀ (es : List (AV × AV)) (es' : List MapEntry) (i : Nat) (r : Option (Nat × AV)), EntL K n es es' → findA key es i = some r →
    ∃ r', Instr.findNow d c es' i = some r' ∧ FindR K n i c es' r r'
  | [], es', i, r, hE, h => by
    simp [findA] at h; subst h
    have : es' = [] := List.length_eq_zero_iff.1 hE.1.symm
    subst this
    exact ⟨none, rfl, trivial⟩
  | (k', v) :: es, [], i, r, hE, h => absurd hE.1 (by simp)
  | (k', v) :: es, e :: es', i, r, hE, h => by
    simp only [findA] at h
    obtain ⟨g1, g2⟩ := hE.2 0 (by simp) (by simp)
    simp only [List.getElem_cons_zero] at g1 g2
    cases hq : keyEq key k' with
    | none => rw [hq] at h; cases h
    | some t =>
      rw [hq] at h
      obtain ⟨q1, q2⟩ := hs _ _ _ g1 hq
      simp only [Instr.findNow, q1]
      cases t with
      | true =>
        simp at h; subst h
        exact ⟨_, rfl, rfl, Nat.le_refl _, by simp, g2, by simp [q2 rfl]⟩
      | false =>
        simp only at h
        obtain ⟨r', h1, h2⟩ := findNow_gen hs es es' (i + 1) r hE.tl h
        exact ⟨r', h1, h2.tl⟩
theorem findAsk_gen {kt : TypeId} {key : AV} {c : Value} (hs : ∀ k' ck t w, VR K n k' ck → keyEq key k' = some t → (Op.equal kt c ck).run P w = .ok t w ∧ (t = true → ck = c)) (w : World) : ∀ (es : List (AV × AV)) (es' : List MapEntry) (i : Nat) (r : Option (Nat × AV)), EntL K n es es' → findA key es i = some r →
    ∃ r', (Instr.findAsking kt c es' i).run P w = .ok r' w ∧ FindR K n i c es' r r'
  | [], es', i, r, hE, h => by
    simp [findA] at h; subst h
    have : es' = [] := List.length_eq_zero_iff.1 hE.1.symm
    subst this
    exact ⟨none, by simp [Instr.findAsking], trivial⟩
  | (k', v) :: es, [], i, r, hE, h => absurd hE.1 (by simp)
  | (k', v) :: es, e :: es', i, r, hE, h => by
    simp only [findA] at h
    obtain ⟨g1, g2⟩ := hE.2 0 (by simp) (by simp)
    simp only [List.getElem_cons_zero] at g1 g2
    cases hq : keyEq key k' with
    | none => rw [hq] at h; cases h
    | some t =>
      rw [hq] at h
      obtain ⟨q1, q2⟩ := hs _ _ _ w g1 hq
      simp only [Instr.findAsking, Sem.run_bind, q1, Result.andThen_ok]
      cases t with
      | true =>
        simp at h; subst h
        exact ⟨_, rfl, rfl, Nat.le_refl _, by simp, g2, by simp [q2 rfl]⟩
      | false =>
        simp only at h
        obtain ⟨r', h1, h2⟩ := findAsk_gen hs w es es' (i + 1) r hE.tl h
        exact ⟨r', by simpa using h1, h2.tl⟩
theorem keyOK_agg {i : TI} {cs : List AV} (h : keyOK i (.agg cs) = true) : i.keyn = true ∧ cs.length = i.sz ∧ ∃ xs, intsA cs = some xs := by
  simp only [keyOK, Bool.and_eq_true, beq_iff_eq, Option.isSome_iff_exists] at h
  exact h
theorem keyVR {cs : List AV} {xs : List Int} {c : Value} (hx : intsA cs = some xs) (hv : VR K n (.agg cs) c) : c = .agg (xs.map (.int .i64)).toArray ∧ xs.length = cs.length := by
  cases hv with
  | agg _ cs' hl h1 h =>
    have := intsA_sound hx ⟨hl, h⟩
    subst this
    exact ⟨rfl, by simpa using hl.symm⟩
theorem findKey_sound (hT : TysOK P ty) (hQ : EqsOK P ty) {kt : TypeId} {key : AV} {c : Value} (hk : keyOK (ty kt) key = true) (hv : VR K n key c) {es : List (AV × AV)} {es' : List MapEntry} {r : Option (Nat × AV)} (hE : EntL K n es es') (h : findA key es 0 = some r) (w : World) :
    ∃ r', (Instr.findKey kt c es').run P w = .ok r' w ∧ FindR K n 0 c es' r r' := by
  cases key with
  | int k x =>
    obtain ⟨kk, hkk⟩ := isInt_inv hk
    obtain ⟨d2, hd2, hu2⟩ := run_under hT (t := kt) (by rw [hkk]; simp)
    rw [hkk] at hd2; simp only [KdOK] at hd2; subst hd2
    cases hv
    obtain ⟨r', g1, g2⟩ := findNow_gen (K := K) (n := n) (d := .int kk) (key := .int k x) (c := .int k x) (fun k' ck t hvk hq => by
      obtain ⟨y, rfl, rfl⟩ := keyEq_int hq
      cases hvk
      exact ⟨by simp [Instr.sameNow], fun h => by simp at h; rw [h]⟩) es es' 0 r hE h
    exact ⟨r', by simp only [Instr.findKey, Sem.run_bind, hu2 w, Result.andThen_ok, g1, Sem.run_pure], g2⟩
  | str x =>
    have hkk := isStrK_inv hk
    obtain ⟨d2, hd2, hu2⟩ := run_under hT (t := kt) (by rw [hkk]; simp)
    rw [hkk] at hd2; simp only [KdOK] at hd2; subst hd2
    cases hv
    obtain ⟨r', g1, g2⟩ := findNow_gen (K := K) (n := n) (d := .string) (key := .str x) (c := .string x) (fun k' ck t hvk hq => by
      obtain ⟨y, rfl, rfl⟩ := keyEq_str hq
      cases hvk
      exact ⟨by simp only [Instr.sameNow], fun h => by rw [(bytes_same x y).1 h]⟩) es es' 0 r hE h
    exact ⟨r', by simp only [Instr.findKey, Sem.run_bind, hu2 w, Result.andThen_ok, g1, Sem.run_pure], g2⟩
  | agg cs =>
    obtain ⟨hn, hl, xs, hx⟩ := keyOK_agg hk
    obtain ⟨d2, hd2, hu2⟩ := run_under hT (hQ.kkd kt hn)
    obtain ⟨rfl, hxl⟩ := keyVR hx hv
    obtain ⟨r', g1, g2⟩ := findAsk_gen (P := P) (K := K) (n := n) (kt := kt) (key := .agg cs) (c := .agg (xs.map (.int .i64)).toArray) (fun k' ck t w hvk hq => by
      obtain ⟨cs2, ys, rfl, hx2, e, rfl⟩ := keyEq_agg hx hq
      obtain ⟨rfl, hyl⟩ := keyVR hx2 hvk
      exact ⟨hQ.keq kt hn xs ys w (by omega) (by omega), fun h => by simp at h; rw [h]⟩) w es es' 0 r hE h
    refine ⟨r', ?_, g2⟩
    have hfn : Instr.findNow d2 (.agg (xs.map (.int .i64)).toArray) es' 0 = some r' ∨ Instr.findNow d2 (.agg (xs.map (.int .i64)).toArray) es' 0 = none := by
      cases es' with
      | nil =>
        simp [Instr.findAsking] at g1
        exact .inl (by simp [Instr.findNow, g1])
      | cons e es' => right; cases d2 <;> simp [Instr.findNow, Instr.sameNow]
    rcases hfn with hfn | hfn
    · simp only [Instr.findKey, Sem.run_bind, hu2 w, Result.andThen_ok, hfn, Sem.run_pure]
    · simp only [Instr.findKey, Sem.run_bind, hu2 w, Result.andThen_ok, hfn, g1]
  | _ => simp [keyOK] at hk
theorem checkKey_sound (hT : TysOK P ty) (hQ : EqsOK P ty) {kt : TypeId} {key : AV} {c : Value} (hk : keyOK (ty kt) key = true) (hv : VR K n key c) (e : Bool) (w : World) : (Instr.checkKey e 10000 kt c).run P w = .ok () w := by
  have one : ∀ (m : Nat) (d : TypeDesc), 0 < m → (∀ w, (underlying kt).run P w = .ok d w) → (∃ kk, d = .int kk) ∨ d = .string → (∀ x, c ≠ .agg x) → (Instr.checkKey e m kt c).run P w = .ok () w := by
    intro m d hm hu hd hc
    cases m with
    | zero => omega
    | succ m => rcases hd with ⟨kk, rfl⟩ | rfl <;> simp only [Instr.checkKey, Sem.run_bind, hu w, Result.andThen_ok, Sem.run_pure]
  cases key with
  | int k x =>
    obtain ⟨kk, hkk⟩ := isInt_inv hk
    obtain ⟨d2, hd2, hu2⟩ := run_under hT (t := kt) (by rw [hkk]; simp)
    rw [hkk] at hd2; simp only [KdOK] at hd2; subst hd2
    cases hv
    exact one _ _ (by omega) hu2 (.inl ⟨_, rfl⟩) (by simp)
  | str x =>
    have hkk := isStrK_inv hk
    obtain ⟨d2, hd2, hu2⟩ := run_under hT (t := kt) (by rw [hkk]; simp)
    rw [hkk] at hd2; simp only [KdOK] at hd2; subst hd2
    cases hv
    exact one _ _ (by omega) hu2 (.inr rfl) (by simp)
  | agg cs =>
    obtain ⟨hn, hl, xs, hx⟩ := keyOK_agg hk
    obtain ⟨rfl, hxl⟩ := keyVR hx hv
    exact hQ.kck kt hn e xs w (by omega)
  | _ => simp [keyOK] at hk
theorem sameBits_ints (m : Nat) (xs : List Int) : Instr.sameBits (m + 2) (.agg (xs.map (.int .i64)).toArray) (.agg (xs.map (.int .i64)).toArray) = true := by
  simp only [Instr.sameBits, beq_self_eq_true, Bool.true_and, List.all_eq_true]
  rintro ⟨a, b⟩ h
  have : a = b ∧ ∃ x, a = .int .i64 x := by
    simp only [List.zip_map', List.mem_map, Prod.mk.injEq] at h
    obtain ⟨x, _, rfl, rfl⟩ := h
    exact ⟨rfl, x, rfl⟩
  obtain ⟨rfl, x, rfl⟩ := this
  simp [Instr.sameBits]
theorem keyStays_sound {i : TI} {key : AV} {c : Value} (hk : keyOK i key = true) (hv : VR K n key c) (w : World) : (Instr.keyThatStays c c).run P w = .ok c w := by
  have hs : Instr.sameBits 10000 c c = true := by
    cases key with
    | int k x => cases hv; simp [Instr.sameBits]
    | str x => cases hv; simp only [Instr.sameBits]; exact (bytes_same x x).2 rfl
    | agg cs =>
      obtain ⟨_, _, xs, hx⟩ := keyOK_agg hk
      obtain ⟨rfl, _⟩ := keyVR hx hv
      exact sameBits_ints 9998 xs
    | _ => simp [keyOK] at hk
  simp [Instr.keyThatStays, hs]

theorem EntR.toL {es : List (AV × AV)} {es' : Array MapEntry} {clock : Nat} (h : EntR K n es es' clock) : EntL K n es es'.toList :=
  ⟨by rw [h.1]; simp, fun i a b => by
    obtain ⟨h1, h2, _⟩ := h.2.2 i a (by simpa using b)
    exact ⟨by simpa using h1, by simpa using h2⟩⟩

theorem cell_of_map {w : World} {b p : Nat} {es : Array MapEntry} {c : Nat} (h : w.heap[b]? = some (.map es c)) : w.cell? ⟨b, p, none⟩ = none := by simp [World.cell?, h]
theorem cell_of_iter {w : World} {b p : Nat} {m : Option Nat} {x : Array Nat} {c d : Nat} (h : w.heap[b]? = some (.mapIter m c x d)) : w.cell? ⟨b, p, none⟩ = none := by simp [World.cell?, h]

/-- A block without cells is turned. -/
theorem R.turnFlat {σ : List AObj} {w : World} (hR : R K σ w) {r : Nat} {o : AObj} (hg : hget σ r = some o) (hb : ObjBlk K r o (K.φ r)) (hc : ∀ p, w.cell? ⟨K.φ r, p, none⟩ = none) (hlt : K.φ r < w.heap.size) (o' : AObj) (co : Obj) (hB : ∀ b, ObjBlk K r o' b → b = K.φ r)
    (hz : frz w.heap[K.φ r]? = frz (some co)) (hO : ∀ w' : World, w'.heap[K.φ r]? = some co → ObjR K σ.length w' r o') :
    R K (hset σ r o') { w with heap := w.heap.setIfInBounds (K.φ r) co } ∧ Step K σ w K (hset σ r o') { w with heap := w.heap.setIfInBounds (K.φ r) co } := by
  have hS : ∀ p, K.S (K.φ r) p = none := fun p => by
    cases hk : K.S (K.φ r) p with
    | none => rfl
    | some v => have := hR.stab _ _ _ hk; rw [hc p] at this; cases this
  refine hR.turn hg (K.φ r) hb K (.refl _ _) (fun _ _ => rfl) (fun b hb => ?_) (by simp) (fun _ _ _ => rfl) (fun p v hv => by rw [hS p] at hv; cases hv) hB (hO _ ?_) rfl rfl rfl (by
    show frz (w.heap.setIfInBounds (K.φ r) _)[K.φ r]? = _
    rw [Array.getElem?_setIfInBounds_self, if_pos hlt, hz])
  · show (w.heap.setIfInBounds (K.φ r) _)[b]? = _
    rw [Array.getElem?_setIfInBounds_ne (Ne.symm hb)]
  · show (w.heap.setIfInBounds (K.φ r) _)[K.φ r]? = _
    simp [hlt]

theorem makeMap_sound {σ : List AObj} {w : World} (hR : R K σ w) {t : TypeId} :
    ∃ c K' w', (Instr.makeMap t none).run P w = .ok c w' ∧ VR K' (σ.length + 1) (.map σ.length) c ∧ R K' (σ ++ [.map []]) w' ∧ Step K σ w K' (σ ++ [.map []]) w' := by
  obtain ⟨r1, r2⟩ := hR.new (.map []) (.map #[] 0) (K.setφ σ.length w.heap.size) (Ext.setφ K _ _) (fun _ _ => rfl) (fun b p v hv => .inl hv) (fun b hb => by
    have : b = (K.setφ σ.length w.heap.size).φ σ.length := hb
    simpa only [Kr.setφ, if_true] using this) ⟨#[], 0, by simp only [Kr.setφ, if_true]; exact heap_alloc_new w _, rfl, rfl, fun i h => by simp at h⟩
  refine ⟨.map (some w.heap.size), _, _, ?_, ?_, r1, r2⟩
  · simp only [Instr.makeMap, Sem.run_bind, Result.andThen_ok, Sem.run_pure]; rfl
  · have := VR.map (K := K.setφ σ.length w.heap.size) (n := σ.length + 1) σ.length (by omega)
    simpa [Kr.setφ] using this

theorem lookup_sound (hT : TysOK P ty) (hQ : EqsOK P ty) {σ : List AObj} {w : World} (hR : R K σ w) {t kt et r : Nat} {es : List (AV × AV)} (hk : (ty t).kd = .map kt et) {key : AV} (hi : keyOK (ty kt) key = true) (he : (ty et).kd ≠ .other) (hg : hget σ r = some (.map es)) {c : Value} (hv : VR K σ.length key c) {ok : Bool} {v : AV} {σ' : List AObj}
    (h : lookR ok (ty et).zero σ (findA key es 0) = some (v, σ')) : ∃ c', (Instr.lookup t (.map (some (K.φ r))) c ok).run P w = .ok c' w ∧ VR K σ.length v c' ∧ σ' = σ := by
  obtain ⟨d, hd, hu⟩ := run_under hT (t := t) (by rw [hk]; simp)
  rw [hk] at hd
  simp only [KdOK] at hd
  subst hd
  obtain ⟨z, hz, hzr⟩ := run_zero (K := K) (n := σ.length) hT he
  obtain ⟨es', clock, h1, h2⟩ := hR.obj r _ hg
  cases hf : findA key es 0 with
  | none => rw [hf] at h; cases h
  | some q =>
    rw [hf] at h
    obtain ⟨r', g1, g2⟩ := findKey_sound hT hQ hi hv h2.toL hf w
    have hck := checkKey_sound hT hQ hi hv es'.isEmpty w
    match q, r', g2 with
    | none, none, _ =>
      simp only [lookR, Option.some.injEq, Prod.mk.injEq] at h
      obtain ⟨rfl, rfl⟩ := h
      refine ⟨if ok then .tuple #[z, .bool false] else z, ?_, ?_, rfl⟩
      · simp only [Instr.lookup, Sem.run_bind, hu w, Result.andThen_ok, run_getMap h1, Sem.run_pure, hck, g1, hzr w]
      · cases ok
        · exact hz
        · exact VRs.tup (cs := #[z, .bool false]) (.cons hz (.cons (.bool _) .nil))
    | some (j, v0), some (j', v'), ⟨_, _, _, a4, _⟩ =>
      simp only [lookR, Option.some.injEq, Prod.mk.injEq] at h
      obtain ⟨rfl, rfl⟩ := h
      refine ⟨if ok then .tuple #[v', .bool true] else v', ?_, ?_, rfl⟩
      · simp only [Instr.lookup, Sem.run_bind, hu w, Result.andThen_ok, run_getMap h1, Sem.run_pure, hck, g1]
      · cases ok
        · exact a4
        · exact VRs.tup (cs := #[v', .bool true]) (.cons a4 (.cons (.bool _) .nil))

theorem update_sound (hT : TysOK P ty) (hQ : EqsOK P ty) {σ : List AObj} {w : World} (hR : R K σ w) {t kt et r : Nat} {es : List (AV × AV)} (hk : (ty t).kd = .map kt et) {key v : AV} (hi : keyOK (ty kt) key = true) (hg : hget σ r = some (.map es)) {c cv : Value} (hv : VR K σ.length key c) (hvv : VR K σ.length v cv) {u : AV} {σ' : List AObj}
    (h : updR r es key v σ (findA key es 0) = some (u, σ')) : ∃ w', (Instr.mapUpdate t (.map (some (K.φ r))) c cv).run P w = .ok () w' ∧ u = .tup [] ∧ R K σ' w' ∧ Step K σ w K σ' w' := by
  obtain ⟨d, hd, hu⟩ := run_under hT (t := t) (by rw [hk]; simp)
  rw [hk] at hd
  simp only [KdOK] at hd
  subst hd
  obtain ⟨es', clock, h1, h2⟩ := hR.obj r _ hg
  have hlt := lt_of_heap h1
  cases hf : findA key es 0 with
  | none => rw [hf] at h; cases h
  | some q =>
    rw [hf] at h
    obtain ⟨r', g1, g2⟩ := findKey_sound hT hQ hi hv h2.toL hf w
    have hck := checkKey_sound hT hQ hi hv false w
    match q, r', g2 with
    | none, none, _ =>
      simp only [updR, Option.some.injEq, Prod.mk.injEq] at h
      obtain ⟨rfl, rfl⟩ := h
      obtain ⟨r1, r2⟩ := hR.turnFlat hg rfl (fun p => cell_of_map h1) hlt (.map (es ++ [(key, v)])) (.map (es'.push { key := c, val := cv, born := clock }) (clock + 1)) (fun b hb => hb) (by rw [h1]; rfl) (fun w' hw' => ⟨_, _, hw', by simp [h2.1], by simp [h2.2.1], fun i a b => by
        have hb : i < es'.size + 1 := by simpa using b
        by_cases e : i < es'.size
        · have e' : i < es.length := by rw [h2.1]; exact e
          rw [List.getElem_append_left e', Array.getElem_push_lt e]
          exact h2.2.2 i e' e
        · have e1 : i = es.length := by rw [h2.1]; omega
          subst e1
          have e2 : (es ++ [(key, v)])[es.length] = (key, v) := by simp
          have e3 : (es'.push { key := c, val := cv, born := clock })[es.length] = { key := c, val := cv, born := clock } := by
            have := h2.1
            simp [this]
          rw [e2, e3]
          exact ⟨hv, hvv, by rw [h2.2.1, h2.1]⟩⟩)
      refine ⟨_, ?_, rfl, r1, r2⟩
      simp only [Instr.mapUpdate, Sem.run_bind, hu w, Result.andThen_ok, run_getMap h1, hck, g1, run_setMap _ h1]
    | some (j, v0), some (j', v'), ⟨a1, _, a3, a4, a7⟩ =>
      simp only [updR, Option.some.injEq, Prod.mk.injEq] at h
      obtain ⟨rfl, rfl⟩ := h
      subst a1
      simp at a3
      have hj : j < es.length := by rw [h2.1]; exact a3
      have a7' : (es'[j]?).map (·.key) = some c := by simpa using a7
      have hst : (Instr.keyThatStays (((es'[j]?).map (·.key)).getD c) c).run P w = .ok c w := by
        rw [a7']
        exact keyStays_sound hi hv w
      obtain ⟨r1, r2⟩ := hR.turnFlat hg rfl (fun p => cell_of_map h1) hlt (.map (es.set j (key, v))) (.map (es'.modify j fun e => { e with key := c, val := cv }) clock) (fun b hb => hb) (by rw [h1]; rfl) (fun w' hw' => ⟨_, _, hw', by simp [h2.1], by simp [h2.2.1], fun i a b => by
        have hi1 : i < es.length := by simpa using a
        have hi2 : i < es'.size := by simpa using b
        rw [List.getElem_set, Array.getElem_modify]
        by_cases e : j = i
        · subst e; simp only [if_true]
          exact ⟨hv, hvv, (h2.2.2 j hi1 hi2).2.2⟩
        · simp only [if_neg e]
          exact h2.2.2 i hi1 hi2⟩)
      refine ⟨_, ?_, rfl, r1, r2⟩
      simp only [Instr.mapUpdate, Sem.run_bind, hu w, Result.andThen_ok, run_getMap h1, hck, g1, hst, run_setMap _ h1]

theorem range_sound (hT : TysOK P ty) {σ : List AObj} {w : World} (hR : R K σ w) {t kt et r : Nat} {es : List (AV × AV)} (hk : (ty t).kd = .map kt et) (hg : hget σ r = some (.map es)) :
    ∃ c K' w', (Instr.range t (.map (some (K.φ r)))).run P w = .ok c w' ∧ VR K' (σ.length + 1) (.ptr σ.length 0) c ∧ R K' (σ ++ [.iter (some r) es.length []]) w' ∧ Step K σ w K' (σ ++ [.iter (some r) es.length []]) w' := by
  obtain ⟨d, hd, hu⟩ := run_under hT (t := t) (by rw [hk]; simp)
  rw [hk] at hd
  simp only [KdOK] at hd
  subst hd
  obtain ⟨es', clock, h1, h2⟩ := hR.obj r _ hg
  have hr := hget_lt hg
  have hcl : clock = es.length := by rw [h2.2.1, h2.1]
  subst hcl
  obtain ⟨r1, r2⟩ := hR.new (.iter (some r) es.length []) (.mapIter (some (K.φ r)) es.length #[] es.length) (K.setφ σ.length w.heap.size) (Ext.setφ K _ _) (fun _ _ => rfl) (fun b p v hv => .inl hv) (fun b hb => by
    have : b = (K.setφ σ.length w.heap.size).φ σ.length := hb
    simpa only [Kr.setφ, if_true] using this) ⟨some (K.φ r), by simp only [Kr.setφ, if_true]; exact heap_alloc_new w _, by omega, by simp only [Kr.setφ]; rw [if_neg (by omega)]⟩
  refine ⟨.pointer (some ⟨w.heap.size, 0, none⟩), _, _, ?_, ?_, r1, r2⟩
  · simp only [Instr.range, Sem.run_bind, hu w, Result.andThen_ok, run_getMap h1, Sem.run_pure]; rfl
  · have := VR.ptr (K := K.setφ σ.length w.heap.size) (n := σ.length + 1) σ.length 0 (by omega)
    simpa [Kr.setφ] using this
end Go.Mu
set_option linter.unusedSimpArgs false
set_option linter.unusedVariables false
namespace Go.Mu
open Go

variable {P : Program} {K : Kr} {n : Nat} {ty : Nat → TI}

/-- A step of a range over a map: any entry that was not met. -/
def nextA (X : AV → List AObj → Prop) (σ : List AObj) : Option AV → Prop
  | some (.ptr r 0) => match hget σ r with
    | some (.iter (some q) c seen) => match hget σ q with
      | some (.map es) => c = es.length ∧ (∀ i k v, es[i]? = some (k, v) → i ∉ seen → X (.tup [.bool true, k, v]) (hset σ r (.iter (some q) c (seen ++ [i])))) ∧ ((∀ i, i < es.length → i ∈ seen) → X (.tup [.bool false]) σ)
      | _ => False
    | _ => False
  | _ => False

theorem filter_all {α : Type} {p : α → Bool} {xs : Array α} (h : ∀ i (h : i < xs.size), p xs[i] = true) : xs.filter p = xs := by
  rw [Array.filter_eq_self]
  intro a ha
  obtain ⟨i, hi, rfl⟩ := Array.mem_iff_getElem.1 ha
  exact h i hi
theorem filter_none {α : Type} {p : α → Bool} {xs : Array α} (h : ∀ i (h : i < xs.size), p xs[i] = false) : xs.filter p = #[] := by
  rw [Array.filter_eq_empty_iff]
  intro a ha
  obtain ⟨i, hi, rfl⟩ := Array.mem_iff_getElem.1 ha
  simp [h i hi]

theorem run_getIter {w : World} {b : Nat} {m : Option Nat} {c d : Nat} {s : Array Nat} (h : w.heap[b]? = some (.mapIter m c s d)) : (getObj b).run P w = .ok (.mapIter m c s d) w := by
  simp [getObj, Sem.run, h]
theorem run_setIter {w : World} {b : Nat} {m : Option Nat} {c d : Nat} {s : Array Nat} (o' : Obj) (h : w.heap[b]? = some (.mapIter m c s d)) : (setObj b o').run P w = .ok () { w with heap := w.heap.setIfInBounds b o' } := by
  simp [setObj, Sem.run, h]

theorem length_hset' {σ : List AObj} {r : Nat} {o : AObj} : (hset σ r o).length = σ.length := by unfold hset; simp
theorem mapNext_sound {σ : List AObj} {w : World} (hR : R K σ w) {a : AV} {ca : Value} (ha : VR K σ.length a ca) {T : TypeId} {X : AV → List AObj → Prop} (hX : nextA X σ (some a)) :
    ∃ v σ' c' w', (Instr.next ca false T).run P w = .ok c' w' ∧ X v σ' ∧ VR K σ'.length v c' ∧ R K σ' w' ∧ Step K σ w K σ' w' := by
  unfold nextA at hX
  split at hX
  · rename_i r he
    simp at he; subst he
    split at hX
    · rename_i q c seen hg
      split at hX
      · rename_i es hq
        obtain ⟨hc, h1, h2⟩ := hX
        subst hc
        obtain ⟨hr, rfl⟩ := ha.ptr_inv
        obtain ⟨m', g1, g2⟩ := hR.obj r _ hg
        obtain ⟨g3, rfl⟩ := g2
        obtain ⟨es', clock, k1, k2⟩ := hR.obj q _ hq
        have hcl : clock = es.length := by rw [k2.2.1, k2.1]
        subst hcl
        have hsz : es'.size = es.length := k2.1.symm
        have hborn : ∀ i (h : i < es'.size), (es'[i]).born = i := fun i h => (k2.2.2 i (by omega) h).2.2
        let L := es'.filter fun e => !seen.toArray.contains e.born
        have hLmem : ∀ i (h : i < L.size), ∃ j, ∃ hj : j < es'.size, L[i] = es'[j] ∧ j ∉ seen := fun i h => by
          have hm : L[i] ∈ L := Array.getElem_mem h
          obtain ⟨hm1, hm2⟩ := Array.mem_filter.1 hm
          obtain ⟨j, hj, e⟩ := Array.mem_iff_getElem.1 hm1
          refine ⟨j, hj, e.symm, fun hs => ?_⟩
          rw [← e, hborn j hj] at hm2
          simp [hs] at hm2
        have hold : L.filter (fun e => decide (e.born < es.length)) = L := filter_all fun i h => by
          obtain ⟨j, hj, e, _⟩ := hLmem i h
          rw [e, hborn j hj]; simp; omega
        have hnew : L.filter (fun e => decide (e.born ≥ es.length)) = #[] := filter_none fun i h => by
          obtain ⟨j, hj, e, _⟩ := hLmem i h
          rw [e, hborn j hj]; simp; omega
        have hguard : (!seen.toArray.isEmpty && !es'.isEmpty && es'.all (fun e => decide (e.born ≥ es.length))) = false := by
          by_cases hz : es'.size = 0
          · have : es' = #[] := Array.eq_empty_of_size_eq_zero hz
            subst this; simp
          · have h0 : 0 < es'.size := by omega
            have : es'.all (fun e => decide (e.born ≥ es.length)) = false := by
              rw [Array.all_eq_false]
              refine ⟨0, h0, ?_⟩
              rw [hborn 0 h0, decide_eq_true_eq]; omega
            rw [this]; simp
        have hrun0 : (Instr.next (.pointer (some ⟨K.φ r, 0, none⟩)) false T).run P w = ((choose (.mapNext ((if L.isEmpty then #[none] else #[]) ++ L.map some).size)).run P w).andThen fun n w1 => (match ((if L.isEmpty then #[none] else #[]) ++ L.map some)[n]? with
            | some (some e) => (do setObj (K.φ r) (.mapIter (some (K.φ q)) es.length (seen.toArray.push e.born) es.length); pure (.tuple #[.bool true, e.key, e.val]) : Sem Value)
            | some none => pure (.tuple #[.bool false])
            | none => stuck "Next: no such candidate").run P w1 := by
          have hL1 : (es'.filter fun e => !seen.toArray.contains e.born).filter (fun e => decide (e.born < es.length)) = L := hold
          have hL2 : (es'.filter fun e => !seen.toArray.contains e.born).filter (fun e => decide (e.born ≥ es.length)) = #[] := hnew
          simp only [Instr.next, Sem.run_bind, run_getIter g1, Result.andThen_ok, run_getMap k1, hguard, Bool.false_eq_true, if_false, hL1, hL2, Array.append_empty]
          rfl
        by_cases hem : L.isEmpty
        · refine ⟨.tup [.bool false], σ, .tuple #[.bool false], w, ?_, h2 fun i hi => ?_, VRs.tup (cs := #[.bool false]) (.cons (.bool _) .nil), hR, .refl _ _ _⟩
          · rw [hrun0]
            have : L = #[] := by simpa using hem
            rw [this]
            simp [run_choose, Question.forced]
          · have : L = #[] := by simpa using hem
            apply Classical.byContradiction
            intro hs
            have hm : es'[i]'(by omega) ∈ L := Array.mem_filter.2 ⟨Array.getElem_mem _, by rw [hborn i (by omega)]; simp [hs]⟩
            rw [this] at hm; simp at hm
        · have hpos : 0 < L.size := by
            cases hz : L.size with
            | zero => exact absurd (by simpa using hz) hem
            | succ k => omega
          have hch : ∃ m, m < L.size ∧ ∃ d, (choose (.mapNext ((if L.isEmpty then #[none] else #[]) ++ L.map some).size)).run P w = .ok m { w with drawn := d } := by
            have hs : ((if L.isEmpty then #[none] else #[]) ++ L.map some).size = L.size := by simp [hem]
            rw [hs]
            by_cases hf : L.size ≤ 1
            · exact ⟨0, hpos, w.drawn, by simp [run_choose, Question.forced, hf]⟩
            · refine ⟨w.tape w.drawn (.mapNext L.size) % L.size, Nat.mod_lt _ hpos, w.drawn + 1, ?_⟩
              simp [run_choose, Question.forced, hf, Question.cut]
          obtain ⟨m, hm, d, hch⟩ := hch
          obtain ⟨j, hj, e, hns⟩ := hLmem m hm
          obtain ⟨v1, v2, _⟩ := k2.2.2 j (by omega) hj
          have hR' := hR.drew d
          have hlt := lt_of_heap g1
          obtain ⟨r1, r2⟩ := hR'.turnFlat hg rfl (fun p => cell_of_iter g1) hlt (.iter (some q) es.length (seen ++ [j])) (.mapIter (some (K.φ q)) es.length (seen.toArray.push j) es.length) (fun b hb => hb) (by show frz w.heap[K.φ r]? = _; rw [g1]; rfl) (fun w' hw' => ⟨some (K.φ q), by simpa using hw', g3, rfl⟩)
          refine ⟨_, _, .tuple #[.bool true, (es'[j]).key, (es'[j]).val], _, ?_, h1 j (es[j]'(by omega)).1 (es[j]'(by omega)).2 (List.getElem?_eq_getElem (by omega)) hns, ?_, r1, r2.drew d⟩
          · rw [hrun0, hch, Result.andThen_ok]
            have hget : ((if L.isEmpty then #[none] else #[]) ++ L.map some)[m]? = some (some es'[j]) := by
              simp [hem, hm, e]
            rw [hget]
            simp only [Sem.run_bind, run_setIter (w := { w with drawn := d }) _ g1, Result.andThen_ok, Sem.run_pure, hborn j hj]
          · rw [length_hset']
            exact VRs.tup (cs := #[.bool true, (es'[j]).key, (es'[j]).val]) (.cons (.bool _) (.cons v1 (.cons v2 .nil)))
      · exact hX.elim
    · exact hX.elim
  · exact hX.elim
theorem entry_sound {σ : List AObj} {w : World} (hR : R K σ w) {r : Nat} {v : AV} {σ' : List AObj} (h : entR σ (hget σ r) = some (v, σ')) :
    ∃ c, (Instr.entry (.pointer (some ⟨K.φ r, 0, none⟩))).run P w = .ok c w ∧ VR K σ.length v c ∧ σ' = σ := by
  unfold entR at h
  split at h
  · rename_i q c seen hg
    split at h
    · rename_i es i hq hi
      split at h
      · rename_i hc
        subst hc
        simp only [Option.map_eq_some_iff, Prod.mk.injEq] at h
        obtain ⟨p, hp, rfl, rfl⟩ := h
        obtain ⟨m', g1, g3, rfl⟩ := hR.obj r _ hg
        obtain ⟨es', clock, k1, k2⟩ := hR.obj q _ hq
        obtain ⟨hil, hie⟩ := List.getElem?_eq_some_iff.1 hp
        have hcl : clock = es.length := by rw [k2.2.1, k2.1]
        subst hcl
        have hil' : i < es'.size := by rw [← k2.1]; exact hil
        obtain ⟨v1, v2, v3⟩ := k2.2.2 i hil hil'
        have hback : seen.toArray.back? = some i := by rw [← hi]; simp
        have hfind : es'.find? (fun e => e.born == i) = some es'[i] := by
          rw [Array.find?_eq_some_iff_getElem]
          refine ⟨by simpa using v3, i, hil', rfl, fun j hj => ?_⟩
          have := (k2.2.2 j (by omega) (by omega)).2.2
          rw [this]; simp; omega
        refine ⟨.tuple #[(es'[i]).key, (es'[i]).val], ?_, ?_, rfl⟩
        · simp only [Instr.entry, Sem.run_bind, run_getIter g1, Result.andThen_ok, hback, run_getMap k1, bne_self_eq_false, Bool.false_eq_true, if_false, hfind, Sem.run_pure]
        · rw [← hie]
          exact VRs.tup (cs := #[(es'[i]).key, (es'[i]).val]) (.cons v1 (.cons v2 .nil))
      · cases h
    · cases h
  · cases h
end Go.Mu
set_option linter.unusedSimpArgs false
set_option linter.unusedVariables false
namespace Go.Mu
open Go
variable {P : Program} {ty : Nat → TI} {K : Kr}
theorem bytesL_inv : ∀ {xs : List AV} {ns : List Int}, bytesL xs = some ns → xs = ns.map (AV.int .u8)
  | [], ns, h => by simp [bytesL] at h; subst h; rfl
  | .int .u8 n :: l, ns, h => by
    simp only [bytesL, Option.map_eq_some_iff] at h
    obtain ⟨m, h1, rfl⟩ := h
    rw [bytesL_inv h1]; rfl
theorem cvt_sound (hT : TysOK P ty) {σ : List AObj} {w : World} (hR : R K σ w) {s d e sz : Nat} {t : Tok} {xs : List AV} {ns : List Int} (hs : (ty s).kd = .slice e) (hd : (ty d).kd = .str) (he : (ty e).kd = .int .u8) (hz : sz = 1 ∨ xs = []) (hb : bytesL xs = some ns)
    {c : Value} (hv : VR K σ.length (.list t sz xs) c) : (convert s d c).run P w = .ok (.string (strOfNums ns)) w := by
  obtain ⟨d1, k1, u1⟩ := (hT s (by rw [hs]; simp)).kd
  rw [hs] at u1; simp only [KdOK] at u1; subst u1
  obtain ⟨d2, k2, u2⟩ := (hT d (by rw [hd]; simp)).kd
  rw [hd] at u2; simp only [KdOK] at u2; subst u2
  obtain ⟨d3, k3, u3⟩ := (hT e (by rw [he]; simp)).kd
  rw [he] at u3; simp only [KdOK] at u3; subst u3
  obtain rfl := bytesL_inv hb
  cases hv with
  | list _ _ _ a cap f q1 q2 q3 q4 q5 q6 =>
    by_cases hne : ns = []
    · subst hne
      cases a with
      | none => rw [run_convert_bytes_nil w s e k1 k3 _ _ d k2]; rfl
      | some a =>
        have e0 := run_bytesToString (P := P) w a 0 cap [] (run_loadCells_list (P := P) w a [] (by simp))
        rw [run_convert_bytes_string w s d e _ _ _ k1 k3 k2]
        exact e0
    · obtain ⟨b, o, rfl, h⟩ := q3 (by simpa using hne)
      have hz' : sz = 1 := by rcases hz with h | h; exact h; exact absurd (by simpa using h) hne
      subst hz'
      refine run_convert_bytes_arg w s e k1 k3 b o _ cap ns (by simp) (fun i hi => ?_) d k2
      have hi' : i < ns.length := by simpa using hi
      have h1 := h i 0 hi (by omega)
      rw [Nat.mul_one, Nat.add_zero] at h1
      rw [hR.stab _ _ _ h1]
      have h2 := q6 i 0 hi (by simp [AV.cells])
      simp only [List.getElem_map, AV.cells, List.getElem_cons_zero] at h2
      rw [h2.int_inv]
      simp [List.getD, List.getElem?_eq_getElem hi']
theorem srange_sound (hT : TysOK P ty) {σ : List AObj} {w : World} (hR : R K σ w) {t : Nat} {s : ByteArray} (hk : (ty t).kd = .str) :
    ∃ c K' w', (Instr.range t (.string s)).run P w = .ok c w' ∧ VR K' (σ.length + 1) (.ptr σ.length 0) c ∧ R K' (σ ++ [.siter s 0]) w' ∧ Step K σ w K' (σ ++ [.siter s 0]) w' := by
  obtain ⟨d, hd, hu⟩ := run_under hT (t := t) (by rw [hk]; simp)
  rw [hk] at hd
  simp only [KdOK] at hd
  subst hd
  obtain ⟨r1, r2⟩ := hR.new (.siter s 0) (.stringIter s 0) (K.setφ σ.length w.heap.size) (Ext.setφ K _ _) (fun _ _ => rfl) (fun b p v hv => .inl hv) (fun b hb => by
    have : b = (K.setφ σ.length w.heap.size).φ σ.length := hb
    simpa only [Kr.setφ, if_true] using this) (by
      show (w.alloc (.stringIter s 0)).heap[(K.setφ σ.length w.heap.size).φ σ.length]? = _
      simp only [Kr.setφ, if_true]; exact heap_alloc_new w _)
  refine ⟨.pointer (some ⟨w.heap.size, 0, none⟩), _, _, ?_, ?_, r1, r2⟩
  · simp only [Instr.range, Sem.run_bind, hu w, Result.andThen_ok, Sem.run_pure]; rfl
  · have := VR.ptr (K := K.setφ σ.length w.heap.size) (n := σ.length + 1) σ.length 0 (by omega)
    simpa [Kr.setφ] using this
/-- A step of a range over a string, of its small bytes alone. -/
def nextSB (X : AV → List AObj → Prop) (σ : List AObj) (r : Nat) (s : ByteArray) (pos : Nat) : Option UInt8 → Prop
  | some b => b.toNat < 128 ∧ X (.tup [.bool true, .int .i64 pos, .int .i32 b.toNat]) (hset σ r (.siter s (pos + 1)))
  | none => X (.tup [.bool false]) σ
def nextSR (X : AV → List AObj → Prop) (σ : List AObj) (r : Nat) : Option AObj → Prop
  | some (.siter s pos) => nextSB X σ r s pos s[pos]?
  | _ => False
def nextS (X : AV → List AObj → Prop) (σ : List AObj) : Option AV → Prop
  | some (.ptr r 0) => nextSR X σ r (hget σ r)
  | _ => False
theorem nextS_mono {σ : List AObj} {v : Option AV} {X Y : AV → List AObj → Prop} (hn : ∀ v σ, X v σ → Y v σ) (h : nextS X σ v) : nextS Y σ v := by
  unfold nextS at h ⊢
  split at h
  · unfold nextSR at h ⊢
    split at h
    · unfold nextSB at h ⊢
      split at h
      · exact ⟨h.1, hn _ _ h.2⟩
      · exact hn _ _ h
    · exact h
  · exact h
theorem cell_of_siter {w : World} {b p : Nat} {s : ByteArray} {q : Nat} (h : w.heap[b]? = some (.stringIter s q)) : w.cell? ⟨b, p, none⟩ = none := by simp [World.cell?, h]
theorem decode_small {s : ByteArray} {i : Nat} {b : UInt8} (h : s[i]? = some b) (hb : b.toNat < 128) : Utf8.decode s i = (b.toNat, 1) := by
  obtain ⟨hi, he⟩ := getElem?_eq_some_iff.1 h
  have hg : s.get! (i + 0) = b := by
    rw [Nat.add_zero, ← he]
    show s.data[i]! = _
    have hi2 : i < s.data.size := hi
    rw [getElem!_pos s.data i hi2]
    rfl
  simp only [Utf8.decode, hg]
  rw [if_pos hb]
theorem strNext_sound {σ : List AObj} {w : World} (hR : R K σ w) {a : AV} {ca : Value} (ha : VR K σ.length a ca) {T : TypeId} {X : AV → List AObj → Prop} (hX : nextS X σ (some a)) :
    ∃ v σ' c' w', (Instr.next ca true T).run P w = .ok c' w' ∧ X v σ' ∧ VR K σ'.length v c' ∧ R K σ' w' ∧ Step K σ w K σ' w' := by
  unfold nextS at hX
  split at hX
  · rename_i r he
    simp at he; subst he
    unfold nextSR at hX
    split at hX
    · rename_i s pos hg
      obtain ⟨hr, rfl⟩ := ha.ptr_inv
      have g1 : w.heap[K.φ r]? = some (.stringIter s pos) := hR.obj r _ hg
      have hget : (getObj (K.φ r)).run P w = .ok (.stringIter s pos) w := by simp [getObj, Sem.run, g1]
      cases hb : s[pos]? with
      | some b =>
        rw [hb] at hX
        simp only [nextSB] at hX
        obtain ⟨hlt, hX⟩ := hX
        obtain ⟨hi, _⟩ := getElem?_eq_some_iff.1 hb
        have hi' : pos < s.size := hi
        obtain ⟨r1, r2⟩ := hR.turnFlat hg rfl (fun p => cell_of_siter g1) (lt_of_heap g1) (.siter s (pos + 1)) (.stringIter s (pos + 1)) (fun b hb => hb) (by show frz w.heap[K.φ r]? = _; rw [g1]; rfl) (fun w' hw' => hw')
        have hset : (setObj (K.φ r) (.stringIter s (pos + 1))).run P w = .ok () { w with heap := w.heap.setIfInBounds (K.φ r) (.stringIter s (pos + 1)) } := by simp [setObj, Sem.run, g1]
        refine ⟨_, _, .tuple #[.bool true, .int .i64 pos, .int .i32 b.toNat], _, ?_, hX, ?_, r1, r2⟩
        · simp only [Instr.next, Sem.run_bind, hget, Result.andThen_ok, hi', if_true, decode_small hb hlt, hset, Sem.run_pure]
          rfl
        · exact VRs.tup (cs := #[.bool true, .int .i64 pos, .int .i32 b.toNat]) (.cons (.bool _) (.cons (.int _ _) (.cons (.int _ _) .nil)))
      | none =>
        rw [hb] at hX
        simp only [nextSB] at hX
        have hi : ¬ pos < s.size := fun h => by
          rw [getElem?_pos s pos h] at hb; cases hb
        refine ⟨_, _, .tuple #[.bool false], w, ?_, hX, VRs.tup (cs := #[.bool false]) (.cons (.bool _) .nil), hR, .refl _ _ _⟩
        simp only [Instr.next, Sem.run_bind, hget, Result.andThen_ok, hi, if_false, Sem.run_pure]
    · exact hX.elim
  · exact hX.elim
end Go.Mu
set_option linter.unusedSimpArgs false
set_option linter.unusedVariables false
namespace Go.Mu
open Go

structure Env where
  P : Program
  ty : Nat → TI
  N : Nat
  mt : TypeId → String → Option FuncId
  ord : Nat → List Nat × List (Nat × List Nat)
  fs : FuncId → List AV → Option AV := fun _ _ => none

/-- What the tables say is so of the program. -/
structure EnvOK (E : Env) : Prop where
  ty : TysOK E.P E.ty
  eq : EqsOK E.P E.ty
  mt : ∀ t s f, E.mt t s = some f → ∀ c w, (method (E.P.types.size + Made.depth) t c s).run E.P w = .ok (f, c) w
  mixed : E.P.follows .mixedOrders = true
  fs : ∀ f as v, E.fs f as = some v → PureV E.P f as v

/-- A mark among the deferred calls: the block of a range over a function. -/
def mark (r : Nat) : Deferred := { target := .collected r, args := #[] }
structure Marks (K : Kr) (σ : List AObj) (w : World) (B : Nat) (ms : List Nat) : Prop where
  nodup : ms.Nodup
  lo : ∀ r ∈ ms, B ≤ r
  heap : ∀ r ∈ ms, w.heap[r]? = some (.deferred (some []))
  free : ∀ r ∈ ms, Free K σ r

inductive Leaves : List Item → Option Code → Prop
  | nil : Leaves [] none
  | ret (k : List Item) : Leaves (.code .ret :: k) (some .ret)
  | exit (id : Nat) (k : List Item) (h : exitTo id k = none) : Leaves (.code (.exit id) :: k) (some (.exit id))

/-- The frame of a round, or of none. -/
def RoOK (ro : Option Nat) (K : Kr) (n : Nat) (b : Frame) : Prop := match ro with
  | none => b.roundOf = none
  | some r => r < n ∧ b.roundOf = some (K.φ r) ∧ b.kind = .normal
theorem RoOK.mono {ro : Option Nat} {K K' : Kr} {n n' : Nat} {b : Frame} (h : RoOK ro K n b) (he : Ext n K K') (hn : n ≤ n') : RoOK ro K' n' b := by
  cases ro with
  | none => exact h
  | some r => exact ⟨by have := h.1; omega, by rw [he.φ r h.1]; exact h.2.1, h.2.2⟩

/-- A frame runs from a list of things to do till it leaves. -/
def ARun (E : Env) (ro : Option Nat) (todo : List Item) (fr : Fr) (σ : List AObj) (Q : Option Code → Fr → List AObj → Prop) : Prop :=
  ∀ (K : Kr) (w : World) (a : Act) (b : Frame) (cs : List Frame), RoOK ro K σ.length b → R K σ w → FR K σ.length E.N fr a.tmps →
    ∃ K' σ' fr' w' a' todo' j ms, Leaves todo' j ∧ Steps E.P (lone (b.atR a todo) cs w) (lone (b.atR a' todo') cs w') ∧ Q j fr' σ' ∧ R K' σ' w' ∧ FR K' σ'.length E.N fr' a'.tmps ∧ Step K σ w K' σ' w' ∧
      a'.defers = ms.map mark ++ a.defers ∧ Marks K' σ' w' w.heap.size ms

theorem ARun.mono {E : Env} {ro : Option Nat} {todo : List Item} {fr : Fr} {σ : List AObj} {Q Q' : Option Code → Fr → List AObj → Prop} (h : ARun E ro todo fr σ Q) (hq : ∀ j fr σ, Q j fr σ → Q' j fr σ) : ARun E ro todo fr σ Q' :=
  fun K w a b cs hb hR hF => let ⟨K', σ', fr', w', a', todo', j, ms, h1, h2, h3, h4⟩ := h K w a b cs hb hR hF; ⟨K', σ', fr', w', a', todo', j, ms, h1, h2, hq _ _ _ h3, h4⟩

variable {E : Env} {ro : Option Nat} {k : List Item} {fr : Fr} {σ : List AObj} {Q : Option Code → Fr → List AObj → Prop}

theorem Marks.nil {K : Kr} {w : World} {B : Nat} : Marks K σ w B [] := ⟨List.nodup_nil, by simp, by simp, by simp⟩

/-- One step that turns nothing but what is to be done. -/
theorem ARun.step {todo todo' : List Item} (h : ARun E ro todo' fr σ Q) (hs : ∀ (a : Act) (b : Frame) (cs : List Frame) (w : World) K, RoOK ro K σ.length b → R K σ w → FR K σ.length E.N fr a.tmps → Go.step E.P (lone (b.atR a todo) cs w) = .next (lone (b.atR a todo') cs w)) : ARun E ro todo fr σ Q := by
  intro K w a b cs hb hR hF
  obtain ⟨K', σ', fr', w', a', t', j, ms, h1, h2, h3⟩ := h K w a b cs hb hR hF
  exact ⟨K', σ', fr', w', a', t', j, ms, h1, .head (hs a b cs w K hb hR hF) h2, h3⟩

theorem ARun.leave {todo : List Item} {j : Option Code} (hl : Leaves todo j) (h : Q j fr σ) : ARun E ro todo fr σ Q :=
  fun K w a b cs _ hR hF => ⟨K, σ, fr, w, a, todo, j, [], hl, .refl _ _, h, hR, hF, .refl _ _ _, rfl, .nil⟩

theorem ARun.skip (h : ARun E ro k fr σ Q) : ARun E ro (.code .skip :: k) fr σ Q := h.step fun _ _ _ _ _ _ _ _ => stepR_skip
theorem ARun.label {l : Nat} (h : ARun E ro k fr σ Q) : ARun E ro (.code (.label l) :: k) fr σ Q := h.step fun _ _ _ _ _ _ _ _ => stepR_label
theorem ARun.inBlock {l : Nat} (h : ARun E ro k fr σ Q) : ARun E ro (.inBlock l :: k) fr σ Q := h.step fun _ _ _ _ _ _ _ _ => stepR_inBlock
theorem ARun.seq {x y : Code} (h : ARun E ro (.code x :: .code y :: k) fr σ Q) : ARun E ro (.code (.seq x y) :: k) fr σ Q := h.step fun _ _ _ _ _ _ _ _ => stepR_seq
theorem ARun.block {id : Nat} {c : Code} (h : ARun E ro (.code c :: .inBlock id :: k) fr σ Q) : ARun E ro (.code (.block id c) :: k) fr σ Q := h.step fun _ _ _ _ _ _ _ _ => stepR_block
theorem ARun.loop {c : Code} (h : ARun E ro (.code c :: .inLoop c :: k) fr σ Q) : ARun E ro (.code (.loop c) :: k) fr σ Q := h.step fun _ _ _ _ _ _ _ _ => stepR_loop
theorem ARun.inLoop {c : Code} (h : ARun E ro (.code c :: .inLoop c :: k) fr σ Q) : ARun E ro (.inLoop c :: k) fr σ Q := h.step fun _ _ _ _ _ _ _ _ => stepR_inLoop
theorem ARun.exit {id : Nat} {k' : List Item} (hk : exitTo id k = some k') (h : ARun E ro k' fr σ Q) : ARun E ro (.code (.exit id) :: k) fr σ Q := h.step fun _ _ _ _ _ _ _ _ => stepR_exit hk
theorem ARun.goto {id : Nat} {k' : List Item} (hk : gotoIn id k = some k') (h : ARun E ro k' fr σ Q) : ARun E ro (.code (.goto id) :: k) fr σ Q := h.step fun _ _ _ _ _ _ _ _ => stepR_goto hk
theorem ARun.scope {c : Code} (h : ARun E ro (.code c :: .inScope c :: k) fr σ Q) : ARun E ro (.code (.scope c) :: k) fr σ Q :=
  h.step fun _ _ _ _ _ _ _ _ => step_lone_go (by simp [stepG, stepG.exec, Frame.atR])
theorem ARun.inScope {c : Code} (h : ARun E ro k fr σ Q) : ARun E ro (.inScope c :: k) fr σ Q :=
  h.step fun _ _ _ _ _ _ _ _ => step_lone_go (by simp [stepG, stepG.exec, Frame.atR])
theorem ARun.cond {c : Operand} {x y : Code} {t : Bool} (hc : aeval fr c = some (.bool t)) (h : ARun E ro (.code (if t then x else y) :: k) fr σ Q) : ARun E ro (.code (.cond c x y) :: k) fr σ Q :=
  h.step fun a _ _ _ _ _ _ hF => stepR_cond (aeval_sound hF hc).bool_inv

/-- The condition that a statement's operation bears. -/
def wantA (ds : List Oper) (fr : Fr) : Option (Nat × Bool) → Option Bool
  | none => some true
  | some (j, want) => match (ds[j]?).bind (·.dst) with
    | none => none
    | some d => match fr.get d with
      | some (.bool b) => some (b == want)
      | some (.tup []) => some false
      | _ => none

theorem wantA_sound {K : Kr} {n : Nat} {ops : Array Oper} {a : Act} {o : Oper} {b : Bool} (hF : FR K n E.N fr a.tmps) (h : wantA ops.toList fr o.guard = some b) : Region.wanted o (yielded ops a.tmps) = b := by
  unfold Region.wanted
  cases hg : o.guard with
  | none => rw [hg] at h; simp [wantA] at h; simpa using h
  | some gw =>
    obtain ⟨j, want⟩ := gw
    rw [hg] at h
    simp only [wantA] at h
    cases hd : (ops.toList[j]?).bind (·.dst) with
    | none => rw [hd] at h; cases h
    | some d =>
      rw [hd] at h
      simp only at h
      have hd' : (ops[j]?).bind (·.dst) = some d := by simpa using hd
      split at h
      · rename_i q hq
        obtain ⟨c, h1, h2⟩ := hF.2 d _ hq
        have := h2.bool_inv; subst this
        simp only [yielded, hd', Option.bind_some, h1]
        simpa using h
      · rename_i hq
        obtain ⟨c, h1, h2⟩ := hF.2 d _ hq
        obtain ⟨cc, rfl, _⟩ := h2.tup_inv
        simp only [yielded, hd', Option.bind_some, h1]
        simpa using h
      · cases h

end Go.Mu
set_option linter.unusedSimpArgs false
set_option linter.unusedVariables false
namespace Go.Mu
open Go

/-- A call of yield, on abstract values. -/
def AYield (P : Program) (r : Nat) (args : List AV) (σ : List AObj) (Q : AV → List AObj → Prop) : Prop :=
  ∀ (K : Kr) (w : World) (cargs : Array Value), R K σ w → VRs K σ.length args cargs.toList →
    ∃ fn tmps assign body, (Instr.yield (K.φ r) cargs).run P w = .ok (.round (K.φ r) fn tmps assign body) w ∧
      RoundIn Fence.wide 0 P (K.φ r) fn tmps assign body w fun e w' => ∃ v c σ' K', e = .returned c ∧ Q v σ' ∧ VR K' σ'.length v c ∧ R K' σ' w' ∧ Step K σ w K' σ' w'

def aop (E : Env) (fr : Fr) (σ : List AObj) (type : TypeId) (op : Op) : Option (AV × List AObj) :=
  match pop E.ty fr type op with
  | some v => some (v, σ)
  | none => match litOp E.ty fr op with
    | some v => some (v, σ)
    | none => hop E.ty fr σ op

/-- A call: of a function that is known to compute alone, or another one. -/
def callA (E : Env) (g : FuncId) (as : List AV) (σ : List AObj) (K : AV → List AObj → Prop) : Prop :=
  match E.fs g as with
  | some v => K v σ
  | none => ACalls E.P g as σ K
theorem callA_sound {E : Env} (hE : EnvOK E) {g : FuncId} {as : List AV} {σ : List AObj} {K : AV → List AObj → Prop} (h : callA E g as σ K) : ACalls E.P g as σ K := by
  unfold callA at h
  split at h
  · rename_i v hv; exact hE.fs _ _ _ hv _ _ h
  · exact h
theorem callA_mono {E : Env} {g : FuncId} {as : List AV} {σ : List AObj} {X Y : AV → List AObj → Prop} (hn : ∀ v σ, X v σ → Y v σ) (h : callA E g as σ X) : callA E g as σ Y := by
  unfold callA at h ⊢
  split at h
  · exact hn _ _ h
  · exact h.mono hn
theorem nextA_mono {σ : List AObj} {v : Option AV} {X Y : AV → List AObj → Prop} (hn : ∀ v σ, X v σ → Y v σ) (h : nextA X σ v) : nextA Y σ v := by
  unfold nextA at h ⊢
  split at h
  · split at h
    · split at h
      · exact ⟨h.1, fun i k v g1 g2 => hn _ _ (h.2.1 i k v g1 g2), fun g => hn _ _ (h.2.2 g)⟩
      · exact h
    · exact h
  · exact h

/-- A slice against nil: an empty one may be nil or not. -/
def isNilC : Operand → Bool
  | .const (.slice none 0 0) => true
  | _ => false
theorem isNilC_inv {y : Operand} (h : isNilC y = true) : y = .const (.slice none 0 0) := by
  unfold isNilC at h; split at h
  · rfl
  · cases h
def nilA (X : AV → List AObj → Prop) (σ : List AObj) : BinOp → TK → Option AV → Prop
  | .eql, .slice _, some (.list _ _ xs) => X (.bool false) σ ∧ (xs = [] → X (.bool true) σ)
  | .neq, .slice _, some (.list _ _ xs) => X (.bool true) σ ∧ (xs = [] → X (.bool false) σ)
  | .eql, .slice _, some (.vec _ l) => X (.bool false) σ ∧ (l = 0 → X (.bool true) σ)
  | .neq, .slice _, some (.vec _ l) => X (.bool true) σ ∧ (l = 0 → X (.bool false) σ)
  | _, _, _ => False
theorem nilA_inv {X : AV → List AObj → Prop} {σ : List AObj} {bo : BinOp} {kd : TK} {v : Option AV} (h : nilA X σ bo kd v) :
    ∃ e u Z, kd = .slice e ∧ v = some u ∧ (∀ K n c, VR K n u c → ∃ a len cap, c = .slice a len cap ∧ (a.isNone = true → Z)) ∧ (bo = .eql ∧ X (.bool false) σ ∧ (Z → X (.bool true) σ) ∨ bo = .neq ∧ X (.bool true) σ ∧ (Z → X (.bool false) σ)) := by
  have hl : ∀ tk sz (xs : List AV) K n c, VR K n (.list tk sz xs) c → ∃ a len cap, c = .slice a len cap ∧ (a.isNone = true → xs = []) := fun tk sz xs K n c h => by
    cases h with
    | list _ _ _ q cap f hl ht ha hs h1' hh =>
      refine ⟨q, _, cap, rfl, fun hn => ?_⟩
      apply Classical.byContradiction
      intro hne
      obtain ⟨b, o, rfl, _⟩ := ha hne
      cases hn
  have hv : ∀ r l K n c, VR K n (.vec r l) c → ∃ a len cap, c = .slice a len cap ∧ (a.isNone = true → l = 0) := fun r l K n c h => by
    cases h with
    | vec _ _ a cap hr hl ht ha =>
      refine ⟨a, _, cap, rfl, fun hn => ?_⟩
      rcases ha with h | ⟨b, o, rfl⟩
      · exact h
      · cases hn
  unfold nilA at h
  split at h
  · exact ⟨_, _, _, rfl, rfl, hl _ _ _, .inl ⟨rfl, h⟩⟩
  · exact ⟨_, _, _, rfl, rfl, hl _ _ _, .inr ⟨rfl, h⟩⟩
  · exact ⟨_, _, _, rfl, rfl, hv _ _, .inl ⟨rfl, h⟩⟩
  · exact ⟨_, _, _, rfl, rfl, hv _ _, .inr ⟨rfl, h⟩⟩
  · exact h.elim
theorem nilA_mono {X Y : AV → List AObj → Prop} {σ : List AObj} {bo : BinOp} {kd : TK} {v : Option AV} (hn : ∀ v σ, X v σ → Y v σ) (h : nilA X σ bo kd v) : nilA Y σ bo kd v := by
  unfold nilA at h ⊢
  split at h
  · exact ⟨hn _ _ h.1, fun e => hn _ _ (h.2 e)⟩
  · exact ⟨hn _ _ h.1, fun e => hn _ _ (h.2 e)⟩
  · exact ⟨hn _ _ h.1, fun e => hn _ _ (h.2 e)⟩
  · exact ⟨hn _ _ h.1, fun e => hn _ _ (h.2 e)⟩
  · exact h.elim
/-- What an operation leads to. -/
def evOp (E : Env) (fr : Fr) (σ : List AObj) (type : TypeId) (op : Op) (K : AV → List AObj → Prop) : Prop :=
  match op with
  | .call { callee := .value f, args, .. } => match aeval fr f, aevals fr args.toList with
    | some (.fn (.func g) p q), some as => callA E g (p ++ as ++ q) σ K
    | some (.yield r), some as => AYield E.P r as σ K
    | _, _ => False
  | .call { callee := .invoke r m, args, .. } => match aeval fr r, aevals fr args.toList with
    | some (.iface t v), some as => match E.mt t m with
      | some g => callA E g (v :: as) σ K
      | none => False
    | _, _ => False
  | .next it b => if b = true then nextS K σ (aeval fr it) else nextA K σ (aeval fr it)
  | .binOp bo t x y u => match isNilC y with
    | true => nilA K σ bo (E.ty t).kd (aeval fr x)
    | false => match aop E fr σ type (.binOp bo t x y u) with
      | some (v, σ') => K v σ'
      | none => False
  | op => match aop E fr σ type op with
    | some (v, σ') => K v σ'
    | none => False

/-- Statements: operations one after the other. -/
def evOps (E : Env) (all : List Oper) : List Oper → Fr → List AObj → (Fr → List AObj → Prop) → Prop
  | [], fr, σ, Q => Q fr σ
  | o :: os, fr, σ, Q =>
    let next : Option Tmp → AV → List AObj → Prop := fun dst v σ' => match dst with
      | none => evOps E all os fr σ' Q
      | some d => d < E.N ∧ evOps E all os (fr.put d v) σ' Q
    match wantA all fr o.guard with
    | none => False
    | some b => (b = true → evOp E fr σ o.type o.op (next o.dst)) ∧ (b = false → next o.dst (.tup []) σ)

variable {E : Env} {ro : Option Nat} {K : Kr} {n : Nat}

def Fw (ro : Option Nat) : Fence := { Fence.wide with round := ro }
theorem Fw_fn (ro : Option Nat) (f : FuncId) : (Fw ro).fn f := trivial
theorem Fw_depth (ro : Option Nat) : (Fw ro).depth = none := rfl
theorem Fw_round (ro : Option Nat) : (Fw ro).round = ro := rfl
theorem Fw_room (ro : Option Nat) (n : Nat) : (Fw ro).room n := fun d h => by cases h
theorem callsIn_Fw {P : Program} {f : FuncId} {args : Array Value} {w : World} {R : Ending → World → Prop} (h : Calls P f args w R) : CallsIn (Fw ro) n P f args w R := (callsIn_wide (n := n)).2 h

theorem undef_VR : VR K n (.tup []) undef := VRs.tup (cs := #[]) .nil

theorem VR.map_inv {r : Nat} {c : Value} (h : VR K n (.map r) c) : r < n ∧ c = .map (some (K.φ r)) := by
  cases h with | map _ h => exact ⟨h, rfl⟩
theorem aop_sound (hE : EnvOK E) {σ σ' : List AObj} {w : World} (hR : R K σ w) {fr : Fr} {a : Act} (hF : FR K σ.length E.N fr a.tmps) {o : Oper} {v : AV} (h : aop E fr σ o.type o.op = some (v, σ')) :
    ∃ c K' w', ((execOp a.eval o).run E.P w = .ok (.value c) w' ∨ ((execOp a.eval o).run E.P w = .ok .skip w' ∧ c = undef)) ∧ VR K' σ'.length v c ∧ R K' σ' w' ∧ Step K σ w K' σ' w' := by
  unfold aop at h
  split at h
  · rename_i v' hp
    simp only [Option.some.injEq, Prod.mk.injEq] at h
    obtain ⟨rfl, rfl⟩ := h
    obtain ⟨c, h1, h2⟩ := pop_sound hE.ty hE.eq hF hp w
    exact ⟨c, K, w, .inl h1, h2, hR, .refl _ _ _⟩
  · split at h
    · rename_i v' hp
      simp only [Option.some.injEq, Prod.mk.injEq] at h
      obtain ⟨rfl, rfl⟩ := h
      obtain ⟨c, K', w', h1, h2, h3, h4⟩ := lit_sound hE.ty hR hF hp
      exact ⟨c, K', w', .inl h1, h2, h3, h4⟩
    · obtain ⟨dst, op, type, pos, after, guard⟩ := o
      simp only at h
      cases op with
      | alloc t =>
        simp only [hop] at h
        split at h
        · rename_i hk
          simp only [Option.some.injEq, Prod.mk.injEq] at h
          obtain ⟨rfl, rfl⟩ := h
          obtain ⟨c, K', w', h1, h2, h3, h4⟩ := alloc_sound hE.ty hR hk (.tuple #[])
          exact ⟨c, K', w', .inl (by simp only [execOp, Sem.run_bind, h1, Result.andThen_ok, Sem.run_pure]), by simpa using h2, h3, h4⟩
        · cases h
      | box t x =>
        simp only [hop] at h
        split at h
        · rename_i v' hv
          split at h
          · rename_i hf
            simp only [Option.some.injEq, Prod.mk.injEq] at h
            obtain ⟨rfl, rfl⟩ := h
            obtain ⟨c, K', w', h1, h2, h3, h4⟩ := box_sound (P := E.P) (t := t) hR (aeval_sound hF hv) hf
            exact ⟨c, K', w', .inl (by simp only [execOp, Sem.run_bind, h1, Result.andThen_ok, Sem.run_pure]), by simpa using h2, h3, h4⟩
          · cases h
        · cases h
      | load t x =>
        simp only [hop] at h
        split at h
        · rename_i r off hx
          split at h
          · rename_i cs hg
            simp only [Option.map_eq_some_iff, Prod.mk.injEq] at h
            obtain ⟨v', hs, rfl, rfl⟩ := h
            obtain ⟨f, hc⟩ := cells_of_obj hR hg
            obtain ⟨c, h1, h2⟩ := load_sound (P := E.P) (w := w) hE.ty hc hs
            refine ⟨c, K, w, .inl ?_, h2, hR, .refl _ _ _⟩
            rw [Nat.zero_add] at h1
            simp only [execOp, Instr.loadAt, (aeval_sound hF hx).ptr_inv.2, Instr.sureAddr, Sem.run_bind, Sem.run_pure, Result.andThen_ok, h1]
          · cases h
        · rename_i cs off hx
          simp only [Option.map_eq_some_iff, Prod.mk.injEq] at h
          obtain ⟨v', hs, rfl, rfl⟩ := h
          obtain ⟨b, o, hq, f, hc⟩ := cells_of_eptr hR (aeval_sound hF hx)
          obtain ⟨c, h1, h2⟩ := load_sound (P := E.P) (w := w) hE.ty hc hs
          refine ⟨c, K, w, .inl ?_, h2, hR, .refl _ _ _⟩
          simp only [execOp, Instr.loadAt, hq, Instr.sureAddr, Sem.run_bind, Sem.run_pure, Result.andThen_ok, h1]
        · rename_i r m sz i off hx
          split at h
          · rename_i sz' xs hg
            split at h
            · rename_i hc
              obtain ⟨rfl, rfl⟩ := hc
              unfold loadV at h
              split at h
              · rename_i x hxi
                simp only [Option.map_eq_some_iff, Prod.mk.injEq] at h
                obtain ⟨v', hs, rfl, rfl⟩ := h
                obtain ⟨hi, rfl⟩ := List.getElem?_eq_some_iff.1 hxi
                obtain ⟨b, o, c, hq, h1, h2⟩ := vload_sound (P := E.P) hE.ty hR hg (aeval_sound hF hx) hi hs
                refine ⟨c, K, w, .inl ?_, h2, hR, .refl _ _ _⟩
                simp only [execOp, Instr.loadAt, hq, Instr.sureAddr, Sem.run_bind, Sem.run_pure, Result.andThen_ok, h1]
              · cases h
            · cases h
          · cases h
        · cases h
      | store t x y =>
        simp only [hop] at h
        split at h
        · rename_i r off v' hx hy
          split at h
          · rename_i cs hg
            split at h
            · rename_i hc
              simp only [Option.some.injEq, Prod.mk.injEq] at h
              obtain ⟨rfl, rfl⟩ := h
              obtain ⟨w', h1, h2, h3⟩ := store_sound (P := E.P) hE.ty hR hc.1 hg (aeval_sound hF hy) hc.2.1 hc.2.2.1 hc.2.2.2
              refine ⟨undef, K, w', .inr ⟨?_, rfl⟩, undef_VR, h2, h3⟩
              simp only [execOp, (aeval_sound hF hx).ptr_inv.2, Sem.run_bind, h1, Result.andThen_ok, Sem.run_pure]
            · cases h
          · cases h
        · rename_i r m sz i off v' hx hy
          split at h
          · rename_i sz' xs hg
            split at h
            · rename_i hc
              obtain ⟨rfl, rfl, c1, c2, c3, c4⟩ := hc
              unfold storeV at h
              split at h
              · rename_i x hxi
                split at h
                · rename_i hfx
                  simp only [Option.some.injEq, Prod.mk.injEq] at h
                  obtain ⟨rfl, rfl⟩ := h
                  obtain ⟨hi, rfl⟩ := List.getElem?_eq_some_iff.1 hxi
                  obtain ⟨w', h1, h2, h3⟩ := vstore_sound (P := E.P) hE.ty hR c1 hg (aeval_sound hF hx) hi hfx (aeval_sound hF hy) c2 c3 c4
                  refine ⟨undef, K, w', .inr ⟨?_, rfl⟩, undef_VR, h2, h3⟩
                  simp only [execOp, Sem.run_bind, h1, Result.andThen_ok, Sem.run_pure]
                · cases h
              · cases h
            · cases h
          · cases h
        · cases h
      | call c =>
        obtain ⟨callee, args, ats⟩ := c
        cases callee with
        | builtin b =>
          cases b with
          | append =>
            simp only [hop] at h
            split at h
            · rename_i t sz xs t' sz' ys t0 t1 hargs h0 h1
              split at h
              · rename_i e e' hk0 hk1
                obtain ⟨c1, c2, hl, g1, g2⟩ := (aevals_sound hF hargs).two
                have happ : ∃ c K' w', (Builtin.append_ ats type #[c1, c2]).run E.P w = .ok c w' ∧ VR K' σ'.length v c ∧ R K' σ' w' ∧ Step K σ w K' σ' w' := by
                  unfold appB at h
                  split at h
                  · exact fapp_sound hE.ty hR h0 h1 hk0 hk1 g1 g2 h type
                  · exact app_sound hE.ty hR h0 h1 hk0 hk1 g1 g2 h type
                obtain ⟨c, K', w', k1, k2, k3, k4⟩ := happ
                refine ⟨c, K', w', .inl ?_, k2, k3, k4⟩
                have hl' : args.map a.eval = #[c1, c2] := by apply Array.ext'; simpa using hl
                simp only [execOp, resolve, hl', Sem.run_bind, Sem.run_pure, Result.andThen_ok, invoke, builtin, k1]
              · cases h
            · rename_i r len t' sz' ys t0 t1 hargs h0 h1
              split at h
              · rename_i e e' hk0 hk1
                obtain ⟨c1, c2, hl, g1, g2⟩ := (aevals_sound hF hargs).two
                obtain ⟨c, K', w', k1, k2, k3, k4⟩ := vapp_sound hE.ty hR h0 h1 hk0 hk1 g1 g2 h type
                refine ⟨c, K', w', .inl ?_, k2, k3, k4⟩
                have hl' : args.map a.eval = #[c1, c2] := by apply Array.ext'; simpa using hl
                simp only [execOp, resolve, hl', Sem.run_bind, Sem.run_pure, Result.andThen_ok, invoke, builtin, k1]
              · cases h
            · cases h
          | copy =>
            simp only [hop] at h
            split at h
            · rename_i r off len t sz xs t0 hargs h0
              split at h
              · rename_i e cs hk0 hg
                split at h
                · rename_i hc
                  simp only [Option.some.injEq, Prod.mk.injEq] at h
                  obtain ⟨rfl, rfl⟩ := h
                  obtain ⟨c1, c2, hl, g1, g2⟩ := (aevals_sound hF hargs).two
                  obtain ⟨w', k1, k2, k3⟩ := copy_sound (P := E.P) hE.ty hR h0 hk0 hc.1 hc.2.1 hc.2.2.1 hc.2.2.2.1 hg hc.2.2.2.2 g1 g2 type
                  refine ⟨_, K, w', .inl ?_, .int _ _, k2, k3⟩
                  have hl' : args.map a.eval = #[c1, c2] := by apply Array.ext'; simpa using hl
                  simp only [execOp, resolve, hl', Sem.run_bind, Sem.run_pure, Result.andThen_ok, invoke, builtin, k1]
                · cases h
              · cases h
            · cases h
          | _ => simp [hop] at h
        | _ => simp [hop] at h
      | makeSlice t l c =>
        simp only [hop] at h
        split at h
        · rename_i e k l k' c' hk hl hc
          split at h
          · rename_i hh
            obtain ⟨rfl, h0, h1, h2, h3, h4, h5⟩ := hh
            simp only [Option.some.injEq, Prod.mk.injEq] at h
            obtain ⟨rfl, rfl⟩ := h
            obtain ⟨c, K', w', k1, k2, k3, k4⟩ := makeSlice_sound (P := E.P) (k := k) (k' := k') hE.ty hR hk h0 h1 h2 h3 h4 h5
            refine ⟨c, K', w', .inl ?_, by simpa using k2, k3, k4⟩
            simp only [execOp, (aeval_sound hF hl).int_inv, (aeval_sound hF hc).int_inv, Sem.run_bind, k1, Result.andThen_ok, Sem.run_pure]
          · cases h
        · cases h
      | makeMap t m =>
        cases m with
        | some _ => simp [hop] at h
        | none =>
          simp only [hop] at h
          split at h
          · simp only [Option.some.injEq, Prod.mk.injEq] at h
            obtain ⟨rfl, rfl⟩ := h
            obtain ⟨c, K', w', h1, h2, h3, h4⟩ := makeMap_sound (P := E.P) hR (t := t)
            exact ⟨c, K', w', .inl (by simp only [execOp, Option.map_none, Sem.run_bind, h1, Result.andThen_ok, Sem.run_pure]), by simpa using h2, h3, h4⟩
          · cases h
      | lookup t m k ok =>
        simp only [hop] at h
        split at h
        · rename_i kt et r key hk hm hkey
          split at h
          · rename_i es hg
            split at h
            · rename_i hc
              obtain ⟨c', h1, h2, rfl⟩ := lookup_sound hE.ty hE.eq hR hk hc.1 hc.2.1 hg (aeval_sound hF hkey) h
              refine ⟨c', K, w, .inl ?_, h2, hR, .refl _ _ _⟩
              simp only [execOp, (aeval_sound hF hm).map_inv.2, Sem.run_bind, h1, Result.andThen_ok, Sem.run_pure]
            · cases h
          · cases h
        · cases h
      | mapUpdate t m k x =>
        simp only [hop] at h
        split at h
        · rename_i kt et r key u hk hm hkey hu
          split at h
          · rename_i es hg
            split at h
            · rename_i hc
              obtain ⟨w', h1, rfl, h2, h3⟩ := update_sound hE.ty hE.eq hR hk hc hg (aeval_sound hF hkey) (aeval_sound hF hu) h
              refine ⟨undef, K, w', .inr ⟨?_, rfl⟩, undef_VR, h2, h3⟩
              simp only [execOp, (aeval_sound hF hm).map_inv.2, Sem.run_bind, h1, Result.andThen_ok, Sem.run_pure]
            · cases h
          · cases h
        · cases h
      | entry it =>
        simp only [hop] at h
        split at h
        · rename_i r hit
          obtain ⟨c, h1, h2, rfl⟩ := entry_sound (P := E.P) hR h
          refine ⟨c, K, w, .inl ?_, h2, hR, .refl _ _ _⟩
          simp only [execOp, (aeval_sound hF hit).ptr_inv.2, Sem.run_bind, h1, Result.andThen_ok, Sem.run_pure]
        · cases h
      | range t m =>
        simp only [hop] at h
        split at h
        · rename_i kt et r hk hm
          split at h
          · rename_i es hg
            simp only [Option.some.injEq, Prod.mk.injEq] at h
            obtain ⟨rfl, rfl⟩ := h
            obtain ⟨c, K', w', h1, h2, h3, h4⟩ := range_sound hE.ty hR hk hg
            refine ⟨c, K', w', .inl ?_, by simpa using h2, h3, h4⟩
            simp only [execOp, (aeval_sound hF hm).map_inv.2, Sem.run_bind, h1, Result.andThen_ok, Sem.run_pure]
          · cases h
        · rename_i s hk hm
          simp only [Option.some.injEq, Prod.mk.injEq] at h
          obtain ⟨rfl, rfl⟩ := h
          obtain ⟨c, K', w', h1, h2, h3, h4⟩ := srange_sound hE.ty hR (s := s) hk
          refine ⟨c, K', w', .inl ?_, by simpa using h2, h3, h4⟩
          simp only [execOp, (aeval_sound hF hm).str_inv, Sem.run_bind, h1, Result.andThen_ok, Sem.run_pure]
        · cases h
      | convert s d x =>
        simp only [hop, Option.map_eq_some_iff, Prod.mk.injEq] at h
        obtain ⟨u, h, rfl, rfl⟩ := h
        unfold cvO at h
        split at h
        · rename_i e t sz xs hs hd hx
          split at h
          · rename_i hc
            simp only [Option.map_eq_some_iff] at h
            obtain ⟨ns, hb, rfl⟩ := h
            refine ⟨_, K, w, .inl ?_, .str _, hR, .refl _ _ _⟩
            simp only [execOp, Sem.run_bind, cvt_sound hE.ty hR hs hd hc.1 hc.2 hb (aeval_sound hF hx), Result.andThen_ok, Sem.run_pure]
          · cases h
        · cases h
      | _ => simp [hop] at h

end Go.Mu
set_option linter.unusedSimpArgs false
set_option linter.unusedVariables false
namespace Go.Mu
open Go

variable {E : Env} {ro : Option Nat} {K : Kr} {n : Nat}

/-- What stands behind an operation. -/
def evNext (E : Env) (all os : List Oper) (dst : Option Tmp) (fr : Fr) (Q : Fr → List AObj → Prop) (v : AV) (σ : List AObj) : Prop :=
  match dst with
  | none => evOps E all os fr σ Q
  | some d => d < E.N ∧ evOps E all os (fr.put d v) σ Q

theorem evOps_cons (E : Env) (all os : List Oper) (o : Oper) (fr : Fr) (σ : List AObj) (Q : Fr → List AObj → Prop) : evOps E all (o :: os) fr σ Q =
    match wantA all fr o.guard with
    | none => False
    | some b => (b = true → evOp E fr σ o.type o.op (evNext E all os o.dst fr Q)) ∧ (b = false → evNext E all os o.dst fr Q (.tup []) σ) := rfl

/-- The end of a statement, in the model. -/
def Done (E : Env) (K : Kr) (σ : List AObj) (w : World) (ds : List Deferred) (Q : Fr → List AObj → Prop) (e : Exit) (a : Act) (w' : World) : Prop :=
  e = .normal ∧ ∃ K' σ' fr', Q fr' σ' ∧ R K' σ' w' ∧ FR K' σ'.length E.N fr' a.tmps ∧ Step K σ w K' σ' w' ∧ a.defers = ds

theorem put_defers (a : Act) (d : Option Tmp) (v : Value) : (a.put d v).defers = a.defers := by cases d <;> rfl
theorem put_none_tmps (a : Act) (v : Value) : (a.put none v) = a := rfl

theorem notDefer {o : Oper} (h : ∀ c, o.op ≠ .defer c) (a : Act) (ro : Option Nat) : o.semAt ro a.eval = execOp a.eval o := Oper.semAt_eq ro a.eval o h

theorem next_sound {all os : List Oper} {dst : Option Tmp} {fr : Fr} {Q : Fr → List AObj → Prop} {σ σ' : List AObj} {w w' : World} {K K' : Kr} {a : Act} {v : AV} {c : Value} {X : Act → World → Prop}
    (ih : ∀ (K' : Kr) (σ' : List AObj) (w' : World) (fr : Fr) (a' : Act), evOps E all os fr σ' Q → R K' σ' w' → FR K' σ'.length E.N fr a'.tmps → Step K σ w K' σ' w' → a'.defers = a.defers → X a' w')
    (h : evNext E all os dst fr Q v σ') (hR : R K' σ' w') (hF : FR K σ.length E.N fr a.tmps) (hS : Step K σ w K' σ' w') (hv : VR K' σ'.length v c) : X (a.put dst c) w' := by
  have hF' : FR K' σ'.length E.N fr a.tmps := hF.mono hS.ext hS.len
  cases dst with
  | none => exact ih K' σ' w' fr a h hR hF' hS rfl
  | some d => exact ih K' σ' w' (fr.put d v) _ h.2 hR (hF'.put h.1 hv) hS (put_defers _ _ _)

/-- AN OPERATION, IN THE MODEL. -/
theorem opIn_sound (hE : EnvOK E) {fr : Fr} {σ : List AObj} {w : World} {a : Act} {o : Oper} {X : AV → List AObj → Prop} (h : evOp E fr σ o.type o.op X) (hR : R K σ w) (hF : FR K σ.length E.N fr a.tmps) {KK : Act → World → Prop} {QQ : Exit → Act → World → Prop}
    (hk : ∀ K' σ' w' v c, X v σ' → R K' σ' w' → VR K' σ'.length v c → Step K σ w K' σ' w' → KK (a.put o.dst c) w') : o.wpIn (Fw ro) n E.P a w KK QQ := by
  refine ⟨fun f _ => trivial, ?_⟩
  have hfin : ∀ {r : Result Next}, (∃ v σ', aop E fr σ o.type o.op = some (v, σ') ∧ X v σ') → (∀ c, o.op ≠ .defer c) →
      o.uponIn (Fw ro) n E.P a KK QQ ((o.semAt (Fw ro).round a.eval).run E.P w) := by
    intro _ ⟨v, σ', h1, h2⟩ hnd
    rw [notDefer hnd]
    obtain ⟨c, K', w', h3, h4, h5, h6⟩ := aop_sound hE hR hF h1
    rcases h3 with h3 | ⟨h3, rfl⟩
    · rw [h3]; exact hk _ _ _ _ _ h2 h5 h4 h6
    · rw [h3]; exact hk _ _ _ _ _ h2 h5 h4 h6
  have hplain : (match aop E fr σ o.type o.op with | some (v, σ') => X v σ' | none => False) → ∃ v σ', aop E fr σ o.type o.op = some (v, σ') ∧ X v σ' := fun h => by
    split at h
    · rename_i v σ' h1; exact ⟨v, σ', h1, h⟩
    · exact h.elim
  obtain ⟨dst, op, type, pos, after, guard⟩ := o
  cases op with
  | call c =>
    obtain ⟨callee, args, ats⟩ := c
    cases callee with
    | builtin b => exact hfin (r := .halt .blocked w) (hplain h) (fun c hc => by cases hc)
    | value f =>
      simp only [evOp] at h
      rw [notDefer (by intro c hc; cases hc)]
      split at h
      · rename_i g p q as hf has
        replace h := callA_sound hE h
        have hfv := aeval_sound hF hf
        have hav := aevals_sound hF has
        generalize hfe : a.eval f = fv at hfv
        cases hfv with
        | fn _ _ _ p' q' l1 l2 g1 g2 =>
          have hrun : (execOp a.eval ⟨dst, .call ⟨.value f, args, ats⟩, type, pos, after, guard⟩).run E.P w = .ok (.enter g (p'.toArray ++ args.map a.eval ++ q'.toArray)) w := by
            simp only [execOp, resolve, hfe, Deferred.ofValue, Sem.run_bind, Sem.run_pure, Result.andThen_ok, invoke]
            exact h.1 _ _
          rw [hrun]
          refine ⟨fun h => by simp [Fw_depth] at h, callsIn_Fw ((h.2 K w _ hR ?_).mono ?_)⟩
          · have := (VRs.append (K := K) (n := σ.length) (l := p) (l' := p') ⟨l1, g1⟩ hav).append (m := q) (m' := q') ⟨l2, g2⟩
            simpa using this
          · rintro e w' ⟨v, c, σ', K', rfl, h1, h2, h3, h4⟩
            exact hk _ _ _ _ _ h1 h3 h2 h4
      · rename_i r as hf has
        have hfv := aeval_sound hF hf
        have hav := aevals_sound hF has
        generalize hfe : a.eval f = fv at hfv
        cases hfv with
        | yield _ hr =>
          obtain ⟨fn, tmps, assign, body, h1, h2⟩ := h K w (args.map a.eval) hR (by simpa using hav)
          have hrun : (execOp a.eval ⟨dst, .call ⟨.value f, args, ats⟩, type, pos, after, guard⟩).run E.P w = .ok (.round (K.φ r) fn tmps assign body) w := by
            simp only [execOp, resolve, hfe, Deferred.ofValue, Sem.run_bind, Sem.run_pure, Result.andThen_ok, invoke]
            have e : (#[] : Array Value) ++ args.map a.eval = args.map a.eval := by simp
            rw [e]; exact h1
          rw [hrun]
          refine ⟨fun h => by simp [Fw_depth] at h, ?_⟩
          have h2' : RoundIn (Fw ro) 0 E.P (K.φ r) fn tmps assign body w _ := h2
          refine RoundIn.mono (n := n - 1) ⟨h2'.1, fun c cs hroom => h2'.2 c cs (Fw_room ro _)⟩ ?_
          rintro e w' ⟨v, c, σ', K', rfl, g1, g2, g3, g4⟩
          exact hk _ _ _ _ _ g1 g3 g2 g4
      · exact h.elim
    | invoke r m =>
      simp only [evOp] at h
      rw [notDefer (by intro c hc; cases hc)]
      split at h
      · rename_i t v0 as hf has
        split at h
        · rename_i g hg
          replace h := callA_sound hE h
          have hfv := aeval_sound hF hf
          have hav := aevals_sound hF has
          generalize hfe : a.eval r = fv at hfv
          cases hfv with
          | iface _ _ c0 hc0 =>
            have hrun : (execOp a.eval ⟨dst, .call ⟨.invoke r m, args, ats⟩, type, pos, after, guard⟩).run E.P w = .ok (.enter g (#[c0] ++ args.map a.eval)) w := by
              have e1 : (#[Value.iface t c0] ++ args.map a.eval)[0]? = some (.iface t c0) := by rw [Array.getElem?_append_left (by simp)]; rfl
              have e2 : (#[Value.iface t c0] ++ args.map a.eval).extract 1 (#[Value.iface t c0] ++ args.map a.eval).size = args.map a.eval := by
                apply Array.ext'; simp; exact List.take_of_length_le (by simp)
              simp only [execOp, resolve, hfe, Sem.run_bind, Sem.run_pure, Result.andThen_ok, invoke, e1, e2, callMethod, run_program, hE.mt t m g hg]
              exact h.1 _ _
            rw [hrun]
            refine ⟨fun h => by simp [Fw_depth] at h, callsIn_Fw ((h.2 K w _ hR ?_).mono ?_)⟩
            · have := VRs.cons hc0 hav
              simpa using this
            · rintro e w' ⟨v, c, σ', K', rfl, h1, h2, h3, h4⟩
              exact hk _ _ _ _ _ h1 h3 h2 h4
        · exact h.elim
      · exact h.elim
  | next it b =>
    simp only [evOp] at h
    cases b with
    | true =>
      rw [if_pos rfl] at h
      rw [notDefer (by intro c hc; cases hc)]
      cases hit : aeval fr it with
      | none => rw [hit] at h; exact h.elim
      | some v0 =>
        rw [hit] at h
        obtain ⟨v, σ', c', w', h1, h2, h3, h4, h5⟩ := strNext_sound (P := E.P) (T := type) hR (aeval_sound hF hit) h
        have hrun : (execOp a.eval ⟨dst, .next it true, type, pos, after, guard⟩).run E.P w = .ok (.value c') w' := by
          simp only [execOp, Sem.run_bind, h1, Result.andThen_ok, Sem.run_pure]
        rw [hrun]
        exact hk _ _ _ _ _ h2 h4 h3 h5
    | false =>
      rw [if_neg (by simp)] at h
      rw [notDefer (by intro c hc; cases hc)]
      cases hit : aeval fr it with
      | none => rw [hit] at h; exact h.elim
      | some v0 =>
        rw [hit] at h
        obtain ⟨v, σ', c', w', h1, h2, h3, h4, h5⟩ := mapNext_sound (P := E.P) (T := type) hR (aeval_sound hF hit) h
        have hrun : (execOp a.eval ⟨dst, .next it false, type, pos, after, guard⟩).run E.P w = .ok (.value c') w' := by
          simp only [execOp, Sem.run_bind, h1, Result.andThen_ok, Sem.run_pure]
        rw [hrun]
        exact hk _ _ _ _ _ h2 h4 h3 h5
  | binOp bo t x y u =>
    simp only [evOp] at h
    cases hy : isNilC y with
    | false => rw [hy] at h; exact hfin (r := .halt .blocked w) (hplain h) (fun c hc => by cases hc)
    | true =>
      rw [hy] at h
      obtain rfl := isNilC_inv hy
      rw [notDefer (by intro c hc; cases hc)]
      obtain ⟨e, u', Z, hkd, hx, hZ, hX⟩ := nilA_inv h
      have hk' : (E.ty t).kd ≠ .other := by rw [hkd]; simp
      obtain ⟨d, hu, hd⟩ := (hE.ty t hk').kd
      rw [hkd] at hd; simp only [KdOK] at hd; subst hd
      obtain ⟨q, len, cap, hq, hnil⟩ := hZ _ _ _ (aeval_sound hF hx)
      have hc0 : a.eval (.const (.slice none 0 0)) = .slice none 0 0 := rfl
      have heq := run_equal_slice_nil (P := E.P) w t e q len cap hu
      rcases hX with ⟨rfl, h1, h2⟩ | ⟨rfl, h1, h2⟩
      · have hrun : (execOp a.eval ⟨dst, .binOp .eql t x (.const (.slice none 0 0)) u, type, pos, after, guard⟩).run E.P w = .ok (.value (.bool q.isNone)) w := by
          simp [execOp, hq, hc0, eqGuard, binOp, heq]
        rw [hrun]
        cases hn : q.isNone with
        | false => exact hk _ _ _ _ _ h1 hR (.bool _) (.refl _ _ _)
        | true => exact hk _ _ _ _ _ (h2 (hnil hn)) hR (.bool _) (.refl _ _ _)
      · have hrun : (execOp a.eval ⟨dst, .binOp .neq t x (.const (.slice none 0 0)) u, type, pos, after, guard⟩).run E.P w = .ok (.value (.bool (!q.isNone))) w := by
          simp [execOp, hq, hc0, eqGuard, binOp, heq]
        rw [hrun]
        cases hn : q.isNone with
        | false => exact hk _ _ _ _ _ h1 hR (.bool _) (.refl _ _ _)
        | true => exact hk _ _ _ _ _ (h2 (hnil hn)) hR (.bool _) (.refl _ _ _)
  | defer c => simp [evOp, aop, pop, litOp, hop] at h
  | _ => exact hfin (r := .halt .blocked w) (hplain h) (fun c hc => by cases hc)

theorem evOps_sound (hE : EnvOK E) {ops : Array Oper} {Q : Fr → List AObj → Prop} {K0 : Kr} {σ0 : List AObj} {w0 : World} {ds : List Deferred} : ∀ (l : List Nat) (os : List Oper), l.map (fun i => ops[i]?) = os.map some →
    ∀ (K : Kr) (σ : List AObj) (w : World) (fr : Fr) (a : Act), evOps E ops.toList os fr σ Q → R K σ w → FR K σ.length E.N fr a.tmps → Step K0 σ0 w0 K σ w → a.defers = ds →
      wpOpsIn (Fw ro) n E.P ops (Done E K0 σ0 w0 ds Q) l a w
  | [], os, hl, K, σ, w, fr, a, h, hR, hF, hS, hd => by
    cases os with
    | cons => simp at hl
    | nil => exact ⟨rfl, K, σ, fr, h, hR, hF, hS, hd⟩
  | i :: l, os, hl, K, σ, w, fr, a, h, hR, hF, hS, hd => by
    cases os with
    | nil => simp at hl
    | cons o os =>
      simp only [List.map_cons, List.cons.injEq] at hl
      obtain ⟨hi, hl⟩ := hl
      have ih : ∀ (K' : Kr) (σ' : List AObj) (w' : World) (fr : Fr) (a' : Act), evOps E ops.toList os fr σ' Q → R K' σ' w' → FR K' σ'.length E.N fr a'.tmps → Step K σ w K' σ' w' → a'.defers = a.defers →
          wpOpsIn (Fw ro) n E.P ops (Done E K0 σ0 w0 ds Q) l a' w' := fun K' σ' w' fr a' h1 h2 h3 h4 h5 => evOps_sound hE l os hl K' σ' w' fr a' h1 h2 h3 (hS.trans h4) (h5.trans hd)
      rw [evOps_cons] at h
      simp only [wpOpsIn, hi]
      split at h
      · exact h.elim
      · rename_i b hb
        have hw := wantA_sound hF hb
        cases b with
        | false =>
          rw [if_neg (by rw [hw]; simp)]
          exact ⟨fun f _ => trivial, next_sound ih (h.2 rfl) hR hF (.refl _ _ _) undef_VR⟩
        | true =>
          rw [if_pos hw]
          exact opIn_sound hE (h.1 rfl) hR hF fun K' σ' w' v c h1 h2 h3 h4 => next_sound ih h1 h2 hF h4 h3

/-- A statement whose order is the text's. -/
theorem ARun.region (hE : EnvOK E) {id : Nat} {ops : Array Oper} {k : List Item} {fr : Fr} {σ : List AObj} {Q : Option Code → Fr → List AObj → Prop}
    (h : evOps E ops.toList ops.toList fr σ fun fr σ => ARun E ro k fr σ Q) : ARun E ro (.code (.region id ops false) :: k) fr σ Q := by
  intro K w a b cs hb hR hF
  have hl : (List.range ops.size).map (fun i => ops[i]?) = ops.toList.map some := by
    apply List.ext_getElem
    · simp
    · intro i h1 h2
      simp at h1 h2 ⊢
  have hw := evOps_sound (ro := b.roundOf) (n := 0) hE (List.range ops.size) ops.toList hl K σ w fr a h hR hF (.refl _ _ _) rfl
  obtain ⟨e, a', w', ⟨rfl, K', σ', fr', hq, h2, h3, h4, h5⟩, harr⟩ := wpIn_region hw b k cs rfl trivial (Fw_room _ _)
  obtain ⟨K2, σ2, fr2, w2, a2, t2, j, ms, g1, g2, g3, g4, g5, g6, g7, g8⟩ := hq K' w' a' b cs (hb.mono h4.ext h4.len) h2 h3
  refine ⟨K2, σ2, fr2, w2, a2, t2, j, ms, g1, (StepsIn.steps harr).trans g2, g3, g4, g5, h4.trans g6, by rw [g7, h5], ?_⟩
  exact ⟨g8.nodup, fun r hr => Nat.le_trans h4.size (g8.lo r hr), g8.heap, g8.free⟩

end Go.Mu
set_option linter.unusedSimpArgs false
set_option linter.unusedVariables false
namespace Go.Mu
open Go

variable {E : Env} {ro : Option Nat} {K : Kr} {n : Nat}

def resA1 (E : Env) (fr : Fr) (σ : List AObj) : ResultVar → Option AV
  | .tmp t => fr.get t
  | .cell a t => match fr.get a with
    | some (.ptr r off) => match hget σ r with
      | some (.cells cs) => subAt off (E.ty t).sz cs (E.ty t).kd.agg
      | _ => none
    | _ => none
def resAs (E : Env) (fr : Fr) (σ : List AObj) : List ResultVar → Option (List AV)
  | [] => some []
  | r :: rs => match resA1 E fr σ r, resAs E fr σ rs with
    | some v, some vs => some (v :: vs)
    | _, _ => none
def oneOf : List AV → AV
  | [v] => v
  | vs => .tup vs

theorem resA1_sound (hE : EnvOK E) {σ : List AObj} {w : World} (hR : R K σ w) {fr : Fr} {a : Act} (hF : FR K σ.length E.N fr a.tmps) {r : ResultVar} {v : AV} (h : resA1 E fr σ r = some v) :
    ∃ c, (match r with | .tmp t => pure (a.tmps.getD t undef) | .cell x t => do loadVar t (← asAddr (a.tmps.getD x undef)) : Sem Value).run E.P w = .ok c w ∧ VR K σ.length v c := by
  cases r with
  | tmp t =>
    obtain ⟨c, h1, h2⟩ := hF.2 t v h
    exact ⟨c, by simp [h1], h2⟩
  | cell x t =>
    simp only [resA1] at h
    split at h
    · rename_i r off hx
      split at h
      · rename_i cs hg
        obtain ⟨c, h1, h2⟩ := hF.2 x _ hx
        obtain ⟨hr, rfl⟩ := h2.ptr_inv
        obtain ⟨f, hc⟩ := cells_of_obj hR hg
        obtain ⟨c, g1, g2⟩ := load_sound (P := E.P) (w := w) hE.ty hc h
        rw [Nat.zero_add] at g1
        exact ⟨c, by simp [h1, asAddr, g1], g2⟩
      · cases h
    · cases h

theorem resAs_sound (hE : EnvOK E) {σ : List AObj} {w : World} (hR : R K σ w) {fr : Fr} {a : Act} (hF : FR K σ.length E.N fr a.tmps) : ∀ {rs : List ResultVar} {vs : List AV}, resAs E fr σ rs = some vs →
    ∃ cs, (rs.mapM fun (r : ResultVar) => (match r with | .tmp t => pure (a.tmps.getD t undef) | .cell x t => do loadVar t (← asAddr (a.tmps.getD x undef)) : Sem Value)).run E.P w = .ok cs w ∧ VRs K σ.length vs cs
  | [], vs, h => by simp [resAs] at h; subst h; exact ⟨[], rfl, .nil⟩
  | r :: rs, vs, h => by
    simp only [resAs] at h
    split at h
    · rename_i v vs' h1 h2
      simp at h; subst h
      obtain ⟨c, g1, g2⟩ := resA1_sound hE hR hF h1
      obtain ⟨cs, g3, g4⟩ := resAs_sound hE hR hF h2
      exact ⟨c :: cs, by simp only [List.mapM_cons, Sem.run_bind, g1, g3, Result.andThen_ok, Sem.run_pure], .cons g2 g4⟩
    · cases h

theorem results_sound (hE : EnvOK E) {σ : List AObj} {w : World} (hR : R K σ w) {fr : Fr} {a : Act} (hF : FR K σ.length E.N fr a.tmps) {fn : Func} {vs : List AV} (h : resAs E fr σ fn.results.toList = some vs) :
    ∃ c, (results fn a.tmps).run E.P w = .ok c w ∧ VR K σ.length (oneOf vs) c := by
  obtain ⟨cs, h1, h2⟩ := resAs_sound hE hR hF h
  have h3 : (fn.results.mapM fun (r : ResultVar) => (match r with | .tmp t => pure (a.tmps.getD t undef) | .cell x t => do loadVar t (← asAddr (a.tmps.getD x undef)) : Sem Value)).run E.P w = .ok cs.toArray w := by
    rw [Array.mapM_eq_mapM_toList, Sem.run_map, h1]; rfl
  have h4 : (results fn a.tmps).run E.P w = .ok (if h : cs.toArray.size = 1 then cs.toArray[0] else .tuple cs.toArray) w := by
    have h5 : (results fn a.tmps).run E.P w = ((fn.results.mapM fun (r : ResultVar) => (match r with | .tmp t => pure (a.tmps.getD t undef) | .cell x t => do loadVar t (← asAddr (a.tmps.getD x undef)) : Sem Value)).run E.P w).andThen
        fun vs w' => .ok (if h : vs.size = 1 then vs[0] else .tuple vs) w' := by
      unfold results
      rw [Sem.run_bind]
      rfl
    rw [h5, h3]; rfl
  refine ⟨_, h4, ?_⟩
  match vs, cs, h2 with
  | [v], [c], h2 => exact h2.head
  | [], [], h2 => exact VRs.tup (cs := #[]) .nil
  | v :: u :: vs, c :: d :: cs, h2 =>
    have : ¬ (c :: d :: cs).toArray.size = 1 := by simp
    rw [dif_neg this]
    exact VRs.tup (cs := (c :: d :: cs).toArray) (by simpa using h2)
  | [], _ :: _, h2 => exact absurd h2.1 (by simp)
  | [_], [], h2 => exact absurd h2.1 (by simp)
  | [_], _ :: _ :: _, h2 => exact absurd h2.1 (by simp)
  | _ :: _ :: _, [], h2 => exact absurd h2.1 (by simp)
  | _ :: _ :: _, [_], h2 => exact absurd h2.1 (by simp)

/-- A block of no live object may turn, if it holds no cells before and behind. -/
theorem R.freeTurn {σ : List AObj} {w : World} (h : R K σ w) {r0 : Nat} (hf : Free K σ r0) (o o' : Obj) (ho : w.heap[r0]? = some o) (hc : ∀ p, w.cell? ⟨r0, p, none⟩ = none) (hnc : ∀ cs E fz, o ≠ .cells cs E fz) :
    R K σ { w with heap := w.heap.setIfInBounds r0 o' } ∧ (∀ p, K.S r0 p = none) := by
  have hS : ∀ p, K.S r0 p = none := fun p => by
    cases hk : K.S r0 p with
    | none => rfl
    | some v => have := h.stab r0 p v hk; rw [hc p] at this; cases this
  have hother : ∀ b, b ≠ r0 → ({ w with heap := w.heap.setIfInBounds r0 o' } : World).heap[b]? = w.heap[b]? := fun b hb => by
    show (w.heap.setIfInBounds r0 o')[b]? = _
    rw [Array.getElem?_setIfInBounds_ne (Ne.symm hb)]
  have hlt : ∀ {r o}, σ[r]? = some o → r < σ.length := fun h => (List.getElem?_eq_some_iff.1 h).1
  refine ⟨⟨fun b p v hv => ?_, fun r o1 hr => ?_, h.inj, fun g cs hg => ?_⟩, hS⟩
  · have hb : b ≠ r0 := fun e => by subst e; rw [hS p] at hv; cases hv
    rw [cell_of_heap (hother b hb)]; exact h.stab b p v hv
  · exact (h.obj r o1 hr).mono (hlt hr) (.refl _ _) (Nat.le_refl _) rfl fun b hb => ⟨hother b (fun e => hf r o1 hr (e ▸ hb)), fun _ => rfl⟩
  · obtain ⟨⟨E, fz, h1⟩, h2⟩ := h.lay g cs hg
    have hb : g ≠ r0 := fun e => by subst e; rw [ho] at h1; exact hnc _ _ _ (Option.some.inj h1)
    exact ⟨⟨E, fz, by rw [hother g hb]; exact h1⟩, h2⟩

theorem step_unmark {P : Program} {b : Frame} {a : Act} {todo : List Item} {cs : List Frame} {w : World} {r : Nat} {ds : List Deferred} (ha : a.defers = mark r :: ds) (hr : w.heap[r]? = some (.deferred (some []))) :
    step P (lone { b.atR a todo with mode := .returning } cs w) = .next (lone { b.atR { a with defers := ds } todo with mode := .returning } cs { w with heap := w.heap.setIfInBounds r (.deferred none) }) := by
  have htake : (Instr.takeDeferred r).run P w = .ok [] { w with heap := w.heap.setIfInBounds r (.deferred none) } := by
    simp [Instr.takeDeferred, getObj, setObj, Sem.run, hr]
  exact step_lone_go (by simp [stepG, unwind, Frame.atR, ha, mark, Sem.runT_eq, htake])

theorem unmarks {P : Program} {b : Frame} {todo : List Item} {cs : List Frame} {σ : List AObj} : ∀ (ms : List Nat) (a : Act) (w : World), a.defers = ms.map mark → R K σ w → Marks K σ w n ms →
    ∃ w', Steps P (lone { b.atR a todo with mode := .returning } cs w) (lone { b.atR { a with defers := [] } todo with mode := .returning } cs w') ∧ R K σ w' ∧ w'.heap.size = w.heap.size ∧ (∀ b, b < n → w'.heap[b]? = w.heap[b]?) ∧
      w'.os = w.os ∧ w'.tape = w.tape ∧ w'.output = w.output ∧ ∀ b : Nat, frz w'.heap[b]? = frz w.heap[b]?
  | [], a, w, ha, hR, hM => ⟨w, by
      have : a = { a with defers := [] } := by cases a; simp at ha; simp [ha]
      rw [← this]; exact .refl _ _, hR, rfl, fun _ _ => rfl, rfl, rfl, rfl, fun _ => rfl⟩
  | r :: ms, a, w, ha, hR, hM => by
    have hh := hM.heap r (by simp)
    have hcell : ∀ p, w.cell? ⟨r, p, none⟩ = none := fun p => by simp [World.cell?, hh]
    obtain ⟨hR', _⟩ := hR.freeTurn (hM.free r (by simp)) _ (.deferred none) hh hcell (fun _ _ _ => by simp)
    have hnd := List.nodup_cons.1 hM.nodup
    obtain ⟨w', h1, h2, h3, h4, h5, h6, h7, h8⟩ := unmarks (P := P) (b := b) (todo := todo) (cs := cs) ms { a with defers := ms.map mark } _ rfl hR' ⟨hnd.2, fun q hq => hM.lo q (by simp [hq]), fun q hq => by
      show (w.heap.setIfInBounds r _)[q]? = _
      rw [Array.getElem?_setIfInBounds_ne (fun e => by subst e; exact hnd.1 hq)]
      exact hM.heap q (by simp [hq]), fun q hq => hM.free q (by simp [hq])⟩
    refine ⟨w', .head (step_unmark (ds := ms.map mark) (by simpa using ha) hh) h1, h2, by rw [h3]; simp, fun b hb => ?_, h5, h6, h7, fun b => (h8 b).trans ?_⟩
    rw [h4 b hb]
    show (w.heap.setIfInBounds r _)[b]? = _
    rw [Array.getElem?_setIfInBounds_ne]
    have := hM.lo r (by simp); omega
    · show frz (w.heap.setIfInBounds r _)[b]? = _
      by_cases e : r = b
      · subst e
        rw [hh, Array.getElem?_setIfInBounds_self]
        split <;> rfl
      · rw [Array.getElem?_setIfInBounds_ne e]

/-- The frame in which a function begins. -/
def number : Nat → List AV → List (Nat × AV)
  | _, [] => []
  | i, v :: vs => (i, v) :: number (i + 1) vs
theorem lookA_number : ∀ (vs : List AV) (i t : Nat) (v : AV), lookA (number i vs) t = some v → i ≤ t ∧ vs[t - i]? = some v
  | [], i, t, v, h => by simp [number, lookA] at h
  | u :: vs, i, t, v, h => by
    simp only [number, lookA] at h
    by_cases e : i = t
    · subst e; simp at h; subst h; exact ⟨Nat.le_refl _, by simp⟩
    · rw [if_neg e] at h
      obtain ⟨h1, h2⟩ := lookA_number vs (i + 1) t v h
      refine ⟨by omega, ?_⟩
      have : t - i = (t - (i + 1)) + 1 := by omega
      rw [this]; simpa using h2

/-- A CALL, FROM THE RUN OF THE BODY. -/
theorem ACalls.of_run (hE : EnvOK E) {f : FuncId} {fn : Func} {c : Code} {args : List AV} {σ : List AObj} {Q : AV → List AObj → Prop} (kp : Nat → Bool) (hf : E.P.funcs[f]? = some fn) (hb : fn.body = some c) (hN : fn.ntmps = E.N) (hA : args.length ≤ E.N)
    (hC : Callable E.P f)
    (h : ARun E none [.code c] ⟨kp, [], number 0 args⟩ σ fun j fr σ' => (j = none ∨ j = some .ret) ∧ ∃ vs, resAs E fr σ' fn.results.toList = some vs ∧ Q (oneOf vs) σ') : ACalls E.P f args σ Q := by
  refine ⟨hC, fun K w cargs hR hV cs => ?_⟩
  let b : Frame := { (default : Frame) with fn := f, kind := .normal, roundOf := none }
  have hcl : cargs.size = args.length := by have := hV.1; simpa using this.symm
  have henter : Frame.enter E.P f cargs .normal = b.atR { tmps := cargs ++ Array.replicate (fn.ntmps - cargs.size) undef, defers := [] } [.code c] := by
    simp [Frame.enter, Frame.atR, hf, hb, b]
  have hF : FR K σ.length E.N ⟨kp, [], number 0 args⟩ (cargs ++ Array.replicate (fn.ntmps - cargs.size) undef) := by
    refine ⟨by simp; omega, fun t v hv => ?_⟩
    have hv' : (if kp t = true then lookA (number 0 args) t else lookA [] t) = some v := hv
    split at hv'
    · obtain ⟨_, h2⟩ := lookA_number args 0 t v hv'
      obtain ⟨c, h3, h4⟩ := hV.get (i := t) (by simpa using h2)
      have hlt : t < cargs.size := by
        have := (List.getElem?_eq_some_iff.1 h3).1; simpa using this
      refine ⟨c, ?_, h4⟩
      rw [Array.getElem?_append_left hlt]
      simpa using h3
    · cases hv'
  obtain ⟨K', σ', fr', w', a', todo', j, ms, h1, h2, ⟨hj, vs, h3, h4⟩, h5, h6, h7, h8, h9⟩ := h K w { tmps := cargs ++ Array.replicate (fn.ntmps - cargs.size) undef, defers := [] } b cs rfl hR hF
  simp only [List.append_nil] at h8
  have hret : Steps E.P (lone (b.atR a' todo') cs w') (lone { b.atR a' todo' with mode := .returning } cs w') := by
    cases h1 with
    | nil => exact .one (stepR_end rfl)
    | ret k => exact .one (stepR_ret rfl)
    | exit id k hk => rcases hj with hj | hj <;> cases hj
  obtain ⟨w2, g1, g2, g3, g4, g5, g6, g7, g8⟩ := unmarks (P := E.P) (b := b) (todo := todo') (cs := cs) (n := w.heap.size) ms a' w' h8 h5 h9
  obtain ⟨c', k1, k2⟩ := results_sound hE g2 (a := { a' with defers := [] }) h6 h3
  refine ⟨.returned c', w2, { b.atR { a' with defers := [] } todo' with mode := .returning }, ⟨_, c', σ', K', rfl, h4, k2, g2, ?_⟩, ?_, rfl, rfl, rfl, rfl, fn, hf, k1⟩
  · exact ⟨h7.ext, h7.len, by rw [g3]; exact h7.size, fun q hq hfree => by
      obtain ⟨l1, l2, l3⟩ := h7.keep q hq hfree
      exact ⟨(g4 q hq).trans l1, l2, l3⟩, g5.trans h7.os, g6.trans h7.tape, g7.trans h7.output, fun b hb => (g8 b).trans (h7.froz b hb)⟩
  · rw [henter]
    exact (h2.trans hret).trans g1

end Go.Mu
set_option linter.unusedSimpArgs false
set_option linter.unusedVariables false
namespace Go.Mu
open Go

variable {E : Env} {ro : Option Nat} {K : Kr}

abbrev Post := Option Code → Fr → List AObj → Prop

theorem evOp_mono {fr : Fr} {σ : List AObj} {type : TypeId} {op : Op} {X Y : AV → List AObj → Prop} (hn : ∀ v σ, X v σ → Y v σ) (h : evOp E fr σ type op X) : evOp E fr σ type op Y := by
  have hplain : (match aop E fr σ type op with | some (v, σ') => X v σ' | none => False) → (match aop E fr σ type op with | some (v, σ') => Y v σ' | none => False) := fun h => by
    split at h
    · exact hn _ _ h
    · exact h.elim
  cases op with
  | call c =>
    obtain ⟨callee, args, ats⟩ := c
    cases callee with
    | builtin b => exact hplain h
    | value f =>
      simp only [evOp] at h ⊢
      split at h
      · exact callA_mono hn h
      · intro K w cargs hR hV
        obtain ⟨fn, tmps, assign, body, h1, h2⟩ := h K w cargs hR hV
        exact ⟨fn, tmps, assign, body, h1, h2.mono fun e w' ⟨v, c, σ', K', g1, g2, g3⟩ => ⟨v, c, σ', K', g1, hn _ _ g2, g3⟩⟩
      · exact h.elim
    | invoke r m =>
      simp only [evOp] at h ⊢
      split at h
      · split at h
        · exact callA_mono hn h
        · exact h.elim
      · exact h.elim
  | next it b =>
    simp only [evOp] at h ⊢
    split at h
    · rename_i hb; rw [if_pos hb]; exact nextS_mono hn h
    · rename_i hb; rw [if_neg hb]; exact nextA_mono hn h
  | binOp bo t x y u =>
    simp only [evOp] at h ⊢
    cases hy : isNilC y with
    | true => rw [hy] at h; exact nilA_mono hn h
    | false => rw [hy] at h; exact hplain h
  | _ => exact hplain h
theorem evOps_mono {all : List Oper} {Q Q' : Fr → List AObj → Prop} (hq : ∀ fr σ, Q fr σ → Q' fr σ) : ∀ {os : List Oper} {fr : Fr} {σ : List AObj}, evOps E all os fr σ Q → evOps E all os fr σ Q'
  | [], fr, σ, h => hq _ _ h
  | o :: os, fr, σ, h => by
    rw [evOps_cons] at h ⊢
    have hn : ∀ v σ', evNext E all os o.dst fr Q v σ' → evNext E all os o.dst fr Q' v σ' := fun v σ' h => by
      unfold evNext at h ⊢
      split at h
      · exact evOps_mono hq h
      · exact ⟨h.1, evOps_mono hq h.2⟩
    split at h
    · exact h
    · exact ⟨fun hb => evOp_mono hn (h.1 hb), fun hb => hn _ _ (h.2 hb)⟩

theorem anew_FR {n N : Nat} {fr : Fr} {a : Act} (h : FR K n N fr a.tmps) : FR K n N fr.anew a.tmps := ⟨h.1, fun t v hv => h.2 t v (Fr.get_anew hv)⟩
theorem ARun.anew {todo : List Item} {fr : Fr} {σ : List AObj} {Q : Post} (h : ARun E ro todo fr.anew σ Q) : ARun E ro todo fr σ Q :=
  fun K w a b cs hb hR hF => h K w a b cs hb hR (anew_FR hF)

section congrs
variable {n : Nat} {k : List Item} {fr : Fr} {σ : List AObj} {Q : Post}
@[congr] theorem ARun_congr {todo : List Item} {fr fr' : Fr} {σ σ' : List AObj} {Q : Post} (h1 : fr = fr') (h2 : σ = σ') : ARun E ro todo fr σ Q = ARun E ro todo fr' σ' Q := by rw [h1, h2]
@[congr] theorem evOps_congr {all os : List Oper} {fr fr' : Fr} {σ σ' : List AObj} {Q : Fr → List AObj → Prop} (h1 : fr = fr') (h2 : σ = σ') : evOps E all os fr σ Q = evOps E all os fr' σ' Q := by rw [h1, h2]
@[congr] theorem evNext_congr {all os : List Oper} {dst : Option Tmp} {fr fr' : Fr} {Q : Fr → List AObj → Prop} {v v' : AV} {σ σ' : List AObj} (h1 : fr = fr') (h2 : v = v') (h3 : σ = σ') : evNext E all os dst fr Q v σ = evNext E all os dst fr' Q v' σ' := by rw [h1, h2, h3]
@[congr] theorem ACalls_congr {P : Program} {f : FuncId} {args args' : List AV} {σ σ' : List AObj} {Q : AV → List AObj → Prop} (h1 : args = args') (h2 : σ = σ') : ACalls P f args σ Q = ACalls P f args' σ' Q := by rw [h1, h2]
@[congr] theorem AYield_congr {P : Program} {f : FuncId} {args args' : List AV} {σ σ' : List AObj} {Q : AV → List AObj → Prop} (h1 : args = args') (h2 : σ = σ') : AYield P f args σ Q = AYield P f args' σ' Q := by rw [h1, h2]
@[congr] theorem evOp_congr {fr : Fr} {σ σ' : List AObj} {type : TypeId} {op : Op} {Q : AV → List AObj → Prop} (h2 : σ = σ') : evOp E fr σ type op Q = evOp E fr σ' type op Q := by rw [h2]
@[congr] theorem wantA_congr {ds : List Oper} {fr : Fr} {g : Option (Nat × Bool)} : wantA ds fr g = wantA ds fr g := rfl
end congrs

section ops
variable {all os : List Oper} {fr : Fr} {σ : List AObj} {Q : Fr → List AObj → Prop} {type : TypeId} {X : AV → List AObj → Prop}
theorem evOps_nil : evOps E all [] fr σ Q = Q fr σ := rfl
theorem evOps_plain {dst : Option Tmp} {op : Op} {pos : String} {after : Array Edge} : evOps E all (⟨dst, op, type, pos, after, none⟩ :: os) fr σ Q = evOp E fr σ type op (evNext E all os dst fr Q) := by
  rw [evOps_cons]; simp [wantA]
/-- The operation to which a condition points. -/
def dstOf : List Oper → Nat → Option Tmp
  | [], _ => none
  | o :: _, 0 => o.dst
  | _ :: os, j + 1 => dstOf os j
theorem dstOf_eq : ∀ (l : List Oper) (j : Nat), (l[j]?).bind (·.dst) = dstOf l j
  | [], _ => by simp [dstOf]
  | o :: _, 0 => by simp [dstOf]
  | _ :: os, j + 1 => by simp [dstOf, dstOf_eq os j]
@[congr] theorem dstOf_congr {l : List Oper} {j : Nat} : dstOf l j = dstOf l j := rfl
theorem dstOf_zero {o : Oper} {l : List Oper} : dstOf (o :: l) 0 = o.dst := rfl
theorem dstOf_succ {o : Oper} {l : List Oper} {j : Nat} : dstOf (o :: l) (j + 1) = dstOf l j := rfl
theorem evOps_guard {dst : Option Tmp} {op : Op} {pos : String} {after : Array Edge} {j : Nat} {want : Bool} : evOps E all (⟨dst, op, type, pos, after, some (j, want)⟩ :: os) fr σ Q =
    match dstOf all j with
    | none => False
    | some d => match fr.get d with
      | some (.bool b) => (b = want → evOp E fr σ type op (evNext E all os dst fr Q)) ∧ (b = !want → evNext E all os dst fr Q (.tup []) σ)
      | some (.tup []) => evNext E all os dst fr Q (.tup []) σ
      | _ => False := by
  rw [evOps_cons]
  simp only [wantA, dstOf_eq]
  cases dstOf all j with
  | none => rfl
  | some d =>
    simp only
    cases h : fr.get d with
    | none => rfl
    | some v =>
      cases v with
      | bool b => cases b <;> cases want <;> simp
      | tup vs => cases vs <;> simp
      | _ => rfl
theorem evNext_none {v : AV} : evNext E all os none fr Q v σ = evOps E all os fr σ Q := rfl
theorem evNext_some {d : Tmp} {v : AV} : evNext E all os (some d) fr Q v σ = (d < E.N ∧ evOps E all os (fr.put d v) σ Q) := rfl

/-- One result of an operation. -/
def giveA (X : AV → List AObj → Prop) (σ : List AObj) : Option AV → Prop
  | some v => X v σ
  | none => False
def give2 (X : AV → List AObj → Prop) : Option (AV × List AObj) → Prop
  | some (v, σ) => X v σ
  | none => False
@[congr] theorem giveA_congr {σ σ' : List AObj} {v v' : Option AV} (h2 : σ = σ') (h1 : v = v') : giveA X σ v = giveA X σ' v' := by rw [h1, h2]
@[congr] theorem give2_congr {v v' : Option (AV × List AObj)} (h1 : v = v') : give2 X v = give2 X v' := by rw [h1]
theorem giveA_some {v : AV} : giveA X σ (some v) = X v σ := rfl
theorem give2_some {v : AV} : give2 X (some (v, σ)) = X v σ := rfl

theorem evOp_of_pop {op : Op} (h1 : ∀ K, evOp E fr σ type op K = match aop E fr σ type op with | some (v, σ') => K v σ' | none => False) (h2 : litOp E.ty fr op = none) (h3 : hop E.ty fr σ op = none) : evOp E fr σ type op X = giveA X σ (pop E.ty fr type op) := by
  rw [h1]
  unfold aop
  cases pop E.ty fr type op with
  | some v => rfl
  | none => simp [h2, h3, giveA]
theorem evOp_move {x : Operand} : evOp E fr σ type (.move x) X = giveA X σ (pop E.ty fr type (.move x)) := evOp_of_pop (fun _ => rfl) rfl rfl
theorem evOp_assign {x : Operand} : evOp E fr σ type (.assign x) X = giveA X σ (pop E.ty fr type (.assign x)) := evOp_of_pop (fun _ => rfl) rfl rfl
theorem evOp_pick {c x y : Operand} : evOp E fr σ type (.pick c x y) X = giveA X σ (pop E.ty fr type (.pick c x y)) := evOp_of_pop (fun _ => rfl) rfl rfl
theorem evOp_build {t : TypeId} {p : Array (Nat × Operand)} : evOp E fr σ type (.build t p) X = giveA X σ (pop E.ty fr type (.build t p)) := evOp_of_pop (fun _ => rfl) rfl rfl
theorem evOp_fieldAddr {t : TypeId} {x : Operand} {f : Nat} : evOp E fr σ type (.fieldAddr t x f) X = giveA X σ (pop E.ty fr type (.fieldAddr t x f)) := evOp_of_pop (fun _ => rfl) rfl rfl
theorem evOp_field {t : TypeId} {x : Operand} {f : Nat} : evOp E fr σ type (.field t x f) X = giveA X σ (pop E.ty fr type (.field t x f)) := evOp_of_pop (fun _ => rfl) rfl rfl
theorem evOp_index {t : TypeId} {x i : Operand} : evOp E fr σ type (.index t x i) X = giveA X σ (pop E.ty fr type (.index t x i)) := evOp_of_pop (fun _ => rfl) rfl rfl
theorem evOp_indexAddr {t : TypeId} {x i : Operand} : evOp E fr σ type (.indexAddr t x i) X = giveA X σ (pop E.ty fr type (.indexAddr t x i)) := evOp_of_pop (fun _ => rfl) rfl rfl
theorem evOp_nilCheck {x : Operand} : evOp E fr σ type (.nilCheck x) X = giveA X σ (pop E.ty fr type (.nilCheck x)) := evOp_of_pop (fun _ => rfl) rfl rfl
theorem evOp_binOp {op : BinOp} {t u : TypeId} {x y : Operand} (hy : isNilC y = false) : evOp E fr σ type (.binOp op t x y u) X = giveA X σ (pop E.ty fr type (.binOp op t x y u)) := evOp_of_pop (fun _ => by
  show (match isNilC y with
    | true => _
    | false => _) = _
  rw [hy] <;> cases aop E fr σ type (.binOp op t x y u) <;> rfl) rfl rfl
/-- A comparison with nil, or another operation of two operands. -/
def binS (A B : Prop) : Bool → Prop
  | true => A
  | false => B
@[congr] theorem binS_congr {A B : Prop} {b b' : Bool} (h : b = b') : binS A B b = binS A B b' := by rw [h]
theorem binS_true {A B : Prop} : binS A B true = A := rfl
theorem binS_false {A B : Prop} : binS A B false = B := rfl
theorem isNilC_tmp {t : Tmp} : isNilC (.tmp t) = false := rfl
theorem isNilC_int {k : IntKind} {n : Int} : isNilC (.const (.int k n)) = false := rfl
theorem isNilC_bool {b : Bool} : isNilC (.const (.bool b)) = false := rfl
theorem isNilC_str {s : ByteArray} : isNilC (.const (.string s)) = false := rfl
theorem isNilC_nil : isNilC (.const (.slice none 0 0)) = true := rfl
theorem isNilC_iface : isNilC (.const .nilIface) = false := rfl
theorem isNilC_ptr {a : Option Addr} : isNilC (.const (.pointer a)) = false := rfl
/-- A truth value: both ways at once. -/
def giveB (X : AV → List AObj → Prop) (σ : List AObj) : Option AV → Prop
  | some (.bool b) => (b = true → X (.bool true) σ) ∧ (b = false → X (.bool false) σ)
  | some v => X v σ
  | none => False
theorem giveB_eq {v : Option AV} : giveB X σ v = giveA X σ v := by
  cases v with
  | none => rfl
  | some v =>
    cases v with
    | bool b => cases b <;> simp [giveB, giveA]
    | _ => rfl
@[congr] theorem giveB_congr {σ σ' : List AObj} {v v' : Option AV} (h2 : σ = σ') (h1 : v = v') : giveB X σ v = giveB X σ' v' := by rw [h1, h2]
theorem giveB_bool {b : Bool} : giveB X σ (some (.bool b)) = ((b = true → X (.bool true) σ) ∧ (b = false → X (.bool false) σ)) := rfl
theorem giveB_int {k : IntKind} {i : Int} : giveB X σ (some (.int k i)) = X (.int k i) σ := rfl
theorem giveB_str {s : ByteArray} : giveB X σ (some (.str s)) = X (.str s) σ := rfl
theorem evOp_bin {op : BinOp} {t u : TypeId} {x y : Operand} : evOp E fr σ type (.binOp op t x y u) X = binS (nilA X σ op (E.ty t).kd (aeval fr x)) (giveB X σ (pop E.ty fr type (.binOp op t x y u))) (isNilC y) := by
  cases hy : isNilC y with
  | true => simp only [evOp, hy, binS]
  | false => rw [giveB_eq]; exact evOp_binOp hy
theorem nilA_eql {e sz : Nat} {t : Tok} {xs : List AV} : nilA X σ .eql (.slice e) (some (.list t sz xs)) = (X (.bool false) σ ∧ (xs = [] → X (.bool true) σ)) := rfl
theorem nilA_neq {e sz : Nat} {t : Tok} {xs : List AV} : nilA X σ .neq (.slice e) (some (.list t sz xs)) = (X (.bool true) σ ∧ (xs = [] → X (.bool false) σ)) := rfl
theorem nilA_eqlV {e r l : Nat} : nilA X σ .eql (.slice e) (some (.vec r l)) = (X (.bool false) σ ∧ (l = 0 → X (.bool true) σ)) := rfl
theorem nilA_neqV {e r l : Nat} : nilA X σ .neq (.slice e) (some (.vec r l)) = (X (.bool true) σ ∧ (l = 0 → X (.bool false) σ)) := rfl
@[congr] theorem nilA_congr {bo : BinOp} {kd kd' : TK} {v v' : Option AV} (h1 : kd = kd') (h2 : v = v') : nilA X σ bo kd v = nilA X σ bo kd' v' := by rw [h1, h2]
theorem evOp_unOp {op : UnOp} {t : TypeId} {x : Operand} : evOp E fr σ type (.unOp op t x) X = giveA X σ (pop E.ty fr type (.unOp op t x)) := evOp_of_pop (fun _ => rfl) rfl rfl
/-- A conversion: of a number; of bytes. -/
def convS (X : AV → List AObj → Prop) (σ : List AObj) : Option AV → Option (AV × List AObj) → Prop
  | some v, _ => X v σ
  | none, h => give2 X h
@[congr] theorem convS_congr {σ σ' : List AObj} {v v' : Option AV} {h h' : Option (AV × List AObj)} (h1 : σ = σ') (h2 : v = v') (h3 : h = h') : convS X σ v h = convS X σ' v' h' := by rw [h1, h2, h3]
theorem convS_some {v : AV} {h : Option (AV × List AObj)} : convS X σ (some v) h = X v σ := rfl
theorem convS_none {h : Option (AV × List AObj)} : convS X σ none h = give2 X h := rfl
theorem evOp_convert {s t : TypeId} {x : Operand} : evOp E fr σ type (.convert s t x) X = convS X σ (pop E.ty fr type (.convert s t x)) (hop E.ty fr σ (.convert s t x)) := by
  show (match aop E fr σ type (.convert s t x) with | some (v, σ') => X v σ' | none => False) = _
  unfold aop
  cases pop E.ty fr type (.convert s t x) with
  | some v => rfl
  | none =>
    show (match hop E.ty fr σ (.convert s t x) with | some (v, σ') => X v σ' | none => False) = _
    cases hop E.ty fr σ (.convert s t x) with
    | none => rfl
    | some p => rfl
theorem evOp_makeInterface {t : TypeId} {x : Operand} : evOp E fr σ type (.makeInterface t x) X = giveA X σ (pop E.ty fr type (.makeInterface t x)) := evOp_of_pop (fun _ => rfl) rfl rfl
theorem evOp_makeFunc {f : Fn} {x y : Array Operand} : evOp E fr σ type (.makeFunc f x y) X = giveA X σ (pop E.ty fr type (.makeFunc f x y)) := evOp_of_pop (fun _ => rfl) rfl rfl
theorem evOp_extract {x : Operand} {i : Nat} : evOp E fr σ type (.extract x i) X = giveA X σ (pop E.ty fr type (.extract x i)) := evOp_of_pop (fun _ => rfl) rfl rfl
theorem evOp_typeAssert {x : Operand} {s t : TypeId} {ok : Bool} : evOp E fr σ type (.typeAssert x s t ok) X = giveA X σ (pop E.ty fr type (.typeAssert x s t ok)) := evOp_of_pop (fun _ => rfl) rfl rfl
theorem evOp_slice {t : TypeId} {x : Operand} {lo hi mx : Option Operand} : evOp E fr σ type (.slice t x lo hi mx) X = giveA X σ (pop E.ty fr type (.slice t x lo hi mx)) := evOp_of_pop (fun _ => rfl) rfl rfl
theorem evOp_len {args : Array Operand} {ats : Array TypeId} : evOp E fr σ type (.call ⟨.builtin .len, args, ats⟩) X = giveA X σ (pop E.ty fr type (.call ⟨.builtin .len, args, ats⟩)) := evOp_of_pop (fun _ => rfl) rfl rfl
def lenO (k : TK) : Option AV → Option AV
  | some (.list _ _ xs) => (match k with | .slice _ => some (.int .i64 xs.length) | _ => none)
  | some (.arr _ _ n) => (match k with | .slice _ => some (.int .i64 n) | _ => none)
  | some (.vec _ n) => (match k with | .slice _ => some (.int .i64 n) | _ => none)
  | some (.str s) => (match k with | .str => some (.int .i64 s.size) | _ => none)
  | _ => none
theorem evOp_len1 {x : Operand} {t : TypeId} : evOp E fr σ type (.call ⟨.builtin .len, #[x], #[t]⟩) X = giveA X σ (lenO (E.ty t).kd (aeval fr x)) := by
  rw [evOp_len]
  simp only [pop, aevals, List.getElem?_toArray, List.getElem?_cons_zero]
  cases aeval fr x with
  | none => rfl
  | some v =>
    simp only
    cases v <;> cases (E.ty t).kd <;> rfl
theorem evOp_max {args : Array Operand} {ats : Array TypeId} : evOp E fr σ type (.call ⟨.builtin .max, args, ats⟩) X = giveA X σ (pop E.ty fr type (.call ⟨.builtin .max, args, ats⟩)) := evOp_of_pop (fun _ => rfl) rfl rfl
theorem evOp_min {args : Array Operand} {ats : Array TypeId} : evOp E fr σ type (.call ⟨.builtin .min, args, ats⟩) X = giveA X σ (pop E.ty fr type (.call ⟨.builtin .min, args, ats⟩)) := evOp_of_pop (fun _ => rfl) rfl rfl
theorem evOp_buildSlice {t : TypeId} {n : Nat} {p : Array (Nat × Operand)} : evOp E fr σ type (.buildSlice t n p) X = giveA X σ (litOp E.ty fr (.buildSlice t n p)) := by
  show (match aop E fr σ type (.buildSlice t n p) with | some (v, σ') => X v σ' | none => False) = _
  have h : aop E fr σ type (.buildSlice t n p) = (litOp E.ty fr (.buildSlice t n p)).map fun v => (v, σ) := by
    show (match litOp E.ty fr (.buildSlice t n p) with | some v => some (v, σ) | none => hop E.ty fr σ (.buildSlice t n p)) = _
    cases litOp E.ty fr (.buildSlice t n p) <;> rfl
  rw [h]
  cases litOp E.ty fr (.buildSlice t n p) <;> rfl
theorem evOp_of_hop {op : Op} (h1 : ∀ K, evOp E fr σ type op K = match aop E fr σ type op with | some (v, σ') => K v σ' | none => False) (h2 : litOp E.ty fr op = none) (h3 : pop E.ty fr type op = none) : evOp E fr σ type op X = give2 X (hop E.ty fr σ op) := by
  rw [h1]; unfold aop; simp only [h2, h3]
  cases hop E.ty fr σ op with
  | none => rfl
  | some p => rfl
theorem evOp_alloc {t : TypeId} : evOp E fr σ type (.alloc t) X = give2 X (hop E.ty fr σ (.alloc t)) := evOp_of_hop (fun _ => rfl) rfl rfl
theorem evOp_box {t : TypeId} {x : Operand} : evOp E fr σ type (.box t x) X = give2 X (hop E.ty fr σ (.box t x)) := evOp_of_hop (fun _ => rfl) rfl rfl
theorem evOp_makeSlice {t : TypeId} {x y : Operand} : evOp E fr σ type (.makeSlice t x y) X = give2 X (hop E.ty fr σ (.makeSlice t x y)) := evOp_of_hop (fun _ => rfl) rfl rfl
theorem evOp_load {t : TypeId} {x : Operand} : evOp E fr σ type (.load t x) X = give2 X (hop E.ty fr σ (.load t x)) := evOp_of_hop (fun _ => rfl) rfl rfl
theorem evOp_store {t : TypeId} {x y : Operand} : evOp E fr σ type (.store t x y) X = give2 X (hop E.ty fr σ (.store t x y)) := evOp_of_hop (fun _ => rfl) rfl rfl
theorem evOp_append {args : Array Operand} {ats : Array TypeId} : evOp E fr σ type (.call ⟨.builtin .append, args, ats⟩) X = give2 X (hop E.ty fr σ (.call ⟨.builtin .append, args, ats⟩)) := by
  refine evOp_of_hop (fun _ => rfl) rfl ?_
  simp only [pop]
theorem evOp_copy {args : Array Operand} {ats : Array TypeId} : evOp E fr σ type (.call ⟨.builtin .copy, args, ats⟩) X = give2 X (hop E.ty fr σ (.call ⟨.builtin .copy, args, ats⟩)) := by
  refine evOp_of_hop (fun _ => rfl) rfl ?_
  simp only [pop]
theorem evOp_call {f : Operand} {args : Array Operand} {ats : Array TypeId} : evOp E fr σ type (.call ⟨.value f, args, ats⟩) X = match aeval fr f, aevals fr args.toList with
    | some (.fn (.func g) p q), some as => callA E g (p ++ as ++ q) σ X
    | some (.yield r), some as => AYield E.P r as σ X
    | _, _ => False := rfl
theorem evOp_invoke {r : Operand} {m : String} {args : Array Operand} {ats : Array TypeId} : evOp E fr σ type (.call ⟨.invoke r m, args, ats⟩) X = match aeval fr r, aevals fr args.toList with
    | some (.iface t v), some as => match E.mt t m with
      | some g => callA E g (v :: as) σ X
      | none => False
    | _, _ => False := rfl

theorem evOp_next {it : Operand} : evOp E fr σ type (.next it false) X = nextA X σ (aeval fr it) := by
  show (if false = true then nextS X σ (aeval fr it) else nextA X σ (aeval fr it)) = _
  rw [if_neg (by simp)]
theorem evOp_nextS {it : Operand} : evOp E fr σ type (.next it true) X = nextS X σ (aeval fr it) := by
  show (if true = true then nextS X σ (aeval fr it) else nextA X σ (aeval fr it)) = _
  rw [if_pos rfl]
theorem nextS_ptr {r : Nat} : nextS X σ (some (.ptr r 0)) = nextSR X σ r (hget σ r) := rfl
theorem nextSR_it {r : Nat} {s : ByteArray} {pos : Nat} : nextSR X σ r (some (.siter s pos)) = nextSB X σ r s pos s[pos]? := rfl
theorem nextSB_some {r : Nat} {s : ByteArray} {pos : Nat} {b : UInt8} : nextSB X σ r s pos (some b) = (b.toNat < 128 ∧ X (.tup [.bool true, .int .i64 pos, .int .i32 b.toNat]) (hset σ r (.siter s (pos + 1)))) := rfl
theorem nextSB_none {r : Nat} {s : ByteArray} {pos : Nat} : nextSB X σ r s pos none = X (.tup [.bool false]) σ := rfl
@[congr] theorem nextS_congr {σ σ' : List AObj} {v v' : Option AV} (h2 : σ = σ') (h3 : v = v') : nextS X σ v = nextS X σ' v' := by rw [h2, h3]
@[congr] theorem nextSR_congr {σ σ' : List AObj} {r r' : Nat} {v v' : Option AObj} (h1 : r = r') (h2 : σ = σ') (h3 : v = v') : nextSR X σ r v = nextSR X σ' r' v' := by rw [h1, h2, h3]
@[congr] theorem nextSB_congr {σ σ' : List AObj} {r r' : Nat} {s s' : ByteArray} {pos pos' : Nat} {v v' : Option UInt8} (h1 : r = r') (h2 : σ = σ') (h4 : s = s') (h5 : pos = pos') (h3 : v = v') : nextSB X σ r s pos v = nextSB X σ' r' s' pos' v' := by rw [h1, h2, h3, h4, h5]
theorem evOp_makeMap {t : TypeId} : evOp E fr σ type (.makeMap t none) X = give2 X (hop E.ty fr σ (.makeMap t none)) := evOp_of_hop (fun _ => rfl) rfl rfl
theorem evOp_lookup {t : TypeId} {m k : Operand} {ok : Bool} : evOp E fr σ type (.lookup t m k ok) X = give2 X (hop E.ty fr σ (.lookup t m k ok)) := evOp_of_hop (fun _ => rfl) rfl rfl
theorem evOp_mapUpdate {t : TypeId} {m k x : Operand} : evOp E fr σ type (.mapUpdate t m k x) X = give2 X (hop E.ty fr σ (.mapUpdate t m k x)) := evOp_of_hop (fun _ => rfl) rfl rfl
theorem evOp_range {t : TypeId} {m : Operand} : evOp E fr σ type (.range t m) X = give2 X (hop E.ty fr σ (.range t m)) := evOp_of_hop (fun _ => rfl) rfl rfl
theorem evOp_entry {it : Operand} : evOp E fr σ type (.entry it) X = give2 X (hop E.ty fr σ (.entry it)) := evOp_of_hop (fun _ => rfl) rfl rfl
theorem callA_none {g : FuncId} {as : List AV} (h : E.fs g as = none) : callA E g as σ X = ACalls E.P g as σ X := by unfold callA; rw [h]
theorem callA_some {g : FuncId} {as : List AV} {v : AV} (h : E.fs g as = some v) : callA E g as σ X = X v σ := by unfold callA; rw [h]
def callO (P : Program) (g : FuncId) (as : List AV) (σ : List AObj) (X : AV → List AObj → Prop) : Option AV → Prop
  | some v => X v σ
  | none => ACalls P g as σ X
theorem callA_eq {g : FuncId} {as : List AV} : callA E g as σ X = callO E.P g as σ X (E.fs g as) := by unfold callA callO; cases E.fs g as <;> rfl
theorem callO_some {P : Program} {g : FuncId} {as : List AV} {v : AV} : callO P g as σ X (some v) = X v σ := rfl
theorem callO_none {P : Program} {g : FuncId} {as : List AV} : callO P g as σ X none = ACalls P g as σ X := rfl
@[congr] theorem callA_congr {g : FuncId} {as as' : List AV} {σ σ' : List AObj} (h1 : as = as') (h2 : σ = σ') : callA E g as σ X = callA E g as' σ' X := by rw [h1, h2]
@[congr] theorem callO_congr {P : Program} {g : FuncId} {as as' : List AV} {σ σ' : List AObj} {v v' : Option AV} (h1 : as = as') (h2 : σ = σ') (h3 : v = v') : callO P g as σ X v = callO P g as' σ' X v' := by rw [h1, h2, h3]
@[congr] theorem nextA_congr {σ σ' : List AObj} {v v' : Option AV} (h2 : σ = σ') (h3 : v = v') : nextA X σ v = nextA X σ' v' := by rw [h2, h3]

end ops

/-- Types, told by closed facts. -/
theorem TyOK.of {P : Program} {t : Nat} {i : TI} (d : TypeDesc) (h1 : (P.info? t).map (fun i => (i.size, i.bytes)) = some (i.sz, i.bytes)) (h2 : ((P.info? t).bind (·.zero)).bind ofVal = some i.zero) (h3 : i.zero.flat = true)
    (h4 : P.underlying t = some d) (h5 : KdOK d i.kd) : TyOK P t i := by
  refine ⟨?_, d, h4, h5⟩
  cases hi : P.info? t with
  | none => rw [hi] at h1; cases h1
  | some ti =>
    rw [hi] at h1 h2
    simp only [Option.map_some, Option.some.injEq, Prod.mk.injEq] at h1
    simp only [Option.bind_some] at h2
    cases hz : ti.zero with
    | none => rw [hz] at h2; cases h2
    | some z => rw [hz] at h2; exact ⟨ti, rfl, h1.1, h1.2, ⟨z, hz, h2⟩, h3⟩

def tyOf (l : List (Nat × TI)) (t : Nat) : TI := (l.find? (fun p => p.1 == t)).elim { sz := 0, bytes := 0, kd := .other, zero := .tup [] } (·.2)
theorem tys_of {P : Program} {l : List (Nat × TI)} (h : ∀ p ∈ l, TyOK P p.1 p.2) : TysOK P (tyOf l) := by
  intro t ht
  unfold tyOf at ht ⊢
  cases hf : l.find? (fun p => p.1 == t) with
  | none => rw [hf] at ht; exact absurd rfl ht
  | some p =>
    have h1 := h p (List.mem_of_find?_eq_some hf)
    have h2 := List.find?_some hf
    simp at h2
    subst h2
    exact h1
end Go.Mu
set_option linter.unusedSimpArgs false
set_option linter.unusedVariables false
namespace Go.Mu
open Go

variable {E : Env} {ro : Option Nat} {K : Kr}

def Fr.only (fr : Fr) (ns : List Nat) : Fr := ⟨fr.kp, fr.tm.filter (fun p => ns.contains p.1), fr.sl.filter (fun p => ns.contains p.1)⟩
theorem lookA_filter (ns : List Nat) (t : Nat) : ∀ l : List (Nat × AV), lookA (l.filter (fun p => ns.contains p.1)) t = if ns.contains t then lookA l t else none
  | [] => by simp [lookA]
  | (d, v) :: l => by
    have ih := lookA_filter ns t l
    by_cases hd : ns.contains d = true
    · rw [List.filter_cons_of_pos (by simpa using hd)]
      simp only [lookA]
      by_cases e : d = t
      · subst e; simp only [if_true, hd]
      · simp only [if_neg e, ih]
    · rw [List.filter_cons_of_neg (by simpa using hd)]
      simp only [lookA, ih]
      by_cases e : d = t
      · subst e; simp only [hd, if_false, Bool.false_eq_true]
      · simp only [if_neg e]
theorem Fr.get_only (fr : Fr) (ns : List Nat) (t : Nat) : (fr.only ns).get t = if ns.contains t then fr.get t else none := by
  show (if fr.kp t = true then lookA (fr.sl.filter _) t else lookA (fr.tm.filter _) t) = _
  rw [lookA_filter, lookA_filter]
  unfold Fr.get
  by_cases h : fr.kp t = true <;> by_cases g : ns.contains t = true <;> simp [h, g]

/-- Two frames look alike to these operands. -/
def Like (fr fr' : Fr) (xs : List Operand) : Prop := ∀ x ∈ xs, aeval fr x = aeval fr' x
variable {fr fr' : Fr}
theorem Like.aevals : ∀ {xs : List Operand}, Like fr fr' xs → aevals fr xs = aevals fr' xs
  | [], _ => rfl
  | x :: xs, h => by simp only [Mu.aevals, h x (by simp), Like.aevals (xs := xs) (fun y hy => h y (by simp [hy]))]
theorem Like.apart : ∀ {ps : List (Nat × Operand)}, Like fr fr' (ps.map (·.2)) → apart fr ps = apart fr' ps
  | [], _ => rfl
  | (i, x) :: ps, h => by simp only [Mu.apart, h x (by simp), Like.apart (ps := ps) (fun y hy => h y (by simp at hy ⊢; exact .inr hy))]

theorem pop_like {ty : Nat → TI} {type : TypeId} (op : Op) (h : Like fr fr' op.operands.toList) : pop ty fr type op = pop ty fr' type op := by
  cases op with
  | build t ps => simp only [pop]; rw [Like.apart (ps := ps.toList) (fun x hx => h x (by simpa [Op.operands] using hx))]
  | makeFunc f x y =>
    simp only [pop]
    rw [Like.aevals (xs := x.toList) (fun z hz => h z (by simp at hz; simp [Op.operands, hz])), Like.aevals (xs := y.toList) (fun z hz => h z (by simp at hz; simp [Op.operands, hz]))]
  | slice t x lo hi mx =>
    have hx := h x (by simp [Op.operands])
    have hlo : ∀ y, lo = some y → aeval fr y = aeval fr' y := fun y e => h y (by subst e; simp [Op.operands])
    have hhi : ∀ y, hi = some y → aeval fr y = aeval fr' y := fun y e => h y (by subst e; simp [Op.operands])
    cases lo with
    | none => cases hi with
      | none => simp only [pop, hx]
      | some y => simp only [pop, hx, hhi y rfl]
    | some z => cases hi with
      | none => simp only [pop, hx, hlo z rfl]
      | some y => simp only [pop, hx, hhi y rfl, hlo z rfl]
  | call c =>
    obtain ⟨callee, args, ats⟩ := c
    cases callee with
    | builtin b => 
      have := Like.aevals (xs := args.toList) (fun z hz => h z (by simp at hz; simp [Op.operands, Call.operands, hz]))
      cases b <;> simp only [pop, this]
    | _ => simp only [pop]
  | _ =>
    first
      | rfl
      | (simp only [Like, Op.operands, List.mem_cons, List.not_mem_nil, or_false, forall_eq_or_imp, forall_eq] at h; simp only [pop, h])
theorem lit_like {ty : Nat → TI} (op : Op) (h : Like fr fr' op.operands.toList) : litOp ty fr op = litOp ty fr' op := by
  cases op with
  | buildSlice t n ps => simp only [litOp]; rw [Like.apart (ps := ps.toList) (fun x hx => h x (by simpa [Op.operands] using hx))]
  | _ => rfl
theorem hop_like {ty : Nat → TI} {σ : List AObj} (op : Op) (h : Like fr fr' op.operands.toList) : hop ty fr σ op = hop ty fr' σ op := by
  cases op with
  | call c =>
    obtain ⟨callee, args, ats⟩ := c
    cases callee with
    | builtin b => 
      have := Like.aevals (xs := args.toList) (fun z hz => h z (by simp at hz; simp [Op.operands, Call.operands, hz]))
      cases b <;> simp only [hop, this]
    | _ => simp only [hop]
  | makeMap t m => cases m <;> rfl
  | _ =>
    first
      | rfl
      | (simp only [Like, Op.operands, List.mem_cons, List.not_mem_nil, or_false, forall_eq_or_imp, forall_eq] at h; simp only [hop, cvO, h])
theorem aop_like {σ : List AObj} {type : TypeId} (op : Op) (h : Like fr fr' op.operands.toList) : aop E fr σ type op = aop E fr' σ type op := by
  unfold aop; rw [pop_like op h, lit_like op h, hop_like op h]
theorem evOp_like {σ : List AObj} {type : TypeId} {X : AV → List AObj → Prop} (op : Op) (h : Like fr fr' op.operands.toList) : evOp E fr σ type op X = evOp E fr' σ type op X := by
  cases op with
  | call c =>
    obtain ⟨callee, args, ats⟩ := c
    cases callee with
    | builtin b => simp only [evOp, aop_like _ h]
    | value f =>
      have h1 := h f (by simp [Op.operands, Call.operands])
      have h2 := Like.aevals (xs := args.toList) (fun z hz => h z (by simp at hz; simp [Op.operands, Call.operands, hz]))
      simp only [evOp, h1, h2]
    | invoke f m =>
      have h1 := h f (by simp [Op.operands, Call.operands])
      have h2 := Like.aevals (xs := args.toList) (fun z hz => h z (by simp at hz; simp [Op.operands, Call.operands, hz]))
      simp only [evOp, h1, h2]
  | next it b =>
    have h1 := h it (by simp [Op.operands])
    simp only [evOp, h1]
  | binOp bo t x y u =>
    have h1 := h x (by simp [Op.operands])
    simp only [evOp, h1, aop_like _ h]
  | _ => simp only [evOp, aop_like _ h]
theorem wantA_like {ops : Array Oper} {o : Oper} (h : ∀ t ∈ o.looksAt ops, fr.get t = fr'.get t) : wantA ops.toList fr o.guard = wantA ops.toList fr' o.guard := by
  cases hg : o.guard with
  | none => rfl
  | some gw =>
    obtain ⟨j, want⟩ := gw
    simp only [wantA]
    cases hd : (ops.toList[j]?).bind (·.dst) with
    | none => rfl
    | some d =>
      have hd' : (ops[j]?).bind (·.dst) = some d := by simpa using hd
      have := h d (by simp [Oper.looksAt, hg, hd'])
      simp only [this]
theorem like_of {ops : Array Oper} {o : Oper} (h : ∀ t ∈ o.looksAt ops, fr.get t = fr'.get t) : Like fr fr' o.op.operands.toList := by
  intro x hx
  cases x with
  | tmp t => exact h t (List.mem_append_left _ (List.mem_filterMap.2 ⟨.tmp t, hx, rfl⟩))
  | const v => rfl
  | func f => rfl
  | global g => rfl
end Go.Mu
set_option linter.unusedSimpArgs false
set_option linter.unusedVariables false
namespace Go.Mu
open Go

variable {E : Env} {ro : Option Nat} {K : Kr} {n : Nat}

/-- Operations that may come up at any time: they look at their operands, or load. -/
def isN : Op → Bool
  | .move _ | .pick .. | .build .. | .buildSlice .. | .fieldAddr .. | .field .. | .index .. | .indexAddr .. | .nilCheck _ | .unOp .. | .convert ..
  | .makeInterface .. | .makeFunc .. | .extract .. | .typeAssert .. | .slice .. | .load .. => true
  | .call ⟨.builtin .len, _, _⟩ | .call ⟨.builtin .max, _, _⟩ | .call ⟨.builtin .min, _, _⟩ => true
  | .binOp _ _ _ y _ => !isNilC y
  | _ => false
def isL : Op → Bool
  | .load .. => true
  | _ => false
def isCl : Op → Bool
  | .call ⟨.value _, _, _⟩ => true
  | _ => false
/-- In a list's place: it may come up at any time: a call of a function that computes alone bears its own number. -/
def isNp (p : Nat × List Nat) (o : Oper) : Bool := isN o.op || (isCl o.op && p.2 == [p.1])
/-- A new variable: it may come up early. -/
def isA (ty : Nat → TI) (N : Nat) (o : Oper) : Bool := match o.op, o.dst with
  | .alloc t, some d => (ty t).kd.agg.isSome && decide (d < N) && o.guard.isNone
  | _, _ => false

def nms (ops : Array Oper) (o : Oper) : List Tmp := o.dst.toList ++ o.looksAt ops
def pred (m : List Nat) (j i : Nat) : Bool := (m.getD j 0).testBit i
def foldM (m : List Nat) (s : Nat) (e : Edge) : Nat := if Region.binds .any e then s ||| (2 ^ e.on ||| m.getD e.on 0) else s
def masksOK (m : List Nat) (ops : Array Oper) : Bool := (List.range ops.size).all fun j => match ops[j]? with
  | some o => m.getD j 0 == o.after.toList.foldl (foldM m) 0 && o.after.toList.all (fun e => !Region.binds .any e || decide (e.on < j))
  | none => false
def chk (ty : Nat → TI) (N : Nat) (m : List Nat) (ops : Array Oper) (p q : Nat × List Nat) : Bool :=
  match ops[p.1]?, ops[q.1]? with
  | some o, some o' =>
    p.1 != q.1 && !pred m p.1 q.1 &&
    (isA ty N o' || isNp p o || pred m q.1 p.1) &&
    (!(isNp q o' || isA ty N o') || o'.dst.toList.all (fun d => !(nms ops o).contains d)) &&
    (isNp q o' || isA ty N o' || !isNp p o || pred m q.1 p.1 || (o'.dst.toList.all (fun d => !(nms ops o).contains d) && (!isL o.op || q.2.contains p.1))) &&
    (!isNp p o || pred m q.1 p.1 || o.dst.toList.all (fun d => !(nms ops o').contains d))
  | _, _ => false
def pairs {α : Type} (f : α → α → Bool) : List α → Bool
  | [] => true
  | x :: l => l.all (f x) && pairs f l
theorem pairs_spec {α : Type} {f : α → α → Bool} : ∀ {l l' : List α}, pairs f (l ++ l') = true → ∀ p ∈ l, ∀ q ∈ l', f p q = true
  | [], _, _, _, hp => by cases hp
  | x :: l, l', h, p, hp => by
    simp only [List.cons_append, pairs, Bool.and_eq_true, List.all_eq_true] at h
    intro q hq
    rcases List.mem_cons.1 hp with rfl | hp
    · exact h.1 q (by simp [hq])
    · exact pairs_spec h.2 p hp q hq
def selfOK (ops : Array Oper) (p : Nat × List Nat) : Bool := match ops[p.1]? with
  | some o => (!(p.2 == [p.1]) || isCl o.op) && (!isNp p o || o.dst.toList.all (fun d => !(o.looksAt ops).contains d))
  | none => false
def drawOK (ty : Nat → TI) (N : Nat) (ops : Array Oper) (c : List Nat × List (Nat × List Nat)) : Bool :=
  masksOK c.1 ops && (List.range ops.size).all (fun i => c.2.any (·.1 == i)) && pairs (chk ty N c.1 ops) c.2 && c.2.all (selfOK ops)

theorem fold_testBit (m : List Nat) (i : Nat) : ∀ (l : List Edge) (s : Nat), (l.foldl (foldM m) s).testBit i = true → s.testBit i = true ∨ ∃ e ∈ l, Region.binds .any e = true ∧ (i = e.on ∨ pred m e.on i = true)
  | [], s, h => .inl h
  | e :: l, s, h => by
    rcases fold_testBit m i l _ h with h1 | ⟨e', h1, h2⟩
    · unfold foldM at h1
      split at h1
      · rename_i hb
        simp only [Nat.testBit_or, Bool.or_eq_true] at h1
        rcases h1 with h1 | h1 | h1
        · exact .inl h1
        · rw [Nat.testBit_two_pow] at h1
          exact .inr ⟨e, by simp, hb, .inl (by simpa [eq_comm] using h1)⟩
        · exact .inr ⟨e, by simp, hb, .inr h1⟩
      · exact .inl h1
    · exact .inr ⟨e', by simp [h1], h2⟩

theorem pred_in {m : List Nat} {ops : Array Oper} (hm : masksOK m ops = true) {X : Nat → Prop} (hc : ∀ j o, ops[j]? = some o → X j → ∀ e ∈ o.after, Region.binds .any e = true → X e.on) (i : Nat) :
    ∀ (j : Nat) (o : Oper), ops[j]? = some o → (∀ e ∈ o.after, Region.binds .any e = true → X e.on) → pred m j i = true → X i := by
  intro j
  induction j using Nat.strongRecOn with
  | _ j ih =>
    intro o ho hd hp
    have hj : j < ops.size := (Array.getElem?_eq_some_iff.1 ho).1
    have h1 := List.all_eq_true.1 hm j (List.mem_range.2 hj)
    simp only [ho, Bool.and_eq_true, beq_iff_eq, List.all_eq_true, Bool.or_eq_true, Bool.not_eq_true', decide_eq_true_eq] at h1
    unfold pred at hp
    rw [h1.1] at hp
    rcases fold_testBit m i _ _ hp with h2 | ⟨e, h2, h3, h4⟩
    · simp at h2
    · have he : e ∈ o.after := by simpa using h2
      rcases h4 with rfl | h4
      · exact hd e he h3
      · have hlt : e.on < j := by
          rcases h1.2 e h2 with h5 | h5
          · rw [h3] at h5; cases h5
          · exact h5
        have ho' : ops[e.on]? = some ops[e.on] := Array.getElem?_eq_getElem (by omega)
        exact ih e.on hlt _ ho' (hc _ _ ho' (hd e he h3)) h4
end Go.Mu
set_option linter.unusedSimpArgs false
set_option linter.unusedVariables false
namespace Go.Mu
open Go

variable {E : Env} {ro : Option Nat} {K : Kr} {n : Nat}

def nthO : List Oper → Nat → Option Oper
  | [], _ => none
  | o :: _, 0 => some o
  | _ :: l, i + 1 => nthO l i
theorem nthO_eq : ∀ (l : List Oper) (i : Nat), nthO l i = l[i]?
  | [], _ => by simp [nthO]
  | o :: _, 0 => by simp [nthO]
  | _ :: l, i + 1 => by simp [nthO, nthO_eq l i]

/-- A load says the same again. -/
def reOK (E : Env) (all : List Oper) (fr : Fr) (σ : List AObj) : Option Oper → Prop
  | none => False
  | some o => match wantA all fr o.guard with
    | some true => match hop E.ty fr σ o.op with
      | some (v, _) => match o.dst with
        | some d => fr.get d = some v
        | none => True
      | none => False
    | some false => True
    | none => False
def recheck (E : Env) (all : List Oper) (fr : Fr) (σ : List AObj) : List Nat → Prop
  | [] => True
  | r :: rs => reOK E all fr σ (nthO all r) ∧ recheck E all fr σ rs

/-- A call of a function that computes alone. -/
def callP (E : Env) (f : Option AV) (as : Option (List AV)) : Option AV := match f, as with
  | some (.fn (.func g) p q), some as => E.fs g (p ++ as ++ q)
  | _, _ => none
def valP (E : Env) (fr : Fr) : Op → Option AV
  | .call ⟨.value f, args, _⟩ => callP E (aeval fr f) (aevals fr args.toList)
  | _ => none
def givP (X : AV → List AObj → Prop) (σ : List AObj) : Option AV → Prop
  | some v => X v σ
  | none => False
def evPc (E : Env) (fr : Fr) (σ : List AObj) (op : Op) (X : AV → List AObj → Prop) : Prop := givP X σ (valP E fr op)
theorem givP_some {X : AV → List AObj → Prop} {σ : List AObj} {v : AV} : givP X σ (some v) = X v σ := rfl
theorem callP_some {E : Env} {g : FuncId} {p q as : List AV} : callP E (some (.fn (.func g) p q)) (some as) = E.fs g (p ++ as ++ q) := rfl
def evD (E : Env) (all : List Oper) : List (Nat × List Nat) → Fr → List AObj → (Fr → List AObj → Prop) → Prop
  | [], fr, σ, Q => Q fr σ
  | p :: L, fr, σ, Q =>
    let next : Option Tmp → AV → List AObj → Prop := fun dst v σ' => match dst with
      | none => recheck E all fr σ' p.2 ∧ evD E all L fr σ' Q
      | some d => d < E.N ∧ recheck E all (fr.put d v) σ' p.2 ∧ evD E all L (fr.put d v) σ' Q
    let pure : Option Tmp → AV → List AObj → Prop := fun dst v σ' => match dst with
      | none => recheck E all fr σ' [] ∧ evD E all L fr σ' Q
      | some d => d < E.N ∧ recheck E all (fr.put d v) σ' [] ∧ evD E all L (fr.put d v) σ' Q
    match p.2 == [p.1], nthO all p.1 with
    | true, some o => match wantA all fr o.guard with
      | none => False
      | some b => (b = true → evPc E fr σ o.op (pure o.dst)) ∧ (b = false → pure o.dst (.tup []) σ)
    | false, some o => match wantA all fr o.guard with
      | none => False
      | some b => (b = true → evOp E fr σ o.type o.op (next o.dst)) ∧ (b = false → next o.dst (.tup []) σ)
    | _, none => False
def evNextD (E : Env) (all : List Oper) (rs : List Nat) (L : List (Nat × List Nat)) (dst : Option Tmp) (fr : Fr) (Q : Fr → List AObj → Prop) (v : AV) (σ : List AObj) : Prop :=
  match dst with
  | none => recheck E all fr σ rs ∧ evD E all L fr σ Q
  | some d => d < E.N ∧ recheck E all (fr.put d v) σ rs ∧ evD E all L (fr.put d v) σ Q
def evDo (E : Env) (all : List Oper) (rs : List Nat) (L : List (Nat × List Nat)) (fr : Fr) (σ : List AObj) (Q : Fr → List AObj → Prop) : Option Oper → Prop
  | none => False
  | some o => match wantA all fr o.guard with
    | none => False
    | some b => (b = true → evOp E fr σ o.type o.op (evNextD E all rs L o.dst fr Q)) ∧ (b = false → evNextD E all rs L o.dst fr Q (.tup []) σ)
def evDp (E : Env) (all : List Oper) (L : List (Nat × List Nat)) (fr : Fr) (σ : List AObj) (Q : Fr → List AObj → Prop) : Option Oper → Prop
  | none => False
  | some o => match wantA all fr o.guard with
    | none => False
    | some b => (b = true → evPc E fr σ o.op (evNextD E all [] L o.dst fr Q)) ∧ (b = false → evNextD E all [] L o.dst fr Q (.tup []) σ)
def evDs (E : Env) (all : List Oper) (rs : List Nat) (L : List (Nat × List Nat)) (fr : Fr) (σ : List AObj) (Q : Fr → List AObj → Prop) (o : Option Oper) : Bool → Prop
  | true => evDp E all L fr σ Q o
  | false => evDo E all rs L fr σ Q o
theorem evDs_true {all : List Oper} {rs : List Nat} {L : List (Nat × List Nat)} {fr : Fr} {σ : List AObj} {Q : Fr → List AObj → Prop} {o : Option Oper} : evDs E all rs L fr σ Q o true = evDp E all L fr σ Q o := rfl
theorem evDs_false {all : List Oper} {rs : List Nat} {L : List (Nat × List Nat)} {fr : Fr} {σ : List AObj} {Q : Fr → List AObj → Prop} {o : Option Oper} : evDs E all rs L fr σ Q o false = evDo E all rs L fr σ Q o := rfl
theorem evD_cons (all : List Oper) (i : Nat) (rs : List Nat) (L : List (Nat × List Nat)) (fr : Fr) (σ : List AObj) (Q : Fr → List AObj → Prop) : evD E all ((i, rs) :: L) fr σ Q = evDs E all rs L fr σ Q (nthO all i) (rs == [i]) := by
  simp only [evD]
  cases hb : rs == [i] with
  | true =>
    cases nthO all i with
    | none => rfl
    | some o =>
      simp only [evDs, evDp]
      cases wantA all fr o.guard with
      | none => rfl
      | some b => cases h : o.dst <;> rfl
  | false =>
    cases nthO all i with
    | none => rfl
    | some o =>
      simp only [evDs, evDo]
      cases wantA all fr o.guard with
      | none => rfl
      | some b => cases h : o.dst <;> rfl
/-- What one that may come up at any time gives. -/
def nop (E : Env) (fr : Fr) (σ : List AObj) (type : TypeId) (op : Op) : Option (AV × List AObj) := match isCl op with
  | true => (valP E fr op).map fun v => (v, σ)
  | false => aop E fr σ type op
theorem isN_cl {op : Op} (h : isN op = true) : isCl op = false := by
  cases op with
  | call c =>
    obtain ⟨callee, args, ats⟩ := c
    cases callee <;> simp [isN] at h <;> rfl
  | _ => rfl
theorem isNp_cases {p : Nat × List Nat} {o : Oper} (h : isNp p o = true) : (isCl o.op = false ∧ isN o.op = true) ∨ (isCl o.op = true ∧ p.2 = [p.1]) := by
  simp only [isNp, Bool.or_eq_true, Bool.and_eq_true, beq_iff_eq] at h
  rcases h with h | h
  · exact .inl ⟨isN_cl h, h⟩
  · exact .inr h

/-- Of operations that may come up at any time. -/
theorem aop_N {fr : Fr} {σ σ' : List AObj} {type : TypeId} {op : Op} {v : AV} (hn : isN op = true) (h : aop E fr σ type op = some (v, σ')) : σ' = σ := by
  unfold aop at h
  split at h
  · simp at h; exact h.2.symm
  · split at h
    · simp at h; exact h.2.symm
    · cases op with
      | load t x =>
        simp only [hop] at h
        split at h
        · split at h
          · simp only [Option.map_eq_some_iff, Prod.mk.injEq] at h
            obtain ⟨_, _, _, h⟩ := h; exact h.symm
          · cases h
        · simp only [Option.map_eq_some_iff, Prod.mk.injEq] at h
          obtain ⟨_, _, _, h⟩ := h; exact h.symm
        · split at h
          · split at h
            · unfold loadV at h
              split at h
              · simp only [Option.map_eq_some_iff, Prod.mk.injEq] at h
                obtain ⟨_, _, _, h⟩ := h; exact h.symm
              · cases h
            · cases h
          · cases h
        · cases h
      | call c =>
        obtain ⟨callee, args, ats⟩ := c
        cases callee with
        | builtin b => cases b <;> simp [isN] at hn <;> simp [hop] at h
        | _ => simp [isN] at hn
      | convert s d x =>
        simp only [hop, Option.map_eq_some_iff, Prod.mk.injEq] at h
        obtain ⟨_, _, _, h⟩ := h; exact h.symm
      | _ => first | (simp [isN] at hn; done) | (simp [hop] at h; done)
/-- One that loads nothing does not look at the objects. -/
theorem aop_pure {fr : Fr} {σ σ' : List AObj} {type : TypeId} {op : Op} {v : AV} (hn : isN op = true) (hl : isL op = false) (h : aop E fr σ type op = some (v, σ)) : aop E fr σ' type op = some (v, σ') := by
  by_cases hcv : ∃ s d x, op = .convert s d x
  · obtain ⟨s, d, x, rfl⟩ := hcv
    unfold aop at h ⊢
    cases h1 : pop E.ty fr type (.convert s d x) with
    | some u => rw [h1] at h; simp only [Option.some.injEq, Prod.mk.injEq, and_true] at h ⊢; exact h
    | none =>
      rw [h1] at h
      simp only [litOp, hop, Option.map_eq_some_iff, Prod.mk.injEq] at h ⊢
      obtain ⟨u, h1, rfl, _⟩ := h
      exact ⟨u, h1, rfl, trivial⟩
  have hh : ∀ σ, hop E.ty fr σ op = none := by
    intro σ
    cases op with
    | convert s d x => exact absurd ⟨s, d, x, rfl⟩ hcv
    | load t x => simp [isL] at hl
    | call c =>
      obtain ⟨callee, args, ats⟩ := c
      cases callee with
      | builtin b => cases b <;> simp [isN] at hn <;> simp [hop]
      | _ => simp [isN] at hn
    | _ => first | (simp [isN] at hn; done) | (simp [hop]; done)
  unfold aop at h ⊢
  cases h1 : pop E.ty fr type op with
  | some u => rw [h1] at h; simp only [Option.some.injEq, Prod.mk.injEq, and_true] at h ⊢; exact h
  | none =>
    rw [h1] at h
    simp only at h ⊢
    cases h2 : litOp E.ty fr op with
    | some u => rw [h2] at h; simp only [Option.some.injEq, Prod.mk.injEq, and_true] at h ⊢; exact h
    | none => rw [h2] at h; simp only [hh] at h; cases h
theorem aop_load {fr : Fr} {σ : List AObj} {type : TypeId} {op : Op} (hl : isL op = true) : aop E fr σ type op = hop E.ty fr σ op := by
  cases op <;> simp [isL] at hl
  rfl
theorem hget_more {σ : List AObj} {x o : AObj} {r : Nat} (hg : hget σ r = some o) : hget (σ ++ [x]) r = some o := by
  unfold hget at hg ⊢
  rw [List.getElem?_append_left (List.getElem?_eq_some_iff.1 hg).1]; exact hg
/-- A load finds the same when there are more objects. -/
theorem aop_more {fr : Fr} {σ : List AObj} {x : AObj} {type : TypeId} {op : Op} {v : AV} (hn : isN op = true) (h : aop E fr σ type op = some (v, σ)) : aop E fr (σ ++ [x]) type op = some (v, σ ++ [x]) := by
  cases hl : isL op with
  | false => exact aop_pure hn hl h
  | true =>
    rw [aop_load hl] at h ⊢
    cases op with
    | load t y =>
      simp only [hop] at h ⊢
      split at h
      · split at h
        · rename_i cs hg
          have hg' := hget_more (x := x) hg
          rw [hg']
          simp only [Option.map_eq_some_iff, Prod.mk.injEq] at h ⊢
          obtain ⟨u, h1, h2, _⟩ := h
          exact ⟨u, h1, h2, trivial⟩
        · cases h
      · simp only [Option.map_eq_some_iff, Prod.mk.injEq] at h ⊢
        obtain ⟨u, h1, h2, _⟩ := h
        exact ⟨u, h1, h2, trivial⟩
      · split at h
        · rename_i xs hg
          have hg' := hget_more (x := x) hg
          rw [hg']
          split at h
          · rename_i hc
            simp only [if_pos hc]
            unfold loadV at h ⊢
            split at h
            · simp only [Option.map_eq_some_iff, Prod.mk.injEq] at h ⊢
              obtain ⟨u, h1, h2, _⟩ := h
              exact ⟨u, h1, h2, trivial⟩
            · cases h
          · cases h
        · cases h
      · cases h
    | _ => simp [isL] at hl
theorem evOp_N {fr : Fr} {σ : List AObj} {type : TypeId} {op : Op} {X : AV → List AObj → Prop} (hn : isN op = true) (h : evOp E fr σ type op X) : ∃ v, aop E fr σ type op = some (v, σ) ∧ X v σ := by
  have key : (match aop E fr σ type op with | some (v, σ') => X v σ' | none => False) → ∃ v, aop E fr σ type op = some (v, σ) ∧ X v σ := by
    intro hk
    cases ha : aop E fr σ type op with
    | none => rw [ha] at hk; exact hk.elim
    | some q =>
      obtain ⟨v, σ'⟩ := q
      rw [ha] at hk
      have e := aop_N hn ha
      exact ⟨v, by rw [e], by rw [← e]; exact hk⟩
  cases op with
  | call c =>
    obtain ⟨callee, args, ats⟩ := c
    cases callee with
    | builtin b => exact key h
    | _ => simp [isN] at hn
  | next it b => simp [isN] at hn
  | binOp bo t x y u =>
    have hy : isNilC y = false := by simpa [isN] using hn
    simp only [evOp, hy] at h
    exact key h
  | _ => exact key h

theorem isL_cl {op : Op} (h : isL op = true) : isCl op = false := by cases op <;> simp [isL] at h <;> rfl
theorem nop_N {fr : Fr} {σ σ' : List AObj} {type : TypeId} {op : Op} {v : AV} (hn : isCl op = true ∨ isN op = true) (h : nop E fr σ type op = some (v, σ')) : σ' = σ := by
  unfold nop at h
  cases hc : isCl op with
  | true =>
    rw [hc] at h
    simp only [Option.map_eq_some_iff, Prod.mk.injEq] at h
    obtain ⟨_, _, _, h⟩ := h; exact h.symm
  | false =>
    rw [hc] at h hn
    exact aop_N (by simpa using hn) h
theorem nop_pure {fr : Fr} {σ σ' : List AObj} {type : TypeId} {op : Op} {v : AV} (hn : isCl op = true ∨ isN op = true) (hl : isL op = false) (h : nop E fr σ type op = some (v, σ)) : nop E fr σ' type op = some (v, σ') := by
  unfold nop at h ⊢
  cases hc : isCl op with
  | true =>
    rw [hc] at h
    simp only [Option.map_eq_some_iff, Prod.mk.injEq] at h ⊢
    obtain ⟨u, h1, h2, _⟩ := h
    exact ⟨u, h1, h2, trivial⟩
  | false =>
    rw [hc] at h hn
    exact aop_pure (by simpa using hn) hl h
theorem nop_load {fr : Fr} {σ : List AObj} {type : TypeId} {op : Op} (hl : isL op = true) : nop E fr σ type op = hop E.ty fr σ op := by
  unfold nop; rw [isL_cl hl]; exact aop_load hl
theorem nop_more {fr : Fr} {σ : List AObj} {x : AObj} {type : TypeId} {op : Op} {v : AV} (hn : isCl op = true ∨ isN op = true) (h : nop E fr σ type op = some (v, σ)) : nop E fr (σ ++ [x]) type op = some (v, σ ++ [x]) := by
  unfold nop at h ⊢
  cases hc : isCl op with
  | true =>
    rw [hc] at h
    simp only [Option.map_eq_some_iff, Prod.mk.injEq] at h ⊢
    obtain ⟨u, h1, h2, _⟩ := h
    exact ⟨u, h1, h2, trivial⟩
  | false =>
    rw [hc] at h hn
    exact aop_more (by simpa using hn) h
theorem nop_like {fr fr' : Fr} {σ : List AObj} {type : TypeId} (op : Op) (h : Like fr fr' op.operands.toList) : nop E fr σ type op = nop E fr' σ type op := by
  unfold nop
  rw [aop_like op h]
  have : valP E fr op = valP E fr' op := by
    cases op with
    | call c =>
      obtain ⟨callee, args, ats⟩ := c
      cases callee with
      | value f =>
        have h1 := h f (by simp [Op.operands, Call.operands])
        have h2 := Like.aevals (xs := args.toList) (fun z hz => h z (by simp at hz; simp [Op.operands, Call.operands, hz]))
        simp only [valP, h1, h2]
      | _ => rfl
    | _ => rfl
  rw [this]
theorem isNp_or {p : Nat × List Nat} {o : Oper} (h : isNp p o = true) : isCl o.op = true ∨ isN o.op = true := by
  rcases isNp_cases h with h | h
  · exact .inr h.2
  · exact .inl h.1
/-- What is at hand in a list, of one that may come up at any time. -/
theorem evD_N {p : Nat × List Nat} {all : List Oper} {L : List (Nat × List Nat)} {fr : Fr} {σ : List AObj} {Q : Fr → List AObj → Prop} {o : Oper} (hn : isNp p o = true) (ho : nthO all p.1 = some o) (h : evD E all (p :: L) fr σ Q) :
    ∃ b v rs, wantA all fr o.guard = some b ∧ (b = true → nop E fr σ o.type o.op = some (v, σ)) ∧ (b = false → v = .tup []) ∧ evNextD E all rs L o.dst fr Q v σ := by
  obtain ⟨i, rs⟩ := p
  rw [evD_cons, ho] at h
  rcases isNp_cases hn with ⟨hc, hn⟩ | ⟨hc, hp⟩
  · have key : evDo E all rs L fr σ Q (some o) ∨ evDp E all L fr σ Q (some o) := by
      cases hb : rs == [i] with
      | true => rw [hb] at h; exact .inr h
      | false => rw [hb] at h; exact .inl h
    rcases key with h | h
    · simp only [evDo] at h
      cases hw : wantA all fr o.guard with
      | none => rw [hw] at h; exact h.elim
      | some b =>
        rw [hw] at h
        cases b with
        | false => exact ⟨false, _, rs, rfl, fun h => (by cases h), fun _ => rfl, h.2 rfl⟩
        | true =>
          obtain ⟨v, h1, h2⟩ := evOp_N hn (h.1 rfl)
          exact ⟨true, v, rs, rfl, fun _ => (by unfold nop; rw [hc]; exact h1), fun h => (by cases h), h2⟩
    · simp only [evDp] at h
      cases hw : wantA all fr o.guard with
      | none => rw [hw] at h; exact h.elim
      | some b =>
        rw [hw] at h
        cases b with
        | false => exact ⟨false, _, [], rfl, fun h => (by cases h), fun _ => rfl, h.2 rfl⟩
        | true =>
          exfalso
          have h := h.1 rfl
          unfold evPc at h
          have : valP E fr o.op = none := by
            cases hop : o.op with
            | call c =>
              obtain ⟨callee, args, ats⟩ := c
              rw [hop] at hc
              cases callee <;> simp [isCl] at hc <;> rfl
            | _ => rfl
          rw [this] at h; exact h
  · simp only at hp
    have hb : (rs == [i]) = true := by simp [hp]
    rw [hb] at h
    simp only [evDs, evDp] at h
    cases hw : wantA all fr o.guard with
    | none => rw [hw] at h; exact h.elim
    | some b =>
      rw [hw] at h
      cases b with
      | false => exact ⟨false, _, [], rfl, fun h => (by cases h), fun _ => rfl, h.2 rfl⟩
      | true =>
        have h := h.1 rfl
        unfold evPc at h
        cases hv : valP E fr o.op with
        | none => rw [hv] at h; exact h.elim
        | some v =>
          rw [hv] at h
          exact ⟨true, v, [], rfl, fun _ => (by unfold nop; rw [hc]; simp only; rw [hv]; rfl), fun h => (by cases h), h⟩
/-- What is at hand in a list, of another one. -/
theorem evD_E {p : Nat × List Nat} {all : List Oper} {L : List (Nat × List Nat)} {fr : Fr} {σ : List AObj} {Q : Fr → List AObj → Prop} {o : Oper} (hn : isNp p o = false) (hs : p.2 = [p.1] → isCl o.op = true) (ho : nthO all p.1 = some o) (h : evD E all (p :: L) fr σ Q) : evDo E all p.2 L fr σ Q (some o) := by
  obtain ⟨i, rs⟩ := p
  rw [evD_cons, ho] at h
  cases hb : rs == [i] with
  | false => rw [hb] at h; exact h
  | true =>
    have hc := hs (by simpa using hb)
    simp only [isNp, hc, hb, Bool.true_and, Bool.or_true] at hn
    cases hn
/-- A block that is there already becomes an object's. -/
theorem R.adopt {σ : List AObj} {w : World} (h : R K σ w) {b : Nat} {cs : List AV} {cc : Array Value} {T : TypeId} (hb : w.heap[b]? = some (.cells cc T (0, 0))) (hv : VRs K σ.length cs cc.toList) (h1 : ∀ c ∈ cc.toList, c.oneCell' = true)
    (hf : Free K σ b) (hS : ∀ p, K.S b p = none) (hlay : ∀ g cs, layV g = some cs → g ≠ b) : R (K.setφ σ.length b) (σ ++ [.cells cs]) w ∧ ∀ b', b' ≠ b → Free K σ b' → Free (K.setφ σ.length b) (σ ++ [.cells cs]) b' := by
  have he : Ext σ.length K (K.setφ σ.length b) := Ext.setφ K _ _
  have hlt : ∀ {r o}, σ[r]? = some o → r < σ.length := fun h => (List.getElem?_eq_some_iff.1 h).1
  have hget : ∀ q o', (σ ++ [.cells cs])[q]? = some o' → σ[q]? = some o' ∨ (q = σ.length ∧ o' = .cells cs) := fun q o' hq => by
    rw [List.getElem?_append] at hq
    split at hq
    · exact .inl hq
    · cases hk : q - σ.length with
      | zero => rw [hk] at hq; simp at hq; exact .inr ⟨by omega, hq.symm⟩
      | succ j => rw [hk] at hq; simp at hq
  have hnew : ∀ b', ObjBlk (K.setφ σ.length b) σ.length (.cells cs) b' → b' = b := fun b' hb' => by simpa [ObjBlk, Kr.setφ] using hb'
  have hfr : ∀ b', b' ≠ b → Free K σ b' → Free (K.setφ σ.length b) (σ ++ [.cells cs]) b' := fun b' hne hfree q o' hq hb' => by
    rcases hget q o' hq with g | ⟨rfl, rfl⟩
    · exact hfree q o' g (hb'.ext (hlt g) he (h.obj q o' g))
    · exact hne (hnew b' hb')
  refine ⟨⟨fun b p v hv => h.stab b p v hv, fun q o' hq => ?_, fun q q' o1 o2 b' h1 h2 b1 b2 => ?_, fun g cs hg => ⟨(h.lay g cs hg).1, hfr g (hlay g cs hg) (h.lay g cs hg).2⟩⟩, hfr⟩
  · rcases hget q o' hq with g | ⟨rfl, rfl⟩
    · exact (h.obj q o' g).mono (hlt g) he (by simp) rfl fun b _ => ⟨rfl, fun _ => rfl⟩
    · exact ⟨cc, T, by simp only [Kr.setφ, if_true]; exact hb, hv.mono he (by simp), h1, fun p => by simp only [Kr.setφ, if_true]; exact hS p⟩
  · rcases hget q o1 h1 with g1 | ⟨rfl, rfl⟩ <;> rcases hget q' o2 h2 with g2 | ⟨rfl, rfl⟩
    · exact h.inj q q' o1 o2 b' g1 g2 (b1.ext (hlt g1) he (h.obj q o1 g1)) (b2.ext (hlt g2) he (h.obj q' o2 g2))
    · have := hnew b' b2; subst this
      exact absurd (b1.ext (hlt g1) he (h.obj q o1 g1)) (hf q o1 g1)
    · have := hnew b' b1; subst this
      exact absurd (b2.ext (hlt g2) he (h.obj q' o2 g2)) (hf q' o2 g2)
    · rfl

end Go.Mu
