/- Texts of a proof: lemmas. -/
import Derived.Test.YtbkjffpembflcaaSp
import Derived.Test.YtbkjffpembflcaaEnv
import Derived.Test.YtbkjffpembflcaaMu3
import Derived.Test.YtbkjffpembflcaaOrd
import Derived.Test.YtbkjffpembflcaaKp
import Derived.Laws.StructEq
set_option linter.unusedSimpArgs false
set_option linter.unusedVariables false
namespace Go.Proofs
open Go Go.Mu

theorem agg_two {xs : List Int} (h : xs.length = 2) : ∃ a b, xs = [a, b] := by
  match xs, h with
  | [a, b], _ => exact ⟨a, b, rfl⟩
theorem agg_six {xs : List Int} (h : xs.length = 6) : ∃ a b c d e f, xs = [a, b, c, d, e, f] := by
  match xs, h with
  | [a, b, c, d, e, f], _ => exact ⟨a, b, c, d, e, f, rfl⟩

theorem Try.eq27r (d : Nat) (a b c e : Int) (w : World) : (Op.equalIn (d + 2) 27 (.agg #[.int .i64 a, .int .i64 b]) (.agg #[.int .i64 c, .int .i64 e])).run Try.prog w = .ok (a == c && b == e) w := by
  rw [run_equalIn_struct w (d + 1) 27 _ _ (by simp only [Program.fieldsOf, Try.underlying27]) (by kernel_rfl)]
  have hf : (Try.prog.fieldsOf 27).toList = [⟨ "Min", 3, 0, false, "", "", 0⟩, ⟨ "Max", 3, 1, false, "", "", 8⟩] := by simp only [Program.fieldsOf, Try.underlying27]
  rw [hf]
  have ha : ∀ w, (isAgg 3).run Try.prog w = .ok false w := fun w => run_agg (ty := Try.ty) Try.tysOK (by rw [Try.ty3]; rfl) w
  by_cases h1 : a = c <;> by_cases h2 : b = e <;> simp [Op.eqFields, part, ha, run_equalIn_int _ _ _ _ _ _ _ Try.underlying3, h1, h2]
theorem Try.eq50r (d : Nat) (a1 a2 a3 a4 a5 a6 b1 b2 b3 b4 b5 b6 : Int) (w : World) :
    (Op.equalIn (d + 3) 50 (.agg #[.int .i64 a1, .int .i64 a2, .int .i64 a3, .int .i64 a4, .int .i64 a5, .int .i64 a6]) (.agg #[.int .i64 b1, .int .i64 b2, .int .i64 b3, .int .i64 b4, .int .i64 b5, .int .i64 b6])).run Try.prog w =
      .ok (a1 == b1 && (a2 == b2 && (a3 == b3 && (a4 == b4 && (a5 == b5 && a6 == b6))))) w := by
  rw [run_equalIn_struct w (d + 2) 50 _ _ (by simp only [Program.fieldsOf, Try.underlying50]) (by kernel_rfl)]
  have hf : (Try.prog.fieldsOf 50).toList = [⟨ "Kind", 3, 0, false, "", "", 0⟩, ⟨ "A", 3, 1, false, "", "", 8⟩, ⟨ "B", 3, 2, false, "", "", 16⟩, ⟨ "Seconds", 3, 3, false, "", "", 24⟩, ⟨ "Shown", 27, 4, false, "", "", 32⟩] := by simp only [Program.fieldsOf, Try.underlying50]
  rw [hf]
  have ha : ∀ w, (isAgg 3).run Try.prog w = .ok false w := fun w => run_agg (ty := Try.ty) Try.tysOK (by rw [Try.ty3]; rfl) w
  have hb : ∀ w, (isAgg 27).run Try.prog w = .ok true w := fun w => run_agg (ty := Try.ty) Try.tysOK (by rw [Try.ty27]; rfl) w
  have hs : ∀ w, (Go.sizeOf 27).run Try.prog w = .ok 2 w := fun w => run_size (ty := Try.ty) Try.tysOK (by rw [Try.ty27]; simp) w
  by_cases h1 : a1 = b1 <;> simp [Op.eqFields, part, ha, run_equalIn_int _ _ _ _ _ _ _ Try.underlying3, h1]
  by_cases h2 : a2 = b2 <;> simp [Op.eqFields, part, ha, run_equalIn_int _ _ _ _ _ _ _ Try.underlying3, h2]
  by_cases h3 : a3 = b3 <;> simp [Op.eqFields, part, ha, run_equalIn_int _ _ _ _ _ _ _ Try.underlying3, h3]
  by_cases h4 : a4 = b4 <;> simp [Op.eqFields, part, ha, hb, hs, run_equalIn_int _ _ _ _ _ _ _ Try.underlying3, h4, Try.eq27r]
  by_cases h5 : a5 = b5 <;> by_cases h6 : a6 = b6 <;> simp [h5, h6]

theorem Try.eqsOK : EqsOK Try.prog Try.ty := by
  have hall : ∀ t, (Try.ty t).eqn = true → t = 27 ∨ t = 50 := by
    intro t ht
    unfold Try.ty tyOf at ht
    cases hf : Try.tyl.find? (fun p => p.1 == t) with
    | none => rw [hf] at ht; cases ht
    | some p =>
      have h1 := List.mem_of_find?_eq_some hf
      have h2 := List.find?_some hf
      simp at h2; subst h2
      rw [hf] at ht
      have h3 : (Try.tyl.all fun p => !p.2.eqn || (p.1 == 27 || p.1 == 50)) = true := rfl
      have h4 := List.all_eq_true.1 h3 p h1
      have ht' : p.2.eqn = true := ht
      simpa [ht'] using h4
  refine ⟨fun t ht => ?_, fun t ht xs ys w h1 h2 => ?_⟩
  · rcases hall t ht with rfl | rfl <;> kernel_rfl
  · rcases hall t ht with rfl | rfl
    · obtain ⟨a, b, rfl⟩ := agg_two h1
      obtain ⟨c, d, rfl⟩ := agg_two h2
      have := Try.eq27r 9998 a b c d w
      simpa [Op.equal, Op.maxDepth] using this
    · obtain ⟨a1, a2, a3, a4, a5, a6, rfl⟩ := agg_six h1
      obtain ⟨b1, b2, b3, b4, b5, b6, rfl⟩ := agg_six h2
      have := Try.eq50r 9997 a1 a2 a3 a4 a5 a6 b1 b2 b3 b4 b5 b6 w
      simpa [Op.equal, Op.maxDepth] using this
theorem method_of {P : Program} {t : TypeId} {s : String} {f : FuncId} {fs : Array Field} (h1 : ((P.info? t).bind fun i => i.methods.find? fun m => m.name == s).map (fun m => (m.path.toList, m.func)) = some ([], some (f, false)))
    (h2 : P.underlying t = some (.struct fs)) (n : Nat) (c : Value) (w : World) : (method (n + 1) t c s).run P w = .ok (f, c) w := by
  cases hi : P.info? t with
  | none => rw [hi] at h1; cases h1
  | some i =>
    rw [hi] at h1
    simp only [Option.bind_some] at h1
    cases hm : i.methods.find? (fun m => m.name == s) with
    | none => rw [hm] at h1; cases h1
    | some m =>
      rw [hm] at h1
      simp only [Option.map_some, Option.some.injEq, Prod.mk.injEq] at h1
      obtain ⟨hp, hf⟩ := h1
      have hpe : m.path = #[] := by apply Array.ext'; simpa using hp
      simp [method, typeInfo, underlying, hi, hm, hpe, hf, follow, receiverAt, h2, Place.get, Sem.run_bind, Result.andThen_ok]
def Try.mt (t : TypeId) (s : String) : Option FuncId := if s = "musette/meter.is" then (if t = 146 then some 143 else if t = 148 then some 185 else if t = 149 then some 186 else none) else none
theorem Try.mtOK (t : TypeId) (s : String) (f : FuncId) (h : Try.mt t s = some f) (c : Value) (w : World) : (method (Try.prog.types.size + Made.depth) t c s).run Try.prog w = .ok (f, c) w := by
  have hn : Try.prog.types.size + Made.depth = (Try.prog.types.size + (Made.depth - 1)) + 1 := by
    have : 1 ≤ Made.depth := by decide
    omega
  rw [hn]
  unfold Try.mt at h
  split at h
  · rename_i hs; subst hs
    split at h
    · rename_i ht; subst ht; simp at h; subst h
      exact method_of (by kernel_rfl) Try.underlying146 _ c w
    · split at h
      · rename_i ht; subst ht; simp at h; subst h
        exact method_of (by kernel_rfl) Try.underlying148 _ c w
      · split at h
        · rename_i ht; subst ht; simp at h; subst h
          exact method_of (by kernel_rfl) Try.underlying149 _ c w
        · cases h
  · cases h
noncomputable def Try.E (N : Nat) (ord : Nat → List Nat × List (Nat × List Nat)) (fs : FuncId → List AV → Option AV) : Env := { P := Try.prog, ty := Try.ty, N := N, mt := Try.mt, ord := ord, fs := fs }
theorem Try.EN {N : Nat} {ord : Nat → List Nat × List (Nat × List Nat)} {fs : FuncId → List AV → Option AV} : (Try.E N ord fs).N = N := rfl
theorem Try.Emt {N : Nat} {ord : Nat → List Nat × List (Nat × List Nat)} {fs : FuncId → List AV → Option AV} : (Try.E N ord fs).mt = Try.mt := rfl
theorem Try.EP {N : Nat} {ord : Nat → List Nat × List (Nat × List Nat)} {fs : FuncId → List AV → Option AV} : (Try.E N ord fs).P = Try.prog := rfl
theorem Try.Ety {N : Nat} {ord : Nat → List Nat × List (Nat × List Nat)} {fs : FuncId → List AV → Option AV} : (Try.E N ord fs).ty = Try.ty := rfl
theorem Try.Eord {N : Nat} {ord : Nat → List Nat × List (Nat × List Nat)} {fs : FuncId → List AV → Option AV} : (Try.E N ord fs).ord = ord := rfl
theorem Try.Efs {N : Nat} {ord : Nat → List Nat × List (Nat × List Nat)} {fs : FuncId → List AV → Option AV} : (Try.E N ord fs).fs = fs := rfl
theorem Try.mt_count : Try.mt 146 "musette/meter.is" = some 143 := rfl
theorem Try.mt_beat : Try.mt 148 "musette/meter.is" = some 185 := rfl
theorem Try.mt_higher : Try.mt 149 "musette/meter.is" = some 186 := rfl
theorem Try.envOK (N : Nat) (ord : Nat → List Nat × List (Nat × List Nat)) (fs : FuncId → List AV → Option AV) (h : ∀ f xs v, fs f xs = some v → PureV Try.prog f xs v) : EnvOK (Try.E N ord fs) := ⟨Try.tysOK, Try.eqsOK, Try.mtOK, by kernel_rfl, h⟩
def fs0 : FuncId → List AV → Option AV := fun _ _ => none
theorem fs0_ok : ∀ f xs v, fs0 f xs = some v → PureV Try.prog f xs v := fun _ _ _ h => by cases h
theorem Callable.of {P : Program} {f : FuncId} {fn : Func} (h1 : P.funcs[f]? = some fn) (h2 : fn.body.isNone = false) (h3 : (fn.name == "runtime.NumGoroutine") = false) : Callable P f := by
  intro args w
  simp only [callFunc, Sem.run_bind, run_program, Result.andThen_ok, h1, h3, h2, Bool.false_eq_true, if_false, Sem.run_pure]
end Go.Proofs
