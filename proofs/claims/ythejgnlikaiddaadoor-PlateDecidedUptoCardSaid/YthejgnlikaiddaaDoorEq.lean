/- Texts of a proof: lemmas. -/
import Derived.Test.YthejgnlikaiddaaDoorSp
import Derived.Test.YthejgnlikaiddaaDoorEnv
import Derived.Test.YthejgnlikaiddaaDoorMu3
import Derived.Test.YthejgnlikaiddaaDoorOrd
import Derived.Test.YthejgnlikaiddaaDoorKp
import Derived.Laws.StructEq
set_option linter.unusedSimpArgs false
set_option linter.unusedVariables false
namespace Go.Proofs
open Go Go.Mu

theorem agg_two {xs : List Int} (h : xs.length = 2) : ∃ a b, xs = [a, b] := by
  match xs, h with
  | [a, b], _ => exact ⟨a, b, rfl⟩
theorem agg_six {xs : List Int} (h : xs.length = 6) : ∃ a b c d e f, xs = [a, b, c, d, e, f] := by
  match xs, h with
  | [a, b, c, d, e, f], _ => exact ⟨a, b, c, d, e, f, rfl⟩

theorem Tryd.eq57r (d : Nat) (a b c e : Int) (w : World) : (Op.equalIn (d + 2) 57 (.agg #[.int .i64 a, .int .i64 b]) (.agg #[.int .i64 c, .int .i64 e])).run Tryd.prog w = .ok (a == c && b == e) w := by
  rw [run_equalIn_struct w (d + 1) 57 _ _ (by simp only [Program.fieldsOf, Tryd.underlying57]) (by kernel_rfl)]
  have hf : (Tryd.prog.fieldsOf 57).toList = [⟨ "Min", 3, 0, false, "", "", 0⟩, ⟨ "Max", 3, 1, false, "", "", 8⟩] := by simp only [Program.fieldsOf, Tryd.underlying57]
  rw [hf]
  have ha : ∀ w, (isAgg 3).run Tryd.prog w = .ok false w := fun w => run_agg (ty := Tryd.ty) Tryd.tysOK (by rw [Tryd.ty3]; rfl) w
  by_cases h1 : a = c <;> by_cases h2 : b = e <;> simp [Op.eqFields, part, ha, run_equalIn_int _ _ _ _ _ _ _ Tryd.underlying3, h1, h2]
theorem Tryd.eqsOK : EqsOK Tryd.prog Tryd.ty := by
  have hall : ∀ t, (Tryd.ty t).eqn = true → t = 57 := by
    intro t ht
    unfold Tryd.ty tyOf at ht
    cases hf : Tryd.tyl.find? (fun p => p.1 == t) with
    | none => rw [hf] at ht; cases ht
    | some p =>
      have h1 := List.mem_of_find?_eq_some hf
      have h2 := List.find?_some hf
      simp at h2; subst h2
      rw [hf] at ht
      have h3 : (Tryd.tyl.all fun p => !p.2.eqn || (p.1 == 57)) = true := rfl
      have h4 := List.all_eq_true.1 h3 p h1
      have ht' : p.2.eqn = true := ht
      simpa [ht'] using h4
  refine ⟨fun t ht => ?_, fun t ht xs ys w h1 h2 => ?_⟩
  · rcases hall t ht with rfl; kernel_rfl
  · rcases hall t ht with rfl
    obtain ⟨a, b, rfl⟩ := agg_two h1
    obtain ⟨c, d, rfl⟩ := agg_two h2
    have := Tryd.eq57r 9998 a b c d w
    simpa [Op.equal, Op.maxDepth] using this
theorem method_of {P : Program} {t : TypeId} {s : String} {f : FuncId} {fs : Array Field} (h1 : ((P.info? t).bind fun i => i.methods.find? fun m => m.name == s).map (fun m => (m.path.toList, m.func)) = some ([], some (f, false)))
    (h2 : P.underlying t = some (.struct fs)) (n : Nat) (c : Value) (w : World) : (method (n + 1) t c s).run P w = .ok (f, c) w := by
  cases hi : P.info? t with
  | none => rw [hi] at h1; cases h1
  | some i =>
    rw [hi] at h1
    simp only [Option.bind_some] at h1
    cases hm : i.methods.find? (fun m => m.name == s) with
    | none => rw [hm] at h1; cases h1
    | some m =>
      rw [hm] at h1
      simp only [Option.map_some, Option.some.injEq, Prod.mk.injEq] at h1
      obtain ⟨hp, hf⟩ := h1
      have hpe : m.path = #[] := by apply Array.ext'; simpa using hp
      simp [method, typeInfo, underlying, hi, hm, hpe, hf, follow, receiverAt, h2, Place.get, Sem.run_bind, Result.andThen_ok]
def Tryd.mt (t : TypeId) (s : String) : Option FuncId := none
theorem Tryd.mtOK (t : TypeId) (s : String) (f : FuncId) (h : Tryd.mt t s = some f) (c : Value) (w : World) : (method (Tryd.prog.types.size + Made.depth) t c s).run Tryd.prog w = .ok (f, c) w := by cases h
noncomputable def Tryd.E (N : Nat) (ord : Nat → List Nat × List (Nat × List Nat)) (fs : FuncId → List AV → Option AV) : Env := { P := Tryd.prog, ty := Tryd.ty, N := N, mt := Tryd.mt, ord := ord, fs := fs }
theorem Tryd.EN {N : Nat} {ord : Nat → List Nat × List (Nat × List Nat)} {fs : FuncId → List AV → Option AV} : (Tryd.E N ord fs).N = N := rfl
theorem Tryd.Emt {N : Nat} {ord : Nat → List Nat × List (Nat × List Nat)} {fs : FuncId → List AV → Option AV} : (Tryd.E N ord fs).mt = Tryd.mt := rfl
theorem Tryd.EP {N : Nat} {ord : Nat → List Nat × List (Nat × List Nat)} {fs : FuncId → List AV → Option AV} : (Tryd.E N ord fs).P = Tryd.prog := rfl
theorem Tryd.Ety {N : Nat} {ord : Nat → List Nat × List (Nat × List Nat)} {fs : FuncId → List AV → Option AV} : (Tryd.E N ord fs).ty = Tryd.ty := rfl
theorem Tryd.Eord {N : Nat} {ord : Nat → List Nat × List (Nat × List Nat)} {fs : FuncId → List AV → Option AV} : (Tryd.E N ord fs).ord = ord := rfl
theorem Tryd.Efs {N : Nat} {ord : Nat → List Nat × List (Nat × List Nat)} {fs : FuncId → List AV → Option AV} : (Tryd.E N ord fs).fs = fs := rfl
theorem Tryd.envOK (N : Nat) (ord : Nat → List Nat × List (Nat × List Nat)) (fs : FuncId → List AV → Option AV) (h : ∀ f xs v, fs f xs = some v → PureV Tryd.prog f xs v) : EnvOK (Tryd.E N ord fs) := ⟨Tryd.tysOK, Tryd.eqsOK, Tryd.mtOK, by kernel_rfl, h⟩
def fs0 : FuncId → List AV → Option AV := fun _ _ => none
theorem fs0_ok : ∀ f xs v, fs0 f xs = some v → PureV Tryd.prog f xs v := fun _ _ _ h => by cases h
theorem Callable.of {P : Program} {f : FuncId} {fn : Func} (h1 : P.funcs[f]? = some fn) (h2 : fn.body.isNone = false) (h3 : (fn.name == "runtime.NumGoroutine") = false) : Callable P f := by
  intro args w
  simp only [callFunc, Sem.run_bind, run_program, Result.andThen_ok, h1, h3, h2, Bool.false_eq_true, if_false, Sem.run_pure]
end Go.Proofs
