/- Texts of a proof: lemmas. -/
import Derived.Test.YtpodkdondibbfaaSp
import Derived.Test.YtpodkdondibbfaaEnv
import Derived.Test.YtpodkdondibbfaaMu3
import Derived.Test.YtpodkdondibbfaaOrd
import Derived.Test.YtpodkdondibbfaaKp
import Derived.Laws.StructEq
set_option linter.unusedSimpArgs false
set_option linter.unusedVariables false
namespace Go.Proofs
open Go Go.Mu

theorem agg_len5 {xs : List Int} (h : xs.length = 5) : ∃ x1 x2 x3 x4 x5, xs = [x1, x2, x3, x4, x5] := by
  match xs, h with
  | [x1, x2, x3, x4, x5], _ => exact ⟨x1, x2, x3, x4, x5, rfl⟩
theorem agg_len2 {xs : List Int} (h : xs.length = 2) : ∃ x1 x2, xs = [x1, x2] := by
  match xs, h with
  | [x1, x2], _ => exact ⟨x1, x2, rfl⟩
theorem Try.ck3r (e : Bool) (d : Nat) (x : Int) (w : World) : (Instr.checkKey e (d + 1) 3 (.int .i64 x)).run Try.prog w = .ok () w := by
  have hu : ∀ w, (underlying 3).run Try.prog w = .ok (.int .i64) w := fun w => run_underlying Try.underlying3 w
  simp only [Instr.checkKey, Sem.run_bind, hu, Result.andThen_ok, Sem.run_pure]
theorem Try.eq26r (d : Nat) (a1 a2 b1 b2 : Int) (w : World) : (Op.equalIn (d + 2) 26 (.agg #[.int .i64 a1, .int .i64 a2]) (.agg #[.int .i64 b1, .int .i64 b2])).run Try.prog w = .ok (a1 == b1 && (a2 == b2)) w := by
  rw [run_equalIn_struct w (d + 1) 26 _ _ (by simp only [Program.fieldsOf, Try.underlying26]) (by kernel_rfl)]
  simp only [Program.fieldsOf, Try.underlying26]
  have ha3 : ∀ w, (isAgg 3).run Try.prog w = .ok false w := fun w => run_agg (ty := Try.ty) Try.tysOK (by rw [Try.ty3]; rfl) w
  have hs3 : ∀ w, (Go.sizeOf 3).run Try.prog w = .ok 1 w := fun w => run_size (ty := Try.ty) Try.tysOK (by rw [Try.ty3]; simp) w
  by_cases h1 : a1 = b1 <;> by_cases h2 : a2 = b2 <;> simp [Op.eqFields, part, ha3, hs3, run_equalIn_int _ _ _ _ _ _ _ Try.underlying3, h1, h2]
theorem Try.ck26r (e : Bool) (d : Nat) (a1 a2 : Int) (w : World) : (Instr.checkKey e (d + 2) 26 (.agg #[.int .i64 a1, .int .i64 a2])).run Try.prog w = .ok () w := by
  have hu := fun w => run_underlying Try.underlying26 w
  have ha3 : ∀ w, (isAgg 3).run Try.prog w = .ok false w := fun w => run_agg (ty := Try.ty) Try.tysOK (by rw [Try.ty3]; rfl) w
  have hs3 : ∀ w, (Go.sizeOf 3).run Try.prog w = .ok 1 w := fun w => run_size (ty := Try.ty) Try.tysOK (by rw [Try.ty3]; simp) w
  rw [show d + 2 = (d + 1) + 1 from rfl, Instr.checkKey]
  simp [hu, Std.Legacy.Range.forIn_eq_forIn_range', Std.Legacy.Range.size, List.range', part, ha3, hs3, Try.ck3r]
theorem Try.eq87r (d : Nat) (a1 a2 a3 a4 a5 b1 b2 b3 b4 b5 : Int) (w : World) : (Op.equalIn (d + 3) 87 (.agg #[.int .i64 a1, .int .i64 a2, .int .i64 a3, .int .i64 a4, .int .i64 a5]) (.agg #[.int .i64 b1, .int .i64 b2, .int .i64 b3, .int .i64 b4, .int .i64 b5])).run Try.prog w = .ok (a1 == b1 && (a2 == b2 && (a3 == b3 && (a4 == b4 && (a5 == b5))))) w := by
  rw [run_equalIn_struct w (d + 2) 87 _ _ (by simp only [Program.fieldsOf, Try.underlying87]) (by kernel_rfl)]
  simp only [Program.fieldsOf, Try.underlying87]
  have ha3 : ∀ w, (isAgg 3).run Try.prog w = .ok false w := fun w => run_agg (ty := Try.ty) Try.tysOK (by rw [Try.ty3]; rfl) w
  have hs3 : ∀ w, (Go.sizeOf 3).run Try.prog w = .ok 1 w := fun w => run_size (ty := Try.ty) Try.tysOK (by rw [Try.ty3]; simp) w
  have ha26 : ∀ w, (isAgg 26).run Try.prog w = .ok true w := fun w => run_agg (ty := Try.ty) Try.tysOK (by rw [Try.ty26]; rfl) w
  have hs26 : ∀ w, (Go.sizeOf 26).run Try.prog w = .ok 2 w := fun w => run_size (ty := Try.ty) Try.tysOK (by rw [Try.ty26]; simp) w
  by_cases h1 : a1 = b1 <;> by_cases h2 : a2 = b2 <;> by_cases h3 : a3 = b3 <;> by_cases h4 : a4 = b4 <;> by_cases h5 : a5 = b5 <;> simp [Op.eqFields, part, ha3, ha26, hs3, hs26, run_equalIn_int _ _ _ _ _ _ _ Try.underlying3, Try.eq26r, h1, h2, h3, h4, h5]
theorem Try.ck87r (e : Bool) (d : Nat) (a1 a2 a3 a4 a5 : Int) (w : World) : (Instr.checkKey e (d + 3) 87 (.agg #[.int .i64 a1, .int .i64 a2, .int .i64 a3, .int .i64 a4, .int .i64 a5])).run Try.prog w = .ok () w := by
  have hu := fun w => run_underlying Try.underlying87 w
  have ha3 : ∀ w, (isAgg 3).run Try.prog w = .ok false w := fun w => run_agg (ty := Try.ty) Try.tysOK (by rw [Try.ty3]; rfl) w
  have hs3 : ∀ w, (Go.sizeOf 3).run Try.prog w = .ok 1 w := fun w => run_size (ty := Try.ty) Try.tysOK (by rw [Try.ty3]; simp) w
  have ha26 : ∀ w, (isAgg 26).run Try.prog w = .ok true w := fun w => run_agg (ty := Try.ty) Try.tysOK (by rw [Try.ty26]; rfl) w
  have hs26 : ∀ w, (Go.sizeOf 26).run Try.prog w = .ok 2 w := fun w => run_size (ty := Try.ty) Try.tysOK (by rw [Try.ty26]; simp) w
  rw [show d + 3 = (d + 2) + 1 from rfl, Instr.checkKey]
  simp [hu, Std.Legacy.Range.forIn_eq_forIn_range', Std.Legacy.Range.size, List.range', part, ha3, ha26, hs3, hs26, Try.ck3r, Try.ck26r]
theorem Try.eqsOK : EqsOK Try.prog Try.ty := by
  have heqn : ∀ t, (Try.ty t).eqn = true → t = 26 := by
    intro t ht
    unfold Try.ty tyOf at ht
    cases hf : Try.tyl.find? (fun p => p.1 == t) with
    | none => rw [hf] at ht; cases ht
    | some p =>
      have h1 := List.mem_of_find?_eq_some hf
      have h2 := List.find?_some hf
      simp at h2; subst h2
      rw [hf] at ht
      have h3 : (Try.tyl.all fun p => !p.2.eqn || (p.1 == 26)) = true := rfl
      have h4 := List.all_eq_true.1 h3 p h1
      have ht' : p.2.eqn = true := ht
      simpa [ht'] using h4
  have hkeyn : ∀ t, (Try.ty t).keyn = true → t = 87 := by
    intro t ht
    unfold Try.ty tyOf at ht
    cases hf : Try.tyl.find? (fun p => p.1 == t) with
    | none => rw [hf] at ht; cases ht
    | some p =>
      have h1 := List.mem_of_find?_eq_some hf
      have h2 := List.find?_some hf
      simp at h2; subst h2
      rw [hf] at ht
      have h3 : (Try.tyl.all fun p => !p.2.keyn || (p.1 == 87)) = true := rfl
      have h4 := List.all_eq_true.1 h3 p h1
      have ht' : p.2.keyn = true := ht
      simpa [ht'] using h4
  refine ⟨fun t ht => ?_, fun t ht xs ys w h1 h2 => ?_, fun t ht => ?_, fun t ht xs ys w h1 h2 => ?_, fun t ht e xs w h1 => ?_⟩
  · rcases heqn t ht with rfl <;> kernel_rfl
  · rcases heqn t ht with rfl
    · obtain ⟨u1, u2, rfl⟩ := agg_len2 h1
      obtain ⟨v1, v2, rfl⟩ := agg_len2 h2
      have := Try.eq26r 9998 u1 u2 v1 v2 w
      simpa [Op.equal, Op.maxDepth] using this
  · rcases hkeyn t ht with rfl <;> (intro h; cases h)
  · rcases hkeyn t ht with rfl
    · obtain ⟨u1, u2, u3, u4, u5, rfl⟩ := agg_len5 h1
      obtain ⟨v1, v2, v3, v4, v5, rfl⟩ := agg_len5 h2
      have := Try.eq87r 9997 u1 u2 u3 u4 u5 v1 v2 v3 v4 v5 w
      simpa [Op.equal, Op.maxDepth] using this
  · rcases hkeyn t ht with rfl
    · obtain ⟨u1, u2, u3, u4, u5, rfl⟩ := agg_len5 h1
      exact Try.ck87r e 9997 u1 u2 u3 u4 u5 w
theorem method_of {P : Program} {t : TypeId} {s : String} {f : FuncId} {fs : Array Field} (h1 : ((P.info? t).bind fun i => i.methods.find? fun m => m.name == s).map (fun m => (m.path.toList, m.func)) = some ([], some (f, false)))
    (h2 : P.underlying t = some (.struct fs)) (n : Nat) (c : Value) (w : World) : (method (n + 1) t c s).run P w = .ok (f, c) w := by
  cases hi : P.info? t with
  | none => rw [hi] at h1; cases h1
  | some i =>
    rw [hi] at h1
    simp only [Option.bind_some] at h1
    cases hm : i.methods.find? (fun m => m.name == s) with
    | none => rw [hm] at h1; cases h1
    | some m =>
      rw [hm] at h1
      simp only [Option.map_some, Option.some.injEq, Prod.mk.injEq] at h1
      obtain ⟨hp, hf⟩ := h1
      have hpe : m.path = #[] := by apply Array.ext'; simpa using hp
      simp [method, typeInfo, underlying, hi, hm, hpe, hf, follow, receiverAt, h2, Place.get, Sem.run_bind, Result.andThen_ok]
def Try.mt (t : TypeId) (s : String) : Option FuncId := if s = "musette/meter.is" then (if t = 125 then some 71 else if t = 127 then some 93 else if t = 128 then some 94 else none) else none
theorem Try.mtOK (t : TypeId) (s : String) (f : FuncId) (h : Try.mt t s = some f) (c : Value) (w : World) : (method (Try.prog.types.size + Made.depth) t c s).run Try.prog w = .ok (f, c) w := by
  have hn : Try.prog.types.size + Made.depth = (Try.prog.types.size + (Made.depth - 1)) + 1 := by
    have : 1 ≤ Made.depth := by decide
    omega
  rw [hn]
  unfold Try.mt at h
  split at h
  · rename_i hs; subst hs
    split at h
    · rename_i ht; subst ht; simp at h; subst h
      exact method_of (by kernel_rfl) Try.underlying125 _ c w
    · split at h
      · rename_i ht; subst ht; simp at h; subst h
        exact method_of (by kernel_rfl) Try.underlying127 _ c w
      · split at h
        · rename_i ht; subst ht; simp at h; subst h
          exact method_of (by kernel_rfl) Try.underlying128 _ c w
        · cases h
  · cases h
noncomputable def Try.E (N : Nat) (ord : Nat → List Nat × List (Nat × List Nat)) (fs : FuncId → List AV → Option AV) : Env := { P := Try.prog, ty := Try.ty, N := N, mt := Try.mt, ord := ord, fs := fs }
theorem Try.EN {N : Nat} {ord : Nat → List Nat × List (Nat × List Nat)} {fs : FuncId → List AV → Option AV} : (Try.E N ord fs).N = N := rfl
theorem Try.Emt {N : Nat} {ord : Nat → List Nat × List (Nat × List Nat)} {fs : FuncId → List AV → Option AV} : (Try.E N ord fs).mt = Try.mt := rfl
theorem Try.EP {N : Nat} {ord : Nat → List Nat × List (Nat × List Nat)} {fs : FuncId → List AV → Option AV} : (Try.E N ord fs).P = Try.prog := rfl
theorem Try.Ety {N : Nat} {ord : Nat → List Nat × List (Nat × List Nat)} {fs : FuncId → List AV → Option AV} : (Try.E N ord fs).ty = Try.ty := rfl
theorem Try.Eord {N : Nat} {ord : Nat → List Nat × List (Nat × List Nat)} {fs : FuncId → List AV → Option AV} : (Try.E N ord fs).ord = ord := rfl
theorem Try.Efs {N : Nat} {ord : Nat → List Nat × List (Nat × List Nat)} {fs : FuncId → List AV → Option AV} : (Try.E N ord fs).fs = fs := rfl
theorem Try.mt_count : Try.mt 125 "musette/meter.is" = some 71 := rfl
theorem Try.mt_beat : Try.mt 127 "musette/meter.is" = some 93 := rfl
theorem Try.mt_higher : Try.mt 128 "musette/meter.is" = some 94 := rfl
theorem Try.envOK (N : Nat) (ord : Nat → List Nat × List (Nat × List Nat)) (fs : FuncId → List AV → Option AV) (h : ∀ f xs v, fs f xs = some v → PureV Try.prog f xs v) : EnvOK (Try.E N ord fs) := ⟨Try.tysOK, Try.eqsOK, Try.mtOK, by kernel_rfl, h⟩
def fs0 : FuncId → List AV → Option AV := fun _ _ => none
theorem fs0_ok : ∀ f xs v, fs0 f xs = some v → PureV Try.prog f xs v := fun _ _ _ h => by cases h
theorem Callable.of {P : Program} {f : FuncId} {fn : Func} (h1 : P.funcs[f]? = some fn) (h2 : fn.body.isNone = false) (h3 : (fn.name == "runtime.NumGoroutine") = false) : Callable P f := by
  intro args w
  simp only [callFunc, Sem.run_bind, run_program, Result.andThen_ok, h1, h3, h2, Bool.false_eq_true, if_false, Sem.run_pure]
end Go.Proofs
