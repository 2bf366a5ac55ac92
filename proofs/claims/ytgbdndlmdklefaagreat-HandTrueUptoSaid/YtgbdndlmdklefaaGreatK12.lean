/- Part FS of the abstract layer: functions that compute alone, told by what their arguments read as. -/
import Derived.Test.YtgbdndlmdklefaaGreatK11
set_option linter.unusedSimpArgs false
set_option linter.unusedVariables false
namespace Go.Mu
open Go Go.Conc
theorem VRs.weaken {K : Kr} {n : Nat} : ∀ {l l' : List AV} {cs : List Value}, wkL wk l l' → VRs K n l cs → VRs K n l' cs
 | l, l', cs, h, hv => by
  obtain ⟨h1, h2⟩ := wkL_len h
  refine ⟨by rw [← h1]; exact hv.1, fun i a b => ?_⟩
  have hi : i < l.length := by omega
  exact wk_weak (h2 i hi a) K n _ (hv.2 i hi b)
theorem PureV.weaken {P : Program} {S : MC P} {f : FuncId} {l l' : List AV} {v : AV} (h : wkL wk l l') (hp : PureV S f l' v) : PureV S f l v := fun σ Q hq => by
 have h0 := hp σ Q hq
 exact ⟨h0.1, fun M hM K w V cargs kd cs hR hO hV => h0.2 M hM K w V cargs kd cs hR hO (hV.weaken h)⟩
theorem ACalls.weaken {P : Program} {S : MC P} {f : FuncId} {l l' : List AV} {σ : List AObj} {Q : AV → List AObj → Prop} (h : wkL wk l l') (h0 : ACalls S f l' σ Q) : ACalls S f l σ Q :=
 ⟨h0.1, fun M hM K w V cargs kd cs hR hO hV => h0.2 M hM K w V cargs kd cs hR hO (hV.weaken h)⟩
theorem cells_bool (b : Bool) : (AV.bool b).cells = [AV.bool b] := rfl
theorem flat_bool (b : Bool) : (AV.bool b).flat = true := rfl
theorem cells_int (k : IntKind) (n : Int) : (AV.int k n).cells = [AV.int k n] := rfl
theorem flat_int (k : IntKind) (n : Int) : (AV.int k n).flat = true := rfl
theorem cells_str (s : ByteArray) : (AV.str s).cells = [AV.str s] := rfl
theorem flat_str (s : ByteArray) : (AV.str s).flat = true := rfl
theorem cells_ptr (r o : Nat) : (AV.ptr r o).cells = [AV.ptr r o] := rfl
theorem flat_ptr (r o : Nat) : (AV.ptr r o).flat = true := rfl
theorem cells_nilptr  : (AV.nilptr).cells = [AV.nilptr] := rfl
theorem flat_nilptr  : (AV.nilptr).flat = true := rfl
theorem cells_eptr (cs : List AV) (o : Nat) : (AV.eptr cs o).cells = [AV.eptr cs o] := rfl
theorem flat_eptr (cs : List AV) (o : Nat) : (AV.eptr cs o).flat = true := rfl
theorem cells_list (t : Tok) (z : Nat) (xs : List AV) : (AV.list t z xs).cells = [AV.list t z xs] := rfl
theorem flat_list (t : Tok) (z : Nat) (xs : List AV) : (AV.list t z xs).flat = true := rfl
theorem cells_arr (r o l : Nat) : (AV.arr r o l).cells = [AV.arr r o l] := rfl
theorem flat_arr (r o l : Nat) : (AV.arr r o l).flat = true := rfl
theorem cells_vec (r l : Nat) : (AV.vec r l).cells = [AV.vec r l] := rfl
theorem flat_vec (r l : Nat) : (AV.vec r l).flat = true := rfl
theorem cells_vptr (r m s i o : Nat) : (AV.vptr r m s i o).cells = [AV.vptr r m s i o] := rfl
theorem flat_vptr (r m s i o : Nat) : (AV.vptr r m s i o).flat = true := rfl
theorem cells_map (r : Nat) : (AV.map r).cells = [AV.map r] := rfl
theorem flat_map (r : Nat) : (AV.map r).flat = true := rfl
theorem cells_nilmap  : (AV.nilmap).cells = [AV.nilmap] := rfl
theorem flat_nilmap  : (AV.nilmap).flat = true := rfl
theorem cells_fn (f : Fn) (p q : List AV) : (AV.fn f p q).cells = [AV.fn f p q] := rfl
theorem flat_fn (f : Fn) (p q : List AV) : (AV.fn f p q).flat = true := rfl
theorem cells_yield (r : Nat) : (AV.yield r).cells = [AV.yield r] := rfl
theorem flat_yield (r : Nat) : (AV.yield r).flat = true := rfl
theorem cells_nilfn  : (AV.nilfn).cells = [AV.nilfn] := rfl
theorem flat_nilfn  : (AV.nilfn).flat = true := rfl
theorem cells_iface (t : TypeId) (v : AV) : (AV.iface t v).cells = [AV.iface t v] := rfl
theorem flat_iface (t : TypeId) (v : AV) : (AV.iface t v).flat = true := rfl
theorem cells_niliface  : (AV.niliface).cells = [AV.niliface] := rfl
theorem flat_niliface  : (AV.niliface).flat = true := rfl
theorem cells_agg (cs : List AV) : (AV.agg cs).cells = cs := rfl
theorem flat_agg (cs : List AV) : (AV.agg cs).flat = true := rfl
theorem appB_ff {e : TI} {σ : List AObj} {t : Tok} {sz : Nat} {xs : List AV} {sz' : Nat} {ys : List AV} : appB false e σ t sz xs sz' ys = appA e σ t sz xs sz' ys := rfl
theorem appB_nil {e : TI} {σ : List AObj} {sz : Nat} {sz' : Nat} {ys : List AV} : appB true e σ .full sz [] sz' ys = appF e σ sz' ys := rfl
theorem appB_cons {e : TI} {σ : List AObj} {sz : Nat} {x : AV} {xs : List AV} {sz' : Nat} {ys : List AV} : appB true e σ .full sz (x :: xs) sz' ys = appA e σ .full sz (x :: xs) sz' ys := rfl
theorem appB_own {e : TI} {σ : List AObj} {id : Nat} {sz : Nat} {xs : List AV} {sz' : Nat} {ys : List AV} : appB true e σ (.own id) sz xs sz' ys = appA e σ (.own id) sz xs sz' ys := rfl
structure Ty (α : Type) where
 dec : AV → Option α
 av : α → AV
 inv : ∀ {a x}, dec a = some x → wk a (av x)
def decs {α : Type} (d : AV → Option α) : List AV → Option (List α)
 | [] => some []
 | x :: xs => match d x, decs d xs with
  | some a, some l => some (a :: l)
  | _, _ => none
theorem decs_map {α : Type} {d : AV → Option α} {f : α → AV} (h : ∀ x, d (f x) = some x) : ∀ l : List α, decs d (l.map f) = some l
 | [] => rfl
 | x :: l => by simp only [List.map_cons, decs, h, decs_map h l]
theorem decs_inv {α : Type} {d : AV → Option α} {f : α → AV} (h : ∀ a x, d a = some x → a = f x) : ∀ {xs : List AV} {l : List α}, decs d xs = some l → xs = l.map f
 | [], l, e => by simp [decs] at e; subst e; rfl
 | x :: xs, l, e => by
  simp only [decs] at e
  split at e
  ·rename_i a l' h1 h2
   simp at e; subst e
   rw [List.map_cons, ← h _ _ h1, ← decs_inv h h2]
  ·cases e
def decL {α : Type} (n : Nat) (d : AV → Option α) : AV → Option (List α)
 | .list _ sz xs => if sz = n ∨ xs = [] then decs d xs else none
 | _ => none
theorem decL_inv {α : Type} {n : Nat} {d : AV → Option α} {f : α → AV} (h : ∀ a x, d a = some x → a = f x) {a : AV} {l : List α} (e : decL n d a = some l) : wk0 a (.list .no n (l.map f)) := by
 unfold decL at e
 split at e
 ·split at e
  ·rename_i t sz xs hs
   have := decs_inv h e
   subst this
   refine ⟨rfl, ?_, .inl rfl⟩
   rcases hs with h | h
   ·exact .inl h
   ·exact .inr h
  ·cases e
 ·cases e
theorem decL_inv' {α : Type} {n : Nat} {d : AV → Option α} {f : α → AV} (h : ∀ a x, d a = some x → a = f x) {a : AV} {l : List α} (e : decL n d a = some l) : wk a (.list .no n (l.map f)) := by
 have := decL_inv h e
 unfold decL at e
 split at e
 ·exact this
 ·cases e
theorem decL_self {α : Type} {n : Nat} {d : AV → Option α} {f : α → AV} (h : ∀ x, d (f x) = some x) {t : Tok} {l : List α} : decL n d (.list t n (l.map f)) = some l := by
 simp [decL, decs_map h]
theorem decL_cons {α : Type} {n : Nat} {d : AV → Option α} {t : Tok} {x : AV} {xs : List AV} : decL n d (.list t n (x :: xs)) = decs d (x :: xs) := by simp [decL]
theorem decs_cons {α : Type} {d : AV → Option α} {x : AV} {xs : List AV} : decs d (x :: xs) = (d x).bind fun a => (decs d xs).bind fun l => some (a :: l) := by
 simp only [decs]; cases d x <;> cases decs d xs <;> rfl
theorem decs_nil {α : Type} {d : AV → Option α} : decs d [] = some [] := rfl
def decI : AV → Option Int
 | .int .i64 n => some n
 | _ => none
theorem decI_inv (a : AV) (x : Int) (h : decI a = some x) : a = .int .i64 x := by
 unfold decI at h; split at h
 ·simp at h; subst h; rfl
 ·cases h
theorem decI_int {n : Int} : decI (.int .i64 n) = some n := rfl
def decB : AV → Option Bool
 | .bool n => some n
 | _ => none
theorem decB_inv (a : AV) (x : Bool) (h : decB a = some x) : a = .bool x := by
 unfold decB at h; split at h
 ·simp at h; subst h; rfl
 ·cases h
theorem decB_bool {n : Bool} : decB (.bool n) = some n := rfl
def tI : Ty Int := ⟨decI, .int .i64, fun {a x} h => by rw [decI_inv a x h]; rfl⟩
def tB : Ty Bool := ⟨decB, .bool, fun {a x} h => by rw [decB_inv a x h]; rfl⟩
def tIs : Ty (List Int) := ⟨decL 1 decI, fun l => .list .no 1 (l.map (.int .i64)), decL_inv' decI_inv⟩
theorem tI_dec {a : AV} : tI.dec a = decI a := rfl
theorem tB_dec {a : AV} : tB.dec a = decB a := rfl
theorem tIs_dec {a : AV} : tIs.dec a = decL 1 decI a := rfl
theorem decL_ints {t : Tok} {l : List Int} : decL 1 decI (.list t 1 (l.map (.int .i64))) = some l := decL_self (f := AV.int .i64) fun _ => rfl
variable {α β γ δ ε : Type} {P : Program} {S : MC P} {n : FuncId}
def spec1 (A : Ty α) (f : α → Option AV) : List AV → Option AV
 | [a] => (A.dec a).bind f
 | _ => none
def spec2 (A : Ty α) (B : Ty β) (f : α → β → Option AV) : List AV → Option AV
 | [a, b] => (A.dec a).bind fun x => (B.dec b).bind fun y => f x y
 | _ => none
def spec3 (A : Ty α) (B : Ty β) (C : Ty γ) (f : α → β → γ → Option AV) : List AV → Option AV
 | [a, b, c] => (A.dec a).bind fun x => (B.dec b).bind fun y => (C.dec c).bind fun z => f x y z
 | _ => none
theorem spec1_ok {A : Ty α} {f : α → Option AV} (h : ∀ x v, f x = some v → PureV S n [A.av x] v) : ∀ xs v, spec1 A f xs = some v → PureV S n xs v := by
 intro xs v e
 unfold spec1 at e
 split at e
 ·rename_i a
  obtain ⟨x, h1, h2⟩ := Option.bind_eq_some_iff.1 e
  exact PureV.weaken (l' := [A.av x]) ⟨A.inv h1, trivial⟩ (h x v h2)
 ·cases e
theorem spec2_ok {A : Ty α} {B : Ty β} {f : α → β → Option AV} (h : ∀ x y v, f x y = some v → PureV S n [A.av x, B.av y] v) : ∀ xs v, spec2 A B f xs = some v → PureV S n xs v := by
 intro xs v e
 unfold spec2 at e
 split at e
 ·obtain ⟨x, h1, e⟩ := Option.bind_eq_some_iff.1 e
  obtain ⟨y, h2, e⟩ := Option.bind_eq_some_iff.1 e
  exact PureV.weaken (l' := [A.av x, B.av y]) ⟨A.inv h1, B.inv h2, trivial⟩ (h x y v e)
 ·cases e
theorem spec3_ok {A : Ty α} {B : Ty β} {C : Ty γ} {f : α → β → γ → Option AV} (h : ∀ x y z v, f x y z = some v → PureV S n [A.av x, B.av y, C.av z] v) : ∀ xs v, spec3 A B C f xs = some v → PureV S n xs v := by
 intro xs v e
 unfold spec3 at e
 split at e
 ·obtain ⟨x, h1, e⟩ := Option.bind_eq_some_iff.1 e
  obtain ⟨y, h2, e⟩ := Option.bind_eq_some_iff.1 e
  obtain ⟨z, h3, e⟩ := Option.bind_eq_some_iff.1 e
  exact PureV.weaken (l' := [A.av x, B.av y, C.av z]) ⟨A.inv h1, B.inv h2, C.inv h3, trivial⟩ (h x y z v e)
 ·cases e
theorem leT {a b : Int} (h : a ≤ b) : (a ≤ b) = True := eq_true h
theorem leF {a b : Int} (h : ¬ a ≤ b) : (a ≤ b) = False := eq_false h
theorem ltT {a b : Int} (h : a < b) : (a < b) = True := eq_true h
theorem ltF {a b : Int} (h : ¬ a < b) : (a < b) = False := eq_false h
theorem eqT {a b : Int} (h : a = b) : (a = b) = True := eq_true h
theorem eqF {a b : Int} (h : ¬ a = b) : (a = b) = False := eq_false h
theorem nleT {a b : Nat} (h : a ≤ b) : (a ≤ b) = True := eq_true h
theorem nltT {a b : Nat} (h : a < b) : (a < b) = True := eq_true h
theorem wrapI {n : Int} (h1 : -9223372036854775808 ≤ n) (h2 : n < 9223372036854775808) : IntKind.i64.wrap n = n := wrap64 h1 h2
def tg (t : List Int) (i : Int) : Int := t.getD i.toNat 0
theorem tget {t : List Int} {x : Int} (h0 : 0 ≤ x) (h1 : x < t.length) : (t.map (AV.int .i64))[x.toNat]? = some (.int .i64 (tg t x)) := by
 have : x.toNat < t.length := by omega
 simp [tg, List.getElem?_eq_getElem this, List.getD]
theorem idx_tg {t : List Int} {x : Int} (h0 : 0 ≤ x) (h1 : x < t.length) : idx (t.map (AV.int .i64)) x = some (.int .i64 (tg t x)) := by
 unfold idx; rw [if_pos h0]; exact tget h0 h1
theorem idx_nat {α : Type} {f : α → AV} {l : List α} {i : Nat} (h : i < l.length) : idx (l.map f) (i : Int) = some (f l[i]) := idx_map h
theorem neqF {a b : Nat} (h : ¬ a = b) : (a = b) = False := eq_false h
theorem nltF {a b : Nat} (h : ¬ a < b) : (a < b) = False := eq_false h
theorem neqT {a b : Nat} (h : a = b) : (a = b) = True := eq_true h
theorem take_map {α : Type} {f : α → AV} {t : List α} {n : Nat} (h : t.length ≤ n) : (t.map f).take n = t.map f := List.take_of_length_le (by simpa using h)
def setI (t : List Int) (i x : Int) : List Int := t.set i.toNat x
theorem putAt_cons {off : Nat} {n : AV} {new : List AV} {c : AV} {cs : List AV} : putAt off (n :: new) (c :: cs) = (c :: cs).take off ++ (n :: new) ++ (c :: cs).drop (off + (n :: new).length) := rfl
theorem putAt_map3 {t : List Int} {a b c : AV} (h : t.length = 3) : putAt 0 (t.map (AV.int .i64)) [a, b, c] = t.map (AV.int .i64) := by
 simp [putAt, h]
theorem putAt_set {t : List Int} {i x : Int} (h0 : 0 ≤ i) (h : i < t.length) : putAt i.toNat [AV.int .i64 x] (t.map (AV.int .i64)) = (setI t i x).map (AV.int .i64) := by
 have hi : i.toNat < t.length := by omega
 have hi' : i.toNat < (t.map (AV.int .i64)).length := by simpa using hi
 have e : ∀ (l : List AV) (v : AV), i.toNat < l.length → putAt i.toNat [v] l = l.set i.toNat v := fun l v hl => by
  simp only [putAt, List.length_cons, List.length_nil]
  rw [List.set_eq_take_append_cons_drop, if_pos hl]; simp
 rw [e _ _ hi']; unfold setI; rw [List.map_set]
theorem someIf {c : Prop} [Decidable c] {a v : AV} (h : (if c then some a else none) = some v) : c ∧ a = v := by
 split at h
 ·rename_i hc; simp at h; exact ⟨hc, h⟩
 ·cases h
def fIdx {α : Type} (k : Int) : List (Int × α) → Nat → Option (Nat × α)
 | [], _ => none
 | (k', v) :: m, i => if k = k' then some (i, v) else fIdx k m (i + 1)
def mset {α : Type} (m : List (Int × α)) (k : Int) (v : α) : List (Int × α) := match fIdx k m 0 with
 | some (i, _) => m.set i (k, v)
 | none => m ++ [(k, v)]
def mget {α : Type} (m : List (Int × α)) (k : Int) : Option α := (fIdx k m 0).map (·.2)
theorem findA_map {α : Type} (f : α → AV) (k : Int) : ∀ (m : List (Int × α)) (i : Nat), findA (.int .i64 k) (m.map fun p => (AV.int .i64 p.1, f p.2)) i = some ((fIdx k m i).map fun q => (q.1, f q.2))
 | [], i => rfl
 | (k', v) :: m, i => by
  simp only [List.map_cons, findA, keyEq, if_true, fIdx]
  by_cases h : k = k'
  ·subst h; simp
  ·have : (k == k') = false := by simpa using h
   rw [this, if_neg h]
   exact findA_map f k m (i + 1)
theorem updR_map {α : Type} {f : α → AV} {r : Nat} {m : List (Int × α)} {k : Int} {v : α} {σ : List AObj} :
  updR r (m.map fun p => (AV.int .i64 p.1, f p.2)) (.int .i64 k) (f v) σ (findA (.int .i64 k) (m.map fun p => (AV.int .i64 p.1, f p.2)) 0) = some (.tup [], hset σ r (.map ((mset m k v).map fun p => (AV.int .i64 p.1, f p.2)))) := by
 rw [findA_map]
 unfold mset
 cases fIdx k m 0 with
 | none => simp [updR]
 | some q => simp [updR, List.map_set]
theorem lookR_map {α : Type} {f : α → AV} {m : List (Int × α)} {k : Int} {ok : Bool} {z : AV} {σ : List AObj} :
  lookR ok z σ (findA (.int .i64 k) (m.map fun p => (AV.int .i64 p.1, f p.2)) 0) = some (match mget m k with
   | some v => if ok then .tup [f v, .bool true] else f v
   | none => if ok then .tup [z, .bool false] else z, σ) := by
 rw [findA_map]
 unfold mget
 cases fIdx k m 0 with
 | none => rfl
 | some q => rfl
def mapB (m : List (Int × Bool)) : List (AV × AV) := m.map fun p => (AV.int .i64 p.1, AV.bool p.2)
theorem lookB {m : List (Int × Bool)} {k : Int} {σ : List AObj} : lookR false (.bool false) σ (findA (.int .i64 k) (mapB m) 0) = some (.bool ((mget m k).getD false), σ) := by
 have := lookR_map (f := AV.bool) (m := m) (k := k) (ok := false) (z := .bool false) (σ := σ)
 unfold mapB; rw [this]
 cases mget m k <;> rfl
theorem updB {m : List (Int × Bool)} {k : Int} {v : Bool} {r : Nat} {σ : List AObj} : updR r (mapB m) (.int .i64 k) (.bool v) σ (findA (.int .i64 k) (mapB m) 0) = some (.tup [], hset σ r (.map (mapB (mset m k v)))) := updR_map (f := AV.bool)
end Go.Mu
