/- Part FS of the abstract layer: functions that compute alone, told by what their arguments read as. -/
import Derived.Test.YtbkjffpembflcaaMu2
set_option linter.unusedSimpArgs false
set_option linter.unusedVariables false
namespace Go.Mu
open Go

theorem VRs.weaken {K : Kr} {n : Nat} : ∀ {l l' : List AV} {cs : List Value}, wkL wk l l' → VRs K n l cs → VRs K n l' cs
  | l, l', cs, h, hv => by
    obtain ⟨h1, h2⟩ := wkL_len h
    refine ⟨by rw [← h1]; exact hv.1, fun i a b => ?_⟩
    have hi : i < l.length := by omega
    exact wk_weak (h2 i hi a) K n _ (hv.2 i hi b)
theorem PureV.weaken {P : Program} {f : FuncId} {l l' : List AV} {v : AV} (h : wkL wk l l') (hp : PureV P f l' v) : PureV P f l v := fun σ Q hq => by
  have h0 := hp σ Q hq
  exact ⟨h0.1, fun K w cargs hR hV => h0.2 K w cargs hR (hV.weaken h)⟩
theorem ACalls.weaken {P : Program} {f : FuncId} {l l' : List AV} {σ : List AObj} {Q : AV → List AObj → Prop} (h : wkL wk l l') (h0 : ACalls P f l' σ Q) : ACalls P f l σ Q :=
  ⟨h0.1, fun K w cargs hR hV => h0.2 K w cargs hR (hV.weaken h)⟩

theorem cells_bool (b : Bool) : (AV.bool b).cells = [AV.bool b] := rfl
theorem flat_bool (b : Bool) : (AV.bool b).flat = true := rfl
theorem cells_int (k : IntKind) (n : Int) : (AV.int k n).cells = [AV.int k n] := rfl
theorem flat_int (k : IntKind) (n : Int) : (AV.int k n).flat = true := rfl
theorem cells_str (s : ByteArray) : (AV.str s).cells = [AV.str s] := rfl
theorem flat_str (s : ByteArray) : (AV.str s).flat = true := rfl
theorem cells_ptr (r o : Nat) : (AV.ptr r o).cells = [AV.ptr r o] := rfl
theorem flat_ptr (r o : Nat) : (AV.ptr r o).flat = true := rfl
theorem cells_nilptr  : (AV.nilptr).cells = [AV.nilptr] := rfl
theorem flat_nilptr  : (AV.nilptr).flat = true := rfl
theorem cells_eptr (cs : List AV) (o : Nat) : (AV.eptr cs o).cells = [AV.eptr cs o] := rfl
theorem flat_eptr (cs : List AV) (o : Nat) : (AV.eptr cs o).flat = true := rfl
theorem cells_list (t : Tok) (z : Nat) (xs : List AV) : (AV.list t z xs).cells = [AV.list t z xs] := rfl
theorem flat_list (t : Tok) (z : Nat) (xs : List AV) : (AV.list t z xs).flat = true := rfl
theorem cells_arr (r o l : Nat) : (AV.arr r o l).cells = [AV.arr r o l] := rfl
theorem flat_arr (r o l : Nat) : (AV.arr r o l).flat = true := rfl
theorem cells_map (r : Nat) : (AV.map r).cells = [AV.map r] := rfl
theorem flat_map (r : Nat) : (AV.map r).flat = true := rfl
theorem cells_nilmap  : (AV.nilmap).cells = [AV.nilmap] := rfl
theorem flat_nilmap  : (AV.nilmap).flat = true := rfl
theorem cells_fn (f : Fn) (p q : List AV) : (AV.fn f p q).cells = [AV.fn f p q] := rfl
theorem flat_fn (f : Fn) (p q : List AV) : (AV.fn f p q).flat = true := rfl
theorem cells_yield (r : Nat) : (AV.yield r).cells = [AV.yield r] := rfl
theorem flat_yield (r : Nat) : (AV.yield r).flat = true := rfl
theorem cells_nilfn  : (AV.nilfn).cells = [AV.nilfn] := rfl
theorem flat_nilfn  : (AV.nilfn).flat = true := rfl
theorem cells_iface (t : TypeId) (v : AV) : (AV.iface t v).cells = [AV.iface t v] := rfl
theorem flat_iface (t : TypeId) (v : AV) : (AV.iface t v).flat = true := rfl
theorem cells_niliface  : (AV.niliface).cells = [AV.niliface] := rfl
theorem flat_niliface  : (AV.niliface).flat = true := rfl
theorem cells_agg (cs : List AV) : (AV.agg cs).cells = cs := rfl
theorem flat_agg (cs : List AV) : (AV.agg cs).flat = true := rfl
/-- How data read. -/
structure Ty (α : Type) where
  dec : AV → Option α
  av : α → AV
  inv : ∀ {a x}, dec a = some x → wk a (av x)

def decs {α : Type} (d : AV → Option α) : List AV → Option (List α)
  | [] => some []
  | x :: xs => match d x, decs d xs with
    | some a, some l => some (a :: l)
    | _, _ => none
theorem decs_map {α : Type} {d : AV → Option α} {f : α → AV} (h : ∀ x, d (f x) = some x) : ∀ l : List α, decs d (l.map f) = some l
  | [] => rfl
  | x :: l => by simp only [List.map_cons, decs, h, decs_map h l]
theorem decs_inv {α : Type} {d : AV → Option α} {f : α → AV} (h : ∀ a x, d a = some x → a = f x) : ∀ {xs : List AV} {l : List α}, decs d xs = some l → xs = l.map f
  | [], l, e => by simp [decs] at e; subst e; rfl
  | x :: xs, l, e => by
    simp only [decs] at e
    split at e
    · rename_i a l' h1 h2
      simp at e; subst e
      rw [List.map_cons, ← h _ _ h1, ← decs_inv h h2]
    · cases e
/-- A list of n cells each. -/
def decL {α : Type} (n : Nat) (d : AV → Option α) : AV → Option (List α)
  | .list _ sz xs => if sz = n ∨ xs = [] then decs d xs else none
  | _ => none
theorem decL_inv {α : Type} {n : Nat} {d : AV → Option α} {f : α → AV} (h : ∀ a x, d a = some x → a = f x) {a : AV} {l : List α} (e : decL n d a = some l) : wk0 a (.list .no n (l.map f)) := by
  unfold decL at e
  split at e
  · split at e
    · rename_i t sz xs hs
      have := decs_inv h e
      subst this
      refine ⟨rfl, ?_, .inl rfl⟩
      rcases hs with h | h
      · exact .inl h
      · exact .inr h
    · cases e
  · cases e
theorem decL_inv' {α : Type} {n : Nat} {d : AV → Option α} {f : α → AV} (h : ∀ a x, d a = some x → a = f x) {a : AV} {l : List α} (e : decL n d a = some l) : wk a (.list .no n (l.map f)) := by
  have := decL_inv h e
  unfold decL at e
  split at e
  · exact this
  · cases e
theorem decL_self {α : Type} {n : Nat} {d : AV → Option α} {f : α → AV} (h : ∀ x, d (f x) = some x) {t : Tok} {l : List α} : decL n d (.list t n (l.map f)) = some l := by
  simp [decL, decs_map h]
theorem decL_nil {α : Type} {n sz : Nat} {d : AV → Option α} {t : Tok} : decL n d (.list t sz []) = some [] := by simp [decL, decs]
theorem decL_cons {α : Type} {n : Nat} {d : AV → Option α} {t : Tok} {x : AV} {xs : List AV} : decL n d (.list t n (x :: xs)) = decs d (x :: xs) := by simp [decL]
theorem decs_cons {α : Type} {d : AV → Option α} {x : AV} {xs : List AV} : decs d (x :: xs) = (d x).bind fun a => (decs d xs).bind fun l => some (a :: l) := by
  simp only [decs]; cases d x <;> cases decs d xs <;> rfl
theorem decs_nil {α : Type} {d : AV → Option α} : decs d [] = some [] := rfl

def decI : AV → Option Int
  | .int .i64 n => some n
  | _ => none
theorem decI_inv (a : AV) (x : Int) (h : decI a = some x) : a = .int .i64 x := by
  unfold decI at h; split at h
  · simp at h; subst h; rfl
  · cases h
theorem decI_int {n : Int} : decI (.int .i64 n) = some n := rfl
def decB : AV → Option Bool
  | .bool n => some n
  | _ => none
theorem decB_inv (a : AV) (x : Bool) (h : decB a = some x) : a = .bool x := by
  unfold decB at h; split at h
  · simp at h; subst h; rfl
  · cases h
theorem decB_bool {n : Bool} : decB (.bool n) = some n := rfl

def tI : Ty Int := ⟨decI, .int .i64, fun {a x} h => by rw [decI_inv a x h]; rfl⟩
def tB : Ty Bool := ⟨decB, .bool, fun {a x} h => by rw [decB_inv a x h]; rfl⟩
def tIs : Ty (List Int) := ⟨decL 1 decI, fun l => .list .no 1 (l.map (.int .i64)), decL_inv' decI_inv⟩
theorem tI_dec {a : AV} : tI.dec a = decI a := rfl
theorem tB_dec {a : AV} : tB.dec a = decB a := rfl
theorem tIs_dec {a : AV} : tIs.dec a = decL 1 decI a := rfl
theorem decL_ints {t : Tok} {l : List Int} : decL 1 decI (.list t 1 (l.map (.int .i64))) = some l := decL_self (f := AV.int .i64) fun _ => rfl

variable {α β γ δ ε : Type} {P : Program} {n : FuncId}
def spec1 (A : Ty α) (f : α → Option AV) : List AV → Option AV
  | [a] => (A.dec a).bind f
  | _ => none
def spec2 (A : Ty α) (B : Ty β) (f : α → β → Option AV) : List AV → Option AV
  | [a, b] => (A.dec a).bind fun x => (B.dec b).bind fun y => f x y
  | _ => none
def spec3 (A : Ty α) (B : Ty β) (C : Ty γ) (f : α → β → γ → Option AV) : List AV → Option AV
  | [a, b, c] => (A.dec a).bind fun x => (B.dec b).bind fun y => (C.dec c).bind fun z => f x y z
  | _ => none
def spec4 (A : Ty α) (B : Ty β) (C : Ty γ) (D : Ty δ) (f : α → β → γ → δ → Option AV) : List AV → Option AV
  | [a, b, c, d] => (A.dec a).bind fun x => (B.dec b).bind fun y => (C.dec c).bind fun z => (D.dec d).bind fun u => f x y z u
  | _ => none
theorem spec1_ok {A : Ty α} {f : α → Option AV} (h : ∀ x v, f x = some v → PureV P n [A.av x] v) : ∀ xs v, spec1 A f xs = some v → PureV P n xs v := by
  intro xs v e
  unfold spec1 at e
  split at e
  · rename_i a
    obtain ⟨x, h1, h2⟩ := Option.bind_eq_some_iff.1 e
    exact PureV.weaken (l' := [A.av x]) ⟨A.inv h1, trivial⟩ (h x v h2)
  · cases e
theorem spec2_ok {A : Ty α} {B : Ty β} {f : α → β → Option AV} (h : ∀ x y v, f x y = some v → PureV P n [A.av x, B.av y] v) : ∀ xs v, spec2 A B f xs = some v → PureV P n xs v := by
  intro xs v e
  unfold spec2 at e
  split at e
  · obtain ⟨x, h1, e⟩ := Option.bind_eq_some_iff.1 e
    obtain ⟨y, h2, e⟩ := Option.bind_eq_some_iff.1 e
    exact PureV.weaken (l' := [A.av x, B.av y]) ⟨A.inv h1, B.inv h2, trivial⟩ (h x y v e)
  · cases e
theorem spec3_ok {A : Ty α} {B : Ty β} {C : Ty γ} {f : α → β → γ → Option AV} (h : ∀ x y z v, f x y z = some v → PureV P n [A.av x, B.av y, C.av z] v) : ∀ xs v, spec3 A B C f xs = some v → PureV P n xs v := by
  intro xs v e
  unfold spec3 at e
  split at e
  · obtain ⟨x, h1, e⟩ := Option.bind_eq_some_iff.1 e
    obtain ⟨y, h2, e⟩ := Option.bind_eq_some_iff.1 e
    obtain ⟨z, h3, e⟩ := Option.bind_eq_some_iff.1 e
    exact PureV.weaken (l' := [A.av x, B.av y, C.av z]) ⟨A.inv h1, B.inv h2, C.inv h3, trivial⟩ (h x y z v e)
  · cases e
theorem spec4_ok {A : Ty α} {B : Ty β} {C : Ty γ} {D : Ty δ} {f : α → β → γ → δ → Option AV} (h : ∀ x y z u v, f x y z u = some v → PureV P n [A.av x, B.av y, C.av z, D.av u] v) : ∀ xs v, spec4 A B C D f xs = some v → PureV P n xs v := by
  intro xs v e
  unfold spec4 at e
  split at e
  · obtain ⟨x, h1, e⟩ := Option.bind_eq_some_iff.1 e
    obtain ⟨y, h2, e⟩ := Option.bind_eq_some_iff.1 e
    obtain ⟨z, h3, e⟩ := Option.bind_eq_some_iff.1 e
    obtain ⟨u, h4, e⟩ := Option.bind_eq_some_iff.1 e
    exact PureV.weaken (l' := [A.av x, B.av y, C.av z, D.av u]) ⟨A.inv h1, B.inv h2, C.inv h3, D.inv h4, trivial⟩ (h x y z u v e)
  · cases e
theorem leT {a b : Int} (h : a ≤ b) : (a ≤ b) = True := eq_true h
theorem leF {a b : Int} (h : ¬ a ≤ b) : (a ≤ b) = False := eq_false h
theorem ltT {a b : Int} (h : a < b) : (a < b) = True := eq_true h
theorem ltF {a b : Int} (h : ¬ a < b) : (a < b) = False := eq_false h
theorem eqT {a b : Int} (h : a = b) : (a = b) = True := eq_true h
theorem eqF {a b : Int} (h : ¬ a = b) : (a = b) = False := eq_false h
theorem nleT {a b : Nat} (h : a ≤ b) : (a ≤ b) = True := eq_true h
theorem nltT {a b : Nat} (h : a < b) : (a < b) = True := eq_true h
theorem wrapI {n : Int} (h1 : -9223372036854775808 ≤ n) (h2 : n < 9223372036854775808) : IntKind.i64.wrap n = n := wrap64 h1 h2
/-- An element by a number of Go's. -/
def tg (t : List Int) (i : Int) : Int := t.getD i.toNat 0
theorem tget {t : List Int} {x : Int} (h0 : 0 ≤ x) (h1 : x < t.length) : (t.map (AV.int .i64))[x.toNat]? = some (.int .i64 (tg t x)) := by
  have : x.toNat < t.length := by omega
  simp [tg, List.getElem?_eq_getElem this, List.getD]
theorem idx_tg {t : List Int} {x : Int} (h0 : 0 ≤ x) (h1 : x < t.length) : idx (t.map (AV.int .i64)) x = some (.int .i64 (tg t x)) := by
  unfold idx; rw [if_pos h0]; exact tget h0 h1
theorem idx_nat {α : Type} {f : α → AV} {l : List α} {i : Nat} (h : i < l.length) : idx (l.map f) (i : Int) = some (f l[i]) := idx_map h
theorem idx_get {α : Type} [Inhabited α] {f : α → AV} {l : List α} {x : Int} (h0 : 0 ≤ x) (h1 : x < l.length) : idx (l.map f) x = some (f (l.getD x.toNat default)) := by
  have h : x.toNat < l.length := by omega
  unfold idx; rw [if_pos h0]
  simp [List.getElem?_eq_getElem h, List.getD]
theorem neqF {a b : Nat} (h : ¬ a = b) : (a = b) = False := eq_false h
theorem nltF {a b : Nat} (h : ¬ a < b) : (a < b) = False := eq_false h
theorem neqT {a b : Nat} (h : a = b) : (a = b) = True := eq_true h
theorem take_map {α : Type} {f : α → AV} {t : List α} {n : Nat} (h : t.length ≤ n) : (t.map f).take n = t.map f := List.take_of_length_le (by simpa using h)
/-- An element is turned. -/
def setI (t : List Int) (i x : Int) : List Int := t.set i.toNat x
theorem putAt_cons {off : Nat} {n : AV} {new : List AV} {c : AV} {cs : List AV} : putAt off (n :: new) (c :: cs) = (c :: cs).take off ++ (n :: new) ++ (c :: cs).drop (off + (n :: new).length) := rfl
theorem putAt_map3 {t : List Int} {a b c : AV} (h : t.length = 3) : putAt 0 (t.map (AV.int .i64)) [a, b, c] = t.map (AV.int .i64) := by
  simp [putAt, h]
theorem putAt_set {t : List Int} {i x : Int} (h0 : 0 ≤ i) (h : i < t.length) : putAt i.toNat [AV.int .i64 x] (t.map (AV.int .i64)) = (setI t i x).map (AV.int .i64) := by
  have hi : i.toNat < t.length := by omega
  have hi' : i.toNat < (t.map (AV.int .i64)).length := by simpa using hi
  have e : ∀ (l : List AV) (v : AV), i.toNat < l.length → putAt i.toNat [v] l = l.set i.toNat v := fun l v hl => by
    simp only [putAt, List.length_cons, List.length_nil]
    rw [List.set_eq_take_append_cons_drop, if_pos hl]; simp
  rw [e _ _ hi']; unfold setI; rw [List.map_set]
/-- A function that is told under a condition. -/
theorem someIf {c : Prop} [Decidable c] {a v : AV} (h : (if c then some a else none) = some v) : c ∧ a = v := by
  split at h
  · rename_i hc; simp at h; exact ⟨hc, h⟩
  · cases h
/-- Maps by integers, as lists. -/
def fIdx {α : Type} (k : Int) : List (Int × α) → Nat → Option (Nat × α)
  | [], _ => none
  | (k', v) :: m, i => if k = k' then some (i, v) else fIdx k m (i + 1)
def mset {α : Type} (m : List (Int × α)) (k : Int) (v : α) : List (Int × α) := match fIdx k m 0 with
  | some (i, _) => m.set i (k, v)
  | none => m ++ [(k, v)]
def mget {α : Type} (m : List (Int × α)) (k : Int) : Option α := (fIdx k m 0).map (·.2)
theorem findA_map {α : Type} (f : α → AV) (k : Int) : ∀ (m : List (Int × α)) (i : Nat), findA (.int .i64 k) (m.map fun p => (AV.int .i64 p.1, f p.2)) i = some ((fIdx k m i).map fun q => (q.1, f q.2))
  | [], i => rfl
  | (k', v) :: m, i => by
    simp only [List.map_cons, findA, keyEq, if_true, fIdx]
    by_cases h : k = k'
    · subst h; simp
    · have : (k == k') = false := by simpa using h
      rw [this, if_neg h]
      exact findA_map f k m (i + 1)
theorem updR_map {α : Type} {f : α → AV} {r : Nat} {m : List (Int × α)} {k : Int} {v : α} {σ : List AObj} :
    updR r (m.map fun p => (AV.int .i64 p.1, f p.2)) (.int .i64 k) (f v) σ (findA (.int .i64 k) (m.map fun p => (AV.int .i64 p.1, f p.2)) 0) = some (.tup [], hset σ r (.map ((mset m k v).map fun p => (AV.int .i64 p.1, f p.2)))) := by
  rw [findA_map]
  unfold mset
  cases fIdx k m 0 with
  | none => simp [updR]
  | some q => simp [updR, List.map_set]
theorem lookR_map {α : Type} {f : α → AV} {m : List (Int × α)} {k : Int} {ok : Bool} {z : AV} {σ : List AObj} :
    lookR ok z σ (findA (.int .i64 k) (m.map fun p => (AV.int .i64 p.1, f p.2)) 0) = some (match mget m k with
      | some v => if ok then .tup [f v, .bool true] else f v
      | none => if ok then .tup [z, .bool false] else z, σ) := by
  rw [findA_map]
  unfold mget
  cases fIdx k m 0 with
  | none => rfl
  | some q => rfl
/-- A map from integers to integers, to truth values. -/
def mapI (m : List (Int × Int)) : List (AV × AV) := m.map fun p => (AV.int .i64 p.1, AV.int .i64 p.2)
def mapB (m : List (Int × Bool)) : List (AV × AV) := m.map fun p => (AV.int .i64 p.1, AV.bool p.2)
theorem lookI {m : List (Int × Int)} {k : Int} {σ : List AObj} : lookR false (.int .i64 0) σ (findA (.int .i64 k) (mapI m) 0) = some (.int .i64 ((mget m k).getD 0), σ) := by
  have := lookR_map (f := AV.int .i64) (m := m) (k := k) (ok := false) (z := .int .i64 0) (σ := σ)
  unfold mapI; rw [this]
  cases mget m k <;> rfl
theorem updI {m : List (Int × Int)} {k v : Int} {r : Nat} {σ : List AObj} : updR r (mapI m) (.int .i64 k) (.int .i64 v) σ (findA (.int .i64 k) (mapI m) 0) = some (.tup [], hset σ r (.map (mapI (mset m k v)))) := updR_map (f := AV.int .i64)
theorem lookB {m : List (Int × Bool)} {k : Int} {σ : List AObj} : lookR false (.bool false) σ (findA (.int .i64 k) (mapB m) 0) = some (.bool ((mget m k).getD false), σ) := by
  have := lookR_map (f := AV.bool) (m := m) (k := k) (ok := false) (z := .bool false) (σ := σ)
  unfold mapB; rw [this]
  cases mget m k <;> rfl
theorem lookB2 {m : List (Int × Bool)} {k : Int} {σ : List AObj} : lookR true (.bool false) σ (findA (.int .i64 k) (mapB m) 0) = some (.tup [.bool ((mget m k).getD false), .bool (mget m k).isSome], σ) := by
  have := lookR_map (f := AV.bool) (m := m) (k := k) (ok := true) (z := .bool false) (σ := σ)
  unfold mapB; rw [this]
  cases mget m k <;> rfl
theorem updB {m : List (Int × Bool)} {k : Int} {v : Bool} {r : Nat} {σ : List AObj} : updR r (mapB m) (.int .i64 k) (.bool v) σ (findA (.int .i64 k) (mapB m) 0) = some (.tup [], hset σ r (.map (mapB (mset m k v)))) := updR_map (f := AV.bool)
theorem fIdx_get {α : Type} {k : Int} : ∀ {m : List (Int × α)} {i j : Nat} {v : α}, fIdx k m i = some (j, v) → i ≤ j ∧ m[j - i]? = some (k, v)
  | [], i, j, v, h => by simp [fIdx] at h
  | (k', u) :: m, i, j, v, h => by
    simp only [fIdx] at h
    split at h
    · rename_i e; subst e; simp at h; obtain ⟨rfl, rfl⟩ := h; exact ⟨Nat.le_refl _, by simp⟩
    · obtain ⟨h1, h2⟩ := fIdx_get h
      refine ⟨by omega, ?_⟩
      have : j - i = (j - (i + 1)) + 1 := by omega
      rw [this]; simpa using h2
theorem mget_mem {α : Type} {m : List (Int × α)} {k : Int} {v : α} (h : mget m k = some v) : (k, v) ∈ m := by
  unfold mget at h
  cases hf : fIdx k m 0 with
  | none => rw [hf] at h; cases h
  | some q =>
    obtain ⟨j, u⟩ := q
    rw [hf] at h; simp at h; subst h
    exact List.mem_of_getElem? (fIdx_get hf).2
theorem mset_mem {α : Type} {m : List (Int × α)} {k : Int} {v : α} {p : Int × α} (h : p ∈ mset m k v) : p = (k, v) ∨ p ∈ m := by
  unfold mset at h
  split at h
  · rcases List.mem_or_eq_of_mem_set h with h | h
    · exact .inr h
    · exact .inl h
  · rcases List.mem_append.1 h with h | h
    · exact .inr h
    · simp at h; exact .inl h
theorem fIdx_append {α : Type} {k : Int} {v : α} : ∀ {m : List (Int × α)} {i : Nat}, fIdx k m i = none → fIdx k (m ++ [(k, v)]) i = some (i + m.length, v)
  | [], i, _ => by simp [fIdx]
  | (k', u) :: m, i, h => by
    simp only [fIdx] at h
    split at h
    · cases h
    · rename_i e
      simp only [List.cons_append, fIdx, if_neg e]
      rw [fIdx_append h]; simp; omega
theorem fIdx_set {α : Type} {k : Int} {v : α} : ∀ {m : List (Int × α)} {i j : Nat} {u : α}, fIdx k m i = some (j, u) → fIdx k (m.set (j - i) (k, v)) i = some (j, v)
  | [], i, j, u, h => by simp [fIdx] at h
  | (k', w) :: m, i, j, u, h => by
    simp only [fIdx] at h
    split at h
    · rename_i e; simp at h; obtain ⟨rfl, rfl⟩ := h; simp [fIdx]
    · rename_i e
      have h1 := (fIdx_get h).1
      have : j - i = (j - (i + 1)) + 1 := by omega
      rw [this, List.set_cons_succ]
      simp only [fIdx, if_neg e]
      exact fIdx_set h
theorem mget_mset {α : Type} {m : List (Int × α)} {k : Int} {v : α} : mget (mset m k v) k = some v := by
  unfold mset
  cases hf : fIdx k m 0 with
  | none => simp only [mget]; rw [fIdx_append hf]; rfl
  | some q =>
    obtain ⟨j, u⟩ := q
    have := fIdx_set (v := v) hf
    simp only [Nat.sub_zero] at this
    simp only [mget, this]; rfl
end Go.Mu
set_option linter.unusedSimpArgs false
set_option linter.unusedVariables false
namespace Go.Mu
open Go

theorem AYield.mono {P : Program} {r : Nat} {args : List AV} {σ : List AObj} {X Y : AV → List AObj → Prop} (h : AYield P r args σ X) (hn : ∀ v σ, X v σ → Y v σ) : AYield P r args σ Y := by
  intro K w cargs hR hV
  obtain ⟨fn, tmps, assign, body, h1, h2⟩ := h K w cargs hR hV
  exact ⟨fn, tmps, assign, body, h1, h2.mono fun e w' ⟨v, c, σ', K', g1, g2, g3⟩ => ⟨v, c, σ', K', g1, hn _ _ g2, g3⟩⟩
/-- Objects but some are as before. -/
def Same (M : Nat → Prop) (σ σ' : List AObj) : Prop := σ.length ≤ σ'.length ∧ ∀ q, q < σ.length → ¬ M q → hget σ' q = hget σ q
def SameOn (M : Nat → Prop) (σ σ' : List AObj) : Prop := σ.length ≤ σ'.length ∧ ∀ q, M q → hget σ' q = hget σ q
theorem Same.refl {M : Nat → Prop} {σ : List AObj} : Same M σ σ := ⟨Nat.le_refl _, fun _ _ _ => rfl⟩
theorem Same.trans {M : Nat → Prop} {σ σ' σ'' : List AObj} (h : Same M σ σ') (h' : Same M σ' σ'') : Same M σ σ'' :=
  ⟨Nat.le_trans h.1 h'.1, fun q hq hm => (h'.2 q (Nat.lt_of_lt_of_le hq h.1) hm).trans (h.2 q hq hm)⟩
theorem Same.get {M : Nat → Prop} {σ σ' : List AObj} (h : Same M σ σ') {q : Nat} {o : AObj} (hg : hget σ q = some o) (hm : ¬ M q) : hget σ' q = some o := by
  rw [h.2 q (hget_lt hg) hm]; exact hg
theorem hget_app {σ l : List AObj} {q : Nat} (h : q < σ.length) : hget (σ ++ l) q = hget σ q := by unfold hget; rw [List.getElem?_append_left h]
theorem Same.app {M : Nat → Prop} {σ l : List AObj} : Same M σ (σ ++ l) := ⟨by simp, fun q hq _ => hget_app hq⟩
theorem SameOn.app {M : Nat → Prop} {σ l : List AObj} (h : ∀ q, M q → q < σ.length) : SameOn M σ (σ ++ l) := ⟨by simp, fun q hq => hget_app (h q hq)⟩

/-- Who takes what an iterator hands out: what his objects are when he has taken some, and when he has left. -/
structure Taker (P : Program) (r : Nat) (L : List AV) where
  M : Nat → Prop
  C : List AV → List AObj → Prop
  St : List AV → List AObj → Prop
  lt : ∀ {D σ q}, C D σ → M q → q < σ.length
  keep : ∀ {D σ σ'}, C D σ → SameOn M σ σ' → C D σ'
  keepS : ∀ {D σ σ'}, St D σ → SameOn M σ σ' → St D σ'
  take : ∀ {D R σ v}, L = D ++ v :: R → C D σ → AYield P r [v] σ fun u σ' => Same M σ σ' ∧ (u = .bool true ∧ C (D ++ [v]) σ' ∨ u = .bool false ∧ St (D ++ [v]) σ')

/-- A function that hands out a list: to whoever takes it. -/
def Iter (P : Program) (g : FuncId) (p q : List AV) (σ : List AObj) (L : List AV) : Prop :=
  ∀ r (T : Taker P r L) σ', (∀ k, k < σ.length → hget σ' k = hget σ k ∧ ¬ T.M k) → σ.length ≤ σ'.length → T.C [] σ' →
    ACalls P g (p ++ [.yield r] ++ q) σ' fun _ σ'' => Same T.M σ' σ'' ∧ (T.C L σ'' ∨ ∃ D v R, L = D ++ v :: R ∧ T.St (D ++ [v]) σ'')

theorem hget_hset {σ : List AObj} {r q : Nat} {o : AObj} : hget (hset σ r o) q = if r = q ∧ q < σ.length then some o else hget σ q := by
  unfold hget hset
  rw [List.getElem?_set]
  by_cases h : r = q
  · subst h
    by_cases h2 : r < σ.length
    · simp [h2]
    · simp [h2]
  · simp [h]
/-- A RANGE OVER AN ITERATOR. -/
theorem ARun.rangeIter {E : Env} {f : Operand} {ps : Array Tmp} {as body : Code} {k : List Item} {fr : Fr} {g : FuncId} {p q : List AV} {σ0 σ1 : List AObj} {Q : Post} {L : List AV} (hf : aeval fr f = some (.fn (.func g) p q)) (hI : Iter E.P g p q σ0 L) (h0 : σ0.length ≤ σ1.length) (hs : ∀ k, k < σ0.length → hget σ1 k = hget σ0 k)
    (hps : ∃ t, ps = #[t] ∧ t < E.N) (M0 : Nat → Prop) (hM : ∀ q, M0 q → σ0.length ≤ q ∧ q < σ1.length) (Cc : List AV → List AObj → Prop) (Sc : Code → List AObj → Prop)
    (hC0 : Cc [] σ1) (hCk : ∀ {D τ τ'}, Cc D τ → (∀ q, M0 q → hget τ' q = hget τ q) → Cc D τ') (hSk : ∀ {j τ τ'}, Sc j τ → (∀ q, M0 q → hget τ' q = hget τ q) → Sc j τ')
    (hb : ∀ D v R fn τ, L = D ++ v :: R → Cc D τ → σ1.length < τ.length → hget τ σ1.length = some (.loop .ready none fn ps as body E.N fr) →
      ARun E (some σ1.length) [.code as, .beginRound, .code body] (frIn fr ps.toList [v]) τ fun j fr2 τ2 => Same (fun q => M0 q ∨ q = σ1.length) τ τ2 ∧ (∃ pend', hget τ2 σ1.length = some (.loop .busy pend' fn ps as body E.N fr)) ∧ (j = none ∧ Cc (D ++ [v]) τ2 ∨ ∃ jc, j = some jc ∧ (∀ t, jc ≠ .goto t) ∧ Sc jc τ2))
    (hk : ∀ τ, σ1.length < τ.length → (∀ q, q < σ1.length → ¬ M0 q → hget τ q = hget σ1 q) → Cc L τ → ARun E none k fr τ Q)
    (hk' : ∀ τ j, σ1.length < τ.length → (∀ q, q < σ1.length → ¬ M0 q → hget τ q = hget σ1 q) → Sc j τ → ARun E none (.code j :: k) fr τ Q) :
    ARun E none (.code (.rangeFunc f ps as body) :: k) fr σ1 Q := by
  obtain ⟨t0, rfl, ht0⟩ := hps
  refine ARun.rangeFunc hf fun fn => ?_
  let rec0 : AObj := .loop .ready none fn #[t0] as body E.N fr
  let T : Taker E.P σ1.length L := {
    M := fun q => M0 q ∨ q = σ1.length
    C := fun D τ => σ1.length < τ.length ∧ hget τ σ1.length = some rec0 ∧ Cc D τ
    St := fun D τ => σ1.length < τ.length ∧ ∃ j, hget τ σ1.length = some (.loop .done (some j) fn #[t0] as body E.N fr) ∧ Sc j τ
    lt := fun {D σ q} hc hm => by
      rcases hm with hm | hm
      · exact Nat.lt_trans (hM q hm).2 hc.1
      · subst hm; exact hc.1
    keep := fun {D σ σ'} hc hs => ⟨Nat.lt_of_lt_of_le hc.1 hs.1, by rw [hs.2 _ (.inr rfl)]; exact hc.2.1, hCk hc.2.2 fun q hq => hs.2 q (.inl hq)⟩
    keepS := fun {D σ σ'} hc hs => ⟨Nat.lt_of_lt_of_le hc.1 hs.1, by
      obtain ⟨j, h1, h2⟩ := hc.2
      exact ⟨j, by rw [hs.2 _ (.inr rfl)]; exact h1, hSk h2 fun q hq => hs.2 q (.inl hq)⟩⟩
    take := fun {D R τ v} hL hc => by
      obtain ⟨c1, c2, c3⟩ := hc
      refine AYield.of (E := E) (args := [v]) c2 rfl (by simpa using ht0) ((hb D v R fn τ hL c3 c1 c2).mono fun j fr2 τ2 hj => ?_)
      obtain ⟨hsame, ⟨pend', hp⟩, hcase⟩ := hj
      have hn := hget_lt hp
      have hne : ∀ q, M0 q → ∀ o, hget (hset τ2 σ1.length o) q = hget τ2 q := fun q hq o => by
        rw [hget_hset, if_neg]; intro h; have := (hM q hq).2; omega
      refine ⟨fun t ht => ?_, pend', hp, ⟨by rw [length_hset]; exact hsame.1, fun q hq hm => ?_⟩, ?_⟩
      · rcases hcase with ⟨h1, _⟩ | ⟨jc, h1, h2, _⟩
        · rw [h1] at ht; cases ht
        · rw [h1] at ht; simp at ht; exact h2 t ht
      · rw [hget_hset, if_neg (fun h => hm (.inr h.1.symm))]; exact hsame.2 q hq hm
      · rcases hcase with ⟨h1, h2⟩ | ⟨jc, h1, h2, h3⟩
        · left
          subst h1
          refine ⟨rfl, by rw [length_hset]; exact hn, ?_, hCk h2 fun q hq => hne q hq _⟩
          rw [hget_hset, if_pos ⟨rfl, hn⟩]; rfl
        · right
          subst h1
          refine ⟨rfl, by rw [length_hset]; exact hn, jc, ?_, hSk h3 fun q hq => hne q hq _⟩
          rw [hget_hset, if_pos ⟨rfl, hn⟩]; rfl }
  have hlen : (σ1 ++ [rec0]).length = σ1.length + 1 := by simp
  refine (hI σ1.length T (σ1 ++ [rec0]) (fun k hk => ⟨by rw [hget_app (by omega)]; exact hs k hk, fun hm => ?_⟩) (by omega) ⟨by omega, hget_at0, hCk hC0 fun q hq => hget_app (hM q hq).2⟩).mono fun v τ hv => ?_
  · rcases hm with hm | hm
    · have := (hM k hm).1; omega
    · omega
  · obtain ⟨hsame, hv⟩ := hv
    have hold : ∀ q, q < σ1.length → ¬ M0 q → hget (hset τ σ1.length .dead) q = hget σ1 q := fun q hq hm => by
      rw [hget_hset, if_neg (fun h => by omega), hsame.2 q (by omega) (fun h => by rcases h with h | h; exact hm h; omega)]
      exact hget_app hq
    rcases hv with ⟨c1, c2, c3⟩ | ⟨D, v', R, hL, c1, j, c2, c3⟩
    · exact ⟨.ready, none, by simp, c2, hk _ (by rw [length_hset]; exact c1) hold (hCk c3 fun q hq => by
        rw [hget_hset, if_neg]; intro h; have := (hM q hq).2; omega)⟩
    · exact ⟨.done, some j, by simp, c2, hk' _ j (by rw [length_hset]; exact c1) hold (hSk c3 fun q hq => by
        rw [hget_hset, if_neg]; intro h; have := (hM q hq).2; omega)⟩

theorem ARun.beginRound' {E : Env} {σ : List AObj} {Q : Post} {r : Nat} {k : List Item} {pend : Option Code} {fn : FuncId} {ps : Array Tmp} {as body : Code} {N : Nat} {fr fr0 : Fr} (hg : hget σ r = some (.loop .ready pend fn ps as body N fr0))
    (h : ∀ τ, τ.length = σ.length → (∀ q, q ≠ r → hget τ q = hget σ q) → hget τ r = some (.loop .busy pend fn ps as body N fr0) → ARun E (some r) k fr τ Q) : ARun E (some r) (.beginRound :: k) fr σ Q :=
  ARun.beginRound hg (h _ length_hset (fun q hq => by rw [hget_hset, if_neg]; intro h; exact hq h.1.symm) (hget_set hg _))
theorem app_of_same {σ τ : List AObj} (hl : σ.length ≤ τ.length) (h : ∀ q, q < σ.length → hget τ q = hget σ q) : ∃ junk, τ = σ ++ junk := by
  refine ⟨τ.drop σ.length, ?_⟩
  apply List.ext_getElem?
  intro i
  by_cases hi : i < σ.length
  · rw [List.getElem?_append_left hi]; exact h i hi
  · rw [List.getElem?_append_right (by omega), List.getElem?_drop]; congr 1; omega
theorem gives_same {σ τ : List AObj} {v v' : AV} (hl : σ.length ≤ τ.length) (h : ∀ q, q < σ.length → hget τ q = hget σ q) (hw : wk v' v) : Gives σ v v' τ := ⟨app_of_same hl h, hw⟩

/-- An object is looked at in another way. -/
theorem R.recell {K : Kr} {σ : List AObj} {w : World} (hR : R K σ w) {r : Nat} {cs cs' : List AV} (hg : hget σ r = some (.cells cs)) (h : ∀ cc, VRs K σ.length cs cc → VRs K σ.length cs' cc) :
    R K (hset σ r (.cells cs')) w ∧ Step K σ w K (hset σ r (.cells cs')) w := by
  obtain ⟨cc, E, h1, h2, h3, h4⟩ := hR.obj r _ hg
  exact hR.turn hg (K.φ r) rfl K (.refl _ _) (fun _ _ => rfl) (fun _ _ => rfl) rfl (fun _ _ _ => rfl) (fun p v hv => hR.stab _ _ _ hv) (fun b hb => hb) ⟨cc, E, h1, h _ h2, h3, h4⟩ rfl rfl rfl

/-- An empty list in a box becomes a list of our own. -/
theorem ARun.ghostC {E : Env} {ro : Option Nat} {todo : List Item} {fr : Fr} {σ : List AObj} {Q : Option Code → Fr → List AObj → Prop} (r sz : Nat) {sz0 : Nat} (hg : hget σ r = some (.cells [.list .full sz0 []]))
    (h : ARun E ro todo fr (hset σ r (.cells [.list (.own σ.length) sz []]) ++ [.tail 0 sz]) Q) : ARun E ro todo fr σ Q := by
  refine h.mind fun K w tmps hR hF => ?_
  obtain ⟨cc, T, h1, h2, h3, h4⟩ := hR.obj r _ hg
  have hr := hget_lt hg
  obtain ⟨c0, hc0⟩ : ∃ c, cc.toList = [c] := by
    have := h2.1
    match hcc : cc.toList with
    | [c] => exact ⟨c, rfl⟩
    | [] => rw [hcc] at this; simp at this
    | _ :: _ :: _ => rw [hcc] at this; simp at this
  have hv := h2
  rw [hc0] at hv
  have hv0 := hv.head
  cases hv0 with
  | list _ _ _ a cap f hl' ht ha hs h1' hh =>
    have hcap : cap = 0 := ht
    subst hcap
    let K' : Kr := { K with tl := fun q => if q = σ.length then fun m => if m = 0 then some (a, 0) else none else K.tl q }
    have he : Ext σ.length K K' := ⟨fun _ _ => rfl, fun r hr m x hx => by
      show (if r = σ.length then _ else K.tl r) m = some x
      rw [if_neg (by omega)]; exact hx, fun _ _ _ h => h⟩
    have htl : K'.tl σ.length = fun m => if m = 0 then some (a, 0) else none := by
      show (if σ.length = σ.length then _ else _) = _
      rw [if_pos rfl]
    obtain ⟨r1, r2⟩ := hR.ghostAt (σ' := σ ++ [.tail 0 sz]) σ.length (.tail 0 sz) K' he (by simp) (by simp) (fun q o' hq hg => by
      rw [List.getElem?_append] at hg
      split at hg
      · exact hg
      · cases hk : q - σ.length with
        | zero => omega
        | succ j => rw [hk] at hg; simp at hg) (fun q hq => by show (if q = σ.length then _ else K.tl q) = _; rw [if_neg hq]) rfl (fun b hb => by
      obtain ⟨a', cap', g1, g2, _⟩ := hb
      rw [htl] at g1; simp at g1; omega) ⟨a, 0, by rw [htl]; rfl, Nat.le_refl _, fun k hk => by rw [htl]; simp; omega, fun h => by omega⟩
    have hg' : hget (σ ++ [.tail 0 sz]) r = some (.cells [.list .full sz0 []]) := by rw [hget_app hr]; exact hg
    obtain ⟨cc2, T2, k1, k2, k3, k4⟩ := hR.obj r _ hg
    have hw : ∀ cc3 T3, w.heap[K.φ r]? = some (.cells cc3 T3 (0, 0)) → cc3 = cc := fun cc3 T3 hh => by
      rw [h1] at hh; simp at hh; exact hh.1.symm
    obtain ⟨cc4, T4, l1, l2, l3, l4⟩ := r1.obj r _ hg'
    have e4 : cc4 = cc := hw cc4 T4 l1
    obtain ⟨s1, s2⟩ := r1.turn (o' := .cells [.list (.own σ.length) sz []]) hg' (K'.φ r) rfl K' (.refl _ _) (fun _ _ => rfl) (fun _ _ => rfl) rfl (fun _ _ _ => rfl) (fun p v hv => r1.stab _ _ _ hv) (fun b hb => hb) ⟨cc, T, h1, by
      rw [hc0]
      exact .cons (.list (.own σ.length) sz [] a 0 f (Nat.le_refl _) ⟨by simp, by rw [htl]; rfl⟩ (fun h => absurd rfl h) (fun i hi => by simp at hi) (fun i j hi => by simp at hi) (fun i j hi => by simp at hi)) .nil, h3, h4⟩ rfl rfl rfl
    have eset : (σ ++ [AObj.tail 0 sz]).set r (.cells [.list (.own σ.length) sz []]) = hset σ r (.cells [.list (.own σ.length) sz []]) ++ [.tail 0 sz] := by
      unfold hset; rw [List.set_append_left _ _ hr]
    rw [eset] at s1 s2
    refine ⟨K', s1, ?_, r2.trans s2⟩
    have : (hset σ r (.cells [.list (.own σ.length) sz []]) ++ [AObj.tail 0 sz]).length = σ.length + 1 := by simp [length_hset]
    rw [this]
    exact hF.mono he (by omega)
end Go.Mu
set_option linter.unusedSimpArgs false
set_option linter.unusedVariables false
namespace Go.Mu
open Go

theorem ARun.ghostK {E : Env} {ro : Option Nat} {todo : List Item} {fr : Fr} {σ : List AObj} {Q : Option Code → Fr → List AObj → Prop} (r k sz : Nat) {sz0 : Nat} {cs : List AV} (hg : hget σ r = some (.cells cs)) (hk : cs[k]? = some (.list .full sz0 []))
    (h : ARun E ro todo fr (hset σ r (.cells (cs.set k (.list (.own σ.length) sz []))) ++ [.tail 0 sz]) Q) : ARun E ro todo fr σ Q := by
  refine h.mind fun K w tmps hR hF => ?_
  obtain ⟨cc, T, h1, h2, h3, h4⟩ := hR.obj r _ hg
  have hr := hget_lt hg
  obtain ⟨hkl, hke⟩ := List.getElem?_eq_some_iff.1 hk
  have hkl' : k < cc.toList.length := by rw [← h2.1]; exact hkl
  have hv0 := h2.2 k hkl hkl'
  rw [hke] at hv0
  generalize hc0 : cc.toList[k] = c0 at hv0
  cases hv0 with
  | list _ _ _ a cap f hl' ht ha hs h1' hh =>
    have hcap : cap = 0 := ht
    subst hcap
    let K' : Kr := { K with tl := fun q => if q = σ.length then fun m => if m = 0 then some (a, 0) else none else K.tl q }
    have he : Ext σ.length K K' := ⟨fun _ _ => rfl, fun r hr m x hx => by
      show (if r = σ.length then _ else K.tl r) m = some x
      rw [if_neg (by omega)]; exact hx, fun _ _ _ h => h⟩
    have htl : K'.tl σ.length = fun m => if m = 0 then some (a, 0) else none := by
      show (if σ.length = σ.length then _ else _) = _
      rw [if_pos rfl]
    obtain ⟨r1, r2⟩ := hR.ghostAt (σ' := σ ++ [.tail 0 sz]) σ.length (.tail 0 sz) K' he (by simp) (by simp) (fun q o' hq hg => by
      rw [List.getElem?_append] at hg
      split at hg
      · exact hg
      · cases hk : q - σ.length with
        | zero => omega
        | succ j => rw [hk] at hg; simp at hg) (fun q hq => by show (if q = σ.length then _ else K.tl q) = _; rw [if_neg hq]) rfl (fun b hb => by
      obtain ⟨a', cap', g1, g2, _⟩ := hb
      rw [htl] at g1; simp at g1; omega) ⟨a, 0, by rw [htl]; rfl, Nat.le_refl _, fun k hk => by rw [htl]; simp; omega, fun h => by omega⟩
    have hg' : hget (σ ++ [.tail 0 sz]) r = some (.cells cs) := by rw [hget_app hr]; exact hg
    have h2' : VRs K' (σ ++ [AObj.tail 0 sz]).length (cs.set k (.list (.own σ.length) sz [])) cc.toList := by
      refine ⟨by rw [List.length_set]; exact h2.1, fun i h5 h6 => ?_⟩
      by_cases e : k = i
      · subst e
        rw [List.getElem_set_self]
        have : cc.toList[k] = .slice a 0 0 := hc0
        rw [this]
        exact .list (.own σ.length) sz [] a 0 f (Nat.le_refl _) ⟨by simp, by rw [htl]; rfl⟩ (fun h => absurd rfl h) (fun i hi => by simp at hi) (fun i j hi => by simp at hi) (fun i j hi => by simp at hi)
      · rw [List.getElem_set_ne e]
        exact (h2.2 i (by rw [List.length_set] at h5; exact h5) h6).mono he (by simp)
    obtain ⟨s1, s2⟩ := r1.turn (o' := .cells (cs.set k (.list (.own σ.length) sz []))) hg' (K'.φ r) rfl K' (.refl _ _) (fun _ _ => rfl) (fun _ _ => rfl) rfl (fun _ _ _ => rfl) (fun p v hv => r1.stab _ _ _ hv) (fun b hb => hb) ⟨cc, T, h1, h2', h3, h4⟩ rfl rfl rfl
    have eset : (σ ++ [AObj.tail 0 sz]).set r (.cells (cs.set k (.list (.own σ.length) sz []))) = hset σ r (.cells (cs.set k (.list (.own σ.length) sz []))) ++ [.tail 0 sz] := by
      unfold hset; rw [List.set_append_left _ _ hr]
    rw [eset] at s1 s2
    refine ⟨K', s1, ?_, r2.trans s2⟩
    have : (hset σ r (.cells (cs.set k (.list (.own σ.length) sz []))) ++ [AObj.tail 0 sz]).length = σ.length + 1 := by simp [length_hset]
    rw [this]
    exact hF.mono he (by omega)
end Go.Mu
