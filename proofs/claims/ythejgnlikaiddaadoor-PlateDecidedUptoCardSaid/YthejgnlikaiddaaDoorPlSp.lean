/- Plain data of the plates' layer. -/
import Derived.Test.YthejgnlikaiddaaDoorSp
import Derived.Test.YthejgnlikaiddaaDoorMu3
set_option linter.unusedVariables false
namespace Go.Proofs
open Go Go.Mu

structure Model where
  first : Int
  looks : List (List Int)
  nums : List Rng
  deriving DecidableEq, Inhabited
structure Cat where
  features : Int
  models : List Model
  deriving DecidableEq, Inhabited
structure Old where
  seen : List Int
  plate : ByteArray
  changed : Int
  deriving Inhabited
/-- A model in a year; its look are four numbers. -/
structure Made where
  model : Int
  year : Int
  a : Int
  b : Int
  c : Int
  d : Int
  nums : Rng
  deriving DecidableEq, Inhabited
def Made.look (m : Made) : List Int := [m.a, m.b, m.c, m.d]

def isv (l : List Int) : AV := .list .no 1 (l.map (AV.int .i64))
theorem aggW {cs ds : List AV} (h : WeakL cs ds) : Weak (.agg cs) (.agg ds) ∧ WeakC (.agg cs) (.agg ds) := ⟨Weak.aggL h, h⟩
def tyR : TyC Rng := ⟨decRng, Rng.av, fun {a x} h => by rw [decRng_inv a x h]; exact ⟨Weak.refl _, WeakL.refl _⟩⟩
def tyIs : TyC (List Int) := ⟨decL 1 decI, isv, fun h => (tyL 1 tyI).inv h⟩
def tyIss : TyC (List (List Int)) := ⟨decL 1 (decL 1 decI), fun l => .list .no 1 (l.map isv), fun h => (tyL 1 tyIs).inv h⟩
def tyRs : TyC (List Rng) := ⟨decL 2 decRng, fun l => .list .no 2 (l.map Rng.av), fun h => (tyL 2 tyR).inv h⟩
def Model.av (m : Model) : AV := .agg [.int .i64 m.first, .list .no 1 (m.looks.map isv), .list .no 2 (m.nums.map Rng.av)]
def decModel : AV → Option Model
  | .agg [.int .i64 f, a, b] => (decL 1 (decL 1 decI) a).bind fun l => (decL 2 decRng b).bind fun r => some ⟨f, l, r⟩
  | _ => none
def tyM : TyC Model := ⟨decModel, Model.av, fun {a x} h => by
  unfold decModel at h
  split at h
  · obtain ⟨l, h1, h⟩ := Option.bind_eq_some_iff.1 h
    obtain ⟨r, h2, h⟩ := Option.bind_eq_some_iff.1 h
    simp at h; subst h
    exact aggW ⟨Weak.refl _, (tyIss.inv h1).1, (tyRs.inv h2).1, trivial⟩
  · cases h⟩
def tyMs : TyC (List Model) := ⟨decL 3 decModel, fun l => .list .no 3 (l.map Model.av), fun h => (tyL 3 tyM).inv h⟩
def Cat.av (c : Cat) : AV := .agg [.int .i64 c.features, .list .no 3 (c.models.map Model.av)]
def decCat : AV → Option Cat
  | .agg [.int .i64 f, a] => (decL 3 decModel a).bind fun l => some ⟨f, l⟩
  | _ => none
def tyCat : TyC Cat := ⟨decCat, Cat.av, fun {a x} h => by
  unfold decCat at h
  split at h
  · obtain ⟨l, h1, h⟩ := Option.bind_eq_some_iff.1 h
    simp at h; subst h
    exact aggW ⟨Weak.refl _, (tyMs.inv h1).1, trivial⟩
  · cases h⟩
def Old.av (o : Old) : AV := .agg [isv o.seen, .str o.plate, .int .i64 o.changed]
def decOld : AV → Option Old
  | .agg [a, .str p, .int .i64 c] => (decL 1 decI a).bind fun l => some ⟨l, p, c⟩
  | _ => none
def tyOld : TyC Old := ⟨decOld, Old.av, fun {a x} h => by
  unfold decOld at h
  split at h
  · obtain ⟨l, h1, h⟩ := Option.bind_eq_some_iff.1 h
    simp at h; subst h
    exact aggW ⟨(tyIs.inv h1).1, Weak.refl _, Weak.refl _, trivial⟩
  · cases h⟩
def Made.av (m : Made) : AV := .agg [.int .i64 m.model, .int .i64 m.year, .int .i64 m.a, .int .i64 m.b, .int .i64 m.c, .int .i64 m.d, .int .i64 m.nums.lo, .int .i64 m.nums.hi]
def decMade : AV → Option Made
  | .agg [.int .i64 m, .int .i64 y, .int .i64 a, .int .i64 b, .int .i64 c, .int .i64 d, .int .i64 lo, .int .i64 hi] => some ⟨m, y, a, b, c, d, ⟨lo, hi⟩⟩
  | _ => none
def tyMade : TyC Made := ⟨decMade, Made.av, fun {a x} h => by
  unfold decMade at h
  split at h
  · simp at h; subst h; exact ⟨Weak.refl _, WeakL.refl _⟩
  · cases h⟩
def tyMades : TyC (List Made) := ⟨decL 8 decMade, fun l => .list .no 8 (l.map Made.av), fun h => (tyL 8 tyMade).inv h⟩
/-- Four numbers. -/
def lkv (l : List Int) : AV := .agg [.int .i64 (tg l 0), .int .i64 (tg l 1), .int .i64 (tg l 2), .int .i64 (tg l 3)]
def decLk : AV → Option (List Int)
  | .agg [.int .i64 a, .int .i64 b, .int .i64 c, .int .i64 d] => some [a, b, c, d]
  | _ => none
def tyLk : TyC (List Int) := ⟨decLk, lkv, fun {a x} h => by
  unfold decLk at h
  split at h
  · simp at h; subst h; exact ⟨Weak.refl _, WeakL.refl _⟩
  · cases h⟩
-- how they are read
theorem tyI_dec {a : AV} : tyI.w.dec a = decI a := rfl
theorem tyS_dec {a : AV} : tyS.w.dec a = decStr a := rfl
theorem tyIs_dec {a : AV} : tyIs.w.dec a = decL 1 decI a := rfl
theorem tyIss_dec {a : AV} : tyIss.w.dec a = decL 1 (decL 1 decI) a := rfl
theorem tyRs_dec {a : AV} : tyRs.w.dec a = decL 2 decRng a := rfl
theorem tyR_dec {a : AV} : tyR.w.dec a = decRng a := rfl
theorem tyM_dec {a : AV} : tyM.w.dec a = decModel a := rfl
theorem tyMs_dec {a : AV} : tyMs.w.dec a = decL 3 decModel a := rfl
theorem tyCat_dec {a : AV} : tyCat.w.dec a = decCat a := rfl
theorem tyOld_dec {a : AV} : tyOld.w.dec a = decOld a := rfl
theorem tyMade_dec {a : AV} : tyMade.w.dec a = decMade a := rfl
theorem tyMades_dec {a : AV} : tyMades.w.dec a = decL 8 decMade a := rfl
theorem tyLk_dec {a : AV} : tyLk.w.dec a = decLk a := rfl
theorem decL_isv {l : List Int} : decL 1 decI (isv l) = some l := decL_ints
theorem decL_iss {t : Tok} {l : List (List Int)} : decL 1 (decL 1 decI) (.list t 1 (l.map isv)) = some l := decL_self (f := isv) fun _ => decL_isv
theorem decModel_av {m : Model} : decModel m.av = some m := by
  obtain ⟨f, l, n⟩ := m
  simp only [Model.av, decModel, decL_iss, decL_rng, Option.bind_some]
theorem decL_models {t : Tok} {l : List Model} : decL 3 decModel (.list t 3 (l.map Model.av)) = some l := decL_self (f := Model.av) fun _ => decModel_av
theorem decCat_av {c : Cat} : decCat c.av = some c := by
  obtain ⟨f, l⟩ := c
  simp only [Cat.av, decCat, decL_models, Option.bind_some]
theorem decOld_av {o : Old} : decOld o.av = some o := by
  obtain ⟨f, l, n⟩ := o
  simp only [Old.av, decOld, decL_isv, Option.bind_some]
theorem decMade_av {m : Made} : decMade m.av = some m := rfl
theorem decL_mades {t : Tok} {l : List Made} : decL 8 decMade (.list t 8 (l.map Made.av)) = some l := decL_self (f := Made.av) fun _ => decMade_av
theorem cells_isv {l : List Int} : (isv l).cells = [isv l] := rfl
theorem flat_isv {l : List Int} : (isv l).flat = true := rfl
theorem Cat_eta (c : Cat) : (⟨c.features, c.models⟩ : Cat) = c := rfl
theorem Old_eta (c : Old) : (⟨c.seen, c.plate, c.changed⟩ : Old) = c := rfl
theorem Model_eta (c : Model) : (⟨c.first, c.looks, c.nums⟩ : Model) = c := rfl
theorem Made_eta (m : Made) : (⟨m.model, m.year, m.a, m.b, m.c, m.d, ⟨m.nums.lo, m.nums.hi⟩⟩ : Made) = m := rfl
theorem Made_eta' (m : Made) : (⟨m.model, m.year, m.a, m.b, m.c, m.d, m.nums⟩ : Made) = m := rfl
theorem isv_plain (l : List Int) : Plain (isv l) := Plain.ints
theorem Made_plain (m : Made) : Plain m.av := .agg (by simp; exact ⟨.int, .int, .int, .int, .int, .int, .int, .int⟩)
theorem mades_plain (l : List Made) : Plain (.list .no 8 (l.map Made.av)) := .map fun m _ => Made_plain m

/-- The error of a list that has to have from least to most things. -/
def countE (n least most : Int) : Int := if n < least then 7 else if most < n then 6 else 0
def ckVal (least n : Int) : Int := if least ≤ n ∧ n ≤ 3 then 0 else 1
def ckVals (l : List Int) (features least : Int) : Int :=
  if countE l.length features features ≠ 0 then countE l.length features features
  else firstE (ckVal least) l
def ckNum (x : Rng) : Int := if ¬ (0 ≤ x.lo ∧ x.lo ≤ 9999) then 1 else if ¬ (0 ≤ x.hi ∧ x.hi ≤ 9999) then 1 else if x.lo > x.hi then 5 else 0
def ckModel (features : Int) (m : Model) : Int :=
  if ¬ (1800 ≤ m.first ∧ m.first ≤ 1999) then 1
  else if countE m.looks.length 1 4 ≠ 0 then countE m.looks.length 1 4
  else if countE m.nums.length m.looks.length m.looks.length ≠ 0 then countE m.nums.length m.looks.length m.looks.length
  else if firstE (fun l => ckVals l features 1) m.looks ≠ 0 then firstE (fun l => ckVals l features 1) m.looks
  else firstE ckNum m.nums
def ckCat (c : Cat) : Int :=
  if ¬ (1 ≤ c.features ∧ c.features ≤ 4) then 1
  else if countE c.models.length 1 4 ≠ 0 then countE c.models.length 1 4
  else firstE (ckModel c.features) c.models
def okByte (b : UInt8) : Bool := b == 63 || (48 ≤ b && b ≤ 57)
def ckOld (c : Cat) (o : Old) : Int :=
  if ckCat c ≠ 0 then ckCat c
  else if ckVals o.seen c.features 0 ≠ 0 then ckVals o.seen c.features 0
  else if o.plate.size ≠ 0 ∧ o.plate.size ≠ 4 then 2
  else if ¬ (o.plate.data.toList.all okByte = true) then 2
  else if ¬ (0 ≤ o.changed ∧ o.changed ≤ 4) then 1
  else 0
/-- How many features that are seen are not as in a look. -/
def chg (x seen : List Int) (f : Nat) : Bool := decide (0 < tg seen f) && decide (tg seen f ≠ tg x f)
def changedN (x seen : List Int) : Nat := ((List.range seen.length).filter (chg x seen)).length
def madeOf (i : Nat) (m : Model) (k : Nat) : Made :=
  ⟨i, m.first + k, tg (m.looks.getD k []) 0, tg (m.looks.getD k []) 1, tg (m.looks.getD k []) 2, tg (m.looks.getD k []) 3, m.nums.getD k default⟩
def madesOf (i : Nat) (m : Model) : List Made := (List.range m.looks.length).map (madeOf i m)
def allMade (c : Cat) : List Made := (List.range c.models.length).flatMap fun (i : Nat) => madesOf i (c.models.getD i default)
/-- The digit of a number at a place of four, from the left. -/
def digitAt (n : Int) (i : Nat) : Int := 48 + (n / 10 ^ (3 - i)) % 10
def readB (n : Int) (i : Nat) (b : UInt8) : Bool := b == 63 || decide ((b.toNat : Int) = digitAt n i)
def readsP (plate : ByteArray) (n : Int) : Bool := (List.range plate.size).all fun i => readB n i (plate.data.toList.getD i 0)
def numsP (x : Rng) (plate : ByteArray) : List Int := ((List.range (x.hi - x.lo + 1).toNat).map fun (k : Nat) => x.lo + k).filter (readsP plate)
def fitsP (x : Rng) (plate : ByteArray) : Bool := !(numsP x plate).isEmpty
def isTrue (o : Old) (m : Made) : Bool := decide ((changedN m.look o.seen : Int) ≤ o.changed) && fitsP m.nums o.plate
def truthsM (c : Cat) (o : Old) : List Made := (allMade c).filter (isTrue o)
/-- All truths, or the error. -/
def knownM (c : Cat) (o : Old) (wrong : List Int) : List Made × Int :=
  if ckOld c o ≠ 0 then ([], ckOld c o) else if firstE id wrong ≠ 0 then ([], firstE id wrong) else if truthsM c o = [] then ([], 9) else (truthsM c o, 0)
end Go.Proofs
