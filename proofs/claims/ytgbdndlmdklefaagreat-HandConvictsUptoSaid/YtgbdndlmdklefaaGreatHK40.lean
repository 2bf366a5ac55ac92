/- The operations are quiet, whatever the operands are. -/
import Derived.Test.YtgbdndlmdklefaaGreatHK39
import Derived.Test.YtgbdndlmdklefaaGreatHK16
import Derived.Shelf.Sort.Plain
import Derived.Shelf.Slices.CompactI
set_option linter.unusedSimpArgs false
set_option linter.unusedVariables false
namespace Go.Mu
open Go Go.Conc
section
variable {P:Program}{α β:Type}
theorem lg{s:Sem α}{Φ Ψ:α→Prop}(h:Qt P s Φ)(hi:∀a,Φ a→Ψ a):Qt P s Ψ:=by
 induction s with
 | pure a=>exact hi _ h
 | load m a k ih=>exact fun v=>ih v (h v)
 | store m a v k ih=>exact ih h
 | new o k ih=>exact fun r=>ih r (h r)
 | shape r k ih=>exact fun s=>ih s (h s)
 | freeze a n k ih=>exact ih h
 | frozen a k ih=>exact fun b=>ih b (h b)
 | getObj r k ih=>exact fun o=>ih o (h o)
 | setObj r o k ih=>exact ih h
 | choose q k ih=>exact fun n=>ih n (h n)
 | sys c k ih=>exact h
 | program k ih=>exact ih P h
 | mark m k ih=>exact⟨h.1,ih h.2⟩
 | halt h'=>exact h
theorem gX{x:Sem α}{f:α→Sem β}{Φ:β→Prop}(h:Qt P x fun a=>Qt P (f a) Φ):Qt P (x >>= f) Φ:=by
 show Qt P (x.bind f) Φ
 induction x with
 | pure a=>exact h
 | load m a k ih=>exact fun v=>ih v (h v)
 | store m a v k ih=>exact ih h
 | new o k ih=>exact fun r=>ih r (h r)
 | shape r k ih=>exact fun s=>ih s (h s)
 | freeze a n k ih=>exact ih h
 | frozen a k ih=>exact fun b=>ih b (h b)
 | getObj r k ih=>exact fun o=>ih o (h o)
 | setObj r o k ih=>exact ih h
 | choose q k ih=>exact fun n=>ih n (h n)
 | sys c k ih=>exact h
 | program k ih=>exact ih P h
 | mark m k ih=>exact⟨h.1,ih h.2⟩
 | halt h'=>exact h
def Qa(P:Program)(s:Sem α):Prop:=Qt P s fun _=>True
theorem aA{x:Sem α}{f:α→Sem β}(h:Qa P x)(hf:∀a,Qa P (f a)):Qa P (x >>= f):=gX (lg h fun a _=>hf a)
class Qi (P:Program) (s:Sem α):Prop where
 qa:Qa P s
theorem BT{a:α}:Qa P (Pure.pure a:Sem α):=trivial
instance {a:α}:Qi P (Pure.pure a:Sem α):=⟨trivial⟩
instance {x:Sem α}{f:α→Sem β}[h:Qi P x][hf:∀a,Qi P (f a)]:Qi P (x >>= f):=⟨aA h.qa fun a=>(hf a).qa⟩
instance {c:Prop}[Decidable c]{x y:Sem α}[h:Qi P x][h':Qi P y]:Qi P (if c then x else y):=⟨by split<;> first | exact h.qa | exact h'.qa⟩
theorem aG{x:Sem α}{f:α→β}(h:Qa P x):Qa P (Functor.map f x):=by
 show Qa P (x >>= fun a=>Sem.pure (f a))
 exact aA h fun a=>trivial
theorem lz{f:α→β→Sem (ForInStep β)}(hf:∀a b,Qa P (f a b)):∀(l:List α) (b:β),Qa P (forIn l b f)
 | [],b=>by rw[List.forIn_nil];exact BT
 | a::l,b=>by
  rw[List.forIn_cons]
  refine aA (hf a b) fun r=>?_
  cases r with
  | done b=>exact BT
  | yield b=>exact lz hf l b
theorem vY{f:α→β→Sem (ForInStep β)}(hf:∀a b,Qa P (f a b))(l:Array α)(b:β):Qa P (forIn l b f):=by
 rw[← Array.forIn_toList];exact lz hf _ _
theorem vT{f:Nat→β→Sem (ForInStep β)}(hf:∀a b,Qa P (f a b))(n:Nat)(b:β):Qa P (forIn [0:n] b f):=by
 rw[Std.Legacy.Range.forIn_eq_forIn_range'];exact lz hf _ _
instance {s:String}:Qi P (stuck s:Sem α):=⟨trivial⟩
instance {u:Unsupported}:Qi P (unsupported u:Sem α):=⟨trivial⟩
instance {v:Value}:Qi P (goPanic v:Sem α):=⟨trivial⟩
instance : Qi P program:=⟨trivial⟩
instance {a:Addr}{m:Mode}:Qi P (load a m):=⟨fun _=>trivial⟩
instance {a:Addr}{v:Value}{m:Mode}:Qi P (store a v m):=⟨trivial⟩
instance {o:Obj}:Qi P (newObj o):=⟨fun _=>trivial⟩
instance {r:Nat}:Qi P (shape r):=⟨fun _=>trivial⟩
instance {a:Addr}{n:Nat}:Qi P (freeze a n):=⟨trivial⟩
instance {a:Addr}:Qi P (frozen a):=⟨fun _=>trivial⟩
instance {r:Nat}:Qi P (getObj r):=⟨fun _=>trivial⟩
instance {r:Nat}{o:Obj}:Qi P (setObj r o):=⟨trivial⟩
instance {q:Question}:Qi P (choose q):=⟨fun _=>trivial⟩
instance Qa_typeInfo{t:TypeId}:Qi P (typeInfo t):=⟨by
 unfold typeInfo
 repeat' first | exact Qi.qa | refine aG ?_ | refine aA ?_ fun _=>?_ | split | dsimp only⟩
instance Qa_underlying{t:TypeId}:Qi P (underlying t):=⟨by
 unfold underlying
 repeat' first | exact Qi.qa | refine aG ?_ | refine aA ?_ fun _=>?_ | split | dsimp only⟩
instance Qa_zeroValue{t:TypeId}:Qi P (zeroValue t):=⟨by
 unfold zeroValue
 repeat' first | exact Qi.qa | refine aG ?_ | refine aA ?_ fun _=>?_ | split | dsimp only⟩
instance Qa_sizeOf{t:TypeId}:Qi P (sizeOf t):=⟨by
 unfold sizeOf
 repeat' first | exact Qi.qa | refine aG ?_ | refine aA ?_ fun _=>?_ | split | dsimp only⟩
instance Qa_isAgg{t:TypeId}:Qi P (isAgg t):=⟨by
 unfold isAgg
 repeat' first | exact Qi.qa | refine aG ?_ | refine aA ?_ fun _=>?_ | split | dsimp only⟩
instance Qa_typeStr{t:TypeId}:Qi P (typeStr t):=⟨by
 unfold typeStr
 repeat' first | exact Qi.qa | refine aG ?_ | refine aA ?_ fun _=>?_ | split | dsimp only⟩
instance Qa_runtimePanic{e:RuntimeError}:Qi P (runtimePanic e:Sem α):=⟨by
 unfold runtimePanic
 repeat' first | exact Qi.qa | refine aG ?_ | refine aA ?_ fun _=>?_ | split | dsimp only⟩
instance Qa_boundsPanic{k:IntKind}{x y:Int}{c:BoundsCode}:Qi P (boundsPanic k x y c:Sem α):=⟨by
 unfold boundsPanic
 repeat' first | exact Qi.qa | refine aG ?_ | refine aA ?_ fun _=>?_ | split | dsimp only⟩
instance Qa_asIntOf{v:Value}:Qi P (asIntOf v):=⟨by
 unfold asIntOf
 repeat' first | exact Qi.qa | refine aG ?_ | refine aA ?_ fun _=>?_ | split | dsimp only⟩
instance Qa_asBool{v:Value}:Qi P (asBool v):=⟨by
 unfold asBool
 repeat' first | exact Qi.qa | refine aG ?_ | refine aA ?_ fun _=>?_ | split | dsimp only⟩
instance Qa_asAddr{v:Value}:Qi P (asAddr v):=⟨by
 unfold asAddr
 repeat' first | exact Qi.qa | refine aG ?_ | refine aA ?_ fun _=>?_ | split | dsimp only⟩
instance Qa_asAgg{v:Value}:Qi P (asAgg v):=⟨by
 unfold asAgg
 repeat' first | exact Qi.qa | refine aG ?_ | refine aA ?_ fun _=>?_ | split | dsimp only⟩
instance Qa_asInt{v:Value}:Qi P (asInt v):=⟨by
 unfold asInt
 repeat' first | exact Qi.qa | refine aG ?_ | refine aA ?_ fun _=>?_ | split | dsimp only⟩
instance Qa_sureAddr{v:Value}:Qi P (Instr.sureAddr v):=⟨by
 unfold Instr.sureAddr
 repeat' first | exact Qi.qa | refine aG ?_ | refine aA ?_ fun _=>?_ | split | dsimp only⟩
theorem lP{a:Addr}:∀(n i:Nat) (acc:Array Value),Qa P (loadCellsFrom a i n acc)
 | 0,i,acc=>trivial
 | n+1,i,acc=>by unfold loadCellsFrom;exact aA Qi.qa fun v=>lP n _ _
instance {a:Addr}{n:Nat}:Qi P (loadCells a n):=⟨lP _ _ _⟩
theorem oS{a:Addr}:∀(vs:List Value) (i:Nat),Qa P (storeCells a vs i)
 | [],i=>trivial
 | v::vs,i=>by unfold storeCells;exact aA Qi.qa fun _=>oS vs _
instance {a:Addr}{vs:List Value}{i:Nat}:Qi P (storeCells a vs i):=⟨oS _ _⟩
instance Qa_loadVar{t:TypeId}{a:Addr}:Qi P (loadVar t a):=⟨by
 unfold loadVar
 repeat' first | exact Qi.qa | refine aG ?_ | refine aA ?_ fun _=>?_ | split | dsimp only⟩
instance Qa_storeVar{t:TypeId}{a:Addr}{v:Value}:Qi P (storeVar t a v):=⟨by
 unfold storeVar
 repeat' first | exact Qi.qa | refine aG ?_ | refine aA ?_ fun _=>?_ | split | dsimp only⟩
instance Qa_newRow{t:TypeId}{cs:Array Value}:Qi P (newRow t cs):=⟨by
 unfold newRow
 repeat' first | exact Qi.qa | refine aG ?_ | refine aA ?_ fun _=>?_ | split | dsimp only⟩
instance Qa_newVar{t:TypeId}{v:Value}:Qi P (newVar t v):=⟨by
 unfold newVar
 repeat' first | exact Qi.qa | refine aG ?_ | refine aA ?_ fun _=>?_ | split | dsimp only⟩
instance Qa_part{t:TypeId}{cs:Array Value}{o:Nat}:Qi P (part t cs o):=⟨by
 unfold part
 repeat' first | exact Qi.qa | refine aG ?_ | refine aA ?_ fun _=>?_ | split | dsimp only⟩
instance Qa_viewAt{r:Nat}:Qi P (viewAt r):=⟨by
 unfold viewAt
 repeat' first | exact Qi.qa | refine aG ?_ | refine aA ?_ fun _=>?_ | split | dsimp only⟩
instance Qa_numberAt{r:Nat}:Qi P (numberAt r):=⟨by
 unfold numberAt
 repeat' first | exact Qi.qa | refine aG ?_ | refine aA ?_ fun _=>?_ | split | dsimp only⟩
instance Qa_asNumber{a:Addr}{b:Bool}:Qi P (asNumber a b):=⟨by
 unfold asNumber
 repeat' first | exact Qi.qa | refine aG ?_ | refine aA ?_ fun _=>?_ | split | dsimp only⟩
instance Qa_behindNumber{a:Addr}:Qi P (behindNumber a):=⟨by
 unfold behindNumber
 repeat' first | exact Qi.qa | refine aG ?_ | refine aA ?_ fun _=>?_ | split | dsimp only⟩
instance Qa_noView{a:Addr}:Qi P (noView a):=⟨by
 unfold noView
 repeat' first | exact Qi.qa | refine aG ?_ | refine aA ?_ fun _=>?_ | split | dsimp only⟩
instance Qa_stringish{a:Addr}:Qi P (stringish a):=⟨by
 unfold stringish
 repeat' first | exact Qi.qa | refine aG ?_ | refine aA ?_ fun _=>?_ | split | dsimp only⟩
instance Qa_mayBeOne{a b:Addr}:Qi P (mayBeOne a b):=⟨by
 unfold mayBeOne
 repeat' first | exact Qi.qa | refine aG ?_ | refine aA ?_ fun _=>?_ | split | dsimp only⟩
instance Qa_byteOf{a:Addr}:Qi P (byteOf a):=⟨by
 unfold byteOf
 repeat' first | exact Qi.qa | refine aG ?_ | refine aA ?_ fun _=>?_ | split | dsimp only⟩
instance Qa_sameAddr{a b:Addr}:Qi P (sameAddr a b):=⟨by
 unfold sameAddr
 repeat' first | exact Qi.qa | refine aG ?_ | refine aA ?_ fun _=>?_ | split | dsimp only⟩
instance {a b:Option Addr}:Qi P (samePointer a b):=⟨by
 cases a<;> cases b<;> first | exact trivial | (show Qa P (sameAddr _ _);exact Qi.qa)⟩
instance Qa_loadAt{t:TypeId}{a:Value}:Qi P (Instr.loadAt t a):=⟨by
 unfold Instr.loadAt
 repeat' first | exact Qi.qa | refine aG ?_ | refine aA ?_ fun _=>?_ | split | dsimp only⟩
instance Qa_storeAt{t:TypeId}{a v:Value}:Qi P (Instr.storeAt t a v):=⟨by
 unfold Instr.storeAt
 repeat' first | exact Qi.qa | refine aG ?_ | refine aA ?_ fun _=>?_ | split | dsimp only⟩
instance Qa_alloc{t:TypeId}{b:Bool}{v:Value}:Qi P (Instr.alloc t b v):=⟨by
 unfold Instr.alloc
 repeat' first | exact Qi.qa | refine aG ?_ | refine aA ?_ fun _=>?_ | split | dsimp only⟩
instance Qa_indexAt{t:TypeId}{a v:Value}:Qi P (Instr.indexAt t a v):=⟨by
 unfold Instr.indexAt
 repeat' first | exact Qi.qa | refine aG ?_ | refine aA ?_ fun _=>?_ | split | dsimp only⟩
instance Qa_index{t:TypeId}{a v:Value}:Qi P (Instr.index t a v):=⟨by
 unfold Instr.index
 repeat' first | exact Qi.qa | refine aG ?_ | refine aA ?_ fun _=>?_ | split | dsimp only⟩
instance Qa_extract{a:Value}{i:Nat}:Qi P (Instr.extract a i):=⟨by
 unfold Instr.extract
 repeat' first | exact Qi.qa | refine aG ?_ | refine aA ?_ fun _=>?_ | split | dsimp only⟩
instance Qa_sliceBound{x:Value}{y:Nat}{c:BoundsCode}:Qi P (Instr.sliceBound x y c):=⟨by
 unfold Instr.sliceBound
 repeat' first | exact Qi.qa | refine aG ?_ | refine aA ?_ fun _=>?_ | split | dsimp only⟩
instance Qa_sliceBounds{b:Bool}{l c:Nat}{lo hi mx:Option Value}:Qi P (Instr.sliceBounds b l c lo hi mx):=⟨by
 unfold Instr.sliceBounds
 repeat' first | exact Qi.qa | refine aG ?_ | refine aA ?_ fun _=>?_ | split | dsimp only⟩
instance Qa_slice{t:TypeId}{x:Value}{lo hi mx:Option Value}:Qi P (Instr.slice t x lo hi mx):=⟨by
 unfold Instr.slice
 repeat' first | exact Qi.qa | refine aG ?_ | refine aA ?_ fun _=>?_ | split | dsimp only⟩
instance Qa_sliceAt{t:TypeId}{x:Value}{lo hi mx:Option Value}:Qi P (Instr.sliceAt t x lo hi mx):=⟨by
 unfold Instr.sliceAt
 repeat' first | exact Qi.qa | refine aG ?_ | refine aA ?_ fun _=>?_ | split | dsimp only⟩
instance Qa_partAt{a:Addr}{c b:Nat}:Qi P (partAt a c b):=⟨by
 unfold partAt
 repeat' first | exact Qi.qa | refine aG ?_ | refine aA ?_ fun _=>?_ | split | dsimp only⟩
instance Qa_fieldPlace{a:Addr}{f:Field}:Qi P (fieldPlace a f):=⟨by
 unfold fieldPlace
 repeat' first | exact Qi.qa | refine aG ?_ | refine aA ?_ fun _=>?_ | split | dsimp only⟩
instance Qa_fieldAt{t:TypeId}{x:Value}{f:Nat}:Qi P (Instr.fieldAt t x f):=⟨by
 unfold Instr.fieldAt
 repeat' first | exact Qi.qa | refine aG ?_ | refine aA ?_ fun _=>?_ | split | dsimp only⟩
instance Qa_field{t:TypeId}{x:Value}{f:Nat}:Qi P (Instr.field t x f):=⟨by
 unfold Instr.field
 repeat' first | exact Qi.qa | refine aG ?_ | refine aA ?_ fun _=>?_ | split | dsimp only⟩
instance Qa_len{ats:Array TypeId}{ty:TypeId}{args:Array Value}:Qi P (Builtin.len_ ats ty args):=⟨by
 unfold Builtin.len_
 repeat' first | exact Qi.qa | refine aG ?_ | refine aA ?_ fun _=>?_ | split | dsimp only⟩
instance Qa_clear{ats:Array TypeId}{ty:TypeId}{args:Array Value}:Qi P (Builtin.clear_ ats ty args):=⟨by
 unfold Builtin.clear_
 repeat' first | exact Qi.qa | refine aG ?_ | refine aA ?_ fun _=>?_ | split | dsimp only⟩
instance Qa_intArith{op:BinOp}{k:IntKind}{x y:Int}:Qi P (Op.intArith op k x y):=⟨by
 unfold Op.intArith
 repeat' first | exact Qi.qa | refine aG ?_ | refine aA ?_ fun _=>?_ | split | dsimp only⟩
instance Qa_intBits{op:BinOp}{k:IntKind}{x y:Int}:Qi P (Op.intBits op k x y):=⟨by
 unfold Op.intBits
 repeat' first | exact Qi.qa | refine aG ?_ | refine aA ?_ fun _=>?_ | split | dsimp only⟩
instance Qa_intDiv{op:BinOp}{k:IntKind}{x y:Int}:Qi P (Op.intDiv op k x y):=⟨by
 unfold Op.intDiv
 repeat' first | exact Qi.qa | refine aG ?_ | refine aA ?_ fun _=>?_ | split | dsimp only⟩
instance Qa_shift{op:BinOp}{k yk:IntKind}{x y:Int}:Qi P (Op.shift op k x yk y):=⟨by
 unfold Op.shift
 repeat' first | exact Qi.qa | refine aG ?_ | refine aA ?_ fun _=>?_ | split | dsimp only⟩
instance Qa_intCmp{op:BinOp}{x y:Int}:Qi P (Op.intCmp op x y):=⟨by
 unfold Op.intCmp
 repeat' first | exact Qi.qa | refine aG ?_ | refine aA ?_ fun _=>?_ | split | dsimp only⟩
instance Qa_floatArith{op:BinOp}{k:FloatKind}{x y:Nat}:Qi P (Op.floatArith op k x y):=⟨by
 unfold Op.floatArith
 repeat' first | exact Qi.qa | refine aG ?_ | refine aA ?_ fun _=>?_ | split | dsimp only⟩
instance Qa_floatCmp{op:BinOp}{k:FloatKind}{x y:Nat}:Qi P (Op.floatCmp op k x y):=⟨by
 unfold Op.floatCmp
 repeat' first | exact Qi.qa | refine aG ?_ | refine aA ?_ fun _=>?_ | split | dsimp only⟩
instance Qa_floatToFloat{k:FloatKind}{x:Nat}{k2:FloatKind}:Qi P (Conv.floatToFloat k x k2):=⟨by
 unfold Conv.floatToFloat
 repeat' first | exact Qi.qa | refine aG ?_ | refine aA ?_ fun _=>?_ | split | dsimp only⟩
instance Qa_floatToInt{k:FloatKind}{x:Nat}{k2:IntKind}:Qi P (Conv.floatToInt k x k2):=⟨by
 unfold Conv.floatToInt
 repeat' first | exact Qi.qa | refine aG ?_ | refine aA ?_ fun _=>?_ | split | dsimp only⟩
instance Qa_cxArith{op:BinOp}{k:FloatKind}{x y:Nat}:Qi P (Op.Complex.arith op k x y):=⟨by
 unfold Op.Complex.arith
 repeat' first | exact Qi.qa | refine aG ?_ | refine aA ?_ fun _=>?_ | split | dsimp only⟩
instance Qa_cxCmp{op:BinOp}{k:FloatKind}{x y:Nat}:Qi P (Op.Complex.cmp op k x y):=⟨by
 unfold Op.Complex.cmp
 repeat' first | exact Qi.qa | refine aG ?_ | refine aA ?_ fun _=>?_ | split | dsimp only⟩
instance Qa_cxConv{k:FloatKind}{x:Nat}{k2:FloatKind}:Qi P (Op.Complex.conv k x k2):=⟨by
 unfold Op.Complex.conv
 repeat' first | exact Qi.qa | refine aG ?_ | refine aA ?_ fun _=>?_ | split | dsimp only⟩
instance {x y:Nat}:Qi P (Op.Complex.add x y):=⟨(Qa_cxArith (P:=P)).qa⟩
instance {x y:Nat}:Qi P (Op.Complex.sub x y):=⟨(Qa_cxArith (P:=P)).qa⟩
instance {x y:Nat}:Qi P (Op.Complex.mul x y):=⟨(Qa_cxArith (P:=P)).qa⟩
instance {x y:Nat}:Qi P (Op.Complex.quo x y):=⟨(Qa_cxArith (P:=P)).qa⟩
instance Qa_cxProduct{a b c d:Nat}:Qi P (Op.Complex.product a b c d):=⟨by
 unfold Op.Complex.product
 repeat' first | exact Qi.qa | refine aG ?_ | refine aA ?_ fun _=>?_ | split | dsimp only⟩
instance Qa_cxCorrected{s a b c d:Nat}:Qi P (Op.Complex.corrected s a b c d):=⟨by
 unfold Op.Complex.corrected
 repeat' first | exact Qi.qa | refine aG ?_ | refine aA ?_ fun _=>?_ | split | dsimp only⟩
instance Qa_cxQuotient{a b c d:Nat}:Qi P (Op.Complex.quotient a b c d):=⟨by
 unfold Op.Complex.quotient
 repeat' first | exact Qi.qa | refine aG ?_ | refine aA ?_ fun _=>?_ | split | dsimp only⟩
instance Qa_complexOp{op:BinOp}{k:FloatKind}{a b c d:Nat}:Qi P (Op.complexOp op k a b c d):=⟨by
 unfold Op.complexOp
 repeat' first | exact Qi.qa | refine aG ?_ | refine aA ?_ fun _=>?_ | split | dsimp only⟩
instance Qa_stringOp{op:BinOp}{a b:ByteArray}:Qi P (Op.stringOp op a b):=⟨by
 unfold Op.stringOp
 repeat' first | exact Qi.qa | refine aG ?_ | refine aA ?_ fun _=>?_ | split | dsimp only⟩
instance Qa_twoPlaces{a b:Addr}:Qi P (Op.twoPlaces a b):=⟨by
 unfold Op.twoPlaces
 repeat' first | exact Qi.qa | refine aG ?_ | refine aA ?_ fun _=>?_ | split | dsimp only⟩
instance Qa_addrSub{k:IntKind}{a b:Addr}:Qi P (Op.addrSub k a b):=⟨by
 unfold Op.addrSub
 repeat' first | exact Qi.qa | refine aG ?_ | refine aA ?_ fun _=>?_ | split | dsimp only⟩
instance Qa_addrCmp{op:BinOp}{a b:Addr}:Qi P (Op.addrCmp op a b):=⟨by
 unfold Op.addrCmp
 repeat' first | exact Qi.qa | refine aG ?_ | refine aA ?_ fun _=>?_ | split | dsimp only⟩
instance Qa_addrMod{k:IntKind}{a:Addr}{n:Int}:Qi P (Op.addrMod k a n):=⟨by
 unfold Op.addrMod
 repeat' first | exact Qi.qa | refine aG ?_ | refine aA ?_ fun _=>?_ | split | dsimp only⟩
instance Qa_unsafeAdd{ats:Array TypeId}{ty:TypeId}{x y:Value}:Qi P (Builtin.unsafeAdd_ ats ty #[x,y]):=⟨by
 unfold Builtin.unsafeAdd_
 cases x<;> (first | exact trivial | dsimp only)
 all_goals repeat' first
  | exact Qi.qa
  | refine aG ?_
  | refine aA ?_ fun _=>?_
  | split
  | dsimp only⟩
instance Qa_movedNumber{t:TypeId}{x y:Value}:Qi P (movedNumber t x y):=⟨by
 unfold movedNumber
 repeat' first | exact Qi.qa | refine aG ?_ | refine aA ?_ fun _=>?_ | split | dsimp only⟩
instance Qa_movedPointer{t:TypeId}{x y:Value}:Qi P (movedPointer t x y):=⟨by
 unfold movedPointer
 repeat' first | exact Qi.qa | refine aG ?_ | refine aA ?_ fun _=>?_ | split | dsimp only⟩
theorem tv:∀(d:Nat) (t:TypeId) (x y:Value),Qa P (Op.equalIn d t x y)
 | 0,t,x,y=>trivial
 | d+1,t,x,y=>by
  unfold Op.equalIn
  repeat' first | exact Qi.qa | exact tv d _ _ _ | refine lz (fun _ _=>?_) _ _ | refine vY (fun _ _=>?_) _ _ | refine vT (fun _ _=>?_) _ _ | refine aG ?_ | refine aA ?_ fun _=>?_ | split | dsimp only
theorem oW:∀(d:Nat) (t:TypeId) (x y:Value),Qa P (Op.eqGuardIn d t x y)
 | 0,t,x,y=>trivial
 | d+1,t,x,y=>by
  unfold Op.eqGuardIn
  repeat' first | exact Qi.qa | exact oW d _ _ _ | refine lz (fun _ _=>?_) _ _ | refine vY (fun _ _=>?_) _ _ | refine vT (fun _ _=>?_) _ _ | refine aG ?_ | refine aA ?_ fun _=>?_ | split | dsimp only
instance {t:TypeId}{x y:Value}:Qi P (Op.equal t x y):=⟨tv _ _ _ _⟩
instance {d:Nat}{t:TypeId}{x y:Value}:Qi P (Op.eqGuardIn d t x y):=⟨oW _ _ _ _⟩
instance Qa_eqGuard{op:BinOp}{t:TypeId}{x y:Operand}{a b:Value}:Qi P (eqGuard op t x y a b):=⟨by
 unfold eqGuard
 repeat' first | exact Qi.qa | refine aG ?_ | refine aA ?_ fun _=>?_ | split | dsimp only⟩
instance Qa_binOp{op:BinOp}{t:TypeId}{a b:Value}:Qi P (binOp op t a b):=⟨by
 unfold binOp
 repeat' first | exact Qi.qa | refine aG ?_ | refine aA ?_ fun _=>?_ | split | dsimp only⟩
instance Qa_unary{op:UnOp}{x:Value}:Qi P (Op.unary op x):=⟨by
 unfold Op.unary
 repeat' first | exact Qi.qa | refine aG ?_ | refine aA ?_ fun _=>?_ | split | dsimp only⟩
theorem mZ:∀(l:List FieldStep) (t:TypeId) (x:Option Value),Qa P (followBlind l t x)
 | [],t,x=>trivial
 | s::l,t,x=>by
  unfold followBlind
  repeat' first | exact Qi.qa | exact mZ l _ _ | refine aG ?_ | refine aA ?_ fun _=>?_ | split | dsimp only
instance {l:List FieldStep}{t:TypeId}{x:Option Value}:Qi P (followBlind l t x):=⟨mZ _ _ _⟩
theorem qT:∀(d:Nat) (t:TypeId) (x:Value) (s:String),Qa P (nilAhead d t x s)
 | 0,t,x,s=>trivial
 | d+1,t,x,s=>by
  unfold nilAhead
  repeat' first | exact Qi.qa | exact qT d _ _ _ | refine aG ?_ | refine aA ?_ fun _=>?_ | split | dsimp only
instance {d:Nat}{t:TypeId}{x:Value}{s:String}:Qi P (nilAhead d t x s):=⟨qT _ _ _ _⟩
end
end Go.Mu
namespace Go.Mu
open Go Go.Conc
def mN(P:Program)(L:FuncId→Bool):Op→Bool
 | .move _ | .assign _ | .pick .. | .alloc _ | .load .. | .store .. | .binOp .. | .unOp .. | .slice .. | .fieldAddr .. | .field .. | .indexAddr .. | .index .. | .extract .. | .nilCheck _=>true
 | .convert s d _=>match P.underlying s,P.underlying d with
  | some (.int _),some (.int _)=>true
  | _,_=>false
 | .call ⟨.value (.func f),_,_⟩=>L f
 | .call ⟨.builtin .len,_,_⟩ | .call ⟨.builtin .clear,_,_⟩=>true
 | _=>false
def codeOk(P:Program)(L:FuncId→Bool):Code→Bool
 | .region _ ops _=>ops.all fun o=>mN P L o.op
 | .seq a b | .cond _ a b=>codeOk P L a&&codeOk P L b
 | .block _ c | .loop c | .scope c=>codeOk P L c
 | .skip | .label _ | .exit _ | .goto _ | .ret | .refuse _=>true
 | .rangeFunc .. =>false
def xH(fn:Func):Bool:=match fn.results.toList with
 | [] | [.tmp _] | [.tmp _,.tmp _]=>true
 | _=>false
def RU(P:Program)(L:FuncId→Bool)(f:FuncId):Bool:=match P.funcs[f]? with
 | some fn=> !(fn.name== "runtime.NumGoroutine")&&xH fn&&match fn.body with
  | some c=>codeOk P L c
  | none=>false
 | none=>false
def BO(P:Program):Bool:=P.funcs.all fun f=>match f.body with
 | some c=>(readies c).isEmpty
 | none=>true
variable {P:Program}{L:FuncId→Bool}
theorem fJ{x:Sem Value}(h:Qa P x):Qt P (do pure (.value (← x)):Sem Next) (gg L):=gX (lg h fun _ _=>trivial)
theorem O2{x:Sem Unit}(h:Qa P x):Qt P (do x;pure .skip:Sem Next) (gg L):=gX (lg h fun _ _=>trivial)
theorem DQ{s d:TypeId}{k k':IntKind}{x:Value}(hs:P.underlying s=some (.int k))(hd:P.underlying d=some (.int k')):Qa P (convert s d x):=by
 unfold convert underlying
 show Qt P (program >>= _) _
 simp only[Qa,Qt,bind,Sem.bind,program,hs,hd,pure]
 cases x<;> first | exact trivial | exact(Qi.qa:Qa P (Conv.floatToInt _ _ _)) | (rename_i a;cases a<;> exact trivial)
theorem Bt{x:Value}{fr:Frame}{o:Operand}(hx:fr.eval o=x){ty:TypeId}{dst:Option Tmp}{pos:String}{af:_}{gd:_}:Qt P (execOp fr.eval ⟨dst,.nilCheck o,ty,pos,af,gd⟩) (gg L):=by
 have fin:Qt P (runtimePanic .nilDeref:Sem Next) (gg L):=by
  unfold runtimePanic;exact trivial
 simp only[execOp,hx]
 split
 ·exact fin
 ·exact fin
 ·exact fin
 ·split
  ·exact fin
  ·refine gX (lg (Qi.qa:Qa P program) fun p _=>gX (lg (Qi.qa:Qa P (nilAhead _ _ _ _)) fun r _=>?_))
   split
   ·exact trivial
   ·exact trivial
  ·exact trivial
 ·exact trivial
theorem C4(hfn:∀f,L f=true→∃fn,P.funcs[f]? = some fn∧(fn.name== "runtime.NumGoroutine")=false∧fn.body.isNone=false){o:Oper}(h:mN P L o.op=true):oX P L o:=by
 obtain⟨dst,op,type,pos,after,guard⟩:=o
 simp only at h
 refine⟨fun fr=>?_,fun c e=>?_⟩
 ·cases op with
  | move x=>trivial
  | assign x=>trivial
  | pick c x y=>exact gX (lg (Qi.qa:Qa P (asBool _)) fun _ _=>trivial)
  | alloc t=>exact fJ Qi.qa
  | load t x=>exact fJ Qi.qa
  | store t x y=>exact O2 Qi.qa
  | binOp b t x y u=>exact fJ Qi.qa
  | unOp b t x=>exact fJ Qi.qa
  | slice t x lo hi mx=>exact fJ Qi.qa
  | fieldAddr t x f=>exact fJ Qi.qa
  | field t x f=>exact fJ Qi.qa
  | indexAddr t x f=>exact fJ Qi.qa
  | index t x f=>exact fJ Qi.qa
  | extract t x=>exact fJ Qi.qa
  | nilCheck x=>exact Bt rfl
  | convert s d x=>
   simp only[mN] at h
   split at h
   ·rename_i hs hd;exact fJ (DQ hs hd)
   ·cases h
  | call c=>
   obtain⟨callee,args,ats⟩:=c
   cases callee with
   | builtin b=>
    have hinv:∀cs,Qt P (builtin b ats type cs (args.map fr.eval)) (gg L)→Qt P (resolve fr.eval ⟨.builtin b,args,ats⟩ type >>= fun d=>invoke d.target d.args) (gg L):=fun cs hs=>by
     refine gX ?_
     cases b<;> first | (simp[mN] at h;done) | exact fJ Qi.qa
    cases b<;> first | (simp[mN] at h;done) | exact hinv #[] (fJ Qi.qa)
   | value f=>
    cases f with
    | func f=>
     have hL:L f=true:=by simpa[mN] using h
     obtain⟨fn,h1,h2,h3⟩:=hfn f hL
     show Qt P (resolve fr.eval ⟨.value (.func f),args,ats⟩ type >>= fun d=>invoke d.target d.args) (gg L)
     simp only[resolve,Frame.eval,Deferred.ofValue]
     refine gX ?_
     show Qt P (invoke _ _) (gg L)
     simp only[invoke,callFunc]
     refine gX (Φ:=gg L) ?_
     show Qt P (match P.funcs[f]? with | none=>_ | some fn=>_) (gg L)
     rw[h1]
     simp only[h2,h3,Bool.false_eq_true,if_false]
     exact hL
    | _=>simp[mN] at h
   | _=>simp[mN] at h
  | _=>simp[mN] at h
 ·simp only at e;subst e;simp[mN] at h
theorem jr(hfn:∀f,L f=true→∃fn,P.funcs[f]? = some fn∧(fn.name== "runtime.NumGoroutine")=false∧fn.body.isNone=false):∀{c:Code},codeOk P L c=true→jF P L c
 | .region _ ops _,h=>fun o ho=>C4 hfn (by
   simp only[codeOk,Array.all_eq_true_iff_forall_mem] at h;exact h o ho)
 | .seq a b,h | .cond _ a b,h=>by
  simp only[codeOk,Bool.and_eq_true] at h
  exact⟨jr hfn h.1,jr hfn h.2⟩
 | .block _ c,h | .loop c,h | .scope c,h=>jr (c:=c) hfn h
 | .skip,_ | .label _,_ | .exit _,_ | .goto _,_ | .ret,_ | .refuse _,_=>trivial
 | .rangeFunc ..,h=>by simp[codeOk] at h
theorem Bw{fn:Func}(h:xH fn=true):sK P fn:=by
 refine sK.of_flat ?_
 unfold xH at h
 split at h
 ·rename_i e;exact .inl (by apply Array.ext';simpa using e)
 ·rename_i t e;exact .inr (.inl ⟨t,by apply Array.ext';simpa using e⟩)
 ·rename_i t u e;exact .inr (.inr ⟨t,u,by apply Array.ext';simpa using e⟩)
 ·cases h
theorem LOK.PS{l:List FuncId}(h:l.all (RU P (fun f=>l.contains f))=true)(hs:BO P=true)(ha:P.follows .staticDataAhead=true):LOK P (fun f=>l.contains f):=by
 have hf:∀f,l.contains f=true→∃fn c,P.funcs[f]? = some fn∧(fn.name== "runtime.NumGoroutine")=false∧fn.body=some c∧codeOk P (fun f=>l.contains f) c=true∧xH fn=true:=by
  intro f hf
  have:=List.all_eq_true.1 h f (by simpa using hf)
  unfold RU at this
  split at this
  ·rename_i fn h1
   simp only[Bool.and_eq_true,Bool.not_eq_true'] at this
   obtain⟨⟨h2,h3⟩,h4⟩:=this
   split at h4
   ·rename_i c h5;exact⟨fn,c,h1,h2,h5,h4,h3⟩
   ·cases h4
  ·cases this
 have hfn:∀f,l.contains f=true→∃fn,P.funcs[f]? = some fn∧(fn.name== "runtime.NumGoroutine")=false∧fn.body.isNone=false:=fun f h=>by
  obtain⟨fn,c,h1,h2,h3,_⟩:=hf f h
  exact⟨fn,h1,h2,by rw[h3];rfl⟩
 refine⟨fun f h=>?_,fun g=>?_,ha⟩
 ·obtain⟨fn,c,h1,h2,h3,h4,h5⟩:=hf f h
  exact⟨fn,c,h1,h2,h3,jr hfn h4,Bw h5⟩
 ·unfold Program.stepOf
  rw[Array.findIdx?_eq_none_iff]
  intro fn hm
  unfold BO at hs
  rw[Array.all_eq_true_iff_forall_mem] at hs
  have:=hs fn hm
  cases hb:fn.body with
  | none=>rfl
  | some c=>
   rw[hb] at this
   have h0:readies c=[]:=by simpa using this
   simp[h0]
end Go.Mu
namespace Go.Mu
open Go Go.Proofs Go.Shelf Go.Sort
theorem R.grown{K:Kr}{σ:List aa}{w:World}(h:R K σ w)(os:Array Obj):R K σ {w with heap:=w.heap++os}∧Step K σ w K σ {w with heap:=w.heap++os}:=by
 have old:∀b,b<w.heap.size→({w with heap:=w.heap++os}:World).heap[b]? = w.heap[b]? :=fun b hb=>Array.getElem?_append_left hb
 have hlt:∀{r o},σ[r]? = some o→r<σ.length:=fun h=>(List.getElem?_eq_some_iff.1 h).1
 refine⟨⟨fun b p v hv=>?_,fun r o hr=>?_,h.inj,fun g cs hg=>?_⟩,?_⟩
 ·rw[fG (old b (h.lt hv))];exact h.stab b p v hv
 ·exact(h.obj r o hr).mono (hlt hr) (.refl _ _) (Nat.le_refl _) rfl fun b hb=>⟨old b ((h.obj r o hr).gF hb),fun _=>rfl⟩
 ·obtain⟨⟨E,fz,h1⟩,h2⟩:=h.lay g cs hg
  exact⟨⟨E,fz,by rw[old g (bJ h1)];exact h1⟩,h2⟩
 ·exact⟨.refl _ _,Nat.le_refl _,by simp,fun b hb hf=>⟨old b hb,hf,fun _=>rfl⟩,rfl,rfl,rfl,fun b hb=>by rw[old b hb],Nat.le_refl _⟩
theorem l9(l:List Int):(l.map (AV.int .i64)).flatMap AV.cells=l.map (AV.int .i64):=by
 induction l with
 | nil=>rfl
 | cons x l ih=>simp only[List.map_cons,List.flatMap_cons,ih];rfl
theorem wC{K:Kr}{n:Nat}{l:List Int}{cs:List Value}(h:VRs K n (l.map (AV.int .i64)) cs):cs=l.map (Value.int .i64):=by
 apply List.ext_getElem
 ·rw[← h.1];simp
 ·intro i h1 h2
  have:=h.2 i (by simpa using h2) h1
  rw[List.getElem_map] at this
  rw[this.bY,List.getElem_map]
theorem vO{K:Kr}{n:Nat}(l:List Int):VRs K n (l.map (AV.int .i64)) (l.map (Value.int .i64)):=
 ⟨by simp,fun i h1 h2=>by rw[List.getElem_map,List.getElem_map];exact .int _ _⟩
theorem pz{l:List Int}{o:Nat}{cc:Array Value}(h:o+l.length≤cc.size):(((putCells (Value.int .i64) o l.toArray cc).toList.drop o).take l.length)=l.map (Value.int .i64):=by
 apply List.ext_getElem
 ·simp[putCells];omega
 ·intro i h1 h2
  have hi:i<l.length:=by simpa using h2
  simp only[List.getElem_take,List.getElem_drop,putCells,List.size_toArray,Array.toList_mapIdx,List.getElem_mapIdx]
  rw[if_pos ⟨by omega,by omega⟩]
  simp[hi]
theorem Sd{P:Program}{ρ:Ren}(L:Lays.n189 P ρ){Lf:FuncId→Bool}(hL:LOK P Lf)(hfl:Lf (ρ.f 189)=true)(hC:aW P (ρ.f 189))(zs:List Int)(hz:zs≠[])(hn:zs.length≤4294967296){σ:List aa}{r:Nat}(hg:ai σ r=some (.vec 1 (zs.map (.int .i64)))){Q:AV→List aa→Prop}
  (h:Q (.tup []) (ax σ r (.vec 1 ((zs.mergeSort fun x y=>decide (x≤y)).map (.int .i64))))):ao (fun M=>M=Bes P) (ρ.f 189) [.vec r zs.length] σ Q:=by
 refine ni hL hfl hC fun K w cargs hR hA=>?_
 obtain⟨a,cap,h1,h2,h3,hsz,h5⟩:=hR.obj r _ hg
 rw[List.length_map] at h1 h2 h3
 have hlen:0<zs.length:=List.length_pos_iff.2 hz
 obtain⟨b,o,cc,E,rfl,g2,g3,g4,g5,g6⟩:=h5 (by omega)
 rw[l9,List.length_map] at g4
 have hrow:=wC g4
 obtain⟨c0,hc0⟩:∃c0,cargs.toList=[c0]:=List.length_eq_one_iff.1 hA.1.symm
 rw[hc0] at hA
 have hv:VR K σ.length (.vec r zs.length) c0:=hA.2 0 (by simp) (by simp)
 have hca:cargs= #[.slice (some ⟨b,o,none⟩) zs.length cap]:=by
  cases hv with
  | vec _ _ a' cap' hr' hl' ht ha=>
   rw[h1] at ht
   simp only[Option.some.injEq,Prod.mk.injEq] at ht
   obtain⟨rfl,rfl⟩:=ht
   apply Array.ext'
   rw[hc0]
 subst hca
 have hcc:∀j,j<zs.length→cc.toList[o+j]? = some (.int .i64 (zs.getD j 0)):=fun j hj=>by
  have e:((cc.toList.drop o).take (zs.length*1))[j]? = (zs.map (Value.int .i64))[j]? :=by rw[hrow]
  rw[List.getElem?_take_of_lt (by omega),List.getElem?_drop] at e
  rw[e]
  simp[hj]
 have hH:Holds (Value.int .i64) w b o zs.toArray:=fun j hj=>by
  have hj':j<zs.length:=by simpa using hj
  have hx:=hcc j hj'
  have hb:o+j<cc.size:=by omega
  have hx2:cc[o+j]= .int .i64 (zs.getD j 0):=by
   rw[Array.getElem?_toList,Array.getElem?_eq_getElem hb] at hx
   exact Option.some.inj hx
  refine⟨?_,?_⟩
  ·simp[World.cell?,g2,hb,hx2,List.getD,hj']
  ·simp[World.frozen?,g2]
 refine(Any.slices_Sort_int L b o cap zs w hH (bJ g2) (by omega)).mono ?_
 rintro e w' ⟨rfl,n,os,rfl⟩
 have hsl:(zs.mergeSort fun x y=>decide (x≤y)).length=zs.length:=List.length_mergeSort _
 generalize (zs.mergeSort fun x y=>decide (x≤y))=ys at hsl h⊢
 have hR1:R K σ (Sort.ahead w n):=hR.drew _
 have hp2:(putRow (Value.int .i64) (Sort.ahead w n) b o ys.toArray).heap[b]? = some (.cells (putCells (Value.int .i64) o ys.toArray cc) E (0,0)):=by
  simp[putRow,mapBlock,Sort.ahead,Array.getElem?_modify,g2,onCells]
 have hB:∀b',cC K r (.vec 1 (ys.map (.int .i64))) b'→b'=b:=fun b' hb=>by
  obtain⟨a',cap',q1,q2,q3⟩:=hb
  rw[List.length_map,hsl,h1] at q1
  simp only[Option.some.injEq,Prod.mk.injEq] at q1
  rw[← q3,← q1.1]
 have hO:eF K σ.length (putRow (Value.int .i64) (Sort.ahead w n) b o ys.toArray) r (.vec 1 (ys.map (.int .i64))):=by
  refine⟨_,cap,by rw[List.length_map,hsl];exact h1,by rw[List.length_map];omega,fun k hk=>h3 k (by rw[List.length_map,hsl] at hk;exact hk),fun i hi=>by rw[List.getElem_map];rfl,fun _=>⟨b,o,_,E,rfl,hp2,by simp[putCells];omega,?_,?_,g6⟩⟩
  ·rw[l9,List.length_map,Nat.mul_one,pz (by omega)]
   exact vO ys
  ·intro c hc
   simp only[putCells,Array.toList_mapIdx] at hc
   obtain⟨k,hk,rfl⟩:=List.mem_mapIdx.1 hc
   split
   ·rfl
   ·exact g5 _ (List.getElem_mem _)
 obtain⟨s1,s2⟩:=hR1.fP (w':=putRow (Value.int .i64) (Sort.ahead w n) b o ys.toArray) (o':= .vec 1 (ys.map (.int .i64))) hg b ⟨_,cap,by rw[List.length_map];exact h1,by omega,rfl⟩ K (.refl _ _) (fun _ _=>rfl) (fun b' hb=>by simp[putRow,mapBlock,Array.getElem?_modify,Ne.symm hb]) (by simp) (fun _ _ _=>rfl) (fun p v hv'=>by rw[g6 p] at hv';cases hv') hB hO rfl rfl rfl (by rw[hp2,show(Sort.ahead w n).heap[b]? = w.heap[b]? from rfl,g2];rfl)
 obtain⟨t1,t2⟩:=s1.grown os
 exact⟨.tuple #[],rfl,.tup [],_,K,.tup [] [] rfl (fun i hi=>by simp at hi),h,t1,(Step.drew _ s2).trans t2⟩
theorem VR.pre{K:Kr}{n:Nat}{t:Tok}{sz:Nat}{xs:List AV}{a:Option Addr}{cap m:Nat}(h:VR K n (.list t sz xs) (.slice a xs.length cap))(hm:m≤xs.length):VR K n (.list .no sz (xs.take m)) (.slice a m cap):=by
 cases h with
 | list _ _ _ _ _ f hl ht ha hs h1 h=>
  have e:(xs.take m).length=m:=by simp;omega
  have key:VR K n (.list .no sz (xs.take m)) (.slice a (xs.take m).length cap):=by
   refine .list .no sz _ a cap f (by omega) trivial (fun hne=>?_) (fun i hi=>?_) (fun i j hi hj=>h1 i j (by omega) hj) (fun i j hi hj=>?_)
   ·obtain⟨b,o,h2,h3⟩:=ha (fun e=>by subst e;simp at hne)
    exact⟨b,o,h2,fun i j hi hj=>h3 i j (by omega) hj⟩
   ·simp only[List.getElem_take];exact hs i (by omega)
   ·simp only[List.getElem_take] at hj⊢;exact h i j (by omega) hj
  rwa [e] at key
theorem Im{P:Program}{ρ:Ren}(L:Lays2.n20 P ρ){Lf:FuncId→Bool}(hL:LOK P Lf)(hfl:Lf (ρ.f 20)=true)(hC:aW P (ρ.f 20))(zs:List Int)(hz:zs≠[])(hn:zs.length≤4294967296){σ:List aa}{r:Nat}(hg:ai σ r=some (.vec 1 (zs.map (.int .i64)))){Q:AV→List aa→Prop}
  (h:Q (.list .no 1 ((Lib.compactUpTo zs.toArray zs.length).map (.int .i64))) (ax σ r .dead)):ao (fun M=>M=Bes P) (ρ.f 20) [.vec r zs.length] σ Q:=by
 refine ni hL hfl hC fun K w cargs hR hA=>?_
 obtain⟨a,cap,h1,h2,h3,hsz,h5⟩:=hR.obj r _ hg
 rw[List.length_map] at h1 h2 h3
 have hlen:0<zs.length:=List.length_pos_iff.2 hz
 obtain⟨b,o,cc,E,rfl,g2,g3,g4,g5,g6⟩:=h5 (by omega)
 rw[l9,List.length_map] at g4
 have hrow:=wC g4
 obtain⟨c0,hc0⟩:∃c0,cargs.toList=[c0]:=List.length_eq_one_iff.1 hA.1.symm
 rw[hc0] at hA
 have hv:VR K σ.length (.vec r zs.length) c0:=hA.2 0 (by simp) (by simp)
 have hca:cargs= #[.slice (some ⟨b,o,none⟩) zs.length cap]:=by
  cases hv with
  | vec _ _ a' cap' hr' hl' ht ha=>
   rw[h1] at ht
   simp only[Option.some.injEq,Prod.mk.injEq] at ht
   obtain⟨rfl,rfl⟩:=ht
   apply Array.ext'
   rw[hc0]
 subst hca
 have hcc:∀j,j<zs.length→cc.toList[o+j]? = some (.int .i64 (zs.getD j 0)):=fun j hj=>by
  have e:((cc.toList.drop o).take (zs.length*1))[j]? = (zs.map (Value.int .i64))[j]? :=by rw[hrow]
  rw[List.getElem?_take_of_lt (by omega),List.getElem?_drop] at e
  rw[e]
  simp[hj]
 have hH:Holds (Value.int .i64) w b o zs.toArray:=fun j hj=>by
  have hj':j<zs.length:=by simpa using hj
  have hx:=hcc j hj'
  have hb:o+j<cc.size:=by omega
  have hx2:cc[o+j]= .int .i64 (zs.getD j 0):=by
   rw[Array.getElem?_toList,Array.getElem?_eq_getElem hb] at hx
   exact Option.some.inj hx
  refine⟨?_,?_⟩
  ·simp[World.cell?,g2,hb,hx2,List.getD,hj']
  ·simp[World.frozen?,g2]
 refine(Any.slices_Compact_int_arr L b o cap zs.toArray w hH (by simp;omega) (by simpa using h2)).mono ?_
 rintro e w' ⟨rfl,n,rfl⟩
 rw[List.size_toArray]
 have hml:(Lib.compactUpTo zs.toArray zs.length).length≤zs.length:=by
  unfold Lib.compactUpTo
  rw[List.length_map]
  exact Nat.le_trans (List.length_filter_le _ _) (by simp)
 generalize Lib.compactUpTo zs.toArray zs.length=C at hml h⊢
 obtain⟨ys,hys⟩:∃ys,C++List.replicate (zs.length-C.length) (0:Int)=ys:=⟨_,rfl⟩
 have hsl:ys.length=zs.length:=by rw[← hys];simp;omega
 have htk:ys.take C.length=C:=by rw[← hys];simp
 rw[hys]
 have hR1:R K σ (Sort.ahead w n):=hR.drew _
 have hp2:(putRow (Value.int .i64) (Sort.ahead w n) b o ys.toArray).heap[b]? = some (.cells (putCells (Value.int .i64) o ys.toArray cc) E (0,0)):=by
  simp[putRow,mapBlock,Sort.ahead,Array.getElem?_modify,g2,onCells]
 have hB:∀b',cC K r (.vec 1 (ys.map (.int .i64))) b'→b'=b:=fun b' hb=>by
  obtain⟨a',cap',q1,q2,q3⟩:=hb
  rw[List.length_map,hsl,h1] at q1
  simp only[Option.some.injEq,Prod.mk.injEq] at q1
  rw[← q3,← q1.1]
 have hO:eF K σ.length (putRow (Value.int .i64) (Sort.ahead w n) b o ys.toArray) r (.vec 1 (ys.map (.int .i64))):=by
  refine⟨_,cap,by rw[List.length_map,hsl];exact h1,by rw[List.length_map];omega,fun k hk=>h3 k (by rw[List.length_map,hsl] at hk;exact hk),fun i hi=>by rw[List.getElem_map];rfl,fun _=>⟨b,o,_,E,rfl,hp2,by simp[putCells];omega,?_,?_,g6⟩⟩
  ·rw[l9,List.length_map,Nat.mul_one,pz (by omega)]
   exact vO ys
  ·intro c hc
   simp only[putCells,Array.toList_mapIdx] at hc
   obtain⟨k,hk,rfl⟩:=List.mem_mapIdx.1 hc
   split
   ·rfl
   ·exact g5 _ (List.getElem_mem _)
 obtain⟨s1,s2⟩:=hR1.fP (w':=putRow (Value.int .i64) (Sort.ahead w n) b o ys.toArray) (o':= .vec 1 (ys.map (.int .i64))) hg b ⟨_,cap,by rw[List.length_map];exact h1,by omega,rfl⟩ K (.refl _ _) (fun _ _=>rfl) (fun b' hb=>by simp[putRow,mapBlock,Array.getElem?_modify,Ne.symm hb]) (by simp) (fun _ _ _=>rfl) (fun p v hv'=>by rw[g6 p] at hv';cases hv') hB hO rfl rfl rfl (by rw[hp2,show(Sort.ahead w n).heap[b]? = w.heap[b]? from rfl,g2];rfl)
 have hr:=aN hg
 have hg2:ai (σ.set r (.vec 1 (ys.map (.int .i64)))) r=some (.vec 1 (ys.map (.int .i64))):=by
  show(σ.set r _)[r]? = _
  rw[List.getElem?_set,if_pos rfl,if_pos hr]
 obtain⟨K',t1,t2,t3⟩:=s1.freeze hg2
 have hvv:VR K (σ.set r (.vec 1 (ys.map (.int .i64)))).length (.vec r (ys.map (AV.int .i64)).length) (.slice (some ⟨b,o,none⟩) (ys.map (AV.int .i64)).length cap):=
  .vec r _ _ cap (by simpa using hr) (by rw[List.length_map];omega) (by rw[List.length_map,hsl];exact h1) (.inr ⟨b,o,rfl⟩)
 have hl3:=(t3 _ hvv).pre (m:=C.length) (by rw[List.length_map];omega)
 rw[← List.map_take,htk] at hl3
 have hsd:ax (σ.set r (.vec 1 (ys.map (.int .i64)))) r .dead=ax σ r .dead:=by
  unfold ax;rw[List.set_set]
 rw[hsd] at t1 t2
 have hln:(ax σ r aa.dead).length=σ.length:=by simp[ax]
 refine⟨_,rfl,_,_,K',?_,h,t1,(Step.drew _ s2).trans t2⟩
 rw[hln]
 simpa using hl3
end Go.Mu
