/- The lesser machine: values, a heap by numbers, a run by fuel; it answers a value, a panic or nothing. -/
import Derived.Calls
set_option linter.all false
namespace Go.AM
open Go

/-! tries -/
inductive T (α : Type) where
  | lf
  | nd (v : Option α) (l r : T α)

namespace T
variable {α : Type}
noncomputable def get (t : T α) : Nat → Option α :=
  T.rec (fun _ => none) (fun v _ _ gl gr n => Nat.rec v (fun m _ => Bool.rec (gr (Nat.div m 2)) (gl (Nat.div m 2)) (Nat.beq (Nat.mod m 2) 0)) n) t
noncomputable def setL (x : α) (ih : T α → Nat → T α) (n : Nat) : T α :=
  Nat.rec (nd (some x) lf lf) (fun m _ => Bool.rec (nd none lf (ih lf (Nat.div m 2))) (nd none (ih lf (Nat.div m 2)) lf) (Nat.beq (Nat.mod m 2) 0)) n
noncomputable def setN (x : α) (ih : T α → Nat → T α) (v : Option α) (l r : T α) (n : Nat) : T α :=
  Nat.rec (nd (some x) l r) (fun m _ => Bool.rec (nd v l (ih r (Nat.div m 2))) (nd v (ih l (Nat.div m 2)) r) (Nat.beq (Nat.mod m 2) 0)) n
noncomputable def put (t : T α) (n : Nat) (x : α) : T α := Nat.rec (fun t _ => t) (fun _ ih t n => T.rec (setL x ih n) (fun v l r _ _ => setN x ih v l r n) t) (Nat.succ n) t n
noncomputable def putList (t : T α) (n : Nat) (l : List α) : T α := List.rec (fun t _ => t) (fun x _ ih t n => ih (put t n x) (Nat.succ n)) l t n
end T

inductive AV where
  | bool (b : Bool)
  | int (k : IntKind) (n : Int)
  | str (s : List UInt8)
  | ptr (b o : Nat)
  | nilp
  | slice (b o len : Nat) (cap : Option Nat)
  | nils
  | map (r : Nat)
  | nilm
  | func (fn : Fn) (first captured : List AV)
  | nilf
  | iface (t : TypeId) (v : AV)
  | nili
  | agg (cs : List AV)
  | tup (vs : List AV)
  | sym (n : Nat)
  | bot
  deriving Inhabited

def AV.cells (v : AV) : List AV := match v with
  | .agg cs => cs
  | v => [v]
def AV.undef : AV := .tup []

inductive AOpd where
  | tmp (t : Nat)
  | const (v : AV)

/-- in the place of a row's default: of which type its memory is -/
def tagD (n : Nat) : AV := .agg [.int .i64 n]
/-- the same, of a variable of its own -/
def tagA (n : Nat) : AV := .agg [.int .i64 n, .nilp]
def notAgg (v : AV) : Bool := match v with | .agg _ => false | _ => true
/-- a value of the model without addresses, as a value of ours -/
def ofFlat (v : Value) : Option AV := match v with
  | .bool b => some (.bool b)
  | .int k n => some (.int k n)
  | .string s => some (.str s.data.toList)
  | .pointer a => (match a with | none => some .nilp | some _ => none)
  | .slice a n c => (match a with | none => bif Nat.beq n 0 && Nat.beq c 0 then some .nils else none | some _ => none)
  | .map r => (match r with | none => some .nilm | some _ => none)
  | .func fn a c => bif a.isEmpty && c.isEmpty then (match fn with | .func f => some (.func (.func f) [] []) | _ => none) else none
  | .nilFunc => some .nilf
  | .nilIface => some .nili
  | .tuple vs => bif vs.isEmpty then some (.tup []) else none
  | _ => none
def ofFlats : List Value → Option (List AV)
  | [] => some []
  | v :: r => match ofFlat v, ofFlats r with
    | some a, some l => some (a :: l)
    | _, _ => none
def ofValue (v : Value) : Option AV := match v with
  | .agg cs => (match ofFlats cs.toList with | some l => some (.agg l) | none => none)
  | v => ofFlat v

def opd : Operand → AOpd
  | .tmp t => .tmp t
  | .const v => .const ((ofValue v).getD .bot)
  | .global _ => .const .bot
  | .func f => .const (.func (.func f) [] [])

abbrev TM := T AV

inductive LoopSt where
  | ready | busy | done | exhausted

inductive CV where | toInt (k : IntKind) | same | ofInt
inductive SL where | str | arr (n size : Nat)

/-- how two flat parts are held against each other -/
inductive FK where | bool | int | str
/-- how two values of a type are -/
inductive EK where | bool | ptr | slice | map | func | iface (both : Bool) | agg (fs : List (Nat × FK))
inductive P1 where
  | mv (x : AOpd)
  | pick (c a b : AOpd)
  | binOp (op : BinOp) (x y : AOpd)
  | fieldAddr (off : Nat) (x : AOpd)
  | nilCheck (x : AOpd)
  | extract (x : AOpd) (i : Nat)
inductive P2 where
  | eq (neg : Bool) (k : EK) (x y : AOpd)
  | unOp (op : UnOp) (x : AOpd)
  | mkIface (t : TypeId) (x : AOpd)
  | mkFunc (fn : Fn) (first captured : List AOpd)
  | field (off size : Nat) (agg : Bool) (x : AOpd)
  | indexAddr (arr : Option Nat) (size : Nat) (x i : AOpd)
  | indexStr (x i : AOpd)
inductive P3 where
  | indexArr (len size : Nat) (agg : Bool) (x i : AOpd)
  | build (zero : List AV) (parts : List (Nat × Nat × AOpd))
  | slice (k : SL) (x : AOpd) (lo hi mx : Option AOpd)
  | typeAssert (x : AOpd) (oks : Option (Nat × List TypeId)) (asserted : TypeId) (zero : AV) (ok : Bool)
  | minmax (max : Bool) (xs : List AOpd)
  | conv (c : CV) (x : AOpd)
inductive LK where | str | sl | mp
inductive M1 where
  | load (n : Nat) (agg : Bool) (a : AOpd)
  | store (n : Nat) (a x : AOpd)
  | alloc (tag : AV) (zero : List AV)
  | box (x : AOpd)
  | append (size bytes : Nat) (tag : AV) (s x : AOpd)
  | len (k : LK) (x : AOpd)
inductive M2 where
  | buildSlice (zero : List AV) (len : Nat) (parts : List (Nat × Nat × AOpd))
  | mkMap
  | mkSlice (zero : List AV) (bytes : Nat) (l c : AOpd)
  | sliceSl (size : Nat) (x : AOpd) (lo hi mx : Option AOpd)
  | toBytes (x : AOpd)
  | ofBytes (x : AOpd)
  | copy (size : Nat) (d s : AOpd)
inductive M3 where
  | lookup (fk : FK) (zero : AV) (ok : Bool) (x k : AOpd)
  | mapUpdate (fk : FK) (m k x : AOpd)
  | mapEntry (fk : FK) (zero : AV) (m k : AOpd)
  | entryStore (m s x : AOpd)
  | range (str : Bool) (x : AOpd)
  | next (x : AOpd) (str : Bool)
  | entry (x : AOpd)
  | delete (fk : FK) (m k : AOpd)
  | clear (zero : List AV) (x : AOpd)
inductive AOp where
  | p1 (o : P1) | p2 (o : P2) | p3 (o : P3) | m1 (o : M1) | m2 (o : M2) | m3 (o : M3)
  | callv (f : AOpd) (args : List AOpd)
  | invoke (recv : AOpd) (tbl : List (TypeId × FuncId × Option (Nat × Bool))) (args : List AOpd)
  | recover
  | defer (f : AOpd) (args : List AOpd)
  | panic (x : AOpd)
  | bad
inductive AOper where
  | mk (dst : Option Nat) (guard : Option (Nat × Bool)) (op : AOp)
inductive DK where | q | e | a
inductive DOper where
  | mk (o : AOper) (kind : DK) (lo hi : Nat) (names : List Nat)
inductive ACode where
  | skip
  | region (ops : List AOper)
  | draw (ops : List DOper)
  | seq (a b : ACode)
  | cond (c : AOpd) (thn els : ACode)
  | block (id : Nat) (body : ACode)
  | loop (body : ACode)
  | rangeFunc (f : AOpd) (params : List Nat) (assign body : ACode)
  | exit (id : Nat)
  | scope (body : ACode)
  | label (l : Nat)
  | goto (l : Nat)
  | ret
  | bad
inductive Obj where
  | row (size : Nat) (dflt : AV) (cells : T AV) (cls es : Nat)
  | map (es : List (AV × AV × Nat)) (clock : Nat)
  | siter (s : List UInt8) (pos : Nat)
  | cst (blk t b o : Nat)
  | miter (m : Option Nat) (since : Nat) (seen : List Nat) (stepped : Nat)
  | loop (st : LoopSt) (tmps : T AV) (params : List Nat) (assign body : ACode) (pending : Option ACode)
inductive H where
  | mk (blocks : T Obj) (next : Nat) (dead : T Unit) (cls : Nat)
inductive QR where
  | v (x : AV) (h : H)
  | no
inductive ARes where
  | tmp (t : Nat)
  | cell (t n : Nat) (agg : Bool)
inductive AFn where
  | code (body : ACode) (results : List ARes)
  | nat (f : List AV → H → QR)

section compile
variable (P : Program)
/-- by a type's row in the table, if there is one -/
def withT (t : TypeId) (k : TypeInfo → AOp) : AOp := match P.info? t with | some i => k i | none => .bad
/-- by what a type is underneath -/
def withU (t : TypeId) (k : TypeDesc → AOp) : AOp := match P.underlying t with | some d => k d | none => .bad
def aggD (d : TypeDesc) : Bool := match d with | .struct _ | .array _ _ => true | _ => false
def zeroI (i : TypeInfo) (k : AV → AOp) : AOp := match i.zero with | some z => (match ofValue z with | some v => k v | none => .bad) | none => .bad
def recvOf (t : TypeId) (m : Method) : Option (FuncId × Option (Nat × Bool)) :=
  match m.path.isEmpty, m.func, P.underlying t with
  | true, some (f, ptr), some d =>
    match d, ptr with
    | .pointer _, true => some (f, none)
    | .pointer e, false => match P.info? e, P.underlying e with | some i, some d => some (f, some (i.size, aggD d)) | _, _ => none
    | _, false => some (f, none)
    | _, true => none
  | _, _, _ => none
def methodTblGo (name : String) : List TypeInfo → Nat → List (TypeId × FuncId × Option (Nat × Bool))
  | [], _ => []
  | i :: r, t => match i.methods.find? (·.name == name) with
    | some m => match recvOf P t m with
      | some x => (t, x) :: methodTblGo name r (t + 1)
      | none => methodTblGo name r (t + 1)
    | none => methodTblGo name r (t + 1)
def methodTbl (name : String) := methodTblGo P name P.types.toList 0
def hasAll (want : Array (String × TypeId)) (got : Array Method) : Bool := want.toList.all fun (name, sig) => got.any fun m => m.name == name && m.sig == sig
def implTblGo (want : Array (String × TypeId)) : List TypeInfo → Nat → List TypeId
  | [], _ => []
  | i :: r, t => bif hasAll want i.methods then t :: implTblGo want r (t + 1) else implTblGo want r (t + 1)
def implTbl (want : Array (String × TypeId)) : List TypeId := implTblGo want P.types.toList 0
def placesOf (fields : Array Field) : List (Nat × Operand) → Option (List (Nat × Nat × AOpd))
  | [] => some []
  | (i, x) :: r => match fields[i]? with
    | some f => (match P.info? f.type, placesOf fields r with | some ti, some l => some ((f.offset, ti.size, opd x) :: l) | _, _ => none)
    | none => none
def elemPlaces (size : Nat) : List (Nat × Operand) → List (Nat × Nat × AOpd)
  | [] => []
  | (i, x) :: r => (i * size, size, opd x) :: elemPlaces size r
def replList (zero : List AV) (n : Nat) : List AV := Nat.rec [] (fun _ ih => zero ++ ih) n
def cBuild (t : TypeId) (parts : Array (Nat × Operand)) : AOp :=
  withU P t fun d => withT P t fun i => zeroI i fun z => match d with
  | .struct fs => if fs.all (fun f => (P.info? f.type).isSome) then (match placesOf P fs parts.toList with | some l => .p3 (.build z.cells l) | none => .bad) else .bad
  | .array _ e => withT P e fun ei => .p3 (.build z.cells (elemPlaces ei.size parts.toList))
  | _ => .bad
def cBuildSlice (t : TypeId) (len : Nat) (parts : Array (Nat × Operand)) : AOp :=
  withU P t fun d => match d with
  | .slice e => withT P e fun i => zeroI i fun z => if z.cells.length = i.size ∧ 0 < i.size ∧ len * i.size ≤ 16777216 then .m2 (.buildSlice (replList z.cells len) len (elemPlaces i.size parts.toList)) else .bad
  | _ => .bad
def cConvert (s d : TypeId) (x : AOpd) : AOp :=
  withU P s fun a => withU P d fun b => match a, b with
  | .int _, .int k => .p3 (.conv (.toInt k) x)
  | .int _, .string => .p3 (.conv .ofInt x)
  | .string, .string => .p3 (.conv .same x)
  | .string, .slice e => withU P e fun u => (match u with | .int .u8 => .m2 (.toBytes x) | _ => .bad)
  | .slice e, .string => withU P e fun u => (match u with | .int .u8 => .m2 (.ofBytes x) | _ => .bad)
  | _, _ => .bad
def cMakeSlice (t : TypeId) (l c : AOpd) : AOp :=
  withU P t fun d => match d with
  | .slice e => withT P e fun i => zeroI i fun z => if z.cells.length = i.size ∧ 0 < i.size ∧ z.cells.all notAgg = true then .m2 (.mkSlice z.cells i.bytes l c) else .bad
  | _ => .bad
def cSlice (t : TypeId) (x : AOpd) (lo hi mx : Option AOpd) : AOp :=
  withU P t fun d => match d with
  | .string => .p3 (.slice .str x lo hi mx)
  | .slice e => withT P e fun i => if 0 < i.size then .m2 (.sliceSl i.size x lo hi mx) else .bad
  | .array n e => withT P e fun i => .p3 (.slice (.arr n i.size) x lo hi mx)
  | _ => .bad
def cFieldAddr (s : TypeId) (x : AOpd) (f : Nat) : AOp :=
  withU P s fun d => match d with | .struct fs => (match fs[f]? with | some f => withT P f.type fun i => bif Nat.beq i.size 0 then .bad else .p1 (.fieldAddr f.offset x) | none => .bad) | _ => .bad
def cField (s : TypeId) (x : AOpd) (f : Nat) : AOp :=
  withU P s fun d => match d with | .struct fs => (match fs[f]? with | some f => withT P f.type fun i => withU P f.type fun u => .p2 (.field f.offset i.size (aggD u) x) | none => .bad) | _ => .bad
def cIndexAddr (t : TypeId) (x i : AOpd) : AOp :=
  withU P t fun d => match d with
  | .array n e => withT P e fun ei => .p2 (.indexAddr (some n) ei.size x i)
  | .slice e => withT P e fun ei => .p2 (.indexAddr none ei.size x i)
  | _ => .bad
def cIndex (t : TypeId) (x i : AOpd) : AOp :=
  withU P t fun d => match d with
  | .array n e => withT P e fun ei => withU P e fun u => .p3 (.indexArr n ei.size (aggD u) x i)
  | .string => .p2 (.indexStr x i)
  | _ => .bad
def fkOf (t : TypeId) : Option FK := match P.info? t, P.underlying t with
  | some i, some d => bif Nat.beq i.size 1 then (match d with | .bool => some .bool | .int _ => some .int | .string => some .str | _ => none) else none
  | _, _ => none
def planFields : List Field → Option (List (Nat × FK))
  | [] => some []
  | f :: r => match fkOf P f.type, planFields r with
    | some k, some l => bif f.name == "_" then none else some ((f.offset, k) :: l)
    | _, _ => none
def cEq (op : BinOp) (neg : Bool) (t : TypeId) (const : Bool) (x y : AOpd) : AOp :=
  withU P t fun d => match d with
  | .int _ => .p1 (.binOp op x y)
  | .string => .p1 (.binOp op x y)
  | .bool => .p2 (.eq neg .bool x y)
  | .pointer e => withT P e fun i => bif Nat.beq i.size 0 then .bad else .p2 (.eq neg .ptr x y)
  | .slice _ => .p2 (.eq neg .slice x y)
  | .map _ _ => .p2 (.eq neg .map x y)
  | .func _ _ _ => .p2 (.eq neg .func x y)
  | .interface ms => .p2 (.eq neg (.iface (const || ms.isEmpty)) x y)
  | .struct fs => bif P.eqGuardType P.depth t || P.stoodInHeld t then .bad else (match planFields P fs.toList with | some l => .p2 (.eq neg (.agg l) x y) | none => .bad)
  | _ => .bad
def isConstO (o : Operand) : Bool := match o with | .const _ => true | _ => false
def cBinOp (op : BinOp) (t : TypeId) (x y : Operand) : AOp :=
  match op with
  | .eql => cEq P op false t (isConstO x || isConstO y) (opd x) (opd y)
  | .neq => cEq P op true t (isConstO x || isConstO y) (opd x) (opd y)
  | op => .p1 (.binOp op (opd x) (opd y))
def fkD (d : TypeDesc) : Option FK := match d with | .int _ => some .int | .string => some .str | .bool => some .bool | _ => none
def cLookup (t : TypeId) (x k : AOpd) (ok : Bool) : AOp :=
  withU P t fun d => match d with | .map kt e => withU P kt fun kd => (match fkD kd with | some fk => withT P e fun i => zeroI i fun z => .m3 (.lookup fk z ok x k) | none => .bad) | _ => .bad
def cMapUpdate (t : TypeId) (m k x : AOpd) : AOp :=
  withU P t fun d => match d with | .map kt _ => withU P kt fun kd => (match fkD kd with | some fk => .m3 (.mapUpdate fk m k x) | none => .bad) | _ => .bad
def cMapEntry (t : TypeId) (m k : AOpd) : AOp :=
  withU P t fun d => match d with | .map kt e => withU P kt fun kd => (match fkD kd with | some fk => withT P e fun i => zeroI i fun z => .m3 (.mapEntry fk z m k) | none => .bad) | _ => .bad
def cDelete (t : TypeId) (m k : AOpd) : AOp :=
  withU P t fun d => match d with | .map kt _ => withU P kt fun kd => (match fkD kd with | some fk => .m3 (.delete fk m k) | none => .bad) | _ => .bad
def cRange (t : TypeId) (x : AOpd) : AOp := withU P t fun d => match d with | .string => .m3 (.range true x) | .map _ _ => .m3 (.range false x) | _ => .bad
def cTypeAssert (x : AOpd) (t : TypeId) (ok : Bool) : AOp :=
  withU P t fun d => withT P t fun i => zeroI i fun z => .p3 (.typeAssert x (match d with | .interface want => some (P.types.size, implTbl P want) | _ => none) t z ok)
def cMkIface (t : TypeId) (x : AOpd) : AOp := withU P t fun d => match d with | .interface _ => .bad | _ => .p2 (.mkIface t x)
def cAppend (ts tx : TypeId) (s x : AOpd) : AOp :=
  withU P ts fun ds => withU P tx fun dx => match ds, dx with
  | .slice _, .int _ => .bad
  | .slice e, _ => withT P e fun i => bif Nat.ble 1 i.size && Nat.ble 1 i.bytes && (match i.zero with | some z => z.cells.size == i.size | none => false) then .m1 (.append i.size i.bytes (tagD e) s x) else .bad
  | _, _ => .bad
def cCopy (ts : TypeId) (d s : AOpd) : AOp := withU P ts fun u => match u with | .slice e => withT P e fun i => .m2 (.copy i.size d s) | _ => .bad
def cClear (t : TypeId) (x : AOpd) : AOp := withU P t fun d => match d with | .slice e => withT P e fun i => zeroI i fun z => .m3 (.clear z.cells x) | _ => .bad
def cLen (t : TypeId) (x : AOpd) : AOp :=
  withU P t fun d => match d with
  | .array n _ => .p1 (.mv (.const (.int .i64 n)))
  | .pointer a => withU P a fun u => (match u with | .array n _ => .p1 (.mv (.const (.int .i64 n))) | _ => .bad)
  | .string => .m1 (.len .str x)
  | .slice _ => .m1 (.len .sl x)
  | .map _ _ => .m1 (.len .mp x)
  | _ => .bad
def cBuiltin (b : Builtin) (ts : Array TypeId) (args : List AOpd) : AOp :=
  match b, args, ts.toList with
  | .append, [s, x], ta :: tb :: _ => cAppend P ta tb s x
  | .copy, [d, s], ta :: _ => cCopy P ta d s
  | .clear, [x], ta :: _ => cClear P ta x
  | .len, [x], ta :: _ => cLen P ta x
  | .min, xs, _ => .p3 (.minmax false xs)
  | .max, xs, _ => .p3 (.minmax true xs)
  | .delete, [m, k], ta :: _ => cDelete P ta m k
  | .recover, [], _ => .recover
  | _, _, _ => .bad
def cCall (c : Call) : AOp :=
  match c.callee with
  | .value f => .callv (opd f) (c.args.toList.map opd)
  | .invoke r name => .invoke (opd r) (methodTbl P name) (c.args.toList.map opd)
  | .builtin b => cBuiltin P b c.argTypes (c.args.toList.map opd)
def cDefer (c : Call) : AOp := match c.callee with | .value f => .defer (opd f) (c.args.toList.map opd) | _ => .bad
def isYield (f : Fn) : Bool := match f with | .yield _ => true | _ => false
def cop (o : Op) : AOp :=
  match o with
  | .move x => .p1 (.mv (opd x))
  | .assign x => .p1 (.mv (opd x))
  | .pick c a b => .p1 (.pick (opd c) (opd a) (opd b))
  | .alloc t => withT P t fun i => zeroI i fun z => .m1 (.alloc (tagA t) z.cells)
  | .box _ x => .m1 (.box (opd x))
  | .build t parts => cBuild P t parts
  | .buildSlice t len parts => cBuildSlice P t len parts
  | .load t a => withT P t fun i => withU P t fun d => .m1 (.load i.size (aggD d) (opd a))
  | .store t a x => withT P t fun i => .m1 (.store i.size (opd a) (opd x))
  | .nilCheck x => .p1 (.nilCheck (opd x))
  | .binOp op t x y _ => cBinOp P op t x y
  | .unOp op _ x => .p2 (.unOp op (opd x))
  | .convert s d x => cConvert P s d (opd x)
  | .makeInterface t x => cMkIface P t (opd x)
  | .makeFunc fn first cap => bif isYield fn then .bad else .p2 (.mkFunc fn (first.toList.map opd) (cap.toList.map opd))
  | .makeMap _ none => .m2 .mkMap
  | .makeSlice t l c => cMakeSlice P t (opd l) (opd c)
  | .slice t x lo hi mx => cSlice P t (opd x) (lo.map opd) (hi.map opd) (mx.map opd)
  | .fieldAddr s x f => cFieldAddr P s (opd x) f
  | .field s x f => cField P s (opd x) f
  | .indexAddr t x i => cIndexAddr P t (opd x) (opd i)
  | .index t x i => cIndex P t (opd x) (opd i)
  | .lookup t x k ok => cLookup P t (opd x) (opd k) ok
  | .mapUpdate t m k x => cMapUpdate P t (opd m) (opd k) (opd x)
  | .insert t m k x => cMapUpdate P t (opd m) (opd k) (opd x)
  | .mapEntry t m k => cMapEntry P t (opd m) (opd k)
  | .entryStore _ m s x => .m3 (.entryStore (opd m) (opd s) (opd x))
  | .range t x => cRange P t (opd x)
  | .next x s => .m3 (.next (opd x) s)
  | .entry x => .m3 (.entry (opd x))
  | .typeAssert x _ t ok => cTypeAssert P (opd x) t ok
  | .extract x i => .p1 (.extract (opd x) i)
  | .call c => cCall P c
  | .defer c => cDefer c
  | .panic x => .panic (opd x)
  | _ => .bad
def coper (ops : Array Oper) (o : Oper) : AOper := match o.guard with
  | none => .mk o.dst none (cop P o.op)
  | some (j, w) => match (ops[j]?).bind (·.dst) with
    | some d => .mk o.dst (some (d, w)) (cop P o.op)
    | none => .mk o.dst none .bad
/-- operations that change nothing and make nothing -/
def quietOp (o : AOp) : Bool := match o with
  | .p1 _ | .p2 _ | .p3 _ => true
  | .m1 (.load _ _ _) | .m1 (.len _ _) | .m2 (.sliceSl _ _ _ _ _) | .m2 (.ofBytes _) | .m3 (.lookup _ _ _ _ _) => true
  | _ => false
def allocOp (o : AOp) : Bool := match o with | .m1 (.alloc _ _) => true | _ => false
def opOf (o : AOper) : AOp := match o with | .mk _ _ p => p
/-- all the operations ahead of each one, direct or not -/
def beforeGo : List Oper → List (List Nat) → List (List Nat)
  | [], acc => acc.reverse
  | o :: r, acc => beforeGo r ((o.after.toList.flatMap fun e => bif Region.binds .any e then e.on :: (acc.reverse.getD e.on []) else []) :: acc)
def memNat (n : Nat) : List Nat → Bool
  | [] => false
  | m :: r => cond (Nat.beq n m) true (memNat n r)
/-- the places of the operations that change something, or may make something at a place of their own -/
def loudPlaces : List AOper → Nat → List Nat
  | [], _ => []
  | o :: r, i => bif quietOp (opOf o) then loudPlaces r (i + 1) else i :: loudPlaces r (i + 1)
def comparable (bs : List (List Nat)) (i j : Nat) : Bool := Nat.beq i j || memNat i (bs.getD j []) || memNat j (bs.getD i [])
/-- a new variable that stands in no order to some call, all of which are told ahead of it -/
def floats (bs : List (List Nat)) (os : List AOper) (loud : List Nat) (i : Nat) : Bool :=
  allocOp (opOf (os.getD i (.mk none none .bad))) && !(loud.all fun j => comparable bs i j)
def kindOf (bs : List (List Nat)) (os : List AOper) (loud : List Nat) (i : Nat) : DK :=
  bif quietOp (opOf (os.getD i (.mk none none .bad))) then .q else bif floats bs os loud i then .a else .e
def isE (k : DK) : Bool := match k with | .e => true | _ => false
def places : List AOper → Nat → List Nat
  | [], _ => []
  | _ :: r, i => i :: places r (i + 1)
def countB (p : Nat → Bool) (l : List Nat) : Nat := (l.filter p).length
/-- the static condition on a region that draws its order -/
def drawOk (bs : List (List Nat)) (loud es : List Nat) : Bool :=
  (es.all fun i => es.all fun j => comparable bs i j) &&
  (loud.all fun a => memNat a es || (es.all fun e => memNat a (bs.getD e []) || Nat.ble e a))
/-- the temporaries that an operation reads -/
def namesOf (o : Oper) : List Nat := o.op.operands.toList.filterMap fun x => match x with | .tmp t => some t | _ => none
def guardOf (o : AOper) : List Nat := match o with | .mk _ (some (d, _)) _ => [d] | _ => []
def dstIs (n : Nat) (o : AOper) : Bool := match o with | .mk (some d) _ _ => Nat.beq d n | _ => false
def dstList (o : AOper) : List Nat := match o with | .mk (some d) _ _ => [d] | _ => []
/-- each other writer of the temporary stands in some order to the operation -/
def orderedTo (bs : List (List Nat)) (i n : Nat) : List AOper → Nat → Bool
  | [], _ => true
  | o :: r, w => cond (and (dstIs n o) (!(comparable bs i w))) false (orderedTo bs i n r (w + 1))
def tmpsOk (bs : List (List Nat)) (all : List AOper) : List Oper → List AOper → Nat → Bool
  | o :: r, p :: q, i => cond ((namesOf o ++ (guardOf p ++ dstList p)).all fun n => orderedTo bs i n all 0) (tmpsOk bs all r q (i + 1)) false
  | _, _, _ => true
/-- what stands before an operation stands above it -/
def aboveOk : List (List Nat) → Nat → Bool
  | [], _ => true
  | l :: r, i => cond (l.all fun j => Nat.ble (Nat.succ j) i) (aboveOk r (i + 1)) false
def dopers (bs : List (List Nat)) (all : List AOper) (loud es : List Nat) : List Oper → List AOper → Nat → List DOper
  | o :: r, p :: q, i => .mk p (kindOf bs all loud i) (countB (fun e => memNat e (bs.getD i [])) es) (countB (fun e => !memNat i (bs.getD e [])) es) (namesOf o) :: dopers bs all loud es r q (i + 1)
  | _, _, _ => []
def cdraw (ops : List Oper) (os : List AOper) : ACode :=
  let bs := beforeGo ops []
  let loud := loudPlaces os 0
  let es := loud.filter fun i => isE (kindOf bs os loud i)
  bif drawOk bs loud es && (tmpsOk bs os ops os 0 && aboveOk bs 0) then .draw (dopers bs os loud es ops os 0) else .bad
def ccode (c : Code) : ACode :=
  match c with
  | .skip => .skip
  | .region _ ops false => .region (ops.toList.map (coper P ops))
  | .region _ ops true => cdraw ops.toList (ops.toList.map (coper P ops))
  | .seq a b => .seq (ccode a) (ccode b)
  | .cond c a b => .cond (opd c) (ccode a) (ccode b)
  | .block i b => .block i (ccode b)
  | .loop b => .loop (ccode b)
  | .rangeFunc f ps a b => .rangeFunc (opd f) ps.toList (ccode a) (ccode b)
  | .exit i => .exit i
  | .scope b => .scope (ccode b)
  | .label l => .label l
  | .goto l => .goto l
  | .ret => .ret
  | .refuse _ => .bad
def cres (r : ResultVar) : Option ARes := match r with
  | .tmp t => some (.tmp t)
  | .cell t ty => match P.info? ty, P.underlying ty with | some i, some d => some (.cell t i.size (aggD d)) | _, _ => none
def cresults : List ResultVar → Option (List ARes)
  | [] => some []
  | r :: l => match cres P r, cresults l with | some a, some b => some (a :: b) | _, _ => none
def wfDst (n : Nat) (o : Oper) : Bool := match o.dst with | some d => Nat.ble (Nat.succ d) n | none => true
def wfCode (n : Nat) (c : Code) : Bool := match c with
  | .region _ ops _ => ops.toList.all (wfDst n)
  | .seq a b => and (wfCode n a) (wfCode n b)
  | .cond _ a b => and (wfCode n a) (wfCode n b)
  | .block _ b => wfCode n b
  | .loop b => wfCode n b
  | .rangeFunc _ ps a b => and (ps.toList.all fun p => Nat.ble (Nat.succ p) n) (and (wfCode n a) (wfCode n b))
  | .scope b => wfCode n b
  | _ => true
def cfunc (f : Func) : AFn := match f.body, cresults P f.results.toList with | some b, some rs => bif wfCode f.ntmps b then .code (ccode P b) rs else .code .bad [] | _, _ => .code .bad []
noncomputable def ctableGo (nat : List (Nat × (List AV → H → QR))) : List Func → Nat → T AFn → T AFn
  | [], _, t => t
  | f :: r, i, t => ctableGo nat r (i + 1) (match nat.lookup i, f.body with | some g, _ => T.put t i (.nat g) | none, some _ => T.put t i (cfunc P f) | none, none => t)
noncomputable def ctable (nat : List (Nat × (List AV → H → QR))) : T AFn := ctableGo P nat P.funcs.toList 0 .lf
end compile
end Go.AM
namespace Go.AM
open Go

/-! the heap -/
namespace H
noncomputable def new (h : H) (o : Obj) : Nat × H :=
  match h with | ⟨b, n, d, c⟩ => Nat.rec (motive := fun _ => Nat × H) (0, ⟨T.put b 0 o, 1, d, c⟩) (fun m _ => (Nat.succ m, ⟨T.put b (Nat.succ m) o, Nat.succ (Nat.succ m), d, c⟩)) n
noncomputable def obj (h : H) (r : Nat) : Option Obj := match h with | ⟨b, _, _, _⟩ => T.get b r
noncomputable def setObj (h : H) (r : Nat) (o : Obj) : H := match h with | ⟨b, n, d, c⟩ => ⟨T.put b r o, n, d, c⟩
noncomputable def cellsFrom (d : AV) (c : T AV) (n : Nat) : Nat → List AV := Nat.rec (fun _ => []) (fun _ ih i => Option.rec d (fun v => v) (T.get c i) :: ih (Nat.succ i)) n
noncomputable def alive (h : H) (k : Nat) : Bool := match h with | ⟨_, _, d, _⟩ => Nat.rec true (fun m _ => match T.get d (Nat.succ m) with | none => true | some _ => false) k
noncomputable def loadsR (h : H) (o n : Nat) (x : Option Obj) : Option (List AV) :=
  match x with
  | some (.row s d c k _) => cond (alive h k) (cond (Nat.ble (Nat.add o n) s) (some (cellsFrom d c n o)) none) none
  | _ => none
noncomputable def loads (h : H) (b o n : Nat) : Option (List AV) := loadsR h o n (obj h b)
noncomputable def kill (k : Nat) (d : T Unit) : T Unit := Nat.rec d (fun m _ => T.put d (Nat.succ m) ()) k
def oneCell (v : AV) : Bool := match v with | .agg _ => false | .tup _ => false | .bot => false | _ => true
noncomputable def oneCells (l : List AV) : Bool := List.rec true (fun v _ ih => Bool.rec false ih (oneCell v)) l
noncomputable def storesR (h : H) (b o : Nat) (vs : List AV) (x : Option Obj) : Option H :=
  match x with
  | some (.row s d c k e) => cond (alive h k) (cond (and (Nat.ble (Nat.add o vs.length) s) (oneCells vs))
      (match h with | ⟨bl, n, dd, cl⟩ => some ⟨T.put bl b (.row s d (T.putList c o vs) 0 e), n, kill k dd, cl⟩) none) none
  | _ => none
noncomputable def stores (h : H) (b o : Nat) (vs : List AV) : Option H := storesR h b o vs (obj h b)
noncomputable def newOpen (h : H) (d : AV) (es : Nat) (vs : List AV) : Nat × H := h.new (.row vs.length d (T.putList .lf 0 vs) 0 es)
noncomputable def newRow (h : H) (d : AV) (vs : List AV) : Nat × H := h.new (.row vs.length d (T.putList .lf 0 vs) 0 0)
end H

/-! values -/
def byteOf (v : AV) : Option UInt8 := match v with | .int .u8 n => some (UInt8.ofNat n.toNat) | _ => none
def bytesOf : List AV → Option (List UInt8)
  | [] => some []
  | v :: r => match byteOf v, bytesOf r with
    | some b, some l => some (b :: l)
    | _, _ => none
def cellsOfBytes (s : List UInt8) : List AV := s.map fun b => .int .u8 b.toNat

/-- a whole number, worked out -/
def strict (n : Int) (f : Int → QR) : QR := f n
noncomputable def forceI {β : Type} (n : Int) (f : Int → β) : β :=
  match n with
  | .ofNat m => Nat.rec (f (.ofNat 0)) (fun k _ => f (.ofNat (Nat.succ k))) m
  | .negSucc m => Nat.rec (f (.negSucc 0)) (fun k _ => f (.negSucc (Nat.succ k))) m
noncomputable def mkInt (k : IntKind) (n : Int) : Option AV := forceI n fun n => some (.int k n)
/-- wrap, quickly where nothing is wrapped -/
def wrapQ (k : IntKind) (n : Int) : Int :=
  match k, n with
  | .i64, .ofNat m => cond (Nat.ble m 9223372036854775807) (.ofNat m) (k.wrap n)
  | .u8, .ofNat m => .ofNat (Nat.mod m 256)
  | _, _ => k.wrap n
noncomputable def arithI (op : BinOp) (k : IntKind) (x y : Int) : Option AV :=
  match op with
  | .add => mkInt k (wrapQ k (Int.add x y))
  | .sub => mkInt k (wrapQ k (Int.sub x y))
  | .mul => mkInt k (wrapQ k (Int.mul x y))
  | .quo => if y = 0 then none else mkInt k (wrapQ k (x.tdiv y))
  | .rem => if y = 0 then none else mkInt k (x.tmod y)
  | _ => none
noncomputable def bitsI (op : BinOp) (k : IntKind) (x y : Int) : Option AV :=
  match op with
  | .and => mkInt k (k.wrap (BitVec.ofInt k.bits x &&& BitVec.ofInt k.bits y).toNat)
  | .or => mkInt k (k.wrap (BitVec.ofInt k.bits x ||| BitVec.ofInt k.bits y).toNat)
  | .xor => mkInt k (k.wrap (BitVec.ofInt k.bits x ^^^ BitVec.ofInt k.bits y).toNat)
  | .andNot => mkInt k (k.wrap (BitVec.ofInt k.bits x &&& ~~~ BitVec.ofInt k.bits y).toNat)
  | .shl => if y < 0 then none else mkInt k (k.wrap (x * 2 ^ (min y.toNat k.bits)))
  | .shr => if y < 0 then none else mkInt k (x.fdiv (2 ^ (min y.toNat k.bits)))
  | _ => none
def eqI (x y : Int) : Bool := match x, y with
  | .ofNat a, .ofNat b => Nat.beq a b
  | .negSucc a, .negSucc b => Nat.beq a b
  | _, _ => false
def ltI (x y : Int) : Bool := match x, y with
  | .ofNat a, .ofNat b => Nat.ble (Nat.succ a) b
  | .negSucc a, .negSucc b => Nat.ble (Nat.succ b) a
  | .negSucc _, .ofNat _ => true
  | .ofNat _, .negSucc _ => false
def leI (x y : Int) : Bool := match x, y with
  | .ofNat a, .ofNat b => Nat.ble a b
  | .negSucc a, .negSucc b => Nat.ble b a
  | .negSucc _, .ofNat _ => true
  | .ofNat _, .negSucc _ => false
def forceB {β : Type} (b : Bool) (f : Bool → β) : β := match b with | true => f true | false => f false
def mkBool (b : Bool) : Option AV := forceB b fun b => some (.bool b)
def cmpI (op : BinOp) (x y : Int) : Option AV :=
  match op with
  | .eql => mkBool (eqI x y)
  | .neq => mkBool (!eqI x y)
  | .lss => mkBool (ltI x y)
  | .leq => mkBool (leI x y)
  | .gtr => mkBool (ltI y x)
  | .geq => mkBool (leI y x)
  | _ => none
inductive BK where | arith | bits | cmp | no
def bkOf (op : BinOp) : BK := match op with
  | .add | .sub | .mul | .quo | .rem => .arith
  | .and | .or | .xor | .andNot | .shl | .shr => .bits
  | .eql | .neq | .lss | .leq | .gtr | .geq => .cmp
def eqStr : List UInt8 → List UInt8 → Bool
  | [], [] => true
  | a :: x, b :: y => cond (Nat.beq a.toNat b.toNat) (eqStr x y) false
  | _, _ => false
def ltStr : List UInt8 → List UInt8 → Bool
  | _, [] => false
  | [], _ :: _ => true
  | a :: x, b :: y => cond (Nat.beq a.toNat b.toNat) (ltStr x y) (Nat.ble (Nat.succ a.toNat) b.toNat)
def strOp (op : BinOp) (x y : List UInt8) : Option AV :=
  match op with
  | .add => cond (Nat.ble (Nat.add x.length y.length) 9223372036854775807) (some (.str (x ++ y))) none
  | .eql => mkBool (eqStr x y)
  | .neq => mkBool (!(eqStr x y))
  | .lss => mkBool (ltStr x y)
  | .leq => mkBool (!(ltStr y x))
  | .gtr => mkBool (ltStr y x)
  | .geq => mkBool (!(ltStr x y))
  | _ => none
def eqKind (a b : IntKind) : Bool := decide (a = b)
/-- equality of map keys; none: not decided here -/
def eqFlat (x y : AV) : Option Bool :=
  match x, y with
  | .bool a, .bool b => some (a == b)
  | .int k a, .int k' b => if k = k' then some (eqI a b) else none
  | .str a, .str b => some (eqStr a b)
  | _, _ => none
def eqFK (k : FK) (x y : AV) : Option Bool := match k with
  | .bool => (match x, y with | .bool a, .bool b => some (a == b) | _, _ => none)
  | .int => (match x, y with | .int k a, .int k' b => if k = k' then some (eqI a b) else none | _, _ => none)
  | .str => (match x, y with | .str a, .str b => some (eqStr a b) | _, _ => none)
def nthV : List AV → Nat → AV
  | [], _ => .bot
  | x :: _, 0 => x
  | _ :: r, n + 1 => nthV r n
def eqAggs : List (Nat × FK) → List AV → List AV → Option Bool
  | [], _, _ => some true
  | (o, k) :: r, xs, ys => match eqFK k (nthV xs o) (nthV ys o) with
    | some true => eqAggs r xs ys
    | some false => some false
    | none => none
def eqPtr (x y : AV) : Option Bool := match x, y with
  | .nilp, .nilp => some true
  | .nilp, .ptr _ _ => some false
  | .ptr _ _, .nilp => some false
  | .ptr b o, .ptr b' o' => cond (Nat.beq b b') (some (Nat.beq o o')) none
  | _, _ => none
def eqSl (x y : AV) : Option Bool := match x, y with
  | .nils, .nils => some true
  | .nils, .slice _ _ _ _ => some false
  | .slice _ _ _ _, .nils => some false
  | _, _ => none
def eqMp (x y : AV) : Option Bool := match x, y with
  | .nilm, .nilm => some true
  | .nilm, .map _ => some false
  | .map _, .nilm => some false
  | _, _ => none
def eqFn (x y : AV) : Option Bool := match x, y with
  | .nilf, .nilf => some true
  | .nilf, .func _ _ _ => some false
  | .func _ _ _, .nilf => some false
  | _, _ => none
def eqIface (both : Bool) (x y : AV) : Option Bool := match x, y with
  | .nili, .nili => cond both (some true) none
  | .nili, .iface _ _ => some false
  | .iface _ _, .nili => some false
  | .iface t _, .iface u _ => cond (Nat.beq t u) none (some false)
  | _, _ => none
def eqEK (k : EK) (x y : AV) : Option Bool := match k with
  | .bool => eqFK .bool x y
  | .ptr => eqPtr x y
  | .slice => eqSl x y
  | .map => eqMp x y
  | .func => eqFn x y
  | .iface b => eqIface b x y
  | .agg fs => (match x, y with | .agg xs, .agg ys => eqAggs fs xs ys | _, _ => none)
mutual
def sameAV : AV → AV → Bool
  | .bool a, .bool b => a == b
  | .int k a, .int k' b => decide (k = k') && eqI a b
  | .str a, .str b => eqStr a b
  | .ptr b o, .ptr b' o' => Nat.beq b b' && Nat.beq o o'
  | .nilp, .nilp => true
  | .slice b o l c, .slice b' o' l' c' => Nat.beq b b' && Nat.beq o o' && Nat.beq l l' && (match c, c' with | none, none => true | some x, some y => Nat.beq x y | _, _ => false)
  | .nils, .nils => true
  | .map a, .map b => Nat.beq a b
  | .nilm, .nilm => true
  | .nilf, .nilf => true
  | .sym a, .sym b => Nat.beq a b
  | .func (.func f) x c, .func (.func g) y d => Nat.beq f g && sameAVs x y && sameAVs c d
  | .iface t v, .iface u w => Nat.beq t u && sameAV v w
  | .nili, .nili => true
  | .agg x, .agg y => sameAVs x y
  | .tup x, .tup y => sameAVs x y
  | _, _ => false
def sameAVs : List AV → List AV → Bool
  | [], [] => true
  | a :: x, b :: y => sameAV a b && sameAVs x y
  | _, _ => false
end
def eqAV (neg : Bool) (x : Option Bool) : Option AV := match x with | some b => mkBool (xor neg b) | none => none
noncomputable def intOp (op : BinOp) (k : IntKind) (a b : Int) : Option AV :=
  match bkOf op with | .arith => arithI op k a b | .bits => bitsI op k a b | .cmp => cmpI op a b | .no => none
noncomputable def binAV (op : BinOp) (x y : AV) : Option AV :=
  match x with
  | .int k a => (match y with | .int k' b => (match op with | .shl => bitsI op k a b | .shr => bitsI op k a b | op => if k = k' then intOp op k a b else none) | _ => none)
  | .str a => (match y with | .str b => strOp op a b | _ => none)
  | _ => none

noncomputable def evO (t : TM) (o : AOpd) : AV := AOpd.rec (fun n => Option.rec .bot (fun v => v) (T.get t n)) (fun v => v) o
noncomputable def evOs (t : TM) : List AOpd → List AV
  | [] => []
  | o :: r => evO t o :: evOs t r
noncomputable def evOo (t : TM) (o : Option AOpd) : Option AV := match o with | none => none | some o => some (evO t o)
noncomputable def evParts (t : TM) : List (Nat × Nat × AOpd) → List (Nat × Nat × AV)
  | [] => []
  | (o, s, x) :: r => (o, s, evO t x) :: evParts t r

def isBot (x : AV) : Bool := match x with | .bot => true | _ => false
/-- cells put into cells, at an offset -/
def over : List AV → List AV → List AV
  | cs, [] => cs
  | [], _ => []
  | _ :: cs, v :: vs => v :: over cs vs
def fillAt (vs : List AV) : List AV → Nat → List AV
  | cs, 0 => over cs vs
  | [], _ + 1 => []
  | c :: cs, o + 1 => c :: fillAt vs cs o
def fillAll : List (Nat × Nat × AV) → List AV → Option (List AV)
  | [], cs => some cs
  | (o, s, v) :: r, cs => cond (and (!isBot v) (and (Nat.beq v.cells.length s) (Nat.ble (o + s) cs.length))) (fillAll r (fillAt v.cells cs o)) none

def bound (x : Option AV) (dflt top : Nat) : Option Nat :=
  match x with
  | none => some dflt
  | some (.int _ (.ofNat i)) => cond (Nat.ble i top) (some i) none
  | _ => none
def isNone (x : Option AV) : Bool := match x with | none => true | _ => false
def bound3 (lo hi mx : Option AV) (len cap : Nat) : Option (Nat × Nat × Nat) :=
  cond (and (!isNone mx) (isNone hi)) none (match bound mx cap cap with
  | none => none
  | some m => match bound hi len m with
    | none => none
    | some h => match bound lo 0 h with
      | none => none
      | some l => some (l, h, m))
def sub (a b : Nat) : Nat := Nat.sub a b
def offK (o l m size : Nat) : Nat := cond (Nat.beq m l) o (Nat.add o (Nat.mul l size))
def sliceStr (s : List UInt8) (lo hi : Option AV) : Option AV :=
  match bound3 lo hi none s.length s.length with
  | some (l, h, _) => some (.str ((s.take h).drop l))
  | none => none
def sliceCap (b o len c size : Nat) (lo hi mx : Option AV) : Option AV :=
  match bound3 lo hi mx len c with
  | some (l, h, m) => some (.slice b (offK o l m size) (sub h l) (some (sub m l)))
  | none => none
def sliceOpen (b o len top size : Nat) (lo hi : Option AV) : Option AV :=
  match bound3 lo hi none len top with
  | some (l, h, _) => some (.slice b (Nat.add o (Nat.mul l size)) (sub h l) none)
  | none => none
def sliceAV (k : SL) (x : AV) (lo hi mx : Option AV) : Option AV :=
  match k with
  | .str => (match x with | .str s => cond (isNone mx) (sliceStr s lo hi) none | _ => none)
  | .arr n size => (match x with | .ptr b o => sliceCap b o n n size lo hi mx | _ => none)

def pickCells (agg : Bool) (r : List AV) : Option AV := match agg with
  | true => some (.agg r)
  | false => (match r with | [v] => some v | _ => none)
def partAV (off size : Nat) (agg : Bool) (x : AV) : Option AV :=
  match x with | .agg cs => pickCells agg ((cs.drop off).take size) | _ => none
def idxOf (x : AV) (len : Nat) : Option Nat := match x with | .int _ (.ofNat i) => cond (Nat.ble (Nat.succ i) len) (some i) none | _ => none
def indexAddrAV (arr : Option Nat) (size : Nat) (x i : AV) : Option AV :=
  match x with
  | .ptr b o => (match arr with | some n => (match idxOf i n with | some i => some (.ptr b (Nat.add o (Nat.mul i size))) | none => none) | none => none)
  | .slice b o len _ => (match arr with | none => (match idxOf i len with | some i => some (.ptr b (Nat.add o (Nat.mul i size))) | none => none) | _ => none)
  | _ => none
def nth : List UInt8 → Nat → Option UInt8
  | [], _ => none
  | x :: _, 0 => some x
  | _ :: r, n + 1 => nth r n
noncomputable def mkByte (b : Option UInt8) : Option AV := match b with | some b => mkInt .u8 (.ofNat b.toNat) | none => none
noncomputable def indexStrAV (x i : AV) : Option AV :=
  match x with | .str s => (match i with | .int _ (.ofNat i) => mkByte (nth s i) | _ => none) | _ => none
def indexArrAV (len size : Nat) (agg : Bool) (x i : AV) : Option AV :=
  match idxOf i len with | some i => partAV (i * size) size agg x | none => none
def okAV (ok : Bool) (v : AV) (b : Bool) : AV := match ok with | true => .tup [v, .bool b] | false => v
def memT (t : TypeId) : List TypeId → Bool
  | [] => false
  | u :: r => cond (Nat.beq t u) true (memT t r)
def failAV (ok : Bool) (zero : AV) : Option AV := match ok with | true => some (.tup [zero, .bool false]) | false => none
def assertAV (x : AV) (oks : Option (Nat × List TypeId)) (t : TypeId) (zero : AV) (ok : Bool) : Option AV :=
  match x with
  | .nili => failAV ok zero
  | .iface u v => (match oks with
    | none => cond (Nat.beq t u) (some (okAV ok v true)) (failAV ok zero)
    | some (n, l) => cond (Nat.ble (Nat.succ u) n) (cond (memT u l) (some (okAV ok (.iface u v) true)) (failAV ok zero)) none)
  | _ => none
def pick2 (mx : Bool) (a b : Int) : Int := match mx with | true => cond (ltI a b) b a | false => cond (ltI b a) b a
def minmaxGo (mx : Bool) (k : IntKind) (a : Int) : List AV → Option AV
  | [] => some (.int k a)
  | .int k' b :: r => if k = k' then minmaxGo mx k (pick2 mx a b) r else none
  | _ => none
def minmaxAV (mx : Bool) (l : List AV) : Option AV := match l with
  | .int k a :: r => minmaxGo mx k a r
  | _ => none
noncomputable def convAV (c : CV) (x : AV) : Option AV :=
  match c with
  | .toInt k => (match x with | .int _ n => mkInt k (wrapQ k n) | _ => none)
  | .same => (match x with | .str s => some (.str s) | _ => none)
  | .ofInt => (match x with | .int _ n => some (.str (Utf8.encode n).data.toList) | _ => none)
noncomputable def unAV (op : UnOp) (x : AV) : Option AV :=
  match op with
  | .neg => (match x with | .int k n => mkInt k (k.wrap (0 - n)) | _ => none)
  | .not => (match x with | .bool b => mkBool (!b) | _ => none)
  | _ => none
def nth' : List AV → Nat → Option AV
  | [], _ => none
  | x :: _, 0 => some x
  | _ :: r, n + 1 => nth' r n
def extractAV (x : AV) (i : Nat) : Option AV := match x with | .tup vs => nth' vs i | _ => none
def nilCheckAV (x : AV) : Option AV := match x with
  | .ptr b o => some (.ptr b o)
  | .iface t v => some (.iface t v)
  | .func (.func f) a c => some (.func (.func f) a c)
  | .func (.yield f) a c => some (.func (.yield f) a c)
  | _ => none
def pickAV (c a b : AV) : Option AV := match c with | .bool true => some a | .bool false => some b | _ => none
def fieldAddrAV (off : Nat) (x : AV) : Option AV := match x with | .ptr b o => some (.ptr b (Nat.add o off)) | _ => none
def aggO (x : Option (List AV)) : Option AV := match x with | some l => some (.agg l) | none => none

noncomputable def doP1 (t : TM) (o : P1) : Option AV := P1.rec
  (fun x => some (evO t x))
  (fun c a b => pickAV (evO t c) (evO t a) (evO t b))
  (fun op x y => binAV op (evO t x) (evO t y))
  (fun off x => fieldAddrAV off (evO t x))
  (fun x => nilCheckAV (evO t x))
  (fun x i => extractAV (evO t x) i) o
noncomputable def doP2 (t : TM) (o : P2) : Option AV := match o with
  | .eq neg k x y => eqAV neg (eqEK k (evO t x) (evO t y))
  | .unOp op x => unAV op (evO t x)
  | .mkIface ty x => some (.iface ty (evO t x))
  | .mkFunc fn f c => some (.func fn (evOs t f) (evOs t c))
  | .field off size agg x => partAV off size agg (evO t x)
  | .indexAddr arr size x i => indexAddrAV arr size (evO t x) (evO t i)
  | .indexStr x i => indexStrAV (evO t x) (evO t i)
noncomputable def doP3 (t : TM) (o : P3) : Option AV := match o with
  | .indexArr len size agg x i => indexArrAV len size agg (evO t x) (evO t i)
  | .build z ps => aggO (fillAll (evParts t ps) z)
  | .slice k x lo hi mx => sliceAV k (evO t x) (evOo t lo) (evOo t hi) (evOo t mx)
  | .typeAssert x oks ty zero ok => assertAV (evO t x) oks ty zero ok
  | .minmax b xs => minmaxAV b (evOs t xs)
  | .conv c x => convAV c (evO t x)

/-! operations on the heap -/
noncomputable def ptrOf (x : Nat × H) : QR := match x with | (b, h) => .v (.ptr b 0) h
noncomputable def sliceOf (len : Nat) (cap : Option Nat) (x : Nat × H) : QR := match x with | (b, h) => .v (.slice b 0 len cap) h
def mapOf (x : Nat × H) : QR := match x with | (b, h) => .v (.map b) h
def doneR (x : Option H) : QR := match x with | some h => .v .undef h | none => .no
def giveR (x : AV) (h : Option H) : QR := match h with | some h => .v x h | none => .no
def outV (x : QR) : Option AV := match x with | .v v _ => some v | .no => none
def valR (h : H) (x : Option AV) : QR := match x with | some v => .v v h | none => .no
def pickR (agg : Bool) (x : Option (List AV)) (h : H) : QR := match x with | some l => valR h (pickCells agg l) | none => .no
noncomputable def loadAV (n : Nat) (agg : Bool) (a : AV) (h : H) : QR := match a with | .ptr b o => pickR agg (h.loads b o n) h | _ => .no
noncomputable def storeAV (n : Nat) (a x : AV) (h : H) : QR := match a with | .ptr b o => cond (Nat.beq x.cells.length n) (doneR (h.stores b o x.cells)) .no | _ => .no
noncomputable def boxAV (x : AV) (h : H) : QR := cond (isBot x) .no (ptrOf (h.newRow .bot x.cells))
/-- how many elements a row has, from a place on, that is open at its end -/
noncomputable def topOf (b o size : Nat) (h : H) : Option Nat := match h.obj b with
  | some (.row s _ _ k e) => cond (and (h.alive k) (Nat.beq e size)) (some (Nat.div (Nat.sub s o) size)) none
  | _ => none
noncomputable def sliceSlAV (size : Nat) (x : AV) (lo hi mx : Option AV) (h : H) : QR :=
  match x with
  | .slice b o len (some c) => valR h (sliceCap b o len c size lo hi mx)
  | .slice b o len none => (match topOf b o size h with
    | some top => valR h (cond (isNone mx) (sliceOpen b o len top size lo hi) (cond (Nat.beq top 0) none (sliceCap b o len top size lo hi mx)))
    | none => .no)
  | .nils => (match bound3 lo hi mx 0 0 with | some _ => .v .nils h | none => .no)
  | _ => .no
def lenAV (x : AV) : Option Nat := match x with
  | .str s => some s.length
  | .nils => some 0
  | .slice _ _ n _ => some n
  | _ => none
noncomputable def lenK (k : LK) (x : AV) (h : H) : Option Nat := match k with
  | .str => (match x with | .str s => some s.length | _ => none)
  | .sl => (match x with | .nils => some 0 | .slice _ _ n _ => some n | _ => none)
  | .mp => (match x with | .nilm => some 0 | .map r => (match h.obj r with | some (.map es _) => some es.length | _ => none) | _ => none)
noncomputable def mkLen (x : Option Nat) (h : H) : QR := match x with | some n => valR h (mkInt .i64 (.ofNat n)) | none => .no
noncomputable def srcCells (size n : Nat) (x : AV) (h : H) : Option (List AV) := match x with
  | .str s => cond (Nat.beq size 1) (some (cellsOfBytes (s.take n))) none
  | .nils => some []
  | .slice b o _ _ => h.loads b o (n * size)
  | _ => none
noncomputable def forceN {β : Type} (n : Nat) (f : Nat → β) : β := Nat.rec (f 0) (fun m _ => f (Nat.succ m)) n
/-- a new array: what was there, and what came -/
noncomputable def appNew (size bytes : Nat) (tag : AV) (n : Nat) (old new : Option (List AV)) (h : H) : QR := match old, new with
  | some o, some w => cond (Nat.ble (Nat.mul n bytes) 1099511627776) (sliceOf n none (h.newOpen tag size (o ++ w))) .no
  | _, _ => .no
noncomputable def appIn (b o len size n : Nat) (cap : Option Nat) (new : Option (List AV)) (h : H) : QR := match new with
  | some w => giveR (.slice b o n cap) (h.stores b (o + len * size) w)
  | none => .no
/-- at the end of what is used of a row: a new row, which may be the same one -/
noncomputable def appEndR (b o len size n : Nat) (w : List AV) (h : H) (sz : Nat) (d : AV) (c : T AV) (k : Nat) : QR :=
  match h with
  | ⟨bl, nx, dd, cl⟩ => forceB (Nat.beq k 0) fun f =>
      cond (Nat.beq o 0)
        (sliceOf n none (H.new ⟨T.put bl b (.row sz d c (cond f cl k) 0), nx, dd, cond f (Nat.succ cl) cl⟩ (.row (sz + w.length) d (T.putList c sz w) (cond f cl k) size)))
        (sliceOf n none (H.new ⟨T.put bl b (.row sz d c (cond f cl k) 0), nx, dd, cond f (Nat.succ cl) cl⟩ (.row (len * size + w.length) .bot (T.putList .lf 0 (H.cellsFrom d c (len * size) o ++ w)) (cond f cl k) size)))
/-- a tag that says nothing else -/
def okTag (tag d : AV) : Bool := match d, tag with
  | .agg [.int .i64 (.ofNat b)], .agg [.int .i64 (.ofNat a)] => Nat.beq a b
  | .agg _, _ => false
  | _, _ => true
noncomputable def appOpenR (b o len size bytes : Nat) (tag : AV) (n : Nat) (new : Option (List AV)) (h : H) (x : Option Obj) : QR := match x, new with
  | some (.row sz d c k e), some w =>
    cond (and (h.alive k) (Nat.beq e size)) (cond (Nat.ble (o + n * size) sz) (appIn b o len size n none (some w) h)
      (cond (and (Nat.beq (o + len * size) sz) (and (Nat.ble (Nat.mul n bytes) 1099511627776) (and (H.oneCells w) (okTag tag d)))) (appEndR b o len size n w h sz d c k) .no)) .no
  | _, _ => .no
noncomputable def appK (size bytes : Nat) (tag : AV) (s x : AV) (n : Nat) (h : H) : QR := match s with
  | .nils => cond (Nat.beq n 0) (.v .nils h) (appNew size bytes tag n (some []) (srcCells size n x h) h)
  | .slice b o len (some c) => cond (Nat.ble (len + n) c) (appIn b o len size (len + n) (some c) (srcCells size n x h) h) (appNew size bytes tag (len + n) (h.loads b o (len * size)) (srcCells size n x h) h)
  | .slice b o len none => cond (Nat.beq n 0) (.v (.slice b o len none) h) (appOpenR b o len size bytes tag (len + n) (srcCells size n x h) h (h.obj b))
  | _ => .no
noncomputable def appendAV (size bytes : Nat) (tag : AV) (s x : AV) (h : H) : QR := match lenAV x with | some n => forceN n fun n => appK size bytes tag s x n h | none => .no
noncomputable def copyK (size : Nat) (d s : AV) (n : Nat) (h : H) : QR := match d with
  | .nils => valR h (mkInt .i64 0)
  | .slice b o len _ => (match srcCells size (Nat.min n len) s h with
    | some cs => (match h.stores b o cs with | some h => valR h (mkInt .i64 (.ofNat (Nat.min n len))) | none => .no)
    | none => .no)
  | _ => .no
noncomputable def copyAV (size : Nat) (d s : AV) (h : H) : QR := match lenAV s with | some n => copyK size d s n h | none => .no
noncomputable def buildSliceAV (z : List AV) (len : Nat) (ps : List (Nat × Nat × AV)) (h : H) : QR := match fillAll ps z with | some cs => sliceOf len (some len) (h.newRow .bot cs) | none => .no
noncomputable def mkSliceK (z : List AV) (l c : Nat) (h : H) : QR :=
  match z with
  | [z] => sliceOf l (some c) (h.new (.row c z .lf 0 0))
  | z => sliceOf l (some c) (h.newRow .bot (replList z c))
noncomputable def mkSliceAV (z : List AV) (bytes : Nat) (l c : AV) (h : H) : QR := match l, c with
  | .int .i64 (.ofNat l), .int .i64 (.ofNat c) => cond (and (Nat.ble l c) (and (Nat.ble (Nat.mul bytes c) 1099511627776) (Nat.ble c 1099511627776))) (mkSliceK z l c h) .no
  | _, _ => .no
noncomputable def toBytesAV (x : AV) (h : H) : QR := match x with | .str s => sliceOf s.length none (h.newOpen .bot 1 (cellsOfBytes s)) | _ => .no
def strR (x : Option (List UInt8)) (h : H) : QR := match x with | some s => .v (.str s) h | none => .no
noncomputable def ofBytesAV (x : AV) (h : H) : QR := match x with
  | .nils => .v (.str []) h
  | .slice b o n _ => (match h.loads b o n with | some vs => strR (bytesOf vs) h | none => .no)
  | _ => .no

def findMap (k : AV) : List (AV × AV × Nat) → Option (Option (AV × Nat))
  | [] => some none
  | (k', v, n) :: r => match eqFlat k k' with
    | some true => some (some (v, n))
    | some false => findMap k r
    | none => none
def setMap (k v : AV) : List (AV × AV × Nat) → List (AV × AV × Nat)
  | [] => []
  | (k', v', n) :: r => match eqFlat k k' with
    | some true => (k, v, n) :: r
    | _ => (k', v', n) :: setMap k v r
def setBorn (s : Nat) (v : AV) : List (AV × AV × Nat) → List (AV × AV × Nat)
  | [] => []
  | (k', v', n) :: r => cond (Nat.beq n s) ((k', v, n) :: r) ((k', v', n) :: setBorn s v r)
def delMap (k : AV) : List (AV × AV × Nat) → List (AV × AV × Nat)
  | [] => []
  | (k', v', n) :: r => match eqFlat k k' with
    | some true => r
    | _ => (k', v', n) :: delMap k r
def snoc (l : List (AV × AV × Nat)) (x : AV × AV × Nat) : List (AV × AV × Nat) := match l with
  | [] => [x]
  | y :: r => y :: snoc r x
noncomputable def mapOfR (m : AV) (h : H) (f : Nat → List (AV × AV × Nat) → Nat → QR) : QR := match m with
  | .map r => (match h.obj r with | some (.map es c) => f r es c | _ => .no)
  | _ => .no
def lookupR (zero : AV) (ok : Bool) (k : AV) (es : List (AV × AV × Nat)) (h : H) : QR := match findMap k es with
  | some (some (v, _)) => .v (okAV ok v true) h
  | some none => .v (okAV ok zero false) h
  | none => .no
def keyOk (fk : FK) (k : AV) : Bool := match fk, k with | .bool, .bool _ => true | .int, .int _ _ => true | .str, .str _ => true | _, _ => false
noncomputable def lookupAV (fk : FK) (zero : AV) (ok : Bool) (m k : AV) (h : H) : QR := cond (keyOk fk k) (match m with
  | .nilm => lookupR zero ok k [] h
  | m => mapOfR m h fun _ es _ => lookupR zero ok k es h) .no
noncomputable def mapUpdateAV (fk : FK) (m k x : AV) (h : H) : QR := cond (keyOk fk k) (mapOfR m h fun r es c => match findMap k es with
  | some (some _) => .v .undef (h.setObj r (.map (setMap k x es) c))
  | some none => .v .undef (h.setObj r (.map (snoc es (k, x, c)) (c + 1)))
  | none => .no) .no
noncomputable def mapEntryAV (fk : FK) (zero m k : AV) (h : H) : QR := cond (keyOk fk k) (mapOfR m h fun r es c => match findMap k es with
  | some (some (v, n)) => .v (.tup [v, .int .i64 n]) (h.setObj r (.map (setMap k v es) c))
  | some none => .v (.tup [zero, .int .i64 c]) (h.setObj r (.map (snoc es (k, zero, c)) (c + 1)))
  | none => .no) .no
def hasBorn (s : Nat) : List (AV × AV × Nat) → Bool
  | [] => false
  | (_, _, n) :: r => cond (Nat.beq n s) true (hasBorn s r)
noncomputable def entryStoreAV (m s x : AV) (h : H) : QR := match s with
  | .int _ (.ofNat n) => mapOfR m h fun r es c => cond (hasBorn n es) (.v .undef (h.setObj r (.map (setBorn n x es) c))) .no
  | _ => .no
noncomputable def deleteAV (fk : FK) (m k : AV) (h : H) : QR := cond (keyOk fk k) (match m with
  | .nilm => .v .undef h
  | m => mapOfR m h fun r es c => match findMap k es with
    | some (some _) => .v .undef (h.setObj r (.map (delMap k es) c))
    | some none => .v .undef h
    | none => .no) .no
noncomputable def rangeAV (str : Bool) (x : AV) (h : H) : QR := match x with
  | .str s => cond str (ptrOf (h.new (.siter s 0))) .no
  | .nilm => cond str .no (ptrOf (h.new (.miter none 0 [] 0)))
  | .map r => cond str .no (match h.obj r with | some (.map _ c) => ptrOf (h.new (.miter (some r) c [] c)) | _ => .no)
  | _ => .no
def decodeAt (s : List UInt8) (pos : Nat) (c : UInt8) : Nat × Nat := cond (Nat.ble c.toNat 127) (c.toNat, 1) (Utf8.decode ⟨s.toArray⟩ pos)
noncomputable def nextStr (r : Nat) (s : List UInt8) (pos : Nat) (h : H) : QR := match s.drop pos with
  | [] => .v (.tup [.bool false]) h
  | c :: _ => (match decodeAt s pos c with
    | (rn, w) => forceN (pos + w) fun p => forceN rn fun rn => .v (.tup [.bool true, .int .i64 (.ofNat pos), .int .i32 (.ofNat rn)]) (h.setObj r (.siter s p)))
def memN (n : Nat) : List Nat → Bool
  | [] => false
  | m :: r => cond (Nat.beq n m) true (memN n r)
def leftOf (seen : List Nat) : List (AV × AV × Nat) → List (AV × AV × Nat)
  | [] => []
  | (k, v, n) :: r => cond (memN n seen) (leftOf seen r) ((k, v, n) :: leftOf seen r)
def lastN (l : List Nat) : Option Nat := match l with | [] => none | [x] => some x | _ :: r => lastN r
def findBorn (s : Nat) : List (AV × AV × Nat) → Option (AV × AV)
  | [] => none
  | (k, v, n) :: r => cond (Nat.beq n s) (some (k, v)) (findBorn s r)
def anyBefore (last : Nat) : List (AV × AV × Nat) → Bool
  | [] => false
  | (_, _, n) :: r => cond (Nat.ble (Nat.succ n) last) true (anyBefore last r)
/-- not every entry that the map held at the last step is gone -/
def bornOk (seen : List Nat) (last : Nat) (es : List (AV × AV × Nat)) : Bool := match seen, es with
  | [], _ => true
  | _, [] => true
  | _, es => anyBefore last es
noncomputable def nextMap (r m since : Nat) (seen : List Nat) (stepped : Nat) (h : H) : QR := match h.obj m with
  | some (.map es clock) => cond (and (Nat.beq clock since) (bornOk seen stepped es)) (match leftOf seen es with
    | [] => .v (.tup [.bool false]) h
    | [(k, v, n)] => cond (Nat.ble (Nat.succ n) since) (.v (.tup [.bool true, k, v]) (h.setObj r (.miter (some m) since (seen ++ [n]) clock))) .no
    | _ => .no) .no
  | _ => .no
noncomputable def nextAV (x : AV) (str : Bool) (h : H) : QR := match x with
  | .ptr r 0 => (match h.obj r with
    | some (.siter s pos) => cond str (nextStr r s pos h) .no
    | some (.miter none _ _ _) => cond str .no (.v (.tup [.bool false]) h)
    | some (.miter (some m) since seen st) => cond str .no (nextMap r m since seen st h)
    | _ => .no)
  | _ => .no

noncomputable def entryR (st : Nat) (n : Option Nat) (h : H) (x : Option Obj) : QR := match x, n with
  | some (.map es clock), some n => cond (Nat.beq clock st) (match findBorn n es with | some (k, v) => .v (.tup [k, v]) h | none => .no) .no
  | _, _ => .no
noncomputable def entryAV (x : AV) (h : H) : QR := match x with
  | .ptr r 0 => (match h.obj r with
    | some (.miter (some m) _ seen st) => entryR st (lastN seen) h (h.obj m)
    | _ => .no)
  | _ => .no
noncomputable def clearAV (z : List AV) (x : AV) (h : H) : QR := match x with
  | .nils => .v .undef h
  | .slice b o n _ => doneR (h.stores b o (replList z n))
  | _ => .no

noncomputable def doM1 (t : TM) (h : H) (o : M1) : QR := match o with
  | .load n agg a => loadAV n agg (evO t a) h
  | .store n a x => storeAV n (evO t a) (evO t x) h
  | .alloc tag z => ptrOf (h.newRow tag z)
  | .box x => boxAV (evO t x) h
  | .append size bytes tag s x => appendAV size bytes tag (evO t s) (evO t x) h
  | .len k x => mkLen (lenK k (evO t x) h) h
noncomputable def doM2 (t : TM) (h : H) (o : M2) : QR := match o with
  | .buildSlice z len ps => buildSliceAV z len (evParts t ps) h
  | .mkMap => mapOf (h.new (.map [] 0))
  | .mkSlice z bytes l c => mkSliceAV z bytes (evO t l) (evO t c) h
  | .sliceSl size x lo hi mx => sliceSlAV size (evO t x) (evOo t lo) (evOo t hi) (evOo t mx) h
  | .toBytes x => toBytesAV (evO t x) h
  | .ofBytes x => ofBytesAV (evO t x) h
  | .copy size d s => copyAV size (evO t d) (evO t s) h
noncomputable def doM3 (t : TM) (h : H) (o : M3) : QR := match o with
  | .lookup fk zero ok x k => lookupAV fk zero ok (evO t x) (evO t k) h
  | .mapUpdate fk m k x => mapUpdateAV fk (evO t m) (evO t k) (evO t x) h
  | .mapEntry fk zero m k => mapEntryAV fk zero (evO t m) (evO t k) h
  | .entryStore m s x => entryStoreAV (evO t m) (evO t s) (evO t x) h
  | .range str x => rangeAV str (evO t x) h
  | .next x str => nextAV (evO t x) str h
  | .entry x => entryAV (evO t x) h
  | .delete fk m k => deleteAV fk (evO t m) (evO t k) h
  | .clear z x => clearAV z (evO t x) h

/-! control -/
inductive Fr where
  | mk (defers : List (AV × List AV)) (pan : Option (AV × Bool)) (rnd : Option Nat)
inductive R where
  | normal (t : TM) (f : Fr) (h : H)
  | exit (id : Nat) (t : TM) (f : Fr) (h : H)
  | goto (l : Nat) (t : TM) (f : Fr) (h : H)
  | ret (t : TM) (f : Fr) (h : H)
  | panic (v : AV) (t : TM) (f : Fr) (h : H)
  | stuck
inductive CR where
  | ret (v : AV) (pan : Option (AV × Bool)) (h : H)
  | panic (v : AV) (pan : Option (AV × Bool)) (h : H)
  | stuck
abbrev CallF := AV → List AV → Option (AV × Bool) → H → CR
abbrev EvF := ACode → TM → Fr → H → R

noncomputable def putD (t : TM) (d : Option Nat) (v : AV) : TM := Option.rec t (fun d => T.put t d v) d
noncomputable def wantS (t : TM) (g : Nat × Bool) : Option Bool := match g with
  | (n, w) => match T.get t n with
    | some (.bool b) => some (match w with | true => b | false => !b)
    | some (.tup []) => some false
    | _ => none
noncomputable def wantG (t : TM) (g : Option (Nat × Bool)) : Option Bool := Option.rec (some true) (fun g => wantS t g) g
abbrev Kont := TM → Fr → H → R
noncomputable def afterV (k : Kont) (t : TM) (f : Fr) (h : H) (d : Option Nat) (x : Option AV) : R := Option.rec .stuck (fun v => k (putD t d v) f h) x
noncomputable def afterQ (k : Kont) (t : TM) (f : Fr) (d : Option Nat) (x : QR) : R := match x with | .v v h => k (putD t d v) f h | .no => .stuck
noncomputable def afterC (k : Kont) (t : TM) (f : Fr) (d : Option Nat) (x : CR) : R := match x with
  | .ret v _ h => k (putD t d v) f h
  | .panic v _ h => .panic v t f h
  | .stuck => .stuck
noncomputable def methOf (t : TypeId) : List (TypeId × FuncId × Option (Nat × Bool)) → Option (FuncId × Option (Nat × Bool))
  | [] => none
  | (u, x) :: r => cond (Nat.beq t u) (some x) (methOf t r)
noncomputable def recvAV (v : AV) (m : Option (Nat × Bool)) (h : H) : Option AV := match m with
  | none => some v
  | some (n, agg) => match loadAV n agg v h with | .v x _ => some x | .no => none
noncomputable def doInvoke (call : CallF) (recv : AV) (tbl : List (TypeId × FuncId × Option (Nat × Bool))) (args : List AV) (h : H) : CR := match recv with
  | .iface t v => (match methOf t tbl with
    | some (f, m) => (match recvAV v m h with | some r => call (.func (.func f) [] []) (r :: args) none h | none => .stuck)
    | none => .stuck)
  | _ => .stuck
noncomputable def doRecover (k : Kont) (t : TM) (f : Fr) (h : H) (d : Option Nat) : R := match f with
  | ⟨ds, some (v, false), none⟩ => k (putD t d v) ⟨ds, some (v, true), none⟩ h
  | f => k (putD t d .nili) f h
noncomputable def doDefer (k : Kont) (t : TM) (f : Fr) (h : H) (d : Option Nat) (g : AV) (args : List AV) : R := match f, g with
  | ⟨ds, p, none⟩, .func fn fs cs => k (putD t d .undef) ⟨(.func fn fs cs, args) :: ds, p, none⟩ h
  | _, _ => .stuck
def doPanic (t : TM) (f : Fr) (h : H) (x : AV) : R := match x with | .iface u v => .panic (.iface u v) t f h | _ => .stuck
noncomputable def doOp (call : CallF) (k : Kont) (t : TM) (f : Fr) (h : H) (d : Option Nat) (o : AOp) : R := AOp.rec
  (fun o => afterV k t f h d (doP1 t o))
  (fun o => afterV k t f h d (doP2 t o))
  (fun o => afterV k t f h d (doP3 t o))
  (fun o => afterQ k t f d (doM1 t h o))
  (fun o => afterQ k t f d (doM2 t h o))
  (fun o => afterQ k t f d (doM3 t h o))
  (fun g args => afterC k t f d (call (evO t g) (evOs t args) none h))
  (fun r tbl args => afterC k t f d (doInvoke call (evO t r) tbl (evOs t args) h))
  (doRecover k t f h d)
  (fun g args => doDefer k t f h d (evO t g) (evOs t args))
  (fun x => doPanic t f h (evO t x))
  .stuck o
noncomputable def doOper (call : CallF) (k : Kont) (t : TM) (f : Fr) (h : H) (o : AOper) : R :=
  AOper.rec (fun d g op => Option.rec .stuck (fun b => Bool.rec (k (putD t d .undef) f h) (doOp call k t f h d op) b) (wantG t g)) o
noncomputable def runOps (call : CallF) (l : List AOper) : Kont :=
  List.rec (fun t f h => R.normal t f h) (fun o _ ih t f h => doOper call ih t f h o) l

/-! a region that draws its order: in the text's order; what only reads is asked again wherever it might stand -/
def eqOD (x y : Option AV) : Bool := match x, y with | some a, some b => sameAV a b | _, _ => false
noncomputable def quietV (t : TM) (h : H) (o : AOp) : Option AV := match o with
  | .p1 o => doP1 t o
  | .p2 o => doP2 t o
  | .p3 o => doP3 t o
  | .m1 o => outV (doM1 t h o)
  | .m2 o => outV (doM2 t h o)
  | .m3 o => outV (doM3 t h o)
  | _ => none
/-- what stood there, with what it was asked over, what it gave, and up to where it might stand -/
inductive QRec where
  | mk (o : AOp) (t : TM) (v : AV) (hi : Nat)
noncomputable def againAll (m : Nat) (h : H) : List QRec → Bool
  | [] => true
  | .mk o t v hi :: r => cond (Nat.ble m hi) (cond (eqOD (quietV t h o) (some v)) (againAll m h r) false) (againAll m h r)
noncomputable def beforeAll (o : AOp) (t : TM) (v : AV) (lo : Nat) : Nat → List H → Bool
  | _, [] => true
  | m, h :: hs => cond (Nat.ble lo m) (cond (eqOD (quietV t h o) (some v)) (beforeAll o t v lo (m - 1) hs) false) true
/-- only what the operation reads -/
noncomputable def restrict (t : TM) : List Nat → TM
  | [] => .lf
  | n :: r => match T.get t n with
    | some v => T.put (restrict t r) n v
    | none => restrict t r
/-- the operations with an order of their own -/
noncomputable def doE (call : CallF) (t : TM) (h : H) (o : AOp) : CR := match o with
  | .m1 o => (match doM1 t h o with | .v v h => .ret v none h | .no => .stuck)
  | .m2 o => (match doM2 t h o with | .v v h => .ret v none h | .no => .stuck)
  | .m3 o => (match doM3 t h o with | .v v h => .ret v none h | .no => .stuck)
  | .callv g args => call (evO t g) (evOs t args) none h
  | .invoke r tbl args => doInvoke call (evO t r) tbl (evOs t args) h
  | _ => .stuck
noncomputable def allocE (t : TM) (h : H) (o : AOp) : QR := match o with | .m1 (.alloc tag z) => doM1 t h (.alloc tag z) | _ => .no
def belowF (B : Nat) (fn : Fn) : Bool := match fn with | .yield l => Nat.ble (Nat.succ l) B | _ => true
mutual
/-- only what has a number below -/
def belowB (B : Nat) : AV → Bool
  | .ptr b _ => Nat.ble (Nat.succ b) B
  | .slice b _ _ _ => Nat.ble (Nat.succ b) B
  | .map m => Nat.ble (Nat.succ m) B
  | .func fn xs cs => and (belowF B fn) (and (belowBs B xs) (belowBs B cs))
  | .iface _ v => belowB B v
  | .agg l => belowBs B l
  | .tup l => belowBs B l
  | _ => true
def belowBs (B : Nat) : List AV → Bool
  | [] => true
  | x :: r => and (belowB B x) (belowBs B r)
end
def belowH (h : H) (v : AV) : Bool := match h with | ⟨_, n, _, _⟩ => belowB n v
def nextLe (h h' : H) : Bool := match h, h' with | ⟨_, n, _, _⟩, ⟨_, m, _, _⟩ => Nat.ble n m
/-- h: the heap with the new variables; hs: the heaps behind each change, the last one first; m: how many changes there were -/
noncomputable def runDraw (call : CallF) : List DOper → Nat → List H → List QRec → Kont
  | [], _, _, _, t, f, h => .normal t f h
  | .mk (.mk d g op) k lo hi ns :: r, m, hs, qs, t, f, h =>
    match wantG t g with
    | none => .stuck
    | some true => (match k with
      | .q => (match quietV (restrict t ns) h op with
        | some v => cond (and (belowH h v) (beforeAll op (restrict t ns) v lo m hs)) (runDraw call r m hs (.mk op (restrict t ns) v hi :: qs) (putD t d v) f h) .stuck
        | none => .stuck)
      | .a => (match allocE t h op with
        | .v v h => runDraw call r m hs qs (putD t d v) f h
        | .no => .stuck)
      | .e => (match doE call (restrict t ns) h op with
        | .ret v _ h' => cond (and (and (belowH h' v) (nextLe h h')) (againAll (m + 1) h' qs)) (runDraw call r (m + 1) (h' :: hs) qs (putD t d v) f h') .stuck
        | _ => .stuck))
    | some false => (match k with
      | .e => cond (againAll (m + 1) h qs) (runDraw call r (m + 1) (h :: hs) qs (putD t d .undef) f h) .stuck
      | _ => runDraw call r m hs qs (putD t d .undef) f h)

def findLabel (l : Nat) (c : ACode) : Option ACode := match c with
  | .seq a b => (match findLabel l a with
    | some r => some (.seq r b)
    | none => findLabel l b)
  | .label l' => cond (Nat.beq l' l) (some .skip) none
  | _ => none
noncomputable def argsT (args : List AV) : TM := T.putList .lf 0 args
noncomputable def resultsOf (t : TM) (h : H) : List ARes → Option (List AV)
  | [] => some []
  | .tmp n :: r => (match resultsOf t h r with | some l => some (evO t (.tmp n) :: l) | none => none)
  | .cell n sz agg :: r => (match loadAV sz agg (evO t (.tmp n)) h with
    | .v x _ => (match resultsOf t h r with | some l => some (x :: l) | none => none)
    | .no => none)
def tupOf (l : List AV) : AV := match l with | [v] => v | vs => .tup vs
def finish (pan : Option (AV × Bool)) (h : H) (x : Option (List AV)) : CR := match x with | some l => .ret (tupOf l) pan h | none => .stuck
/-- the deferred calls: of closures without deferred calls of their own -/
def settle (p : Option (AV × Bool)) : Option (AV × Bool) := match p with | some (_, true) => none | p => p
noncomputable def runDefers (call : CallF) : List (AV × List AV) → Option (AV × Bool) → H → Option (Option (AV × Bool) × H)
  | [], p, h => some (p, h)
  | (f, args) :: r, p, h => match call f args p h with
    | .ret _ p' h => runDefers call r (settle p') h
    | _ => none
noncomputable def leaveK (rs : List ARes) (t : TM) (pan : Option (AV × Bool)) (x : Option (Option (AV × Bool) × H)) : CR := match x with
  | some (none, h) => finish pan h (resultsOf t h rs)
  | some (some (v, _), h) => .panic v pan h
  | none => .stuck
noncomputable def leave (dcall : CallF) (rs : List ARes) (r : R) : CR := match r with
  | .normal t ⟨ds, p, _⟩ h => leaveK rs t p (runDefers dcall ds none h)
  | .ret t ⟨ds, p, _⟩ h => leaveK rs t p (runDefers dcall ds none h)
  | .panic v t ⟨ds, p, _⟩ h => leaveK rs t p (runDefers dcall ds (some (v, false)) h)
  | _ => .stuck
noncomputable def zipSet (t : TM) (ps : List Nat) (vs : List AV) : TM := match ps, vs with
  | p :: ps, v :: vs => zipSet (T.put t p v) ps vs
  | _, _ => t
noncomputable def endRoundK (l : Nat) (h : H) (pan : Option (AV × Bool)) (st : LoopSt) (jump : Option ACode) (b : Bool) : CR := match h.obj l with
  | some (.loop _ tmps ps asg body _) => .ret (.bool b) pan (h.setObj l (.loop st tmps ps asg body jump))
  | _ => .stuck
noncomputable def endRound (l : Nat) (pan : Option (AV × Bool)) (r : R) : CR :=
  match r with
  | .normal _ _ h => endRoundK l h pan .ready none true
  | .ret _ _ h => endRoundK l h pan .done (some .ret) false
  | .exit i _ _ h => endRoundK l h pan .done (some (.exit i)) false
  | .goto g _ _ h => endRoundK l h pan .done (some (.goto g)) false
  | _ => .stuck
noncomputable def roundBody (ev : EvF) (l : Nat) (body : ACode) (pan : Option (AV × Bool)) (r : R) : CR :=
  match r with
  | .normal t f h => (match h.obj l with
    | some (.loop .ready tmps ps asg body' pend) => endRound l pan (ev body t f (h.setObj l (.loop .busy tmps ps asg body' pend)))
    | _ => .stuck)
  | _ => .stuck
noncomputable def doYield (ev : EvF) (l : Nat) (args : List AV) (pan : Option (AV × Bool)) (h : H) : CR := match pan, h.obj l with
  | none, some (.loop _ tmps ps asg body _) => cond (Nat.beq ps.length args.length) (roundBody ev l body pan (ev asg (zipSet tmps ps args) ⟨[], none, some l⟩ h)) .stuck
  | _, _ => .stuck
def natR (pan : Option (AV × Bool)) (x : QR) : CR := match x with | .v v h => .ret v pan h | .no => .stuck
noncomputable def doFunc (funcs : T AFn) (ev : EvF) (dcall : CallF) (f : Nat) (args : List AV) (pan : Option (AV × Bool)) (h : H) : CR := match T.get funcs f with
  | some (.code body rs) => leave dcall rs (ev body (argsT args) ⟨[], pan, none⟩ h)
  | some (.nat g) => natR pan (g args h)
  | none => .stuck
/-- a deferred call: of a function with code of its own, without deferred calls of its own -/
noncomputable def doFuncD (funcs : T AFn) (ev : EvF) (f : Nat) (args : List AV) (pan : Option (AV × Bool)) (h : H) : CR := match T.get funcs f with
  | some (.code body rs) => leave (fun _ _ _ _ => .stuck) rs (ev body (argsT args) ⟨[], pan, none⟩ h)
  | _ => .stuck
noncomputable def call0 (funcs : T AFn) (ev : EvF) : CallF := fun fv args pan h => match fv with
  | .func (.func f) first cap => doFuncD funcs ev f (first ++ (args ++ cap)) pan h
  | _ => .stuck
noncomputable def call1 (funcs : T AFn) (ev : EvF) : CallF := fun fv args pan h => match fv with
  | .func fn first cap => (match fn with
    | .func f => doFunc funcs ev (call0 funcs ev) f (first ++ (args ++ cap)) pan h
    | .yield l => doYield ev l (first ++ args) pan h
    | _ => .stuck)
  | _ => .stuck

noncomputable def thenR (ev : EvF) (y : ACode) (r : R) : R := R.rec (fun t f h => ev y t f h) (fun i t f h => .exit i t f h) (fun l t f h => .goto l t f h)
  (fun t f h => .ret t f h) (fun v t f h => .panic v t f h) .stuck r
def blockR (id : Nat) (r : R) : R := match r with
  | .exit i t f h => cond (Nat.beq i id) (.normal t f h) (.exit i t f h)
  | r => r
noncomputable def condR (ev : EvF) (x y : ACode) (t : TM) (f : Fr) (h : H) (c : AV) : R := match c with
  | .bool true => ev x t f h
  | .bool false => ev y t f h
  | _ => .stuck
noncomputable def scopeR (ev : EvF) (b : ACode) : Nat → R → R
  | 0, r => (match r with | .goto _ _ _ _ => .stuck | r => r)
  | n + 1, r => match r with
    | .goto l t f h => (match findLabel l b with
      | some c => scopeR ev b n (ev c t f h)
      | none => .goto l t f h)
    | r => r
noncomputable def endLoopR (ev : EvF) (l : Nat) (t : TM) (f : Fr) (r : CR) : R := match r with
  | .ret _ _ h => (match h.obj l with
    | some (.loop .ready tm ps asg body none) => .normal t f (h.setObj l (.loop .exhausted tm ps asg body none))
    | some (.loop .done tm ps asg body (some j)) => ev j t f (h.setObj l (.loop .exhausted tm ps asg body (some j)))
    | _ => .stuck)
  | _ => .stuck
/-- in a round: its loop is there -/
noncomputable def roundOk (f : Fr) (h : H) : Bool := match f with
  | ⟨_, _, none⟩ => true
  | ⟨_, _, some l⟩ => match h.obj l with | some (.loop _ _ _ _ _ _) => true | _ => false
noncomputable def rangeR (ev : EvF) (call : CallF) (g : AV) (ps : List Nat) (asg body : ACode) (t : TM) (f : Fr) (x : Nat × H) : R := match x with
  | (l, h) => endLoopR ev l t f (call g [.func (.yield l) [] []] none h)
noncomputable def evStep (funcs : T AFn) (ev : EvF) : EvF := fun c t f h => ACode.rec
  (.normal t f h)
  (fun ops => runOps (call1 funcs ev) ops t f h)
  (fun ops => runDraw (call1 funcs ev) ops 0 [h] [] t f h)
  (fun x y _ _ => thenR ev y (ev x t f h))
  (fun c x y _ _ => condR ev x y t f h (evO t c))
  (fun id b _ => blockR id (ev b t f h))
  (fun b _ => thenR ev (.loop b) (ev b t f h))
  (fun g ps asg body _ _ => cond (roundOk f h) (rangeR ev (call1 funcs ev) (evO t g) ps asg body t f (h.new (.loop .ready t ps asg body none))) .stuck)
  (fun id => .exit id t f h)
  (fun b _ => scopeR ev b 1000000 (ev b t f h))
  (fun _ => .normal t f h)
  (fun l => .goto l t f h)
  (.ret t f h)
  .stuck c
noncomputable def ev (funcs : T AFn) (n : Nat) : EvF := Nat.rec (fun _ _ _ _ => R.stuck) (fun _ ih => evStep funcs ih) n
noncomputable def run (funcs : T AFn) (n : Nat) (f : Nat) (args : List AV) (h : H) : CR := doFunc funcs (ev funcs n) (call0 funcs (ev funcs n)) f args none h
end Go.AM
namespace Go.AM
open Go
/-- errors.As, at targets whose pointed type is kindT or faultT (a pointer to a struct whose third cell is what is wrapped) -/
noncomputable def errAsT (faultT kindT t : Nat) (ih : AV → H → QR) (v : AV) (h : H) : QR :=
  cond (Nat.beq t faultT) (match v with
    | .ptr fb fo => (match h.loads fb (fo + 2) 1 with
      | some [e] => ih e h
      | _ => .no)
    | _ => .no) (cond (Nat.beq t kindT) (.v (.bool false) h) .no)
noncomputable def errAsS (kindT faultT want b o : Nat) (ih : AV → H → QR) (err : AV) (h : H) : QR := match err with
    | .nili => .v (.bool false) h
    | .iface t v => cond (Nat.beq t want) (giveR (.bool true) (h.stores b o [v])) (errAsT faultT kindT t ih v h)
    | _ => .no
noncomputable def errAsGo (kindT faultT want : Nat) (b o : Nat) (n : Nat) : AV → H → QR := Nat.rec (fun _ _ => .no) (fun _ ih => errAsS kindT faultT want b o ih) n
/-- errors.errorType, as it was laid -/
def isCst (t b o : Nat) (x : Option Obj) : Bool := match x with | some (.cst 0 t' b' o') => and (Nat.beq t t') (and (Nat.beq b b') (Nat.beq o o')) | _ => false
noncomputable def errAsA (kindT faultT ptrKind ptrFault : Nat) (args : List AV) (h : H) : QR := match args with
  | [err, .iface t (.ptr b o)] => cond (Nat.beq t ptrKind) (errAsGo kindT faultT kindT b o 1000 err h) (cond (Nat.beq t ptrFault) (errAsGo kindT faultT faultT b o 1000 err h) .no)
  | _ => .no
noncomputable def errAs (rtypeT typB errT kindT faultT ptrKind ptrFault : Nat) (args : List AV) (h : H) : QR := cond (isCst rtypeT typB errT (h.obj 1)) (errAsA kindT faultT ptrKind ptrFault args h) .no
/-- is it a variable of its own, of a type, of so many cells? -/
def isVar (tb n : Nat) (x : Option Obj) : Bool := match x with
  | some (.row s (.agg [.int .i64 (.ofNat a), .nilp]) _ _ _) => and (Nat.beq a tb) (Nat.beq s n)
  | _ => false
/-- is it a row of a type, from its memory's beginning on? -/
def isRowOf (tb : Nat) (x : Option Obj) : Bool := match x with
  | some (.row _ (.agg [.int .i64 (.ofNat a)]) _ _ _) => Nat.beq a tb
  | _ => false
noncomputable def copyCheckK (tb b : Nat) (h : H) : Option H := match h.loads b 0 1 with
    | some [.nilp] => cond (isVar tb 2 (h.obj b)) (h.stores b 0 [.ptr b 0]) none
    | some [.ptr b' 0] => cond (and (Nat.beq b' b) (isVar tb 2 (h.obj b))) (some h) none
    | _ => none
noncomputable def bCopyCheck (tb : Nat) (args : List AV) (h : H) : QR := match args with
  | [.ptr b 0] => doneR (copyCheckK tb b h)
  | _ => .no
noncomputable def killR (b : Nat) (h : H) (x : Option Obj) : Option H := match x, h with
  | some (.row s d c k _), ⟨bl, n, dd, cl⟩ => some ⟨T.put bl b (.row s d c cl 0), n, T.put (H.kill k dd) cl (), Nat.succ cl⟩
  | _, _ => none
def strH (x : Option (List UInt8)) (h : Option H) : QR := match x, h with | some s, some h => .v (.str s) h | _, _ => .no
def normAll : List AV → Bool
  | [] => true
  | .int .u8 (.ofNat n) :: r => cond (Nat.ble n 255) (normAll r) false
  | _ => false
noncomputable def bStringK (u8 x len : Nat) (h : H) : QR := match h.loads x 0 len with
  | some cs => cond (and (isRowOf u8 (h.obj x)) (and (and (Nat.ble 1 len) (Nat.ble len 1099511627776)) (normAll cs))) (strH (bytesOf cs) (killR x h (h.obj x))) .no
  | none => .no
noncomputable def bString (tb u8 : Nat) (args : List AV) (h : H) : QR := match args with
  | [.ptr b 0] => (match h.loads b 1 1 with
    | some [.nils] => cond (isVar tb 2 (h.obj b)) (.v (.str []) h) .no
    | some [.slice x 0 len none] => cond (isVar tb 2 (h.obj b)) (bStringK u8 x len h) .no
    | _ => .no)
  | _ => .no
end Go.AM
namespace Go.AM
open Go
/-! natives of the server's program -/
def countC (c : Nat) : List UInt8 → Nat → Nat
  | [], n => n
  | b :: r, n => cond (Nat.beq b.toNat c) (countC c r (Nat.succ n)) (countC c r n)
noncomputable def nCount (args : List AV) (h : H) : QR := match args with
  | [.str s, .int .u8 (.ofNat c)] => cond (Nat.ble c 255) (.v (.int .i64 (.ofNat (countC c s 0))) h) .no
  | _ => .no
def findB (c : Nat) : List UInt8 → Nat → Int
  | [], _ => .negSucc 0
  | b :: r, n => cond (Nat.beq b.toNat c) (.ofNat n) (findB c r (Nat.succ n))
noncomputable def nIndexByte (args : List AV) (h : H) : QR := match args with
  | [.str s, .int .u8 (.ofNat c)] => cond (Nat.ble c 255) (valR h (mkInt .i64 (findB c s 0))) .no
  | _ => .no
def lenCell (l : Option (List AV)) : Option Nat := match l with
  | some [.slice _ _ n _] => some n
  | some [.nils] => some 0
  | _ => none
noncomputable def totalGo (h : H) : List (AV × AV × Nat) → Nat → Option Nat
  | [], n => some n
  | (_, v, _) :: r, n => match v with
    | .ptr b o => (match lenCell (h.loads b o 1) with | some k => totalGo h r (n + k) | none => none)
    | _ => none
noncomputable def totalK (es : List (AV × AV × Nat)) (h : H) : QR := match totalGo h es 0 with | some n => valR h (mkInt .i64 (.ofNat n)) | none => .no
noncomputable def nTotal (args : List AV) (h : H) : QR := match args with
  | [.nilp] => .v (.int .i64 (.ofNat 0)) h
  | [.ptr b o] => (match h.loads b o 1 with
    | some [.nilm] => .v (.int .i64 (.ofNat 0)) h
    | some [.map m] => (match h.obj m with | some (.map es _) => totalK es h | _ => .no)
    | _ => .no)
  | _ => .no
def leKey (a b : AV) : Bool := match a, b with
  | .str x, .str y => !(ltStr y x)
  | .int _ x, .int _ y => leI x y
  | _, _ => true
def insKey (k : AV) : List AV → List AV
  | [] => [k]
  | x :: r => cond (leKey k x) (k :: x :: r) (x :: insKey k r)
def sortKeys : List (AV × AV × Nat) → List AV
  | [] => []
  | (k, _, _) :: r => insKey k (sortKeys r)
noncomputable def sortedOf (l : List AV) (h : H) : QR := match l with
  | [] => .v .nils h
  | l => sliceOf l.length none (h.newOpen .bot 1 l)
noncomputable def nSortedM (m : AV) (h : H) : QR := match m with
  | .map m => (match h.obj m with | some (.map es _) => sortedOf (sortKeys es) h | _ => .no)
  | .nilm => .v .nils h
  | _ => .no
noncomputable def nSorted (f : Nat) (args : List AV) (h : H) : QR := match args with
  | [.func (.func g) [] [.ptr b o]] => cond (Nat.beq g f) (match h.loads b o 1 with | some [m] => nSortedM m h | _ => .no) .no
  | _ => .no
end Go.AM
