/- The A-machine, part 2: the code of a loaded function, read as code of the A-machine. -/
import Derived.Test.YthpaolkonlhjfaaAm1
set_option linter.all false
namespace Go.Am

def leafDesc : TypeDesc → Bool
  | .bool | .int _ | .string | .pointer _ | .slice _ | .func .. | .interface _ => true
  | _ => false

def fldsOk (P : Program) : Nat → List Field → Bool
  | _, [] => true
  | i, f :: fs => f.offset == i && (match P.info? f.type with | some j => j.size == 1 | none => false) && (match P.underlying f.type with | some d => leafDesc d | none => false) && fldsOk P (i + 1) fs

/-- A type's shape: a struct of n cells, or one cell. -/
def shp (P : Program) (t : TypeId) : Option (Option Nat) :=
  match P.info? t, P.underlying t with
  | some i, some (.struct fs) => if i.size = fs.size ∧ i.bytes ≤ 1024 ∧ fldsOk P 0 fs.toList = true then some (some fs.size) else none
  | some i, some d => if i.size = 1 ∧ i.bytes ≤ 1024 ∧ leafDesc d = true then some none else none
  | _, _ => none

def immV : Value → Option V
  | .bool b => some (.b b)
  | .int k n => some (.im (.int k n))
  | .string s => some (.im (.string s))
  | .slice none 0 0 => some .e0
  | .nilFunc => some (.im .nilFunc)
  | .nilIface => some (.im .nilIface)
  | .pointer none => some (.im (.pointer none))
  | _ => none

def zV : Value → Option V
  | .agg cs => (cs.toList.mapM immV).map .st
  | v => immV v

def zeroV (P : Program) (t : TypeId) : Option V :=
  match P.info? t with
  | some i => i.zero.bind zV
  | none => none

def toO : Operand → Option O
  | .tmp t => some (.t t)
  | .const (.int .i64 z) => some (.n z)
  | .const v => (immV v).map .k
  | .func f => some (.k (.cl f []))
  | .global _ => none

def toOs (l : List Operand) : Option (List O) := l.mapM toO
def toOo : Option Operand → Option (Option O)
  | none => some none
  | some x => (toO x).map some

def partsOk : Nat → List (Nat × Operand) → Option (List O)
  | _, [] => some []
  | i, (j, x) :: l => if i = j then match toO x, partsOk (i + 1) l with | some y, some ys => some (y :: ys) | _, _ => none else none

def sliceShp (P : Program) (t : TypeId) : Option (Option Nat) :=
  match P.underlying t with
  | some (.slice e) => shp P e
  | _ => none

def sliceZero (P : Program) (t : TypeId) : Option V :=
  match P.underlying t with
  | some (.slice e) => zeroV P e
  | _ => none

def compA (P : Program) (op : Op) : A :=
  match op with
  | .move x | .assign x => match toO x with | some x => .mv x | none => .no
  | .pick c a b => match toO c, toO a, toO b with | some c, some a, some b => .pk c a b | _, _, _ => .no
  | .alloc t => match zeroV P t, shp P t with | some z, some q => .al z q | _, _ => .no
  | .box t x => match shp P t, toO x with | some q, some x => .bx q x | _, _ => .no
  | .load t x => match shp P t, toO x with | some q, some x => .ld q x | _, _ => .no
  | .store t p x => match shp P t, toO p, toO x with | some q, some p, some x => .so q p x | _, _, _ => .no
  | .binOp op t x y _ => match P.underlying t, toO x, toO y with
    | some (.int _), some x, some y => .bi op x y
    | some .string, some x, some y => .bi op x y
    | some .bool, some x, some y => match op with | .eql => .be false x y | .neq => .be true x y | _ => .no
    | _, _, _ => .no
  | .unOp op _ x => match toO x with | some x => .un op x | none => .no
  | .convert src dst x => match P.underlying src, P.underlying dst, toO x with
    | some (.int _), some (.int k), some x => .cv k x
    | some (.slice e), some .string, some x => match P.underlying e with | some (.int .u8) => .sb x | _ => .no
    | _, _, _ => .no
  | .field t x j => match shp P t, toO x with | some (some n), some x => if j < n then .fd j x else .no | _, _ => .no
  | .fieldAddr t x j => match shp P t, toO x with | some (some n), some x => if j < n then .fa j x else .no | _, _ => .no
  | .indexAddr t x i => match sliceShp P t, toO x, toO i with | some q, some x, some i => .ia q x i | _, _, _ => .no
  | .index t x i => match P.underlying t, toO x, toO i with | some .string, some x, some i => .ix x i | _, _, _ => .no
  | .slice t x lo hi mx => match toO x, toOo lo, toOo hi, toOo mx with
    | some x, some lo, some hi, some mx =>
      match P.underlying t with
      | some .string => match mx with | none => .ss x lo hi | some _ => .no
      | some (.slice e) => match shp P e with | some q => .sc q x lo hi mx | none => .no
      | _ => .no
    | _, _, _, _ => .no
  | .buildSlice t n ps => match sliceShp P t, sliceZero P t, partsOk 0 ps.toList with
    | some q, some _, some xs => if xs.length = n ∧ n * ksz q ≤ 2 ^ 24 then .bs q xs else .no
    | _, _, _ => .no
  | .build t ps => match shp P t, zeroV P t, ps.toList.mapM (fun p => (toO p.2).map fun x => (p.1, x)) with
    | some (some n), some (.st z), some xs => if z.length = n ∧ xs.all (fun p => p.1 < n) then .bd z xs else .no
    | _, _, _ => .no
  | .makeSlice t l c => match sliceShp P t, sliceZero P t, toO l, toO c with | some q, some z, some l, some c => .ms z q l c | _, _, _, _ => .no
  | .makeFunc (.func f) first caps => match first.toList, toOs caps.toList with | [], some xs => .mf f xs | _, _ => .no
  | .call { callee := .value f, args, .. } => match toO f, toOs args.toList with | some f, some xs => .ca f xs | _, _ => .no
  | .call { callee := .builtin .append, args, argTypes } => match args.toList, argTypes.toList with
    | [x, y], [t, u] => match sliceShp P t, toO x, toO y, P.underlying u with
      | some q, some x, some y, some (.slice _) => match sliceZero P t with | some z => if z.fits q then .ap q x y else .no | none => .no
      | some q, some x, some y, some (.int _) => match sliceZero P t with | some z => if z.fits q then .az q z x y else .no | none => .no
      | _, _, _, _ => .no
    | _, _ => .no
  | .call { callee := .builtin .len, args, argTypes } => match args.toList, argTypes.toList with
    | [x], [t] => match P.underlying t, toO x with
      | some .string, some x => .ls x
      | some (.slice _), some x => .ln x
      | _, _ => .no
    | _, _ => .no
  | .call { callee := .builtin .clear, args, argTypes } => match args.toList, argTypes.toList with
    | [x], [t] => match sliceShp P t, sliceZero P t, toO x with | some q, some z, some x => .cr q z x | _, _, _ => .no
    | _, _ => .no
  | .call { callee := .builtin .cap, args, argTypes } => match args.toList, argTypes.toList with
    | [x], [t] => match sliceShp P t, toO x with | some _, some x => .cp x | _, _ => .no
    | _, _ => .no
  | .call { callee := .builtin .max, args, .. } => match toOs args.toList with | some xs => .mm true xs | none => .no
  | .call { callee := .builtin .min, args, .. } => match toOs args.toList with | some xs => .mm false xs | none => .no
  | .extract x i => match toO x with | some x => .et x i | none => .no
  | _ => .no

def compI (P : Program) (ops : Array Oper) (o : Oper) : Option I :=
  match o.guard with
  | none => some { d := o.dst, g := none, a := compA P o.op }
  | some (j, w) => match (ops[j]?).bind (·.dst) with
    | some t => some { d := o.dst, g := some (t, w), a := compA P o.op }
    | none => none

/-! Regions whose order is open: which operations may change places. -/
def O.tm : O → List Nat
  | .t m => [m]
  | _ => []
def oTm : Option O → List Nat
  | some x => x.tm
  | none => []
def A.rd : A → List Nat
  | .mv x | .bx _ x | .ld _ x | .un _ x | .cv _ x | .fd _ x | .fa _ x | .ln x | .ls x | .et x _ | .sb x | .cr _ _ x | .cp x => x.tm
  | .pk c a b => c.tm ++ a.tm ++ b.tm
  | .al .. | .no => []
  | .so _ a b | .bi _ a b | .be _ a b | .ia _ a b | .ix a b | .ms _ _ a b | .ap _ a b | .az _ _ a b => a.tm ++ b.tm
  | .ss x lo hi => x.tm ++ oTm lo ++ oTm hi
  | .sc _ x lo hi mx => x.tm ++ oTm lo ++ oTm hi ++ oTm mx
  | .bs _ xs | .mf _ xs | .mm _ xs => xs.flatMap O.tm
  | .bd _ ps => ps.flatMap fun p => p.2.tm
  | .ca f xs => f.tm ++ xs.flatMap O.tm
def I.rd (i : I) : List Nat := (match i.g with | some (t, _) => [t] | none => []) ++ i.a.rd

def isPure : A → Bool
  | .mv _ | .pk .. | .bi .. | .be .. | .un .. | .cv .. | .fd .. | .fa .. | .ix .. | .ss .. | .bd .. | .mf .. | .ln _ | .ls _ | .mm .. | .et .. => true
  | _ => false
def isQuiet : A → Bool
  | .ld .. | .sb _ | .sc .. | .ia .. => true
  | a => isPure a
/-- It makes memory, and writes none that was there. -/
def isMake (md : Nat → Option (List M)) : A → Bool
  | .al .. | .bx .. | .bs .. | .ms .. => true
  | .ca (.k (.cl f _)) _ => match md f with | some ms => ms.all fun m => m == .ro | none => false
  | _ => false
def isLoadT : A → Bool
  | .ld _ (.t _) | .ia _ (.t _) _ | .sb (.t _) | .sc _ (.t _) _ _ _ => true
  | _ => false
def isApp : A → Bool
  | .ap .. => true
  | _ => false
def isScT : A → Bool
  | .sc _ (.t _) _ _ _ => true
  | _ => false
/-- Two operations of which either may come first (a stands first). -/
def apartA (md : Nat → Option (List M)) (a b : A) : Bool := isPure a || isPure b || (isQuiet a && (isQuiet b || isMake md b)) || (isMake md a && isLoadT b) || (isApp a && isScT b)
def apartI (md : Nat → Option (List M)) (x y : I) : Bool :=
  (match x.d with | some d => !y.rd.contains d && y.d != some d | none => true) && (match y.d with | some d => !x.rd.contains d | none => true) && apartA md x.a y.a

/-- The numbers of the operations that must come before each. -/
def joinN (a b : List Nat) : List Nat := a.foldr (fun x acc => if acc.contains x then acc else x :: acc) b
def befL (ops : List Oper) : List (List Nat) := ops.foldl (fun acc o => acc ++ [(o.after.toList.filter (fun e => Region.binds .any e)).foldr (fun e m => joinN (e.on :: acc.getD e.on []) m) []]) []
def effB (md : Nat → Option (List M)) (ops : Array Oper) (l : List I) : Bool :=
  let b := befL ops.toList
  ops.toList.zipIdx.all fun (o, j) =>
    (o.after.toList.all fun e => !Region.binds .any e || decide (e.on < j)) &&
    ((b.getD j []).all fun i => o.after.toList.any fun e => Region.binds .any e && (e.on == i || (b.getD e.on []).contains i)) &&
    ((List.range j).all fun i => (b.getD j []).contains i || match l[i]?, l[j]? with | some x, some y => apartI md x y | _, _ => false)

def compC (P : Program) (md : Nat → Option (List M)) : Code → C
  | .skip => .skip
  | .region _ ops draw =>
    match ops.toList.mapM (compI P ops) with
    | some l => if draw then (if effB md ops l then .rg l else .no) else .rg l
    | none => .no
  | .seq a b => .seq (compC P md a) (compC P md b)
  | .cond c a b => match toO c with | some c => .cond c (compC P md a) (compC P md b) | none => .no
  | .block id a => .blk id (compC P md a)
  | .loop a => .lp (compC P md a)
  | .exit id => .ex id
  | .ret => .ret
  | _ => .no

def dstsOk (nt : Nat) : C → Bool
  | .rg l => l.all fun o => match o.d with | some d => d < nt | none => true
  | .seq a b => dstsOk nt a && dstsOk nt b
  | .cond _ a b => dstsOk nt a && dstsOk nt b
  | .blk _ a => dstsOk nt a
  | .lp a => dstsOk nt a
  | _ => true

def compR (P : Program) : ResultVar → Option (Nat × Option (Option Nat))
  | .tmp t => some (t, none)
  | .cell t u => (shp P u).map fun q => (t, some q)

def compF (P : Program) (md : Nat → Option (List M)) (fn : Func) : Option F :=
  match fn.body, fn.results.toList.mapM (compR P) with
  | some c, some rs =>
    if (fn.name == "runtime.NumGoroutine") = false ∧ dstsOk fn.ntmps (compC P md c) = true ∧ fn.params.size + fn.nfree ≤ fn.ntmps then
      some { np := fn.params.size + fn.nfree, nt := fn.ntmps, res := rs, body := compC P md c }
    else none
  | _, _ => none

def tab (P : Program) (md : Nat → Option (List M)) (f : Nat) : Option F := (P.funcs[f]?).bind (compF P md)

end Go.Am
