/-
  A machine of trees and its soundness over the model, part 1.
-/
import Derived.Tactics
import Derived.Still
import Derived.Laws.Entries
set_option linter.all false
/- The A-machine, part 1: values as trees, the code without orders, and its evaluation. -/
namespace Go.Am

/-- A value of the A-machine: a tree. 'im': a machine value as it is; 'sl', 'rp': a slice, a pointer whose memory nobody writes; 'ow', 'op': a slice, a pointer
whose memory is its holder's own (between calls alone); 'hs', 'hp', 'hf': a slice, a pointer, a field's pointer into a block of the frame's own; 'e0': a slice of
length and capacity 0. -/
inductive V where
  | im (x : Value)
  | st (cs : List V)
  | tu (vs : List V)
  | sl (es : List V)
  | rp (v : V)
  | e0
  | ow (k : Nat) (es : List V)
  | op (v : V)
  | cl (f : Nat) (cs : List V)
  | hs (b off n c : Nat)
  | hp (b i : Nat)
  | hf (b i j : Nat)
  deriving Inhabited

abbrev V.i (n : Int) : V := .im (.int .i64 n)
abbrev V.u (n : Int) : V := .im (.int .u8 n)
abbrev V.b (b : Bool) : V := .im (.bool b)
abbrev V.s (s : ByteArray) : V := .im (.string s)
abbrev V.un : V := .im undef

/-- How many cells a value takes. -/
def V.size : V → Nat
  | .st cs => cs.length
  | _ => 1

def okm : Value → Bool
  | .agg _ | .tuple _ => false
  | _ => true

/-- May it lie in one cell? -/
def V.okc : V → Bool
  | .im x => okm x
  | .st _ | .tu _ | .ow .. | .op _ => false
  | _ => true

/-- May it be stored: a value of one cell, or a struct of such? -/
def V.okv : V → Bool
  | .st cs => cs.all V.okc
  | v => v.okc

/-- Does it fit a variable that is a struct of n cells (some n), or of one cell (none)? -/
def V.fits : Option Nat → V → Bool
  | some n, .st cs => cs.length == n && cs.all V.okc
  | none, v => v.okc
  | _, _ => false

def ksz : Option Nat → Nat
  | some n => n
  | none => 1

/-! ### The code -/

inductive O where
  | t (n : Nat)
  | n (z : Int)
  | k (v : V)
  deriving Inhabited

inductive A where
  | mv (x : O)
  | pk (c a b : O)
  | al (z : V) (q : Option Nat)
  | bx (q : Option Nat) (x : O)
  | ld (q : Option Nat) (x : O)
  | so (q : Option Nat) (p x : O)
  | bi (op : BinOp) (x y : O)
  | be (neg : Bool) (x y : O)
  | un (op : UnOp) (x : O)
  | cv (k : IntKind) (x : O)
  | fd (j : Nat) (x : O)
  | fa (j : Nat) (x : O)
  | ia (q : Option Nat) (s i : O)
  | ix (s i : O)
  | ss (x : O) (lo hi : Option O)
  | sc (q : Option Nat) (x : O) (lo hi mx : Option O)
  | bs (q : Option Nat) (xs : List O)
  | bd (z : List V) (ps : List (Nat × O))
  | ms (z : V) (q : Option Nat) (l c : O)
  | mf (f : Nat) (xs : List O)
  | ca (f : O) (xs : List O)
  | ap (q : Option Nat) (s x : O)
  | az (q : Option Nat) (z : V) (s x : O)
  | ln (x : O)
  | ls (x : O)
  | mm (mx : Bool) (xs : List O)
  | et (x : O) (i : Nat)
  | sb (x : O)
  | cr (q : Option Nat) (z : V) (x : O)
  | cp (x : O)
  | no
  deriving Inhabited

structure I where
  d : Option Nat
  g : Option (Nat × Bool)
  a : A
  deriving Inhabited

inductive C where
  | skip
  | rg (l : List I)
  | seq (a b : C)
  | cond (c : O) (a b : C)
  | blk (id : Nat) (a : C)
  | lp (a : C)
  | ex (id : Nat)
  | ret
  | no
  deriving Inhabited

/-- What becomes of an argument: read only; taken; written in place. -/
inductive M where
  | ro | tk | io
  deriving DecidableEq, Inhabited

structure F where
  np : Nat
  nt : Nat
  res : List (Nat × Option (Option Nat))
  body : C
  deriving Inhabited

/-! ### The state -/

structure Blk where
  k : Nat
  es : List V
  fr : Bool := false
  deriving Inhabited

structure S where
  e : Nat → V
  H : Nat → Option Blk
  nx : Nat
  fz : Bool := false
  deriving Inhabited

def upd {α : Type} (f : Nat → α) (i : Nat) (v : α) : Nat → α := fun j => if j = i then v else f j
theorem upd_same {α : Type} (f : Nat → α) (i : Nat) (v : α) : upd f i v i = v := by simp [upd]
theorem upd_ne {α : Type} (f : Nat → α) {i j : Nat} (v : α) (h : j ≠ i) : upd f i v j = f j := by simp [upd, h]
theorem upd_at {α : Type} (f : Nat → α) (i j : Nat) (v : α) : upd f i v j = if j = i then v else f j := rfl

def S.put (s : S) (d : Option Nat) (v : V) : S :=
  match d with
  | some d => { s with e := upd s.e d v }
  | none => s

def val (e : Nat → V) : O → V
  | .t n => e n
  | .n z => .i z
  | .k v => v

/-- A new block. -/
def S.new (s : S) (k : Nat) (es : List V) : S := { s with H := upd s.H s.nx (some { k, es }), nx := s.nx + 1 }
def S.blk (s : S) (b : Nat) (x : Option Blk) : S := { s with H := upd s.H b x }

/-- The limit of what a slice may grow to: far above all that a memory bears. -/
def LIM : Nat := 2 ^ 36

def aint (op : BinOp) (k : IntKind) (a b : Int) : Option Value :=
  match op with
  | .add => some (.int k (k.wrap (a + b)))
  | .sub => some (.int k (k.wrap (a - b)))
  | .mul => some (.int k (k.wrap (a * b)))
  | .quo => if b = 0 then none else some (.int k (k.wrap (a.tdiv b)))
  | .rem => if b = 0 then none else some (.int k (a.tmod b))
  | .and => some (.int k (k.wrap (BitVec.ofInt k.bits a &&& BitVec.ofInt k.bits b).toNat))
  | .or => some (.int k (k.wrap (BitVec.ofInt k.bits a ||| BitVec.ofInt k.bits b).toNat))
  | .xor => some (.int k (k.wrap (BitVec.ofInt k.bits a ^^^ BitVec.ofInt k.bits b).toNat))
  | .eql => some (.bool (a == b))
  | .neq => some (.bool (a != b))
  | .lss => some (.bool (a < b))
  | .leq => some (.bool (a ≤ b))
  | .gtr => some (.bool (a > b))
  | .geq => some (.bool (a ≥ b))
  | _ => none

def abin (op : BinOp) (x y : Value) : Option Value :=
  match x, y with
  | .int k a, .int k' b =>
    match op with
    | .shl => if b < 0 then none else some (.int k (k.wrap (a * 2 ^ min b.toNat k.bits)))
    | .shr => if b < 0 then none else some (.int k (a.fdiv (2 ^ min b.toNat k.bits)))
    | _ => if k = k' then aint op k a b else none
  | .string a, .string b =>
    match op with
    | .add => if ((a.size + b.size : Nat) : Int) > IntKind.i64.max then none else some (.string (a ++ b))
    | .eql => some (.bool (a.toList == b.toList))
    | .neq => some (.bool (!(a.toList == b.toList)))
    | _ => none
  | _, _ => none

def aun (op : UnOp) (x : Value) : Option Value :=
  match op, x with
  | .neg, .int k n => some (.int k (k.wrap (0 - n)))
  | .not, .bool b => some (.bool !b)
  | _, _ => none

/-- The elements that a slice shows. -/
def elems (H : Nat → Option Blk) : V → Option (List V)
  | .sl es => some es
  | .e0 => some []
  | .hs b off n _ =>
    if n = 0 then some [] else
    match H b with
    | some B => if off + n ≤ B.es.length then some ((B.es.drop off).take n) else none
    | none => none
  | _ => none

def vlen : V → Option Nat
  | .sl es => some es.length
  | .hs _ _ n _ => some n
  | .e0 => some 0
  | _ => none

def asI : V → Option Int
  | .im (.int _ n) => some n
  | _ => none

/-- What a pointer points to. -/
def deref (H : Nat → Option Blk) : V → Option V
  | .rp v => some v
  | .hp b i => (H b).bind fun B => B.es[i]?
  | .hf b i j => (H b).bind fun B => match B.es[i]? with | some (.st cs) => (cs[j]?).bind fun c => if c.okc = true then some c else none | _ => none
  | _ => none

/-- The list with what lies from place i on written over. -/
def splice (l : List V) (i : Nat) (xs : List V) : List V := l.take i ++ xs ++ l.drop (i + xs.length)

def storeAt (H : Nat → Option Blk) (q : Option Nat) (p x : V) : Option (Nat → Option Blk) :=
  match p with
  | .hp b i =>
    match H b with
    | some B => if B.fr = false ∧ i < B.es.length ∧ B.k = ksz q ∧ x.fits q = true then some (upd H b (some { B with es := B.es.set i x })) else none
    | none => none
  | .hf b i j =>
    match H b with
    | some B =>
      match B.es[i]? with
      | some (.st cs) => if B.fr = false ∧ j < cs.length ∧ q = none ∧ x.okc = true then some (upd H b (some { B with es := B.es.set i (.st (cs.set j x)) })) else none
      | _ => none
    | none => none
  | _ => none

def bndOf (d : Nat) : Option V → Option Int
  | none => some d
  | some v => asI v

def isZ : Option V → Bool
  | some v => asI v == some 0
  | none => false

/-- x[lo:hi]; of the slices with a third index x[0:0:0] alone. -/
def sliceOf (x : V) (lo hi mx : Option V) : Option V :=
  match mx with
  | some m =>
    match x with
    | .e0 | .sl _ | .hs .. => if bndOf 0 lo = some 0 ∧ isZ hi = true ∧ asI m = some 0 then some .e0 else none
    | _ => none
  | none =>
    match x with
    | .e0 => if bndOf 0 lo = some 0 ∧ bndOf 0 hi = some 0 then some .e0 else none
    | .sl es =>
      match bndOf 0 lo, bndOf es.length hi with
      | some l, some h => if 0 ≤ l ∧ l ≤ h ∧ h ≤ es.length then some (.sl ((es.take h.toNat).drop l.toNat)) else none
      | _, _ => none
    | .hs b off n c =>
      match bndOf 0 lo, bndOf n hi with
      | some l, some h => if 0 ≤ l ∧ l ≤ h ∧ h ≤ c then some (.hs b (off + l.toNat) (h - l).toNat (c - l.toNat)) else none
      | _, _ => none
    | _ => none

def appendTo (s : S) (q : Option Nat) (x : V) (src : List V) : Option (V × S) :=
  let k := ksz q
  match x with
  | .e0 => if src = [] then some (.e0, s) else if src.length ≤ LIM then some (.hs s.nx 0 src.length src.length, s.new k src) else none
  | .hs b off n c =>
    match s.H b with
    | some B =>
      if B.k = k ∧ B.fr = false ∧ n + src.length ≤ LIM then
        if n + src.length ≤ c then
          if off + n ≤ B.es.length then some (.hs b off (n + src.length) c, s.blk b (some { B with es := splice B.es (off + n) src })) else none
        else if off + n = B.es.length then
          some (.hs s.nx 0 (n + src.length) (n + src.length), (s.blk b none).new k (B.es.drop off ++ src))
        else none
      else none
    | none => none
  | _ => none


/-! ### Between a frame and its callee: snapshots, hand-overs, take-overs -/

def overL (f : V → Option (V × List Nat)) : List V → Option (List V × List Nat)
  | [] => some ([], [])
  | v :: vs =>
    match f v with
    | some (t, i) => match overL f vs with | some (ts, j) => some (t :: ts, i ++ j) | none => none
    | none => none

/-- A value as the callee reads it, with the blocks that it lies in. -/
def snap : Nat → (Nat → Option Blk) → V → Option (V × List Nat)
  | 0, _, _ => none
  | d + 1, H, v =>
    match v with
    | .im x => some (.im x, [])
    | .st cs => match overL (snap d H) cs with | some (ts, i) => some (.st ts, i) | none => none
    | .tu cs => match overL (snap d H) cs with | some (ts, i) => some (.tu ts, i) | none => none
    | .cl f cs => match overL (snap d H) cs with | some (ts, i) => some (.cl f ts, i) | none => none
    | .sl es => some (.sl es, [])
    | .rp v => some (.rp v, [])
    | .e0 => some (.sl [], [])
    | .hs b off n _ =>
      if n = 0 then some (.sl [], []) else
      match H b with
      | some B =>
        if off + n ≤ B.es.length then
          match overL (snap d H) ((B.es.drop off).take n) with | some (ts, i) => some (.sl ts, b :: i) | none => none
        else none
      | none => none
    | .hp b i =>
      match H b with
      | some B => match B.es[i]? with
        | some v => match snap d H v with | some (t, j) => some (.rp t, b :: j) | none => none
        | none => none
      | none => none
    | .hf b i j =>
      match H b with
      | some B => match B.es[i]? with
        | some (.st cs) => match cs[j]? with
          | some v => if v.okc = true then match snap d H v with | some (t, j) => some (.rp t, b :: j) | none => none else none
          | none => none
        | _ => none
      | none => none
    | .ow _ _ | .op _ => none

/-- A value handed over with its memory, and the blocks that go with it. -/
def give : Nat → (Nat → Option Blk) → V → Option (V × List Nat)
  | 0, _, _ => none
  | d + 1, H, v =>
    match v with
    | .im x => some (.im x, [])
    | .st cs => match overL (give d H) cs with | some (ts, i) => some (.st ts, i) | none => none
    | .tu cs => match overL (give d H) cs with | some (ts, i) => some (.tu ts, i) | none => none
    | .cl f cs => match overL (give d H) cs with | some (ts, i) => some (.cl f ts, i) | none => none
    | .sl es => some (.sl es, [])
    | .rp v => some (.rp v, [])
    | .e0 => some (.e0, [])
    | .hs b off n _ =>
      match H b with
      | some B =>
        if off + n ≤ B.es.length then
          match overL (give d H) ((B.es.drop off).take n) with | some (ts, i) => some (.ow B.k ts, b :: i) | none => none
        else none
      | none => none
    | .hp b i =>
      match H b with
      | some B =>
        if i = 0 ∧ B.es.length = 1 then
          match overL (give d H) B.es with | some ([t], j) => some (.op t, b :: j) | _ => none
        else none
      | none => none
    | .hf _ _ _ | .ow _ _ | .op _ => none

/-- A value lent: an empty slice goes as one that is only read. -/
def lend1 (H : Nat → Option Blk) : V → Option (V × List Nat)
  | .hs b off n c => if n = 0 then some (.sl [], []) else give 8 H (.hs b off n c)
  | v => give 8 H v
def lend (H : Nat → Option Blk) : V → Option (V × List Nat)
  | .st cs => match overL (lend1 H) cs with | some (ts, i) => some (.st ts, i) | none => none
  | v => lend1 H v

def takeL (f : V → S → Option (V × S)) : List V → S → Option (List V × S)
  | [], s => some ([], s)
  | v :: vs, s =>
    match f v s with
    | some (t, s1) => match takeL f vs s1 with | some (ts, s2) => some (t :: ts, s2) | none => none
    | none => none

/-- A value taken over: its memory becomes blocks of the frame's own. -/
def takeIn : Nat → V → S → Option (V × S)
  | 0, _, _ => none
  | d + 1, v, s =>
    match v with
    | .im x => some (.im x, s)
    | .st cs => match takeL (takeIn d) cs s with | some (vs, s1) => some (.st vs, s1) | none => none
    | .tu cs => match takeL (takeIn d) cs s with | some (vs, s1) => some (.tu vs, s1) | none => none
    | .cl f cs => match takeL (takeIn d) cs s with | some (vs, s1) => some (.cl f vs, s1) | none => none
    | .sl es => some (.sl es, s)
    | .rp v => some (.rp v, s)
    | .e0 => some (.e0, s)
    | .ow k es => match takeL (takeIn d) es s with | some (vs, s1) => some (.hs s1.nx 0 vs.length vs.length, s1.new k vs) | none => none
    | .op v => match takeIn d v s with | some (v, s1) => some (.hp s1.nx 0, s1.new v.size [v]) | none => none
    | .hs .. | .hp .. | .hf .. => none

def DEP : Nat := 8

/-- Is no memory shared with what was handed in? -/
def allL (f : V → Bool) : List V → Bool
  | [] => true
  | v :: vs => f v && allL f vs
def free : Nat → V → Bool
  | 0, _ => false
  | d + 1, v =>
    match v with
    | .im _ | .e0 => true
    | .st cs | .tu cs | .cl _ cs | .ow _ cs => allL (free d) cs
    | .op v => free d v
    | _ => false

def kill (H : Nat → Option Blk) (ids : List Nat) : Nat → Option Blk := fun b => if b ∈ ids then none else H b
def freeze (H : Nat → Option Blk) (ids : List Nat) : Nat → Option Blk := fun b => if b ∈ ids then (H b).map (fun B => { B with fr := true }) else H b
def S.mem (s : S) (H : Nat → Option Blk) : S := { s with H := H }

/-- The arguments as they are handed over: the trees; the blocks that are read; the blocks that go over. -/
def handL (H : Nat → Option Blk) : List M → List V → Option (List V × List Nat × List Nat)
  | _, [] => some ([], [], [])
  | ms, v :: vs =>
    match (match ms.headD .ro with
      | .ro => (snap DEP H v).map fun x => (x.1, x.2, ([] : List Nat))
      | .tk => (give DEP H v).map fun x => (x.1, ([] : List Nat), x.2)
      | .io => (lend H v).map fun x => (x.1, ([] : List Nat), x.2)) with
    | some (t, r, o) =>
      match handL H ms.tail vs with
      | some (ts, rs, os) => some (t :: ts, r ++ rs, o ++ os)
      | none => none
    | none => none

/-- What was lent comes back: the blocks of the roots, written anew. 'old': the blocks as they were. (An empty slice's block is gone.) -/
def backV (old : Nat → Option Blk) : V → V → S → Option S
  | .hs b off n _, .ow k es, s =>
    if es = [] then (if n = 0 then some s else none) else
    match old b with
    | some B =>
      if off = 0 ∧ n = B.es.length ∧ es.length = n ∧ k = B.k then
        match takeL (takeIn DEP) es s with | some (vs, s1) => some (s1.blk b (some { k := k, es := vs })) | none => none
      else none
    | none => none
  | .hp b i, .op v, s =>
    match old b with
    | some B => if i = 0 ∧ B.k = v.size then match takeIn DEP v s with | some (v, s1) => some (s1.blk b (some { k := v.size, es := [v] })) | none => none else none
    | none => none
  | .hs _ _ n _, .sl es, s => if n = 0 ∧ es = [] then some s else none
  | .im _, .im _, s | .e0, .e0, s | .sl _, .sl _, s | .rp _, .rp _, s => some s
  | _, _, _ => none
def backVs (old : Nat → Option Blk) : List V → List V → S → Option S
  | [], [], s => some s
  | v :: vs, t :: ts, s => match backV old v t s with | some s1 => backVs old vs ts s1 | none => none
  | _, _, _ => none
def back1 (old : Nat → Option Blk) : V → V → S → Option S
  | .st vs, .st ts, s => backVs old vs ts s
  | v, t, s => backV old v t s
def backL (old : Nat → Option Blk) : List V → List V → S → Option S
  | [], [], s => some s
  | v :: vs, t :: ts, s => match back1 old v t s with | some s1 => backL old vs ts s1 | none => none
  | _, _, _ => none

def lent {α : Type} : List M → List α → List α
  | _, [] => []
  | ms, v :: vs => match ms.headD .ro with | .io => v :: lent ms.tail vs | _ => lent ms.tail vs

inductive R where
  | n (s : S)
  | x (id : Nat) (s : S)
  | r (s : S)

structure Env where
  T : Nat → Option F
  md : Nat → Option (List M)
  pr : Nat → Option (List V → Option (V × List V))

def envOf (vs : List V) : Nat → V := fun i => vs.getD i .un

def resV (s : S) : Nat × Option (Option Nat) → Option V
  | (t, none) => some (s.e t)
  | (t, some q) => match deref s.H (s.e t) with | some v => if v.fits q then some v else none | none => none
def resL (s : S) : List (Nat × Option (Option Nat)) → Option (List V)
  | [] => some []
  | x :: xs => match resV s x, resL s xs with | some v, some vs => some (v :: vs) | _, _ => none
def resOf (s : S) (l : List (Nat × Option (Option Nat))) : Option V :=
  match resL s l with
  | some [v] => some v
  | some vs => some (.tu vs)
  | none => none

/-- The call of a function on trees. -/
def isoCall (Γ : Env) (exk : C → S → Option R) (f : Nat) (ms : List M) (args : List V) : Option (V × List V) :=
  match Γ.pr f with
  | some p => p args
  | none =>
    match Γ.T f with
    | some F =>
      if args.length = F.np then
        match takeL (takeIn DEP) args { e := fun _ => .un, H := fun _ => none, nx := 0 } with
        | some (vals, s0) =>
          match exk F.body { e := envOf vals, H := s0.H, nx := s0.nx } with
          | some (.n s) | some (.r s) =>
            match resOf s F.res with
            | some v =>
              match give DEP s.H v, overL (give DEP s.H) (lent ms vals) with
              | some (t, i), some (ts, j) =>
                if (i ++ j).Nodup ∧ (s.fz = false ∨ (free DEP t = true ∧ allL (free DEP) ts = true)) then some (t, ts) else none
              | _, _ => none
            | none => none
          | _ => none
        | none => none
      else none
    | none => none

def callV (Γ : Env) (exk : C → S → Option R) (fv : V) (args : List V) (s : S) : Option (V × S) :=
  match (match fv with
    | .cl f caps => some (f, caps)
    | .im (.func (.func f) first caps) => if first = #[] ∧ caps = #[] then some (f, []) else none
    | _ => none) with
  | none => none
  | some (f, caps) =>
    match Γ.md f with
    | none =>
      match Γ.T f with
      | some F =>
        if (args ++ caps).length = F.np then
          match exk F.body { s with e := envOf (args ++ caps) } with
          | some (.n s1) | some (.r s1) =>
            match resOf s1 F.res with
            | some v => some (v, { s with H := s1.H, nx := s1.nx, fz := s1.fz })
            | none => none
          | _ => none
        else none
      | none => none
    | some ms =>
      match handL s.H ms (args ++ caps) with
      | some (ts, rs, os) =>
        if os.Nodup ∧ (∀ b ∈ os, b ∉ rs) ∧ os.all (fun b => match s.H b with | some B => !B.fr | none => true) = true then
          match isoCall Γ exk f ms ts with
          | some (t, us) =>
            match backL s.H (lent ms (args ++ caps)) us (if free DEP t = true ∧ allL (free DEP) us = true then s.mem (kill s.H os) else { s with H := freeze (kill s.H os) rs, fz := s.fz || !rs.isEmpty }) with
            | some s1 => takeIn DEP t s1
            | none => none
          | none => none
        else none
      | none => none

def mmx (mx : Bool) (a b : Int) : Int := if mx then (if b > a then b else a) else (if b < a then b else a)
def bytesOf : List V → Option (List UInt8)
  | [] => some []
  | .im (.int .u8 n) :: l => match bytesOf l with | some bs => some (n.toNat.toUInt8 :: bs) | none => none
  | _ => none

def opA (ca : V → List V → S → Option (V × S)) (s : S) (a : A) : Option (V × S) :=
  let v := val s.e
  match a with
  | .mv x => some (v x, s)
  | .pk c a b => match v c with | .im (.bool c) => some (if c then v a else v b, s) | _ => none
  | .al z q => if z.fits q then some (.hp s.nx 0, s.new (ksz q) [z]) else none
  | .bx q x => if (v x).fits q then some (.hp s.nx 0, s.new (ksz q) [v x]) else none
  | .ld q x => match deref s.H (v x) with | some y => if y.fits q then some (y, s) else none | none => none
  | .so q p x => match storeAt s.H q (v p) (v x) with | some H => some (.un, { s with H := H }) | none => none
  | .bi op x y => match v x, v y with | .im x, .im y => (abin op x y).map fun z => (.im z, s) | _, _ => none
  | .be neg x y => match v x, v y with | .im (.bool x), .im (.bool y) => some (.b (if neg then !(x == y) else x == y), s) | _, _ => none
  | .un op x => match v x with | .im x => (aun op x).map fun z => (.im z, s) | _ => none
  | .cv k x => match v x with | .im (.int _ n) => some (.im (.int k (k.wrap n)), s) | _ => none
  | .fd j x => match v x with | .st cs => (cs[j]?).map fun c => (c, s) | _ => none
  | .fa j x =>
    match v x with
    | .rp (.st cs) => (cs[j]?).bind fun c => if c.okc = true then some (.rp c, s) else none
    | .hp b i => some (.hf b i j, s)
    | _ => none
  | .ia q x i =>
    match asI (v i), v x with
    | some i, .sl es => match (if 0 ≤ i then es[i.toNat]? else none) with | some e => if e.size = ksz q then some (.rp e, s) else none | none => none
    | some i, .hs b off n _ => match s.H b with | some B => if 0 ≤ i ∧ i < n ∧ B.k = ksz q then some (.hp b (off + i.toNat), s) else none | none => none
    | _, _ => none
  | .ix x i => match asI (v i), v x with
    | some i, .im (.string x) => match (if 0 ≤ i then x[i.toNat]? else none) with | some b => some (.u b.toNat, s) | none => none
    | _, _ => none
  | .ss x lo hi => match v x with
    | .im (.string x) => match bndOf 0 (lo.map v), bndOf x.size (hi.map v) with
      | some l, some h => if 0 ≤ l ∧ l ≤ h ∧ h ≤ x.size then some (.s (x.extract l.toNat h.toNat), s) else none
      | _, _ => none
    | _ => none
  | .sc q x lo hi mx => match v x with
    | .hs b off n c => if c = 0 then (sliceOf (.hs b off n c) (lo.map v) (hi.map v) (mx.map v)).map fun y => (y, s) else match s.H b with
      | some B => if B.k = ksz q then (sliceOf (.hs b off n c) (lo.map v) (hi.map v) (mx.map v)).map fun y => (y, s) else none
      | none => none
    | .sl es => if es.all (fun e => e.fits q) then (sliceOf (.sl es) (lo.map v) (hi.map v) (mx.map v)).map fun y => (y, s) else none
    | .e0 => (sliceOf .e0 (lo.map v) (hi.map v) (mx.map v)).map fun y => (y, s)
    | _ => none
  | .bs q xs => if (xs.map v).all (·.fits q) then some (.hs s.nx 0 xs.length xs.length, s.new (ksz q) (xs.map v)) else none
  | .bd z ps => if (ps.map fun p => v p.2).all V.okc then some (.st (ps.foldl (fun cs p => cs.set p.1 (v p.2)) z), s) else none
  | .ms z q l c => match v l, v c with
    | .im (.int _ l), .im (.int _ c) => if 0 ≤ l ∧ l ≤ c ∧ c ≤ LIM ∧ z.fits q then some (.hs s.nx 0 l.toNat c.toNat, s.new (ksz q) (List.replicate c.toNat z)) else none
    | _, _ => none
  | .mf f xs => if (xs.map v).all V.okc then some (.cl f (xs.map v), s) else none
  | .ca f xs => ca (v f) (xs.map v) s
  | .ap q x y => match elems s.H (v y) with
    | some src => if src.all (·.fits q) then appendTo s q (v x) src else none
    | none => none
  | .az q z x n => match v n with
    | .im (.int _ n) => if 0 < n ∧ n ≤ LIM ∧ z.fits q ∧ 0 < ksz q then appendTo s q (v x) (List.replicate n.toNat z) else none
    | _ => none
  | .ln x => match vlen (v x) with | some n => some (.i (n : Nat), s) | none => none
  | .ls x => match v x with | .im (.string x) => some (.i x.size, s) | _ => none
  | .mm mx xs => match xs.map v with
    | [.im (.int .i64 a), .im (.int .i64 b)] => some (.i (mmx mx a b), s)
    | [.im (.int .i64 a), .im (.int .i64 b), .im (.int .i64 c)] => some (.i (mmx mx (mmx mx a b) c), s)
    | _ => none
  | .et x i => match v x with | .tu vs => (vs[i]?).map fun y => (y, s) | _ => none
  | .sb x => match elems s.H (v x) with
    | some src => match bytesOf src with | some l => some (.s ⟨l.toArray⟩, s) | none => none
    | none => none
  | .cr q z x => match v x with
    | .e0 => some (.un, s)
    | .hs b off n _ => match s.H b with
      | some B => if B.fr = false ∧ B.k = ksz q ∧ z.fits q = true ∧ off + n ≤ B.es.length then some (.un, { s with H := upd s.H b (some { B with es := splice B.es off (List.replicate n z) }) }) else none
      | none => none
    | _ => none
  | .cp x => match v x with | .e0 => some (.i 0, s) | _ => none
  | .no => none

def runI (ca : V → List V → S → Option (V × S)) : List I → S → Option S
  | [], s => some s
  | o :: l, s =>
    match (match o.g with
      | none => some true
      | some (t, w) => match s.e t with | .im (.bool b) => some (b == w) | .im (.tuple x) => if x.size = 0 then some false else none | _ => none) with
    | some true => match opA ca s o.a with | some (v, s1) => runI ca l (s1.put o.d v) | none => none
    | some false => runI ca l (s.put o.d .un)
    | none => none

def ex (Γ : Env) : Nat → C → S → Option R
  | 0, _, _ => none
  | k + 1, c, s =>
    match c with
    | .skip => some (.n s)
    | .rg l => match runI (callV Γ (ex Γ k)) l s with | some s1 => some (.n s1) | none => none
    | .seq a b => match ex Γ k a s with
      | some (.n s1) => ex Γ k b s1
      | r => r
    | .cond o a b => match val s.e o with
      | .im (.bool true) => ex Γ k a s
      | .im (.bool false) => ex Γ k b s
      | _ => none
    | .blk id a => match ex Γ k a s with
      | some (.x j s1) => if j = id then some (.n s1) else some (.x j s1)
      | r => r
    | .lp a => match ex Γ k a s with
      | some (.n s1) => ex Γ k (.lp a) s1
      | r => r
    | .ex id => some (.x id s)
    | .ret => some (.r s)
    | .no => none

end Go.Am

/- The A-machine, part 2: the code of a loaded function, read as code of the A-machine. -/
namespace Go.Am

def leafDesc : TypeDesc → Bool
  | .bool | .int _ | .string | .pointer _ | .slice _ | .func .. | .interface _ => true
  | _ => false

def fldsOk (P : Program) : Nat → List Field → Bool
  | _, [] => true
  | i, f :: fs => f.offset == i && (match P.info? f.type with | some j => j.size == 1 | none => false) && (match P.underlying f.type with | some d => leafDesc d | none => false) && fldsOk P (i + 1) fs

/-- A type's shape: a struct of n cells, or one cell. -/
def shp (P : Program) (t : TypeId) : Option (Option Nat) :=
  match P.info? t, P.underlying t with
  | some i, some (.struct fs) => if i.size = fs.size ∧ i.bytes ≤ 1024 ∧ fldsOk P 0 fs.toList = true then some (some fs.size) else none
  | some i, some d => if i.size = 1 ∧ i.bytes ≤ 1024 ∧ leafDesc d = true then some none else none
  | _, _ => none

def immV : Value → Option V
  | .bool b => some (.b b)
  | .int k n => some (.im (.int k n))
  | .string s => some (.im (.string s))
  | .slice none 0 0 => some .e0
  | .nilFunc => some (.im .nilFunc)
  | .nilIface => some (.im .nilIface)
  | .pointer none => some (.im (.pointer none))
  | _ => none

def zV : Value → Option V
  | .agg cs => (cs.toList.mapM immV).map .st
  | v => immV v

def zeroV (P : Program) (t : TypeId) : Option V :=
  match P.info? t with
  | some i => i.zero.bind zV
  | none => none

def toO : Operand → Option O
  | .tmp t => some (.t t)
  | .const (.int .i64 z) => some (.n z)
  | .const v => (immV v).map .k
  | .func f => some (.k (.cl f []))
  | .global _ => none

def toOs (l : List Operand) : Option (List O) := l.mapM toO
def toOo : Option Operand → Option (Option O)
  | none => some none
  | some x => (toO x).map some

def partsOk : Nat → List (Nat × Operand) → Option (List O)
  | _, [] => some []
  | i, (j, x) :: l => if i = j then match toO x, partsOk (i + 1) l with | some y, some ys => some (y :: ys) | _, _ => none else none

def sliceShp (P : Program) (t : TypeId) : Option (Option Nat) :=
  match P.underlying t with
  | some (.slice e) => shp P e
  | _ => none

def sliceZero (P : Program) (t : TypeId) : Option V :=
  match P.underlying t with
  | some (.slice e) => zeroV P e
  | _ => none

def compA (P : Program) (op : Op) : A :=
  match op with
  | .move x | .assign x => match toO x with | some x => .mv x | none => .no
  | .pick c a b => match toO c, toO a, toO b with | some c, some a, some b => .pk c a b | _, _, _ => .no
  | .alloc t => match zeroV P t, shp P t with | some z, some q => .al z q | _, _ => .no
  | .box t x => match shp P t, toO x with | some q, some x => .bx q x | _, _ => .no
  | .load t x => match shp P t, toO x with | some q, some x => .ld q x | _, _ => .no
  | .store t p x => match shp P t, toO p, toO x with | some q, some p, some x => .so q p x | _, _, _ => .no
  | .binOp op t x y _ => match P.underlying t, toO x, toO y with
    | some (.int _), some x, some y => .bi op x y
    | some .string, some x, some y => .bi op x y
    | some .bool, some x, some y => match op with | .eql => .be false x y | .neq => .be true x y | _ => .no
    | _, _, _ => .no
  | .unOp op _ x => match toO x with | some x => .un op x | none => .no
  | .convert src dst x => match P.underlying src, P.underlying dst, toO x with
    | some (.int _), some (.int k), some x => .cv k x
    | some (.slice e), some .string, some x => match P.underlying e with | some (.int .u8) => .sb x | _ => .no
    | _, _, _ => .no
  | .field t x j => match shp P t, toO x with | some (some n), some x => if j < n then .fd j x else .no | _, _ => .no
  | .fieldAddr t x j => match shp P t, toO x with | some (some n), some x => if j < n then .fa j x else .no | _, _ => .no
  | .indexAddr t x i => match sliceShp P t, toO x, toO i with | some q, some x, some i => .ia q x i | _, _, _ => .no
  | .index t x i => match P.underlying t, toO x, toO i with | some .string, some x, some i => .ix x i | _, _, _ => .no
  | .slice t x lo hi mx => match toO x, toOo lo, toOo hi, toOo mx with
    | some x, some lo, some hi, some mx =>
      match P.underlying t with
      | some .string => match mx with | none => .ss x lo hi | some _ => .no
      | some (.slice e) => match shp P e with | some q => .sc q x lo hi mx | none => .no
      | _ => .no
    | _, _, _, _ => .no
  | .buildSlice t n ps => match sliceShp P t, sliceZero P t, partsOk 0 ps.toList with
    | some q, some _, some xs => if xs.length = n ∧ n * ksz q ≤ 2 ^ 24 then .bs q xs else .no
    | _, _, _ => .no
  | .build t ps => match shp P t, zeroV P t, ps.toList.mapM (fun p => (toO p.2).map fun x => (p.1, x)) with
    | some (some n), some (.st z), some xs => if z.length = n ∧ xs.all (fun p => p.1 < n) then .bd z xs else .no
    | _, _, _ => .no
  | .makeSlice t l c => match sliceShp P t, sliceZero P t, toO l, toO c with | some q, some z, some l, some c => .ms z q l c | _, _, _, _ => .no
  | .makeFunc (.func f) first caps => match first.toList, toOs caps.toList with | [], some xs => .mf f xs | _, _ => .no
  | .call { callee := .value f, args, .. } => match toO f, toOs args.toList with | some f, some xs => .ca f xs | _, _ => .no
  | .call { callee := .builtin .append, args, argTypes } => match args.toList, argTypes.toList with
    | [x, y], [t, u] => match sliceShp P t, toO x, toO y, P.underlying u with
      | some q, some x, some y, some (.slice _) => match sliceZero P t with | some z => if z.fits q then .ap q x y else .no | none => .no
      | some q, some x, some y, some (.int _) => match sliceZero P t with | some z => if z.fits q then .az q z x y else .no | none => .no
      | _, _, _, _ => .no
    | _, _ => .no
  | .call { callee := .builtin .len, args, argTypes } => match args.toList, argTypes.toList with
    | [x], [t] => match P.underlying t, toO x with
      | some .string, some x => .ls x
      | some (.slice _), some x => .ln x
      | _, _ => .no
    | _, _ => .no
  | .call { callee := .builtin .clear, args, argTypes } => match args.toList, argTypes.toList with
    | [x], [t] => match sliceShp P t, sliceZero P t, toO x with | some q, some z, some x => .cr q z x | _, _, _ => .no
    | _, _ => .no
  | .call { callee := .builtin .cap, args, argTypes } => match args.toList, argTypes.toList with
    | [x], [t] => match sliceShp P t, toO x with | some _, some x => .cp x | _, _ => .no
    | _, _ => .no
  | .call { callee := .builtin .max, args, .. } => match toOs args.toList with | some xs => .mm true xs | none => .no
  | .call { callee := .builtin .min, args, .. } => match toOs args.toList with | some xs => .mm false xs | none => .no
  | .extract x i => match toO x with | some x => .et x i | none => .no
  | _ => .no

def compI (P : Program) (ops : Array Oper) (o : Oper) : Option I :=
  match o.guard with
  | none => some { d := o.dst, g := none, a := compA P o.op }
  | some (j, w) => match (ops[j]?).bind (·.dst) with
    | some t => some { d := o.dst, g := some (t, w), a := compA P o.op }
    | none => none

/-! Regions whose order is open: which operations may change places. -/
def O.tm : O → List Nat
  | .t m => [m]
  | _ => []
def oTm : Option O → List Nat
  | some x => x.tm
  | none => []
def A.rd : A → List Nat
  | .mv x | .bx _ x | .ld _ x | .un _ x | .cv _ x | .fd _ x | .fa _ x | .ln x | .ls x | .et x _ | .sb x | .cr _ _ x | .cp x => x.tm
  | .pk c a b => c.tm ++ a.tm ++ b.tm
  | .al .. | .no => []
  | .so _ a b | .bi _ a b | .be _ a b | .ia _ a b | .ix a b | .ms _ _ a b | .ap _ a b | .az _ _ a b => a.tm ++ b.tm
  | .ss x lo hi => x.tm ++ oTm lo ++ oTm hi
  | .sc _ x lo hi mx => x.tm ++ oTm lo ++ oTm hi ++ oTm mx
  | .bs _ xs | .mf _ xs | .mm _ xs => xs.flatMap O.tm
  | .bd _ ps => ps.flatMap fun p => p.2.tm
  | .ca f xs => f.tm ++ xs.flatMap O.tm
def I.rd (i : I) : List Nat := (match i.g with | some (t, _) => [t] | none => []) ++ i.a.rd

def isPure : A → Bool
  | .mv _ | .pk .. | .bi .. | .be .. | .un .. | .cv .. | .fd .. | .fa .. | .ix .. | .ss .. | .bd .. | .mf .. | .ln _ | .ls _ | .mm .. | .et .. => true
  | _ => false
def isQuiet : A → Bool
  | .ld .. | .sb _ | .sc .. | .ia .. => true
  | a => isPure a
/-- It makes memory, and writes none that was there. -/
def isMake (md : Nat → Option (List M)) : A → Bool
  | .al .. | .bx .. | .bs .. | .ms .. => true
  | .ca (.k (.cl f _)) _ => match md f with | some ms => ms.all fun m => m == .ro | none => false
  | _ => false
def isLoadT : A → Bool
  | .ld _ (.t _) | .ia _ (.t _) _ | .sb (.t _) | .sc _ (.t _) _ _ _ => true
  | _ => false
def isApp : A → Bool
  | .ap .. => true
  | _ => false
def isScT : A → Bool
  | .sc _ (.t _) _ _ _ => true
  | _ => false
/-- Two operations of which either may come first (a stands first). -/
def apartA (md : Nat → Option (List M)) (a b : A) : Bool := isPure a || isPure b || (isQuiet a && (isQuiet b || isMake md b)) || (isMake md a && isLoadT b) || (isApp a && isScT b)
def apartI (md : Nat → Option (List M)) (x y : I) : Bool :=
  (match x.d with | some d => !y.rd.contains d && y.d != some d | none => true) && (match y.d with | some d => !x.rd.contains d | none => true) && apartA md x.a y.a

/-- The numbers of the operations that must come before each. -/
def joinN (a b : List Nat) : List Nat := a.foldr (fun x acc => if acc.contains x then acc else x :: acc) b
def befL (ops : List Oper) : List (List Nat) := ops.foldl (fun acc o => acc ++ [(o.after.toList.filter (fun e => Region.binds .any e)).foldr (fun e m => joinN (e.on :: acc.getD e.on []) m) []]) []
def effB (md : Nat → Option (List M)) (ops : Array Oper) (l : List I) : Bool :=
  let b := befL ops.toList
  ops.toList.zipIdx.all fun (o, j) =>
    (o.after.toList.all fun e => !Region.binds .any e || decide (e.on < j)) &&
    ((b.getD j []).all fun i => o.after.toList.any fun e => Region.binds .any e && (e.on == i || (b.getD e.on []).contains i)) &&
    ((List.range j).all fun i => (b.getD j []).contains i || match l[i]?, l[j]? with | some x, some y => apartI md x y | _, _ => false)

def compC (P : Program) (md : Nat → Option (List M)) : Code → C
  | .skip => .skip
  | .region _ ops draw =>
    match ops.toList.mapM (compI P ops) with
    | some l => if draw then (if effB md ops l then .rg l else .no) else .rg l
    | none => .no
  | .seq a b => .seq (compC P md a) (compC P md b)
  | .cond c a b => match toO c with | some c => .cond c (compC P md a) (compC P md b) | none => .no
  | .block id a => .blk id (compC P md a)
  | .loop a => .lp (compC P md a)
  | .exit id => .ex id
  | .ret => .ret
  | _ => .no

def dstsOk (nt : Nat) : C → Bool
  | .rg l => l.all fun o => match o.d with | some d => d < nt | none => true
  | .seq a b => dstsOk nt a && dstsOk nt b
  | .cond _ a b => dstsOk nt a && dstsOk nt b
  | .blk _ a => dstsOk nt a
  | .lp a => dstsOk nt a
  | _ => true

def compR (P : Program) : ResultVar → Option (Nat × Option (Option Nat))
  | .tmp t => some (t, none)
  | .cell t u => (shp P u).map fun q => (t, some q)

def compF (P : Program) (md : Nat → Option (List M)) (fn : Func) : Option F :=
  match fn.body, fn.results.toList.mapM (compR P) with
  | some c, some rs =>
    if (fn.name == "runtime.NumGoroutine") = false ∧ dstsOk fn.ntmps (compC P md c) = true ∧ fn.params.size + fn.nfree ≤ fn.ntmps then
      some { np := fn.params.size + fn.nfree, nt := fn.ntmps, res := rs, body := compC P md c }
    else none
  | _, _ => none

def tab (P : Program) (md : Nat → Option (List M)) (f : Nat) : Option F := (P.funcs[f]?).bind (compF P md)

end Go.Am

/- The A-machine, part 3: what a tree says of a value of the machine. -/
namespace Go.Am

abbrev Cel (w : World) (β o : Nat) : Option Value := w.cell? ⟨β, o, none⟩

/-- Block β is a row of at least n cells. -/
def Room (w : World) (β n : Nat) : Prop := ∃ cs ty fz, w.heap[β]? = some (.cells cs ty fz) ∧ n ≤ cs.size
/-- The same, and nothing in it is shared with a string. -/
def Own (w : World) (β n : Nat) : Prop := ∃ cs ty, w.heap[β]? = some (.cells cs ty (0, 0)) ∧ n ≤ cs.size
theorem Own.room {w : World} {β n : Nat} (h : Own w β n) : Room w β n := let ⟨cs, ty, h1, h2⟩ := h; ⟨cs, ty, _, h1, h2⟩
theorem Own.mono {w : World} {β n m : Nat} (h : Own w β n) (hm : m ≤ n) : Own w β m := let ⟨cs, ty, h1, h2⟩ := h; ⟨cs, ty, h1, by omega⟩
theorem Room.mono {w : World} {β n m : Nat} (h : Room w β n) (hm : m ≤ n) : Room w β m := let ⟨cs, ty, fz, h1, h2⟩ := h; ⟨cs, ty, fz, h1, by omega⟩

mutual
/-- A tree without a block of a frame, as a machine's value: its memory lies in blocks of St, and reads as it says. -/
def RO (St : Nat → Prop) (w : World) : V → Value → Prop
  | .im x, m => m = x
  | .st cs, m => ∃ ms : List Value, m = .agg ms.toArray ∧ ROL St w cs ms
  | .tu cs, m => ∃ ms : List Value, m = .tuple ms.toArray ∧ ROL St w cs ms
  | .cl f cs, m => ∃ ms : List Value, m = .func (.func f) #[] ms.toArray ∧ ROL St w cs ms
  | .e0, m => ∃ a, m = .slice a 0 0
  | .sl es, m => ∃ a c, m = .slice a es.length c ∧ es.length ≤ c ∧ (es = [] ∨ ∃ β o k, a = some ⟨β, o, none⟩ ∧ St β ∧ (∀ e ∈ es, e.size = k) ∧ ROE St w β o es)
  | .rp (.st cs), m => ∃ β o, m = .pointer (some ⟨β, o, none⟩) ∧ St β ∧ ROC St w β o cs
  | .rp v, m => ∃ β o, m = .pointer (some ⟨β, o, none⟩) ∧ St β ∧ ∃ u, Cel w β o = some u ∧ RO St w v u
  | .ow _ _, _ | .op _, _ | .hs .., _ | .hp .., _ | .hf .., _ => False
def ROL (St : Nat → Prop) (w : World) : List V → List Value → Prop
  | [], ms => ms = []
  | v :: vs, ms => ∃ m ms', ms = m :: ms' ∧ RO St w v m ∧ ROL St w vs ms'
def ROC (St : Nat → Prop) (w : World) (β : Nat) : Nat → List V → Prop
  | _, [] => True
  | o, v :: vs => (∃ u, Cel w β o = some u ∧ RO St w v u) ∧ ROC St w β (o + 1) vs
def ROE (St : Nat → Prop) (w : World) (β : Nat) : Nat → List V → Prop
  | _, [] => True
  | o, .st cs :: vs => ROC St w β o cs ∧ ROE St w β (o + cs.length) vs
  | o, v :: vs => (∃ u, Cel w β o = some u ∧ RO St w v u) ∧ ROE St w β (o + 1) vs
end

/- A tree with memory of its own (L: its blocks). -/
mutual
def RepT (St : Nat → Prop) (w : World) : V → Value → List Nat → Prop
  | .im x, m, L => m = x ∧ L = []
  | .st cs, m, L => ∃ ms : List Value, m = .agg ms.toArray ∧ RepTL St w cs ms L
  | .tu cs, m, L => ∃ ms : List Value, m = .tuple ms.toArray ∧ RepTL St w cs ms L
  | .cl f cs, m, L => ∃ ms : List Value, m = .func (.func f) #[] ms.toArray ∧ RepTL St w cs ms L
  | .e0, m, L => (∃ a, m = .slice a 0 0) ∧ L = []
  | .sl es, m, L => RO St w (.sl es) m ∧ L = []
  | .rp v, m, L => RO St w (.rp v) m ∧ L = []
  | .ow k es, m, L => ∃ a c, m = .slice a es.length c ∧ es.length ≤ c ∧ ((c = 0 ∧ L.length ≤ 1) ∨ ∃ β o L', a = some ⟨β, o, none⟩ ∧ L = β :: L' ∧ Own w β (o + c * k) ∧ (∀ e ∈ es, e.size = k) ∧ RepTE St w β o es L')
  | .op (.st cs), m, L => ∃ β o L', m = .pointer (some ⟨β, o, none⟩) ∧ L = β :: L' ∧ Own w β (o + cs.length) ∧ RepTC St w β o cs L'
  | .op v, m, L => ∃ β o L', m = .pointer (some ⟨β, o, none⟩) ∧ L = β :: L' ∧ Own w β (o + 1) ∧ ∃ u, Cel w β o = some u ∧ RepT St w v u L'
  | .hs .., _, _ | .hp .., _, _ | .hf .., _, _ => False
def RepTL (St : Nat → Prop) (w : World) : List V → List Value → List Nat → Prop
  | [], ms, L => ms = [] ∧ L = []
  | v :: vs, ms, L => ∃ m ms' L1 L2, ms = m :: ms' ∧ L = L1 ++ L2 ∧ RepT St w v m L1 ∧ RepTL St w vs ms' L2
def RepTC (St : Nat → Prop) (w : World) (β : Nat) : Nat → List V → List Nat → Prop
  | _, [], L => L = []
  | o, v :: vs, L => ∃ L1 L2, L = L1 ++ L2 ∧ (∃ u, Cel w β o = some u ∧ RepT St w v u L1) ∧ RepTC St w β (o + 1) vs L2
def RepTE (St : Nat → Prop) (w : World) (β : Nat) : Nat → List V → List Nat → Prop
  | _, [], L => L = []
  | o, .st cs :: vs, L => ∃ L1 L2, L = L1 ++ L2 ∧ RepTC St w β o cs L1 ∧ RepTE St w β (o + cs.length) vs L2
  | o, v :: vs, L => ∃ L1 L2, L = L1 ++ L2 ∧ (∃ u, Cel w β o = some u ∧ RepT St w v u L1) ∧ RepTE St w β (o + 1) vs L2
end

abbrev Phi := Nat → Option (Nat × Nat × Nat)

/- A value in a frame. φ: where each block of the frame lies (the machine's block, the first cell, the cells of an element). -/
mutual
def Rep (φ : Phi) (St : Nat → Prop) (w : World) : V → Value → Prop
  | .im x, m => m = x
  | .st cs, m => ∃ ms : List Value, m = .agg ms.toArray ∧ RepL φ St w cs ms
  | .tu cs, m => ∃ ms : List Value, m = .tuple ms.toArray ∧ RepL φ St w cs ms
  | .cl f cs, m => ∃ ms : List Value, m = .func (.func f) #[] ms.toArray ∧ RepL φ St w cs ms
  | .e0, m => ∃ a, m = .slice a 0 0
  | .sl es, m => RO St w (.sl es) m
  | .rp v, m => RO St w (.rp v) m
  | .hs b off n c, m => ∃ a c', m = .slice a n c' ∧ n ≤ c' ∧ c ≤ c' ∧ (c' = 0 ∨ ∃ β o k, φ b = some (β, o, k) ∧ a = some ⟨β, o + off * k, none⟩ ∧ Room w β (o + (off + c') * k))
  | .hp b i, m => ∃ β o k, φ b = some (β, o, k) ∧ m = .pointer (some ⟨β, o + i * k, none⟩)
  | .hf b i j, m => ∃ β o k, φ b = some (β, o, k) ∧ m = .pointer (some ⟨β, o + i * k + j, none⟩)
  | .ow _ _, _ | .op _, _ => False
def RepL (φ : Phi) (St : Nat → Prop) (w : World) : List V → List Value → Prop
  | [], ms => ms = []
  | v :: vs, ms => ∃ m ms', ms = m :: ms' ∧ Rep φ St w v m ∧ RepL φ St w vs ms'
end

/-- One element lies at a place. -/
def RepC (φ : Phi) (St : Nat → Prop) (w : World) (β : Nat) : Nat → List V → Prop
  | _, [] => True
  | o, v :: vs => (∃ u, Cel w β o = some u ∧ Rep φ St w v u) ∧ RepC φ St w β (o + 1) vs
def cellsOf : V → List V
  | .st cs => cs
  | v => [v]
def RepE (φ : Phi) (St : Nat → Prop) (w : World) (β o k : Nat) (es : List V) : Prop :=
  ∀ i e, es[i]? = some e → RepC φ St w β (o + i * k) (cellsOf e)

theorem size_cellsOf (v : V) : (cellsOf v).length = v.size := by cases v <;> rfl

def ROat (St : Nat → Prop) (w : World) (β o : Nat) (v : V) : Prop := ROC St w β o (cellsOf v)

theorem ROE_cons (St : Nat → Prop) (w : World) (β o : Nat) (v : V) (vs : List V) :
    ROE St w β o (v :: vs) ↔ ROC St w β o (cellsOf v) ∧ ROE St w β (o + v.size) vs := by
  cases v <;> simp [ROE, ROC, cellsOf, V.size]

theorem RO_rp (St : Nat → Prop) (w : World) (v : V) (m : Value) :
    RO St w (.rp v) m ↔ ∃ β o, m = .pointer (some ⟨β, o, none⟩) ∧ St β ∧ ROC St w β o (cellsOf v) := by
  cases v <;> simp [RO, ROC, cellsOf]

theorem RepTE_cons (St : Nat → Prop) (w : World) (β o : Nat) (v : V) (vs : List V) (L : List Nat) :
    RepTE St w β o (v :: vs) L ↔ ∃ L1 L2, L = L1 ++ L2 ∧ RepTC St w β o (cellsOf v) L1 ∧ RepTE St w β (o + v.size) vs L2 := by
  cases v <;> simp [RepTE, RepTC, cellsOf, V.size]

theorem RepT_op (St : Nat → Prop) (w : World) (v : V) (m : Value) (L : List Nat) :
    RepT St w (.op v) m L ↔ ∃ β o L', m = .pointer (some ⟨β, o, none⟩) ∧ L = β :: L' ∧ Own w β (o + v.size) ∧ RepTC St w β o (cellsOf v) L' := by
  cases v <;> simp [RepT, RepTC, cellsOf, V.size]

/-- An element of a slice that is only read. -/
theorem ROE_get {St : Nat → Prop} {w : World} {β k : Nat} : ∀ {es : List V} {o i : Nat} {e : V}, ROE St w β o es → (∀ e ∈ es, e.size = k) → es[i]? = some e →
    ROC St w β (o + i * k) (cellsOf e)
  | [], _, _, _, _, _, h => by simp at h
  | v :: vs, o, 0, e, h, _, hi => by
    obtain rfl : v = e := by simpa using hi
    simpa using ((ROE_cons _ _ _ _ _ _).1 h).1
  | v :: vs, o, i + 1, e, h, hk, hi => by
    have h2 := ((ROE_cons _ _ _ _ _ _).1 h).2
    have hv : v.size = k := hk v (by simp)
    have := ROE_get (o := o + v.size) (i := i) h2 (fun e he => hk e (by simp [he])) (by simpa using hi)
    rw [hv] at this
    rwa [show o + k + i * k = o + (i + 1) * k by rw [Nat.succ_mul]; omega] at this

theorem ROE_drop {St : Nat → Prop} {w : World} {β k : Nat} : ∀ {es : List V} {o : Nat} (n : Nat), ROE St w β o es → (∀ e ∈ es, e.size = k) → n ≤ es.length →
    ROE St w β (o + n * k) (es.drop n)
  | es, o, 0, h, _, _ => by simpa using h
  | [], o, n + 1, h, _, hn => by simp at hn
  | v :: vs, o, n + 1, h, hk, hn => by
    have h2 := ((ROE_cons _ _ _ _ _ _).1 h).2
    have hv : v.size = k := hk v (by simp)
    have := ROE_drop (o := o + v.size) n h2 (fun e he => hk e (by simp [he])) (by simpa using hn)
    rw [hv] at this
    simpa [show o + k + n * k = o + (n + 1) * k by rw [Nat.succ_mul]; omega] using this

theorem ROE_take {St : Nat → Prop} {w : World} {β : Nat} : ∀ {es : List V} {o : Nat} (n : Nat), ROE St w β o es → ROE St w β o (es.take n)
  | es, o, 0, _ => by simp [ROE]
  | [], o, n + 1, h => by simp [ROE]
  | v :: vs, o, n + 1, h => by
    have h2 := (ROE_cons _ _ _ _ _ _).1 h
    rw [List.take_succ_cons, ROE_cons]
    exact ⟨h2.1, ROE_take n h2.2⟩

theorem ROC_get {St : Nat → Prop} {w : World} {β : Nat} : ∀ {cs : List V} {o j : Nat} {c : V}, ROC St w β o cs → cs[j]? = some c → ∃ u, Cel w β (o + j) = some u ∧ RO St w c u
  | [], _, _, _, _, h => by simp at h
  | v :: vs, o, 0, c, h, hj => by
    obtain rfl : v = c := by simpa using hj
    simpa using h.1
  | v :: vs, o, j + 1, c, h, hj => by
    have := ROC_get (o := o + 1) (j := j) h.2 (by simpa using hj)
    rwa [show o + 1 + j = o + (j + 1) by omega] at this

theorem RepC_get {φ : Phi} {St : Nat → Prop} {w : World} {β : Nat} : ∀ {cs : List V} {o j : Nat} {c : V}, RepC φ St w β o cs → cs[j]? = some c → ∃ u, Cel w β (o + j) = some u ∧ Rep φ St w c u
  | [], _, _, _, _, h => by simp at h
  | v :: vs, o, 0, c, h, hj => by
    obtain rfl : v = c := by simpa using hj
    simpa using h.1
  | v :: vs, o, j + 1, c, h, hj => by
    have := RepC_get (o := o + 1) (j := j) h.2 (by simpa using hj)
    rwa [show o + 1 + j = o + (j + 1) by omega] at this

theorem RepC_iff {φ : Phi} {St : Nat → Prop} {w : World} {β : Nat} : ∀ {cs : List V} {o : Nat}, RepC φ St w β o cs ↔ ∀ j c, cs[j]? = some c → ∃ u, Cel w β (o + j) = some u ∧ Rep φ St w c u
  | [], _ => by simp [RepC]
  | v :: vs, o => by
    constructor
    · exact fun h j c hj => RepC_get h hj
    · intro h
      refine ⟨by simpa using h 0 v rfl, RepC_iff.2 fun j c hj => ?_⟩
      have := h (j + 1) c (by simpa using hj)
      rwa [show o + (j + 1) = o + 1 + j by omega] at this

/-! ### The same in a later world -/

/-- What the blocks of St hold stays. -/
def Stab (St : Nat → Prop) (w w' : World) : Prop := ∀ β, St β → w'.heap[β]? = w.heap[β]?

theorem Stab.cel {St : Nat → Prop} {w w' : World} (h : Stab St w w') {β : Nat} (hb : St β) (o : Nat) : Cel w' β o = Cel w β o := by
  simp only [Cel, World.cell?, h β hb]

mutual
theorem RO.mono {St St' : Nat → Prop} {w w' : World} (hS : ∀ β, St β → St' β) (h : Stab St w w') : ∀ (v : V) (m : Value), RO St w v m → RO St' w' v m
  | .im x, m, r => by simpa [RO] using r
  | .st cs, m, r => by obtain ⟨ms, e, q⟩ := (by simpa [RO] using r : ∃ ms : List Value, m = .agg ms.toArray ∧ ROL St w cs ms); simp only [RO]; exact ⟨ms, e, ROL.mono hS h cs ms q⟩
  | .tu cs, m, r => by obtain ⟨ms, e, q⟩ := (by simpa [RO] using r : ∃ ms : List Value, m = .tuple ms.toArray ∧ ROL St w cs ms); simp only [RO]; exact ⟨ms, e, ROL.mono hS h cs ms q⟩
  | .cl f cs, m, r => by obtain ⟨ms, e, q⟩ := (by simpa [RO] using r : ∃ ms : List Value, m = .func (.func f) #[] ms.toArray ∧ ROL St w cs ms); simp only [RO]; exact ⟨ms, e, ROL.mono hS h cs ms q⟩
  | .e0, m, r => by simpa [RO] using r
  | .sl es, m, r => by
    simp only [RO] at r ⊢
    obtain ⟨a, c, e, hc, q⟩ := r
    refine ⟨a, c, e, hc, ?_⟩
    rcases q with q | ⟨β, o, k, ha, hb, hk, q⟩
    · exact .inl q
    · exact .inr ⟨β, o, k, ha, hS β hb, hk, ROE.mono hS h hb o es q⟩
  | .rp v, m, r => by
    rw [RO_rp] at r ⊢
    obtain ⟨β, o, e, hb, q⟩ := r
    refine ⟨β, o, e, hS β hb, ?_⟩
    cases v with
    | st cs => exact ROC.mono hS h hb o cs q
    | _ =>
      obtain ⟨⟨u, hu, hr⟩, _⟩ := q
      exact ⟨⟨u, by rw [h.cel hb]; exact hu, RO.mono hS h _ u hr⟩, trivial⟩
  | .ow _ _, m, r => by simp [RO] at r
  | .op _, m, r => by simp [RO] at r
  | .hs .., m, r => by simp [RO] at r
  | .hp .., m, r => by simp [RO] at r
  | .hf .., m, r => by simp [RO] at r
theorem ROL.mono {St St' : Nat → Prop} {w w' : World} (hS : ∀ β, St β → St' β) (h : Stab St w w') : ∀ (vs : List V) (ms : List Value), ROL St w vs ms → ROL St' w' vs ms
  | [], ms, r => by simpa [ROL] using r
  | v :: vs, ms, r => by
    simp only [ROL] at r ⊢
    obtain ⟨m, ms', e, q, q'⟩ := r
    exact ⟨m, ms', e, RO.mono hS h v m q, ROL.mono hS h vs ms' q'⟩
theorem ROC.mono {St St' : Nat → Prop} {w w' : World} (hS : ∀ β, St β → St' β) (h : Stab St w w') {β : Nat} (hb : St β) : ∀ (o : Nat) (vs : List V), ROC St w β o vs → ROC St' w' β o vs
  | o, [], r => by simp [ROC]
  | o, v :: vs, r => by
    simp only [ROC] at r ⊢
    obtain ⟨⟨u, hu, q⟩, q'⟩ := r
    exact ⟨⟨u, by rw [h.cel hb]; exact hu, RO.mono hS h v u q⟩, ROC.mono hS h hb (o + 1) vs q'⟩
theorem ROE.mono {St St' : Nat → Prop} {w w' : World} (hS : ∀ β, St β → St' β) (h : Stab St w w') {β : Nat} (hb : St β) : ∀ (o : Nat) (vs : List V), ROE St w β o vs → ROE St' w' β o vs
  | o, [], r => by simp [ROE]
  | o, v :: vs, r => by
    rw [ROE_cons] at r ⊢
    obtain ⟨q, q'⟩ := r
    refine ⟨?_, ROE.mono hS h hb (o + v.size) vs q'⟩
    cases v with
    | st cs => exact ROC.mono hS h hb o cs q
    | _ =>
      obtain ⟨⟨u, hu, hr⟩, _⟩ := q
      exact ⟨⟨u, by rw [h.cel hb]; exact hu, RO.mono hS h _ u hr⟩, trivial⟩
end

end Go.Am

/- The A-machine, part 4: a frame's state over a world of the machine, and what keeps it. -/
namespace Go.Am

/-- From w to w': nothing but what is Mine has been written, what lies in St reads as it did, rows keep their size. -/
structure Stp (St Mine : Nat → Prop) (w w' : World) : Prop where
  os : w'.os = w.os
  tape : w'.tape = w.tape
  output : w'.output = w.output
  size : w.heap.size ≤ w'.heap.size
  keep : ∀ β, β < w.heap.size → ¬ Mine β → w'.heap[β]? = w.heap[β]?
  stab : Stab St w w'
  room : ∀ β n, Room w β n → Room w' β n

theorem Stp.refl (St Mine : Nat → Prop) (w : World) : Stp St Mine w w := ⟨rfl, rfl, rfl, Nat.le_refl _, fun _ _ _ => rfl, fun _ _ => rfl, fun _ _ h => h⟩
theorem Stp.trans {St St' Mine : Nat → Prop} {a b c : World} (hS : ∀ β, St β → St' β) (h : Stp St Mine a b) (k : Stp St' Mine b c) : Stp St Mine a c :=
  ⟨k.os.trans h.os, k.tape.trans h.tape, k.output.trans h.output, Nat.le_trans h.size k.size,
    fun β hb hm => (k.keep β (Nat.lt_of_lt_of_le hb h.size) hm).trans (h.keep β hb hm),
    fun β hb => (k.stab β (hS β hb)).trans (h.stab β hb), fun β n hr => k.room β n (h.room β n hr)⟩

mutual
theorem Rep.mono {φ φ' : Phi} {St St' : Nat → Prop} {w w' : World} (hφ : ∀ b x, φ b = some x → φ' b = some x) (hS : ∀ β, St β → St' β) (h : Stab St w w')
    (hr : ∀ β n, Room w β n → Room w' β n) : ∀ (v : V) (m : Value), Rep φ St w v m → Rep φ' St' w' v m
  | .im x, m, r => by simpa [Rep] using r
  | .st cs, m, r => by simp only [Rep] at r ⊢; obtain ⟨ms, e, q⟩ := r; exact ⟨ms, e, RepL.mono hφ hS h hr cs ms q⟩
  | .tu cs, m, r => by simp only [Rep] at r ⊢; obtain ⟨ms, e, q⟩ := r; exact ⟨ms, e, RepL.mono hφ hS h hr cs ms q⟩
  | .cl f cs, m, r => by simp only [Rep] at r ⊢; obtain ⟨ms, e, q⟩ := r; exact ⟨ms, e, RepL.mono hφ hS h hr cs ms q⟩
  | .e0, m, r => by simpa [Rep] using r
  | .sl es, m, r => by simp only [Rep] at r ⊢; exact RO.mono hS h _ _ r
  | .rp v, m, r => by simp only [Rep] at r ⊢; exact RO.mono hS h _ _ r
  | .ow _ _, m, r => by simp [Rep] at r
  | .op _, m, r => by simp [Rep] at r
  | .hs b off n c, m, r => by
    simp only [Rep] at r ⊢
    obtain ⟨a, c', e, h1, h2, h3⟩ := r
    refine ⟨a, c', e, h1, h2, ?_⟩
    rcases h3 with h3 | ⟨β, o, k, hp, ha, hm⟩
    · exact .inl h3
    · exact .inr ⟨β, o, k, hφ _ _ hp, ha, hr _ _ hm⟩
  | .hp b i, m, r => by simp only [Rep] at r ⊢; obtain ⟨β, o, k, hp, e⟩ := r; exact ⟨β, o, k, hφ _ _ hp, e⟩
  | .hf b i j, m, r => by simp only [Rep] at r ⊢; obtain ⟨β, o, k, hp, e⟩ := r; exact ⟨β, o, k, hφ _ _ hp, e⟩
theorem RepL.mono {φ φ' : Phi} {St St' : Nat → Prop} {w w' : World} (hφ : ∀ b x, φ b = some x → φ' b = some x) (hS : ∀ β, St β → St' β) (h : Stab St w w')
    (hr : ∀ β n, Room w β n → Room w' β n) : ∀ (vs : List V) (ms : List Value), RepL φ St w vs ms → RepL φ' St' w' vs ms
  | [], ms, r => by simpa [RepL] using r
  | v :: vs, ms, r => by
    simp only [RepL] at r ⊢
    obtain ⟨m, ms', e, q, q'⟩ := r
    exact ⟨m, ms', e, Rep.mono hφ hS h hr v m q, RepL.mono hφ hS h hr vs ms' q'⟩
end

theorem RepC.mono {φ φ' : Phi} {St St' : Nat → Prop} {w w' : World} {β : Nat} (hφ : ∀ b x, φ b = some x → φ' b = some x) (hS : ∀ β, St β → St' β) (h : Stab St w w')
    (hr : ∀ β n, Room w β n → Room w' β n) (hb : ∀ o, Cel w' β o = Cel w β o) : ∀ (vs : List V) (o : Nat), RepC φ St w β o vs → RepC φ' St' w' β o vs
  | [], _, _ => trivial
  | v :: vs, o, ⟨⟨u, hu, q⟩, q'⟩ => ⟨⟨u, by rw [hb]; exact hu, Rep.mono hφ hS h hr v u q⟩, RepC.mono hφ hS h hr hb vs (o + 1) q'⟩

theorem RepE.mono {φ φ' : Phi} {St St' : Nat → Prop} {w w' : World} {β o k : Nat} {es : List V} (hφ : ∀ b x, φ b = some x → φ' b = some x) (hS : ∀ β, St β → St' β) (h : Stab St w w')
    (hr : ∀ β n, Room w β n → Room w' β n) (hb : ∀ o, Cel w' β o = Cel w β o) (q : RepE φ St w β o k es) : RepE φ' St' w' β o k es :=
  fun i e hi => RepC.mono hφ hS h hr hb _ _ (q i e hi)

/-- A block of the frame, over the world. -/
def BlkOK (φ : Phi) (St : Nat → Prop) (w : World) (b : Nat) (B : Blk) : Prop :=
  (B.es = [] ∧ φ b = none) ∨ ∃ β o, φ b = some (β, o, B.k) ∧ (B.fr = false → ¬ St β) ∧ (B.fr = true → St β) ∧ Own w β (o + B.es.length * B.k) ∧
    (∀ e ∈ B.es, e.size = B.k) ∧ RepE φ St w β o B.k B.es

structure WR (φ : Phi) (St Mine : Nat → Prop) (w : World) (H : Nat → Option Blk) (nx : Nat) : Prop where
  bnd : ∀ b, nx ≤ b → H b = none
  dom : ∀ b, nx ≤ b → φ b = none
  blk : ∀ b B, H b = some B → BlkOK φ St w b B
  inj : ∀ b b' B B' β o k o' k', H b = some B → H b' = some B' → φ b = some (β, o, k) → φ b' = some (β, o', k') → b = b'
  own : ∀ b B β o k, H b = some B → φ b = some (β, o, k) → Mine β
  stB : ∀ β, St β → β < w.heap.size
  mine : ∀ β, w.heap.size ≤ β → Mine β

def EnvR (φ : Phi) (St : Nat → Prop) (w : World) (e : Nat → V) (tmps : Array Value) : Prop := ∀ t, Rep φ St w (e t) (tmps.getD t undef)

theorem EnvR.mono {φ φ' : Phi} {St St' : Nat → Prop} {w w' : World} {e : Nat → V} {tmps : Array Value} (hφ : ∀ b x, φ b = some x → φ' b = some x) (hS : ∀ β, St β → St' β) (h : Stab St w w')
    (hr : ∀ β n, Room w β n → Room w' β n) (q : EnvR φ St w e tmps) : EnvR φ' St' w' e tmps := fun t => Rep.mono hφ hS h hr _ _ (q t)

def Ext (φ φ' : Phi) (nx : Nat) : Prop := ∀ b, b < nx → φ' b = φ b
theorem Ext.refl (φ : Phi) (nx : Nat) : Ext φ φ nx := fun _ _ => rfl
theorem Ext.trans {φ φ' φ'' : Phi} {nx nx' : Nat} (h : Ext φ φ' nx) (k : Ext φ' φ'' nx') (hn : nx ≤ nx') : Ext φ φ'' nx := fun b hb => (k b (by omega)).trans (h b hb)
theorem Ext.some {φ φ' : Phi} {St Mine : Nat → Prop} {w : World} {H : Nat → Option Blk} {nx : Nat} (h : Ext φ φ' nx) (q : WR φ St Mine w H nx) : ∀ b x, φ b = some x → φ' b = some x :=
  fun b x hx => by
    by_cases hb : b < nx
    · rw [h b hb]; exact hx
    · rw [q.dom b (by omega)] at hx; cases hx

theorem Own.lt {w : World} {β n : Nat} (h : Own w β n) : β < w.heap.size := by
  obtain ⟨cs, ty, h, _⟩ := h
  exact (Array.getElem?_eq_some_iff.1 h).1

/-! ### The world with a block more -/

abbrev Push (w : World) (o : Obj) : World := { w with heap := w.heap.push o }

theorem push_old {w : World} {o : Obj} {β : Nat} (h : β < w.heap.size) : (Push w o).heap[β]? = w.heap[β]? := by
  simp [Array.getElem?_push, Nat.ne_of_lt h]
theorem push_new {w : World} {o : Obj} : (Push w o).heap[w.heap.size]? = some o := by simp
theorem Room.push {w : World} {o : Obj} {β n : Nat} (h : Room w β n) : Room (Push w o) β n := by
  obtain ⟨cs, ty, fz, hb, hn⟩ := h
  exact ⟨cs, ty, fz, by rw [push_old (Array.getElem?_eq_some_iff.1 hb).1]; exact hb, hn⟩
theorem Own.push {w : World} {o : Obj} {β n : Nat} (h : Own w β n) : Own (Push w o) β n := by
  obtain ⟨cs, ty, hb, hn⟩ := h
  exact ⟨cs, ty, by rw [push_old (Array.getElem?_eq_some_iff.1 hb).1]; exact hb, hn⟩
theorem cel_push {w : World} {o : Obj} {β i : Nat} (h : β < w.heap.size) : Cel (Push w o) β i = Cel w β i := by
  simp only [Cel, World.cell?, push_old h]
theorem cel_push_new {w : World} {cs : Array Value} {ty : TypeId} {i : Nat} : Cel (Push w (.cells cs ty)) w.heap.size i = cs[i]? := by
  have h : (Push w (.cells cs ty)).heap[w.heap.size]? = some (.cells cs ty) := push_new
  unfold Cel World.cell?
  rw [h]; rfl

theorem Stp.push {St Mine : Nat → Prop} {w : World} (hS : ∀ β, St β → β < w.heap.size) (o : Obj) : Stp St Mine w (Push w o) :=
  ⟨rfl, rfl, rfl, by simp, fun _ hb _ => push_old hb, fun β hb => push_old (hS β hb), fun _ _ h => h.push⟩

theorem Stab.of_stp {St Mine : Nat → Prop} {w w' : World} (h : Stp St Mine w w') : Stab St w w' := h.stab

/-- A state carried over to a later world in which the frame's blocks hold what they held. -/
theorem BlkOK.mono {φ φ' : Phi} {St : Nat → Prop} {w w' : World} {b : Nat} {B : Blk} (hφ : ∀ b x, φ b = some x → φ' b = some x) (hn : φ b = none → φ' b = none) (h : Stab St w w')
    (hr : ∀ β n, Room w β n → Room w' β n) (hb : ∀ β o k, φ b = some (β, o, k) → w'.heap[β]? = w.heap[β]?) (q : BlkOK φ St w b B) : BlkOK φ' St w' b B := by
  rcases q with ⟨h1, h2⟩ | ⟨β, o, h1, h2, h3, h4, h5, h6⟩
  · exact .inl ⟨h1, hn h2⟩
  · have e := hb _ _ _ h1
    refine .inr ⟨β, o, hφ _ _ h1, h2, h3, ?_, h5, RepE.mono hφ (fun _ h => h) h hr (fun i => by simp only [Cel, World.cell?, e]) h6⟩
    obtain ⟨cs, ty, hc, hl⟩ := h4
    exact ⟨cs, ty, by rw [e]; exact hc, hl⟩

/-- A new block of the frame in a new row. -/
theorem WR.new {φ : Phi} {St Mine : Nat → Prop} {w : World} {H : Nat → Option Blk} {nx k : Nat} {es : List V} {cs : Array Value} {ty : TypeId} (q : WR φ St Mine w H nx)
    (hn : es.length * k ≤ cs.size) (hk : ∀ e ∈ es, e.size = k)
    (hc : ∀ i e, es[i]? = some e → ∀ j c, (cellsOf e)[j]? = some c → ∃ u, cs[i * k + j]? = some u ∧ Rep φ St w c u) :
    WR (upd φ nx (some (w.heap.size, 0, k))) St Mine (Push w (.cells cs ty)) (upd H nx (some { k := k, es := es })) (nx + 1) := by
  have hφ : ∀ b x, φ b = some x → upd φ nx (some (w.heap.size, 0, k)) b = some x := fun b x hx => by
    rw [upd_ne]; · exact hx
    rintro rfl; rw [q.dom b (Nat.le_refl _)] at hx; cases hx
  have hst := Stp.push (Mine := Mine) q.stB (.cells cs ty)
  refine ⟨fun b hb => ?_, fun b hb => ?_, fun b B hB => ?_, ?_, ?_, fun β hb => ?_, fun β hb => ?_⟩
  · rw [upd_ne _ _ (by omega)]; exact q.bnd b (by omega)
  · rw [upd_ne _ _ (by omega)]; exact q.dom b (by omega)
  · by_cases e : b = nx
    · subst e
      rw [upd_same] at hB
      obtain rfl := Option.some.inj hB
      refine .inr ⟨w.heap.size, 0, upd_same _ _ _, fun _ hs => Nat.lt_irrefl _ (q.stB _ hs), fun h => by simp at h, ⟨cs, ty, push_new, by simpa using hn⟩, hk, fun i e hi => RepC_iff.2 fun j c hj => ?_⟩
      obtain ⟨u, hu, hr⟩ := hc i e hi j c hj
      exact ⟨u, by rw [cel_push_new]; simpa using hu, Rep.mono hφ (fun _ h => h) hst.stab hst.room c u hr⟩
    · rw [upd_ne _ _ e] at hB
      refine BlkOK.mono hφ (fun hn => by rw [upd_ne _ _ e]; exact hn) hst.stab hst.room (fun β o k' hp => ?_) (q.blk b B hB)
      rcases q.blk b B hB with ⟨_, h2⟩ | ⟨β', o', h1, _, _, h4, _⟩
      · rw [h2] at hp; cases hp
      · rw [h1] at hp; cases hp; exact push_old h4.lt
  · intro b b' B B' β o k1 o' k2 hB hB' hp hp'
    have key : ∀ b B β o k1, upd H nx (some { k := k, es := es }) b = some B → upd φ nx (some (w.heap.size, 0, k)) b = some (β, o, k1) → b ≠ nx → H b = some B ∧ φ b = some (β, o, k1) ∧ β < w.heap.size := by
      intro b B β o k1 h1 h2 hne
      rw [upd_ne _ _ hne] at h1 h2
      refine ⟨h1, h2, ?_⟩
      rcases q.blk b B h1 with ⟨_, h3⟩ | ⟨β', o', h3, _, _, h4, _⟩
      · rw [h3] at h2; cases h2
      · rw [h3] at h2; cases h2; exact h4.lt
    by_cases e : b = nx <;> by_cases e' : b' = nx
    · rw [e, e']
    · subst e
      obtain ⟨_, _, h3⟩ := key b' B' β o' k2 hB' hp' e'
      rw [upd_same] at hp; cases hp; omega
    · subst e'
      obtain ⟨_, _, h3⟩ := key b B β o k1 hB hp e
      rw [upd_same] at hp'; cases hp'; omega
    · obtain ⟨h1, h2, _⟩ := key b B β o k1 hB hp e
      obtain ⟨h1', h2', _⟩ := key b' B' β o' k2 hB' hp' e'
      exact q.inj b b' B B' β o k1 o' k2 h1 h1' h2 h2'
  · intro b B β o k1 hB hp
    by_cases e : b = nx
    · subst e; rw [upd_same] at hp; cases hp; exact q.mine _ (Nat.le_refl _)
    · rw [upd_ne _ _ e] at hB hp; exact q.own b B β o k1 hB hp
  · have := q.stB β hb; simp; omega
  · exact q.mine β (by have : (Push w (.cells cs ty)).heap.size = w.heap.size + 1 := by simp
                       omega)

theorem ext_upd {φ : Phi} {nx : Nat} (x : Option (Nat × Nat × Nat)) : Ext φ (upd φ nx x) nx := fun b hb => upd_ne _ _ (by omega)

/-- A block of the frame struck. -/
theorem WR.kill {φ : Phi} {St Mine : Nat → Prop} {w : World} {H H' : Nat → Option Blk} {nx : Nat} (q : WR φ St Mine w H nx) (h : ∀ b B, H' b = some B → H b = some B) : WR φ St Mine w H' nx :=
  ⟨fun b hb => by
      cases e : H' b with
      | none => rfl
      | some B => exact absurd (h b B e) (by simp [q.bnd b hb]),
    q.dom, fun b B hB => q.blk b B (h b B hB), fun b b' B B' β o k o' k' h1 h2 => q.inj b b' B B' β o k o' k' (h b B h1) (h b' B' h2),
    fun b B β o k hB => q.own b B β o k (h b B hB), q.stB, q.mine⟩

/-- The same state in a later world in which nothing of the frame's, and nothing of St, has turned. -/
theorem WR.later {φ : Phi} {St Mine : Nat → Prop} {w w' : World} {H : Nat → Option Blk} {nx : Nat} (q : WR φ St Mine w H nx) (h : Stp St Mine w w')
    (hb : ∀ b B β o k, H b = some B → φ b = some (β, o, k) → w'.heap[β]? = w.heap[β]?) : WR φ St Mine w' H nx :=
  ⟨q.bnd, q.dom, fun b B hB => BlkOK.mono (fun _ _ h => h) (fun h => h) h.stab h.room (fun β o k hp => hb b B β o k hB hp) (q.blk b B hB), q.inj, q.own,
    fun β hb => Nat.lt_of_lt_of_le (q.stB β hb) h.size, fun β hb => q.mine β (Nat.le_trans h.size hb)⟩

/-- A block of the frame, written. -/
theorem WR.write {φ : Phi} {St Mine : Nat → Prop} {w w' : World} {H : Nat → Option Blk} {nx b β o : Nat} {B B' : Blk} (q : WR φ St Mine w H nx) (hB : H b = some B) (hp : φ b = some (β, o, B.k))
    (hst : Stp St Mine w w') (hsame : ∀ β', β' ≠ β → β' < w.heap.size → w'.heap[β']? = w.heap[β']?)
    (hk : B'.k = B.k) (hf : B'.fr = false) (hS : ¬ St β) (ho : Own w' β (o + B'.es.length * B.k)) (hs : ∀ e ∈ B'.es, e.size = B.k) (hr : RepE φ St w' β o B.k B'.es) :
    WR φ St Mine w' (upd H b (some B')) nx := by
  have hbn : b < nx := by
    rcases Nat.lt_or_ge b nx with h | h
    · exact h
    · rw [q.bnd b h] at hB; cases hB
  have hlt : ∀ b B β o k, H b = some B → φ b = some (β, o, k) → β < w.heap.size := by
    intro b B β o k h1 h2
    rcases q.blk b B h1 with ⟨_, h3⟩ | ⟨β', o', h3, _, _, h4, _⟩
    · rw [h3] at h2; cases h2
    · rw [h3] at h2; cases h2; exact h4.lt
  refine ⟨fun b' hb' => by rw [upd_ne _ _ (by omega)]; exact q.bnd b' hb', q.dom, fun b' C hC => ?_, ?_, ?_, fun β hb => Nat.lt_of_lt_of_le (q.stB β hb) hst.size, fun β hb => q.mine β (Nat.le_trans hst.size hb)⟩
  · by_cases e : b' = b
    · subst e
      rw [upd_same] at hC; obtain rfl := Option.some.inj hC
      refine .inr ⟨β, o, by rw [hk]; exact hp, fun _ => hS, fun h => (by rw [hf] at h; exact absurd h (by simp)), by rw [hk]; exact ho, by rw [hk]; exact hs, by rw [hk]; exact hr⟩
    · rw [upd_ne _ _ e] at hC
      refine BlkOK.mono (fun _ _ h => h) (fun h => h) hst.stab hst.room (fun β' o' k' hp' => hsame β' (fun hh => ?_) (hlt _ _ _ _ _ hC hp')) (q.blk b' C hC)
      subst hh
      exact e (q.inj b' b C B β' o' k' o B.k hC hB hp' hp)
  · intro b1 b2 B1 B2 β1 o1 k1 o2 k2 h1 h2 p1 p2
    have key : ∀ b1 B1, upd H b (some B') b1 = some B1 → ∃ C, H b1 = some C := by
      intro b1 B1 h
      by_cases e : b1 = b
      · subst e; exact ⟨B, hB⟩
      · rw [upd_ne _ _ e] at h; exact ⟨B1, h⟩
    obtain ⟨C1, c1⟩ := key b1 B1 h1
    obtain ⟨C2, c2⟩ := key b2 B2 h2
    exact q.inj b1 b2 C1 C2 β1 o1 k1 o2 k2 c1 c2 p1 p2
  · intro b1 B1 β1 o1 k1 h1 p1
    by_cases e : b1 = b
    · subst e; exact q.own b1 B β1 o1 k1 hB p1
    · rw [upd_ne _ _ e] at h1; exact q.own b1 B1 β1 o1 k1 h1 p1

end Go.Am

/- The A-machine, part 5: the operations that neither call nor append do in the machine what the A-machine says. -/
namespace Go.Am
variable {P : Program}

/-- What one operation comes to in the machine. -/
def OpTo (φ : Phi) (St Mine : Nat → Prop) (w : World) (s : S) (v : V) (s' : S) (r : Result Next) : Prop :=
  ∃ m w' φ', (r = .ok (.value m) w' ∨ (r = .ok .skip w' ∧ m = undef)) ∧ Rep φ' St w' v m ∧ WR φ' St Mine w' s'.H s'.nx ∧ s'.e = s.e ∧ Ext φ φ' s.nx ∧ s.nx ≤ s'.nx ∧ Stp St Mine w w'

theorem OpTo.pure {φ : Phi} {St Mine : Nat → Prop} {w : World} {s : S} {v : V} {m : Value} (q : WR φ St Mine w s.H s.nx) (h : Rep φ St w v m) : OpTo φ St Mine w s v s (.ok (.value m) w) :=
  ⟨m, w, φ, .inl rfl, h, q, rfl, Ext.refl _ _, Nat.le_refl _, Stp.refl _ _ _⟩

/-! ### Operands -/

theorem rep_immV {φ : Phi} {St : Nat → Prop} {w : World} {x : Value} {v : V} (h : immV x = some v) : Rep φ St w v x := by
  unfold immV at h
  split at h <;> simp at h <;> subst h <;> simp [Rep]

theorem rep_toO {φ : Phi} {St : Nat → Prop} {w : World} {e : Nat → V} {a : Act} (q : EnvR φ St w e a.tmps) {x : Operand} {y : O} (h : toO x = some y) : Rep φ St w (val e y) (a.eval x) := by
  unfold toO at h
  split at h
  · obtain rfl := Option.some.inj h; exact q _
  · obtain rfl := Option.some.inj h; simp [val, Act.eval, Rep]
  · simp only [Option.map_eq_some_iff] at h
    obtain ⟨v, hv, rfl⟩ := h
    exact rep_immV hv
  · obtain rfl := Option.some.inj h; simp [val, Act.eval, Rep, RepL]
  · cases h

theorem rep_toOs {φ : Phi} {St : Nat → Prop} {w : World} {e : Nat → V} {a : Act} (q : EnvR φ St w e a.tmps) : ∀ {l : List Operand} {ys : List O}, toOs l = some ys → RepL φ St w (ys.map (val e)) (l.map a.eval)
  | [], ys, h => by simp [toOs] at h; subst h; simp [RepL]
  | x :: l, ys, h => by
    simp only [toOs, List.mapM_cons, Option.bind_eq_bind, Option.pure_def] at h
    obtain ⟨y, hy, h⟩ := Option.bind_eq_some_iff.1 h
    obtain ⟨ys', hys, h⟩ := Option.bind_eq_some_iff.1 h
    obtain rfl := Option.some.inj h
    simp only [List.map_cons, RepL]
    exact ⟨_, _, rfl, rep_toO q hy, rep_toOs q hys⟩

theorem RepL.len {φ : Phi} {St : Nat → Prop} {w : World} : ∀ {vs : List V} {ms : List Value}, RepL φ St w vs ms → vs.length = ms.length
  | [], ms, h => by simp only [RepL] at h; subst h; rfl
  | v :: vs, ms, h => by
    simp only [RepL] at h
    obtain ⟨m, ms', rfl, _, h2⟩ := h
    simp [h2.len]

theorem RepL.get {φ : Phi} {St : Nat → Prop} {w : World} : ∀ {vs : List V} {ms : List Value} {i : Nat} {v : V}, RepL φ St w vs ms → vs[i]? = some v → ∃ m, ms[i]? = some m ∧ Rep φ St w v m
  | [], _, _, _, _, h => by simp at h
  | v :: vs, ms, 0, v', h, hi => by
    obtain rfl : v = v' := by simpa using hi
    simp only [RepL] at h
    obtain ⟨m, ms', rfl, h1, _⟩ := h
    exact ⟨m, rfl, h1⟩
  | v :: vs, ms, i + 1, v', h, hi => by
    simp only [RepL] at h
    obtain ⟨m, ms', rfl, _, h2⟩ := h
    simpa using h2.get (i := i) (by simpa using hi)

theorem RepL_iff {φ : Phi} {St : Nat → Prop} {w : World} : ∀ {vs : List V} {ms : List Value}, RepL φ St w vs ms ↔ vs.length = ms.length ∧ ∀ (i : Nat) (v : V), vs[i]? = some v → ∃ m, ms[i]? = some m ∧ Rep φ St w v m
  | [], ms => by
    simp only [RepL, List.length_nil]
    constructor
    · rintro rfl; simp
    · intro h; exact List.eq_nil_of_length_eq_zero h.1.symm
  | v :: vs, [] => by simp [RepL]
  | v :: vs, m :: ms => by
    simp only [RepL]
    constructor
    · rintro ⟨m', ms', e, h1, h2⟩
      cases e
      refine ⟨by simp [h2.len], fun i v' hi => ?_⟩
      cases i with
      | zero => exact ⟨m, rfl, by obtain rfl : v = v' := by simpa using hi
                                  exact h1⟩
      | succ i => simpa using h2.get (i := i) (by simpa using hi)
    · rintro ⟨h1, h2⟩
      refine ⟨m, ms, rfl, ?_, RepL_iff.2 ⟨by simpa using h1, fun i v' hi => ?_⟩⟩
      · obtain ⟨m', hm, hr⟩ := h2 0 v rfl
        obtain rfl : m = m' := by simpa using hm
        exact hr
      · simpa using h2 (i + 1) v' (by simpa using hi)

/-! ### Types -/

def aggD : TypeDesc → Bool
  | .struct _ | .array _ _ => true
  | _ => false

theorem shp_spec {P : Program} {t : TypeId} {q : Option Nat} (h : shp P t = some q) : ∃ i d, P.info? t = some i ∧ P.underlying t = some d ∧ i.size = ksz q ∧ i.bytes ≤ 1024 ∧ aggD d = q.isSome ∧
    (∀ n, q = some n → ∃ fs, d = .struct fs ∧ fs.size = n ∧ fldsOk P 0 fs.toList = true) ∧ (q = none → leafDesc d = true) := by
  unfold shp at h
  split at h
  · rename_i i fs h1 h2
    split at h
    · rename_i hc
      obtain rfl := Option.some.inj h
      exact ⟨i, _, h1, h2, hc.1, hc.2.1, rfl, fun n hn => ⟨fs, rfl, Option.some.inj hn, hc.2.2⟩, fun hn => (by cases hn)⟩
    · cases h
  · rename_i i d hns h1 h2
    split at h
    · rename_i hc
      obtain rfl := Option.some.inj h
      refine ⟨i, d, h1, h2, hc.1, hc.2.1, ?_, fun n hn => (by cases hn), fun _ => hc.2.2⟩
      have := hc.2.2
      cases d <;> simp_all [leafDesc, aggD]
    · cases h
  · cases h

theorem run_underlying {t : TypeId} {d : TypeDesc} (h : P.underlying t = some d) (w : World) : (underlying t).run P w = .ok d w := by
  simp [underlying, program, h, Sem.run, bind, Sem.bind, pure]

theorem run_typeInfo {t : TypeId} {i : TypeInfo} (h : P.info? t = some i) (w : World) : (typeInfo t).run P w = .ok i w := by
  simp [typeInfo, program, h, Sem.run, bind, Sem.bind, pure]

theorem run_bind {α β : Type} (x : Sem α) (f : α → Sem β) (w : World) : (x >>= f).run P w = match x.run P w with | .ok a w' => (f a).run P w' | .halt h w' => .halt h w' := by
  exact Sem.run_bind _ _ _ _

theorem run_pure {α : Type} (x : α) (w : World) : (pure x : Sem α).run P w = .ok x w := rfl

theorem run_sizeOf {t : TypeId} {q : Option Nat} (h : shp P t = some q) (w : World) : (sizeOf t).run P w = .ok (ksz q) w := by
  obtain ⟨i, d, h1, _, h3, _⟩ := shp_spec h
  unfold sizeOf
  rw [run_bind, run_typeInfo h1]
  simp [h3]

theorem run_isAgg {t : TypeId} {q : Option Nat} (h : shp P t = some q) (w : World) : (isAgg t).run P w = .ok q.isSome w := by
  obtain ⟨i, d, _, h2, _, _, h5, _⟩ := shp_spec h
  unfold isAgg
  rw [run_bind, run_underlying h2]
  rw [← h5]
  cases d <;> rfl

/-! ### What lies in memory -/

mutual
theorem RO.rep {φ : Phi} {St : Nat → Prop} {w : World} : ∀ (v : V) (m : Value), RO St w v m → Rep φ St w v m
  | .im x, m, r => by simpa [RO, Rep] using r
  | .st cs, m, r => by simp only [RO] at r; simp only [Rep]; obtain ⟨ms, e, q⟩ := r; exact ⟨ms, e, ROL.rep cs ms q⟩
  | .tu cs, m, r => by simp only [RO] at r; simp only [Rep]; obtain ⟨ms, e, q⟩ := r; exact ⟨ms, e, ROL.rep cs ms q⟩
  | .cl f cs, m, r => by simp only [RO] at r; simp only [Rep]; obtain ⟨ms, e, q⟩ := r; exact ⟨ms, e, ROL.rep cs ms q⟩
  | .e0, m, r => by simpa [RO, Rep] using r
  | .sl es, m, r => by simpa only [Rep] using r
  | .rp v, m, r => by simpa only [Rep] using r
  | .ow _ _, m, r => by simp [RO] at r
  | .op _, m, r => by simp [RO] at r
  | .hs .., m, r => by simp [RO] at r
  | .hp .., m, r => by simp [RO] at r
  | .hf .., m, r => by simp [RO] at r
theorem ROL.rep {φ : Phi} {St : Nat → Prop} {w : World} : ∀ (vs : List V) (ms : List Value), ROL St w vs ms → RepL φ St w vs ms
  | [], ms, r => by simpa [ROL, RepL] using r
  | v :: vs, ms, r => by
    simp only [ROL] at r
    obtain ⟨m, ms', e, q, q'⟩ := r
    simp only [RepL]
    exact ⟨m, ms', e, RO.rep v m q, ROL.rep vs ms' q'⟩
end

theorem ROC.rep {φ : Phi} {St : Nat → Prop} {w : World} {β : Nat} : ∀ (cs : List V) (o : Nat), ROC St w β o cs → RepC φ St w β o cs
  | [], _, _ => trivial
  | v :: vs, o, r => by
    simp only [ROC] at r
    obtain ⟨⟨u, hu, q⟩, q'⟩ := r
    exact ⟨⟨u, hu, RO.rep v u q⟩, ROC.rep vs (o + 1) q'⟩

theorem run_load {w : World} {β o : Nat} {u : Value} (h : Cel w β o = some u) : (load ⟨β, o, none⟩).run P w = .ok u w := by
  simp only [load, Sem.run]
  rw [show w.cell? ⟨β, o, none⟩ = some u from h]

theorem addr_add (β o n : Nat) : Addr.add ⟨β, o, none⟩ n = ⟨β, o + n, none⟩ := by
  unfold Addr.add; split
  · rename_i h; subst h; rfl
  · rfl

theorem run_loadCellsFrom {w : World} {β o : Nat} : ∀ (n i : Nat) (us : List Value) (acc : Array Value), us.length = n → (∀ j u, us[j]? = some u → Cel w β (o + i + j) = some u) →
    (loadCellsFrom ⟨β, o, none⟩ i n acc).run P w = .ok (acc ++ us.toArray) w
  | 0, i, us, acc, hn, _ => by
    obtain rfl := List.eq_nil_of_length_eq_zero hn
    simp [loadCellsFrom]
  | n + 1, i, us, acc, hn, h => by
    cases us with
    | nil => simp at hn
    | cons u us =>
      unfold loadCellsFrom
      rw [run_bind, addr_add, run_load (by simpa using h 0 u rfl)]
      simp only
      rw [run_loadCellsFrom n (i + 1) us (acc.push u) (by simpa using hn) fun j u' hj => by
        have := h (j + 1) u' (by simpa using hj)
        rwa [show o + i + (j + 1) = o + (i + 1) + j by omega] at this]
      simp

theorem run_loadCells {w : World} {β o n : Nat} (us : List Value) (hn : us.length = n) (h : ∀ j u, us[j]? = some u → Cel w β (o + j) = some u) :
    (loadCells ⟨β, o, none⟩ n).run P w = .ok us.toArray w := by
  unfold loadCells
  rw [run_loadCellsFrom n 0 us #[] hn (by simpa using h)]
  simp

theorem RepC.vals {φ : Phi} {St : Nat → Prop} {w : World} {β : Nat} : ∀ (cs : List V) (o : Nat), RepC φ St w β o cs → ∃ us : List Value, RepL φ St w cs us ∧ ∀ j u, us[j]? = some u → Cel w β (o + j) = some u
  | [], _, _ => ⟨[], by simp [RepL], by simp⟩
  | v :: vs, o, ⟨⟨u, hu, q⟩, q'⟩ => by
    obtain ⟨us, h1, h2⟩ := RepC.vals vs (o + 1) q'
    refine ⟨u :: us, by simp only [RepL]; exact ⟨u, us, rfl, q, h1⟩, fun j u' hj => ?_⟩
    cases j with
    | zero => obtain rfl : u = u' := by simpa using hj
              simpa using hu
    | succ j => have := h2 j u' (by simpa using hj)
                rwa [show o + 1 + j = o + (j + 1) by omega] at this

theorem fits_some {n : Nat} {v : V} (h : v.fits (some n) = true) : ∃ cs, v = .st cs ∧ cs.length = n ∧ cs.all V.okc = true := by
  cases v <;> simp [V.fits] at h
  exact ⟨_, rfl, h.1, by simpa using h.2⟩
theorem fits_none {v : V} (h : v.fits none = true) : v.okc = true := by cases v <;> simpa [V.fits] using h
theorem okc_cells {v : V} (h : v.okc = true) : cellsOf v = [v] := by cases v <;> simp [V.okc] at h <;> rfl
theorem okc_size {v : V} (h : v.okc = true) : v.size = 1 := by cases v <;> simp [V.okc] at h <;> rfl
theorem fits_size {q : Option Nat} {v : V} (h : v.fits q = true) : v.size = ksz q := by
  cases q with
  | none => exact okc_size (fits_none h)
  | some n => obtain ⟨cs, rfl, h1, _⟩ := fits_some h; exact h1
theorem fits_okc {q : Option Nat} {v : V} (h : v.fits q = true) : ∀ c ∈ cellsOf v, c.okc = true := by
  cases q with
  | none => have := fits_none h; rw [okc_cells this]; simpa using this
  | some n => obtain ⟨cs, rfl, _, h2⟩ := fits_some h; simpa [cellsOf] using h2

theorem rep_okm {φ : Phi} {St : Nat → Prop} {w : World} {v : V} {m : Value} (h : v.okc = true) (r : Rep φ St w v m) : okm m = true := by
  cases v <;> simp [V.okc] at h <;> simp only [Rep] at r
  · subst r; exact h
  · simp only [RO] at r; obtain ⟨a, c, rfl, _⟩ := r; rfl
  · rw [RO_rp] at r; obtain ⟨β, o, rfl, _⟩ := r; rfl
  · obtain ⟨a, rfl⟩ := r; rfl
  · obtain ⟨ms, rfl, _⟩ := r; rfl
  · obtain ⟨a, c', rfl, _⟩ := r; rfl
  · obtain ⟨β, o, k, _, rfl⟩ := r; rfl
  · obtain ⟨β, o, k, _, rfl⟩ := r; rfl

/-- The machine's cells of a value that fits. -/
theorem rep_cells {φ : Phi} {St : Nat → Prop} {w : World} {q : Option Nat} {v : V} {m : Value} (h : v.fits q = true) (r : Rep φ St w v m) :
    RepL φ St w (cellsOf v) m.cells.toList ∧ m.cells.size = ksz q ∧ ∀ u ∈ m.cells.toList, okm u = true := by
  cases q with
  | none =>
    have h1 := fits_none h
    have h2 := rep_okm h1 r
    have h3 : m.cells = #[m] := by cases m <;> simp [okm] at h2 <;> rfl
    rw [okc_cells h1, h3]
    exact ⟨by simp [RepL, r], rfl, by simpa using h2⟩
  | some n =>
    obtain ⟨cs, rfl, h1, h2⟩ := fits_some h
    simp only [Rep] at r
    obtain ⟨ms, rfl, r⟩ := r
    refine ⟨by simpa [cellsOf, Value.cells] using r, by simp [Value.cells, ksz, ← r.len, h1], fun u hu => ?_⟩
    obtain ⟨i, hi⟩ := List.mem_iff_getElem?.1 hu
    simp only [Value.cells] at hi
    have hi : ms[i]? = some u := by simpa using hi
    have hlt : i < cs.length := by
      have := (List.getElem?_eq_some_iff.1 hi).1
      rw [r.len]; exact this
    obtain ⟨m', hm', hr⟩ := r.get (i := i) (v := cs[i]) (by simp)
    rw [hi] at hm'
    obtain rfl := Option.some.inj hm'
    exact rep_okm (by simp only [List.all_eq_true] at h2; exact h2 _ (List.getElem_mem _)) hr

/-- A load of what lies at a place. -/
theorem run_loadVar {φ : Phi} {St : Nat → Prop} {w : World} {t : TypeId} {q : Option Nat} {β o : Nat} {v : V} (ht : shp P t = some q) (h : v.fits q = true) (r : RepC φ St w β o (cellsOf v)) :
    ∃ m, (loadVar t ⟨β, o, none⟩).run P w = .ok m w ∧ Rep φ St w v m := by
  unfold loadVar
  cases q with
  | none =>
    have h1 := fits_none h
    rw [okc_cells h1] at r
    obtain ⟨⟨u, hu, q⟩, _⟩ := r
    refine ⟨u, ?_, q⟩
    rw [run_bind, run_isAgg ht]
    simp only [Option.isSome_none, Bool.false_eq_true, if_false]
    exact run_load hu
  | some n =>
    obtain ⟨cs, rfl, h1, _⟩ := fits_some h
    obtain ⟨us, h3, h4⟩ := RepC.vals _ _ r
    refine ⟨.agg us.toArray, ?_, by simp only [Rep]; exact ⟨us, rfl, h3⟩⟩
    rw [run_bind, run_isAgg ht]
    simp only [Option.isSome_some, if_true]
    rw [run_bind, run_sizeOf ht]
    simp only [ksz]
    rw [run_bind, run_loadCells us (by rw [← h3.len]; exact h1) h4]
    rfl

/-- What a pointer points to. -/
theorem deref_spec {φ : Phi} {St Mine : Nat → Prop} {w : World} {H : Nat → Option Blk} {nx : Nat} {v y : V} {m : Value} (q : WR φ St Mine w H nx) (r : Rep φ St w v m) (h : deref H v = some y) :
    ∃ β o, m = .pointer (some ⟨β, o, none⟩) ∧ RepC φ St w β o (cellsOf y) := by
  cases v with
  | rp v =>
    simp only [deref, Option.some.injEq] at h; subst h
    simp only [Rep] at r
    rw [RO_rp] at r
    obtain ⟨β, o, e, _, r⟩ := r
    exact ⟨β, o, e, ROC.rep _ _ r⟩
  | hp b i =>
    simp only [deref, Option.bind_eq_some_iff] at h
    obtain ⟨B, hB, hi⟩ := h
    simp only [Rep] at r
    obtain ⟨β, o, k, hp, e⟩ := r
    rcases q.blk b B hB with ⟨h1, _⟩ | ⟨β', o', h1, _, _, _, _, h6⟩
    · rw [h1] at hi; simp at hi
    · rw [h1] at hp; cases hp
      exact ⟨_, _, e, h6 i y hi⟩
  | hf b i j =>
    simp only [deref, Option.bind_eq_some_iff] at h
    obtain ⟨B, hB, hi⟩ := h
    simp only [Rep] at r
    obtain ⟨β, o, k, hp, e⟩ := r
    split at hi
    · rename_i cs hcs
      simp only [Option.bind_eq_some_iff] at hi
      obtain ⟨c, hc, hi⟩ := hi
      split at hi
      · rename_i hok
        obtain rfl := Option.some.inj hi
        rcases q.blk b B hB with ⟨h1, _⟩ | ⟨β', o', h1, _, _, _, _, h6⟩
        · rw [h1] at hcs; simp at hcs
        · rw [h1] at hp; cases hp
          have := RepC_get (h6 i _ hcs) hc
          rw [okc_cells hok]
          exact ⟨_, _, e, this, trivial⟩
      · cases hi
    · cases hi
  | _ => simp [deref] at h

end Go.Am

/- The A-machine, part 6: stores, and new rows. -/
namespace Go.Am
variable {P : Program}

theorem setCell_at {w : World} {β o : Nat} {v : Value} {cs : Array Value} {ty : TypeId} {fz : Nat × Nat} (h : w.heap[β]? = some (.cells cs ty fz)) :
    (w.setCell ⟨β, o, none⟩ v).heap[β]? = some (.cells (cs.setIfInBounds o v) ty fz) := by
  simp [World.setCell, Array.getElem?_modify, h]
theorem setCell_ne {w : World} {β β' o : Nat} {v : Value} (h : β' ≠ β) : (w.setCell ⟨β, o, none⟩ v).heap[β']? = w.heap[β']? := by
  simp [World.setCell, Array.getElem?_modify, Ne.symm h]
theorem setCell_size {w : World} {a : Addr} {v : Value} : (w.setCell a v).heap.size = w.heap.size := by simp [World.setCell]

def setCells (w : World) (β : Nat) : Nat → List Value → World
  | _, [] => w
  | o, v :: vs => setCells (w.setCell ⟨β, o, none⟩ v) β (o + 1) vs

theorem setCells_at {β : Nat} : ∀ (vs : List Value) (w : World) (o : Nat) {cs : Array Value} {ty : TypeId} {fz : Nat × Nat}, w.heap[β]? = some (.cells cs ty fz) →
    ∃ cs', (setCells w β o vs).heap[β]? = some (.cells cs' ty fz) ∧ cs'.size = cs.size ∧ ∀ j, cs'[j]? = if o ≤ j ∧ j < o + vs.length ∧ j < cs.size then vs[j - o]? else cs[j]?
  | [], w, o, cs, ty, fz, h => ⟨cs, h, rfl, fun j => by rw [if_neg]; simp only [List.length_nil]; omega⟩
  | v :: vs, w, o, cs, ty, fz, h => by
    obtain ⟨cs', h1, h2, h3⟩ := setCells_at vs (w.setCell ⟨β, o, none⟩ v) (o + 1) (setCell_at h)
    refine ⟨cs', h1, by simpa using h2, fun j => ?_⟩
    rw [h3]
    simp only [Array.size_setIfInBounds, List.length_cons]
    by_cases hj : j = o
    · subst hj
      rw [if_neg (by omega)]
      by_cases hlt : j < cs.size
      · rw [if_pos (by omega)]; simp [hlt]
      · rw [if_neg (by omega)]; simp [hlt]
    · by_cases hin : o + 1 ≤ j ∧ j < o + 1 + vs.length ∧ j < cs.size
      · rw [if_pos hin, if_pos (by omega)]
        obtain ⟨d, rfl⟩ : ∃ d, j = o + 1 + d := ⟨j - (o + 1), by omega⟩
        rw [show o + 1 + d - (o + 1) = d by omega, show o + 1 + d - o = d + 1 by omega]
        simp
      · rw [if_neg hin, if_neg (by omega), Array.getElem?_setIfInBounds_ne (Ne.symm hj)]

theorem setCells_ne {β β' : Nat} (h : β' ≠ β) : ∀ (vs : List Value) (w : World) (o : Nat), (setCells w β o vs).heap[β']? = w.heap[β']?
  | [], _, _ => rfl
  | v :: vs, w, o => by rw [setCells, setCells_ne h vs, setCell_ne h]
theorem setCells_size {β : Nat} : ∀ (vs : List Value) (w : World) (o : Nat), (setCells w β o vs).heap.size = w.heap.size
  | [], _, _ => rfl
  | v :: vs, w, o => by rw [setCells, setCells_size vs, setCell_size]
theorem setCells_rest {β : Nat} : ∀ (vs : List Value) (w : World) (o : Nat), (setCells w β o vs).os = w.os ∧ (setCells w β o vs).tape = w.tape ∧ (setCells w β o vs).output = w.output
  | [], _, _ => ⟨rfl, rfl, rfl⟩
  | v :: vs, w, o => by rw [setCells]; exact setCells_rest vs _ _

theorem run_store {w : World} {β o : Nat} {u v : Value} (h : Cel w β o = some u) (hf : w.frozen? ⟨β, o, none⟩ = false) (hv : okm v = true) : (store ⟨β, o, none⟩ v).run P w = .ok () (w.setCell ⟨β, o, none⟩ v) := by
  have h' : w.cell? ⟨β, o, none⟩ = some u := h
  cases v <;> simp [okm] at hv <;> simp [store, Sem.run, h', hf]

theorem Own.cel {w : World} {β n j : Nat} (h : Own w β n) (hj : j < n) : ∃ u, Cel w β j = some u := by
  obtain ⟨cs, ty, h1, h2⟩ := h
  refine ⟨cs[j]'(by omega), ?_⟩
  unfold Cel World.cell?
  simp only [h1]
  simp [Array.getElem?_eq_getElem (show j < cs.size by omega)]
theorem Own.frz {w : World} {β n j : Nat} (h : Own w β n) : w.frozen? ⟨β, j, none⟩ = false := by
  obtain ⟨cs, ty, h1, h2⟩ := h
  unfold World.frozen?
  simp only [h1]
  simp

theorem run_storeCells {β o : Nat} : ∀ (vs : List Value) (i : Nat) (w : World), (∀ v ∈ vs, okm v = true) → Own w β (o + i + vs.length) →
    (storeCells ⟨β, o, none⟩ vs i).run P w = .ok () (setCells w β (o + i) vs)
  | [], i, w, _, _ => by simp [storeCells, setCells]
  | v :: vs, i, w, hv, ho => by
    unfold storeCells
    simp only [List.length_cons] at ho
    obtain ⟨u, hu⟩ := ho.cel (j := o + i) (by omega)
    rw [run_bind, addr_add, run_store hu ho.frz (hv v (by simp))]
    simp only
    rw [run_storeCells vs (i + 1) (w.setCell ⟨β, o + i, none⟩ v) (fun v' h => hv v' (by simp [h])) ?_]
    · rfl
    · obtain ⟨cs, ty, h1, h2⟩ := ho
      exact ⟨_, ty, setCell_at h1, by simp; omega⟩

/-- The facts of a row written over. -/
theorem setCells_own {w : World} {β o n : Nat} {vs : List Value} (h : Own w β n) : Own (setCells w β o vs) β n := by
  obtain ⟨cs, ty, h1, h2⟩ := h
  obtain ⟨cs', h3, h4, _⟩ := setCells_at vs w o h1
  exact ⟨cs', ty, h3, by omega⟩
theorem setCells_cel {w : World} {β o n : Nat} {vs : List Value} (h : Own w β n) (hn : o + vs.length ≤ n) (j : Nat) :
    Cel (setCells w β o vs) β j = if o ≤ j ∧ j < o + vs.length then vs[j - o]? else Cel w β j := by
  obtain ⟨cs, ty, h1, h2⟩ := h
  obtain ⟨cs', h3, h4, h5⟩ := setCells_at vs w o h1
  have e1 : Cel (setCells w β o vs) β j = cs'[j]? := by unfold Cel World.cell?; rw [h3]; rfl
  have e2 : Cel w β j = cs[j]? := by unfold Cel World.cell?; rw [h1]; rfl
  rw [e1, e2, h5]
  by_cases hc : o ≤ j ∧ j < o + vs.length
  · rw [if_pos ⟨hc.1, hc.2, by omega⟩, if_pos hc]
  · rw [if_neg (by omega), if_neg hc]
theorem setCells_room {w : World} {β β' o n : Nat} {vs : List Value} (h : Room w β' n) : Room (setCells w β o vs) β' n := by
  obtain ⟨cs, ty, fz, h1, h2⟩ := h
  by_cases e : β' = β
  · subst e
    obtain ⟨cs', h3, h4, _⟩ := setCells_at vs w o h1
    exact ⟨cs', ty, fz, h3, by omega⟩
  · exact ⟨cs, ty, fz, by rw [setCells_ne e]; exact h1, h2⟩

theorem stp_setCells {St Mine : Nat → Prop} {w : World} {β o : Nat} {vs : List Value} (hS : ¬ St β) (hM : Mine β) : Stp St Mine w (setCells w β o vs) := by
  obtain ⟨h1, h2, h3⟩ := setCells_rest (β := β) vs w o
  refine ⟨h1, h2, h3, by rw [setCells_size]; exact Nat.le_refl _, fun β' _ hm => setCells_ne (fun e => by subst e; exact hm hM) _ _ _,
    fun β' hb => setCells_ne (fun e => by subst e; exact hS hb) _ _ _, fun _ _ h => setCells_room h⟩

/-- A store into an element of a block. -/
theorem run_storeVar {φ : Phi} {St : Nat → Prop} {w : World} {t : TypeId} {q : Option Nat} {β o : Nat} {v : V} {m : Value} (ht : shp P t = some q) (h : v.fits q = true) (r : Rep φ St w v m)
    (ho : Own w β (o + ksz q)) : (storeVar t ⟨β, o, none⟩ m).run P w = .ok () (setCells w β o m.cells.toList) := by
  obtain ⟨_, h2, h3⟩ := rep_cells h r
  unfold storeVar
  rw [run_bind, run_sizeOf ht]
  simp only [h2, ne_eq, not_true, if_false]
  have := run_storeCells (P := P) (β := β) (o := o) m.cells.toList 0 w h3 (by simpa [h2] using ho)
  simpa using this

theorem mul_lt_place {i j k a : Nat} (h : i < j) (ha : a < k) : i * k + a < j * k := by
  have : (i + 1) * k ≤ j * k := Nat.mul_le_mul_right k h
  rw [Nat.succ_mul] at this
  omega

theorem not_in_place {i j k a b : Nat} (h : i ≠ j) (ha : a < k) (hb : b < k) : i * k + a ≠ j * k + b := by
  rcases Nat.lt_or_gt_of_ne h with h | h
  · have := mul_lt_place h ha; omega
  · have := mul_lt_place h hb; omega

/-- An element of a block of the frame, written. -/
theorem WR.store {φ : Phi} {St Mine : Nat → Prop} {w : World} {H : Nat → Option Blk} {nx b i j : Nat} {B : Blk} {e : V} {us : List Value} {β o : Nat}
    (q : WR φ St Mine w H nx) (hB : H b = some B) (hf : B.fr = false) (hp : φ b = some (β, o, B.k)) (hi : i < B.es.length) (hs : e.size = B.k)
    (hj : j + us.length ≤ B.k)
    (hc : ∀ a c, (cellsOf e)[a]? = some c → (j ≤ a ∧ a < j + us.length ∧ ∃ u, us[a - j]? = some u ∧ Rep φ St w c u) ∨ (¬ (j ≤ a ∧ a < j + us.length) ∧ (∃ d, B.es[i]? = some d ∧ (cellsOf d)[a]? = some c))) :
    WR φ St Mine (setCells w β (o + i * B.k + j) us) (upd H b (some { B with es := B.es.set i e })) nx ∧ Stp St Mine w (setCells w β (o + i * B.k + j) us) := by
  rcases q.blk b B hB with ⟨h1, _⟩ | ⟨β', o', h1, hS, _, ho, hsz, hr⟩
  · rw [h1] at hi; simp at hi
  rw [h1] at hp; cases hp
  have hle : o + i * B.k + j + us.length ≤ o + B.es.length * B.k := by
    have : (i + 1) * B.k ≤ B.es.length * B.k := Nat.mul_le_mul_right _ hi
    rw [Nat.succ_mul] at this; omega
  have hst : Stp St Mine w (setCells w β (o + i * B.k + j) us) := stp_setCells (hS hf) (q.own b B β o B.k hB h1)
  refine ⟨q.write hB h1 hst (fun β' hne _ => setCells_ne hne _ _ _) rfl hf (hS hf) (by simpa using setCells_own ho) ?_ ?_, hst⟩
  · intro x hx
    rcases List.mem_or_eq_of_mem_set hx with hx | rfl
    · exact hsz x hx
    · exact hs
  · intro a x hx
    rw [RepC_iff]
    intro a2 c hc2
    rw [List.getElem?_set] at hx
    have ha2 : a2 < B.k := by
      have h3 := (List.getElem?_eq_some_iff.1 hc2).1
      rw [size_cellsOf] at h3
      split at hx
      · obtain rfl := Option.some.inj hx; omega
      · have := hsz x (List.mem_of_getElem? hx); omega
    rw [setCells_cel ho hle]
    split at hx
    · rename_i hia
      subst hia
      simp only [Option.some.injEq] at hx
      subst hx
      rcases hc a2 c hc2 with ⟨g1, g2, u, g3, g4⟩ | ⟨g1, d, g2, g3⟩
      · refine ⟨u, ?_, Rep.mono (fun _ _ h => h) (fun _ h => h) hst.stab hst.room c u g4⟩
        rw [if_pos (by omega), show o + i * B.k + a2 - (o + i * B.k + j) = a2 - j by omega]; exact g3
      · obtain ⟨u, hu, hru⟩ := RepC_get (hr i d g2) g3
        exact ⟨u, by rw [if_neg (by omega)]; exact hu, Rep.mono (fun _ _ h => h) (fun _ h => h) hst.stab hst.room c u hru⟩
    · rename_i hia
      obtain ⟨u, hu, hru⟩ := RepC_get (hr a x hx) hc2
      refine ⟨u, ?_, Rep.mono (fun _ _ h => h) (fun _ h => h) hst.stab hst.room c u hru⟩
      rw [if_neg]
      · exact hu
      · intro hh
        obtain ⟨d, hd⟩ : ∃ d, a * B.k + a2 = i * B.k + (j + d) := ⟨a * B.k + a2 - (i * B.k + j), by omega⟩
        exact not_in_place (Ne.symm hia) ha2 (show j + d < B.k by omega) hd

/-- A new row: a variable. -/
theorem run_newRow {w : World} {t : TypeId} {cs : Array Value} : (newRow t cs).run P w = .ok ⟨w.heap.size, 0, none⟩ (Push w (.cells cs t)) := by
  simp [newRow, newObj, Sem.run, bind, Sem.bind, pure]

/-- A new block out of values in a new row. -/
theorem WR.row {φ : Phi} {St Mine : Nat → Prop} {w : World} {H : Nat → Option Blk} {nx : Nat} {q : Option Nat} {es : List V} {ms : List Value} {ty : TypeId} {cs : Array Value} (r : WR φ St Mine w H nx)
    (hf : ∀ e ∈ es, e.fits q = true) (hr : RepL φ St w es ms) (hcs : ms.length * ksz q ≤ cs.size)
    (hc : ∀ (i : Nat) m, ms[i]? = some m → ∀ (j : Nat) u, m.cells.toList[j]? = some u → cs[i * ksz q + j]? = some u) :
    WR (upd φ nx (some (w.heap.size, 0, ksz q))) St Mine (Push w (.cells cs ty)) (upd H nx (some { k := ksz q, es := es })) (nx + 1) := by
  refine r.new (by rw [hr.len]; exact hcs) (fun e he => fits_size (hf e he)) fun i e hi j c hj => ?_
  obtain ⟨m, hm, hrm⟩ := hr.get hi
  obtain ⟨h1, h2, h3⟩ := rep_cells (hf e (List.mem_of_getElem? hi)) hrm
  obtain ⟨u, hu, hru⟩ := h1.get hj
  exact ⟨u, hc i m hm j u hu, hru⟩

end Go.Am

/- The A-machine, part 7: each operation that neither calls nor appends. -/
namespace Go.Am
variable {P : Program} {φ : Phi} {St Mine : Nat → Prop} {w : World} {s : S} {act : Act} {o : Oper} {v : V} {s' : S}

theorem run_v {x : Sem Value} {m : Value} {w' : World} (h : x.run P w = .ok m w') : (do pure (Next.value (← x)) : Sem Next).run P w = .ok (.value m) w' := by
  rw [run_bind, h]; rfl

theorem op_mv {x : Operand} (ho : o.op = .move x ∨ o.op = .assign x) {y : O} (hx : toO x = some y) (q : WR φ St Mine w s.H s.nx) (env : EnvR φ St w s.e act.tmps) :
    OpTo φ St Mine w s (val s.e y) s ((execOp act.eval o).run P w) := by
  have : (execOp act.eval o).run P w = .ok (.value (act.eval x)) w := by
    unfold execOp
    rcases ho with ho | ho <;> rw [ho] <;> rfl
  rw [this]
  exact OpTo.pure q (rep_toO env hx)

theorem op_pk {c a b : Operand} (ho : o.op = .pick c a b) {c' a' b' : O} (hc : toO c = some c') (ha : toO a = some a') (hb : toO b = some b') (q : WR φ St Mine w s.H s.nx) (env : EnvR φ St w s.e act.tmps)
    {ca : V → List V → S → Option (V × S)} (h : opA ca s (.pk c' a' b') = some (v, s')) : OpTo φ St Mine w s v s' ((execOp act.eval o).run P w) := by
  have rc := rep_toO env hc
  simp only [opA] at h
  split at h
  · rename_i b0 hv
    rw [hv] at rc
    simp only [Rep] at rc
    obtain ⟨rfl, rfl⟩ := Prod.mk.inj (Option.some.inj h)
    have : (execOp act.eval o).run P w = .ok (.value (if b0 then act.eval a else act.eval b)) w := by
      unfold execOp
      rw [ho]
      simp only
      rw [run_bind, rc]
      rfl
    rw [this]
    refine OpTo.pure q ?_
    cases b0
    · exact rep_toO env hb
    · exact rep_toO env ha
  · cases h

theorem rep_mapM {φ : Phi} {St : Nat → Prop} {w : World} : ∀ {l : List Value} {vs : List V}, l.mapM immV = some vs → RepL φ St w vs l
  | [], vs, h => by simp at h; subst h; simp [RepL]
  | x :: l, vs, h => by
    simp only [List.mapM_cons, Option.bind_eq_bind, Option.pure_def] at h
    obtain ⟨y, hy, h⟩ := Option.bind_eq_some_iff.1 h
    obtain ⟨ys', hys, h⟩ := Option.bind_eq_some_iff.1 h
    obtain rfl := Option.some.inj h
    simp only [RepL]
    exact ⟨_, _, rfl, rep_immV hy, rep_mapM hys⟩

theorem rep_zV {x : Value} {z : V} (h : zV x = some z) : Rep φ St w z x := by
  unfold zV at h
  split at h
  · rename_i cs
    simp only [Option.map_eq_some_iff] at h
    obtain ⟨vs, hv, rfl⟩ := h
    simp only [Rep]
    exact ⟨cs.toList, by simp, rep_mapM hv⟩
  · exact rep_immV h

theorem zeroV_spec {t : TypeId} {z : V} (h : zeroV P t = some z) : ∃ x, (∀ w, (zeroValue t).run P w = .ok x w) ∧ ∀ φ St w, Rep φ St w z x := by
  unfold zeroV at h
  split at h
  · rename_i i hi
    obtain ⟨x, hx, hz⟩ := Option.bind_eq_some_iff.1 h
    refine ⟨x, fun w => ?_, fun φ St w => rep_zV hz⟩
    unfold zeroValue
    rw [run_bind, run_typeInfo hi]
    simp only [hx]
    rfl
  · cases h

/-- A variable made: a block of one element. -/
theorem op_var {t : TypeId} {q' : Option Nat} {z : V} {m : Value} (hf : z.fits q' = true) (hr : Rep φ St w z m) (q : WR φ St Mine w s.H s.nx)
    {x : Sem Next} (hx : x.run P w = .ok (.value (.pointer (some ⟨w.heap.size, 0, none⟩))) (Push w (.cells m.cells t))) :
    OpTo φ St Mine w s (.hp s.nx 0) (s.new (ksz q') [z]) (x.run P w) := by
  obtain ⟨h1, h2, h3⟩ := rep_cells hf hr
  rw [hx]
  refine ⟨_, _, upd φ s.nx (some (w.heap.size, 0, ksz q')), .inl rfl, ?_, ?_, rfl, ext_upd _, by simp [S.new], Stp.push q.stB _⟩
  · simp only [Rep]
    exact ⟨w.heap.size, 0, ksz q', upd_same _ _ _, by simp⟩
  · refine q.row (q := q') (es := [z]) (ms := [m]) (by simpa using hf) (by simp [RepL, hr]) (by simp [h2]) fun i u hi j c hj => ?_
    cases i with
    | zero => simp only [List.getElem?_cons_zero, Option.some.injEq] at hi; subst hi; simpa using hj
    | succ i => simp at hi

theorem op_al {t : TypeId} (ho : o.op = .alloc t) {z : V} {q' : Option Nat} (hz : zeroV P t = some z) (q : WR φ St Mine w s.H s.nx)
    {ca : V → List V → S → Option (V × S)} (h : opA ca s (.al z q') = some (v, s')) : OpTo φ St Mine w s v s' ((execOp act.eval o).run P w) := by
  simp only [opA] at h
  split at h
  · rename_i hf
    obtain ⟨rfl, rfl⟩ := Prod.mk.inj (Option.some.inj h)
    obtain ⟨x, hx, hr⟩ := zeroV_spec hz
    refine op_var (t := t) hf (hr φ St w) q ?_
    unfold execOp
    rw [ho]
    refine run_v ?_
    unfold Instr.alloc
    rw [run_bind, hx]
    simp only [newVar]
    rw [run_bind, run_newRow]
    rfl
  · cases h

theorem op_bx {t : TypeId} {x : Operand} (ho : o.op = .box t x) {y : O} {q' : Option Nat} (hx : toO x = some y) (q : WR φ St Mine w s.H s.nx) (env : EnvR φ St w s.e act.tmps)
    {ca : V → List V → S → Option (V × S)} (h : opA ca s (.bx q' y) = some (v, s')) : OpTo φ St Mine w s v s' ((execOp act.eval o).run P w) := by
  simp only [opA] at h
  split at h
  · rename_i hf
    obtain ⟨rfl, rfl⟩ := Prod.mk.inj (Option.some.inj h)
    refine op_var (t := t) hf (rep_toO env hx) q ?_
    unfold execOp
    rw [ho]
    refine run_v ?_
    unfold Instr.box newVar
    rw [run_bind, run_newRow]
    rfl
  · cases h

theorem op_ld {t : TypeId} {x : Operand} (ho : o.op = .load t x) {y : O} {q' : Option Nat} (hx : toO x = some y) (ht : shp P t = some q') (q : WR φ St Mine w s.H s.nx) (env : EnvR φ St w s.e act.tmps)
    {ca : V → List V → S → Option (V × S)} (h : opA ca s (.ld q' y) = some (v, s')) : OpTo φ St Mine w s v s' ((execOp act.eval o).run P w) := by
  simp only [opA] at h
  split at h
  · rename_i u hu
    split at h
    · rename_i hf
      obtain ⟨rfl, rfl⟩ := Prod.mk.inj (Option.some.inj h)
      obtain ⟨β, off, e, hr⟩ := deref_spec q (rep_toO env hx) hu
      obtain ⟨m, hm, hrep⟩ := run_loadVar ht hf hr
      have : (execOp act.eval o).run P w = .ok (.value m) w := by
        unfold execOp
        rw [ho]
        refine run_v ?_
        unfold Instr.loadAt Instr.sureAddr
        rw [e]
        simp only [pure_bind]
        exact hm
      rw [this]
      exact OpTo.pure q hrep
    · cases h
  · cases h

theorem op_so {t : TypeId} {p x : Operand} (ho : o.op = .store t p x) {p' x' : O} {q' : Option Nat} (hp : toO p = some p') (hx : toO x = some x') (ht : shp P t = some q') (q : WR φ St Mine w s.H s.nx) (env : EnvR φ St w s.e act.tmps)
    {ca : V → List V → S → Option (V × S)} (h : opA ca s (.so q' p' x') = some (v, s')) : OpTo φ St Mine w s v s' ((execOp act.eval o).run P w) := by
  simp only [opA] at h
  split at h
  · rename_i H hH
    obtain ⟨rfl, rfl⟩ := Prod.mk.inj (Option.some.inj h)
    have rp := rep_toO env hp
    have rx := rep_toO env hx
    suffices hs : ∃ β off, act.eval p = .pointer (some ⟨β, off, none⟩) ∧ (storeVar t ⟨β, off, none⟩ (act.eval x)).run P w = .ok () (setCells w β off (act.eval x).cells.toList) ∧
        WR φ St Mine (setCells w β off (act.eval x).cells.toList) H s.nx ∧ Stp St Mine w (setCells w β off (act.eval x).cells.toList) by
      obtain ⟨β, off, e, h1, h2, h3⟩ := hs
      have : (execOp act.eval o).run P w = .ok .skip (setCells w β off (act.eval x).cells.toList) := by
        unfold execOp
        rw [ho]
        simp only
        unfold Instr.storeAt Instr.sureAddr
        rw [e]
        simp only [pure_bind]
        rw [run_bind, h1]
        rfl
      rw [this]
      exact ⟨undef, _, φ, .inr ⟨rfl, rfl⟩, by simp [Rep], h2, rfl, Ext.refl _ _, Nat.le_refl _, h3⟩
    unfold storeAt at hH
    split at hH
    · rename_i b i hpv
      rw [hpv] at rp
      split at hH
      · rename_i B hB
        split at hH
        · rename_i hc
          obtain ⟨c1, c2, c3, c4⟩ := hc
          obtain rfl := Option.some.inj hH
          simp only [Rep] at rp
          obtain ⟨β, o', k, hp', e⟩ := rp
          obtain ⟨h1, h2, h3⟩ := rep_cells c4 rx
          rcases q.blk b B hB with ⟨g1, _⟩ | ⟨β', o'', g1, _, _, ho', _⟩
          · rw [g1] at c2; simp at c2
          rw [g1] at hp'; cases hp'
          have hroom : Own w β (o' + i * B.k + ksz q') := ho'.mono (by
            have : (i + 1) * B.k ≤ B.es.length * B.k := Nat.mul_le_mul_right _ c2
            rw [Nat.succ_mul] at this; omega)
          obtain ⟨w1, w2⟩ := q.store (e := val s.e x') (j := 0) (us := (act.eval x).cells.toList) hB c1 g1 c2 (by rw [c3]; exact fits_size c4) (by simp [h2, c3])
            fun a c hac => by
              obtain ⟨u, hu, hru⟩ := h1.get hac
              exact .inl ⟨Nat.zero_le _, by simpa using (List.getElem?_eq_some_iff.1 hu).1, u, by simpa using hu, hru⟩
          exact ⟨β, _, e, run_storeVar ht c4 rx hroom, by simpa using w1, by simpa using w2⟩
        · cases hH
      · cases hH
    · rename_i b i j hpv
      rw [hpv] at rp
      split at hH
      · rename_i B hB
        split at hH
        · rename_i cs hcs
          split at hH
          · rename_i hc
            obtain ⟨c1, c2, rfl, c4⟩ := hc
            obtain rfl := Option.some.inj hH
            simp only [Rep] at rp
            obtain ⟨β, o', k, hp', e⟩ := rp
            have hfit : (val s.e x').fits none = true := by simpa [V.fits] using c4
            obtain ⟨h1, h2, h3⟩ := rep_cells hfit rx
            have hi : i < B.es.length := (List.getElem?_eq_some_iff.1 hcs).1
            rcases q.blk b B hB with ⟨g1, _⟩ | ⟨β', o'', g1, _, _, ho', hsz, _⟩
            · rw [g1] at hi; simp at hi
            rw [g1] at hp'; cases hp'
            have hk : cs.length = B.k := by have := hsz _ (List.mem_of_getElem? hcs); simpa [V.size] using this
            have hroom : Own w β (o' + i * B.k + j + 1) := ho'.mono (by
              have : (i + 1) * B.k ≤ B.es.length * B.k := Nat.mul_le_mul_right _ hi
              rw [Nat.succ_mul] at this; omega)
            have hus : (act.eval x).cells.toList.length = 1 := by simp [h2, ksz]
            obtain ⟨w1, w2⟩ := q.store (e := .st (cs.set j (val s.e x'))) (j := j) (us := (act.eval x).cells.toList) hB c1 g1 hi (by simp [V.size, hk]) (by rw [hus]; omega)
              fun a c hac => by
                simp only [cellsOf] at hac
                rw [List.getElem?_set] at hac
                split at hac
                · rename_i hja
                  subst hja
                  simp only [Option.some.injEq] at hac
                  subst hac
                  rw [okc_cells c4] at h1
                  obtain ⟨u, hu, hru⟩ := h1.get (i := 0) (v := val s.e x') rfl
                  exact .inl ⟨Nat.le_refl _, by omega, u, by simpa using hu, hru⟩
                · exact .inr ⟨by omega, .st cs, hcs, hac⟩
            exact ⟨β, _, e, run_storeVar ht hfit rx hroom, w1, w2⟩
          · cases hH
        · cases hH
      · cases hH
    · cases hH
  · cases h

end Go.Am
