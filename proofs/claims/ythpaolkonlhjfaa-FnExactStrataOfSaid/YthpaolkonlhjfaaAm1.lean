/- The A-machine, part 1: values as trees, the code without orders, and its evaluation. -/
import Derived.Tactics
import Derived.Still
set_option linter.all false
namespace Go.Am

/-- A value of the A-machine: a tree. 'im': a machine value as it is; 'sl', 'rp': a slice, a pointer whose memory nobody writes; 'ow', 'op': a slice, a pointer
whose memory is its holder's own (between calls alone); 'hs', 'hp', 'hf': a slice, a pointer, a field's pointer into a block of the frame's own; 'e0': a slice of
length and capacity 0. -/
inductive V where
  | im (x : Value)
  | st (cs : List V)
  | tu (vs : List V)
  | sl (es : List V)
  | rp (v : V)
  | e0
  | ow (k : Nat) (es : List V)
  | op (v : V)
  | cl (f : Nat) (cs : List V)
  | hs (b off n c : Nat)
  | hp (b i : Nat)
  | hf (b i j : Nat)
  deriving Inhabited

abbrev V.i (n : Int) : V := .im (.int .i64 n)
abbrev V.u (n : Int) : V := .im (.int .u8 n)
abbrev V.b (b : Bool) : V := .im (.bool b)
abbrev V.s (s : ByteArray) : V := .im (.string s)
abbrev V.un : V := .im undef

/-- How many cells a value takes. -/
def V.size : V → Nat
  | .st cs => cs.length
  | _ => 1

def okm : Value → Bool
  | .agg _ | .tuple _ => false
  | _ => true

/-- May it lie in one cell? -/
def V.okc : V → Bool
  | .im x => okm x
  | .st _ | .tu _ | .ow .. | .op _ => false
  | _ => true

/-- May it be stored: a value of one cell, or a struct of such? -/
def V.okv : V → Bool
  | .st cs => cs.all V.okc
  | v => v.okc

/-- Does it fit a variable that is a struct of n cells (some n), or of one cell (none)? -/
def V.fits : Option Nat → V → Bool
  | some n, .st cs => cs.length == n && cs.all V.okc
  | none, v => v.okc
  | _, _ => false

def ksz : Option Nat → Nat
  | some n => n
  | none => 1

/-! ### The code -/

inductive O where
  | t (n : Nat)
  | n (z : Int)
  | k (v : V)
  deriving Inhabited

inductive A where
  | mv (x : O)
  | pk (c a b : O)
  | al (z : V) (q : Option Nat)
  | bx (q : Option Nat) (x : O)
  | ld (q : Option Nat) (x : O)
  | so (q : Option Nat) (p x : O)
  | bi (op : BinOp) (x y : O)
  | be (neg : Bool) (x y : O)
  | un (op : UnOp) (x : O)
  | cv (k : IntKind) (x : O)
  | fd (j : Nat) (x : O)
  | fa (j : Nat) (x : O)
  | ia (q : Option Nat) (s i : O)
  | ix (s i : O)
  | ss (x : O) (lo hi : Option O)
  | sc (q : Option Nat) (x : O) (lo hi mx : Option O)
  | bs (q : Option Nat) (xs : List O)
  | bd (z : List V) (ps : List (Nat × O))
  | ms (z : V) (q : Option Nat) (l c : O)
  | mf (f : Nat) (xs : List O)
  | ca (f : O) (xs : List O)
  | ap (q : Option Nat) (s x : O)
  | az (q : Option Nat) (z : V) (s x : O)
  | ln (x : O)
  | ls (x : O)
  | mm (mx : Bool) (xs : List O)
  | et (x : O) (i : Nat)
  | sb (x : O)
  | cr (q : Option Nat) (z : V) (x : O)
  | cp (x : O)
  | no
  deriving Inhabited

structure I where
  d : Option Nat
  g : Option (Nat × Bool)
  a : A
  deriving Inhabited

inductive C where
  | skip
  | rg (l : List I)
  | seq (a b : C)
  | cond (c : O) (a b : C)
  | blk (id : Nat) (a : C)
  | lp (a : C)
  | ex (id : Nat)
  | ret
  | no
  deriving Inhabited

/-- What becomes of an argument: read only; taken; written in place. -/
inductive M where
  | ro | tk | io
  deriving DecidableEq, Inhabited

structure F where
  np : Nat
  nt : Nat
  res : List (Nat × Option (Option Nat))
  body : C
  deriving Inhabited

/-! ### The state -/

structure Blk where
  k : Nat
  es : List V
  fr : Bool := false
  deriving Inhabited

structure S where
  e : Nat → V
  H : Nat → Option Blk
  nx : Nat
  fz : Bool := false
  deriving Inhabited

def upd {α : Type} (f : Nat → α) (i : Nat) (v : α) : Nat → α := fun j => if j = i then v else f j
theorem upd_same {α : Type} (f : Nat → α) (i : Nat) (v : α) : upd f i v i = v := by simp [upd]
theorem upd_ne {α : Type} (f : Nat → α) {i j : Nat} (v : α) (h : j ≠ i) : upd f i v j = f j := by simp [upd, h]
theorem upd_at {α : Type} (f : Nat → α) (i j : Nat) (v : α) : upd f i v j = if j = i then v else f j := rfl

def S.put (s : S) (d : Option Nat) (v : V) : S :=
  match d with
  | some d => { s with e := upd s.e d v }
  | none => s

def val (e : Nat → V) : O → V
  | .t n => e n
  | .n z => .i z
  | .k v => v

/-- A new block. -/
def S.new (s : S) (k : Nat) (es : List V) : S := { s with H := upd s.H s.nx (some { k, es }), nx := s.nx + 1 }
def S.blk (s : S) (b : Nat) (x : Option Blk) : S := { s with H := upd s.H b x }

/-- The limit of what a slice may grow to: far above all that a memory bears. -/
def LIM : Nat := 2 ^ 36

def aint (op : BinOp) (k : IntKind) (a b : Int) : Option Value :=
  match op with
  | .add => some (.int k (k.wrap (a + b)))
  | .sub => some (.int k (k.wrap (a - b)))
  | .mul => some (.int k (k.wrap (a * b)))
  | .quo => if b = 0 then none else some (.int k (k.wrap (a.tdiv b)))
  | .rem => if b = 0 then none else some (.int k (a.tmod b))
  | .and => some (.int k (k.wrap (BitVec.ofInt k.bits a &&& BitVec.ofInt k.bits b).toNat))
  | .or => some (.int k (k.wrap (BitVec.ofInt k.bits a ||| BitVec.ofInt k.bits b).toNat))
  | .xor => some (.int k (k.wrap (BitVec.ofInt k.bits a ^^^ BitVec.ofInt k.bits b).toNat))
  | .eql => some (.bool (a == b))
  | .neq => some (.bool (a != b))
  | .lss => some (.bool (a < b))
  | .leq => some (.bool (a ≤ b))
  | .gtr => some (.bool (a > b))
  | .geq => some (.bool (a ≥ b))
  | _ => none

def abin (op : BinOp) (x y : Value) : Option Value :=
  match x, y with
  | .int k a, .int k' b =>
    match op with
    | .shl => if b < 0 then none else some (.int k (k.wrap (a * 2 ^ min b.toNat k.bits)))
    | .shr => if b < 0 then none else some (.int k (a.fdiv (2 ^ min b.toNat k.bits)))
    | _ => if k = k' then aint op k a b else none
  | .string a, .string b =>
    match op with
    | .add => if ((a.size + b.size : Nat) : Int) > IntKind.i64.max then none else some (.string (a ++ b))
    | .eql => some (.bool (a.toList == b.toList))
    | .neq => some (.bool (!(a.toList == b.toList)))
    | _ => none
  | _, _ => none

def aun (op : UnOp) (x : Value) : Option Value :=
  match op, x with
  | .neg, .int k n => some (.int k (k.wrap (0 - n)))
  | .not, .bool b => some (.bool !b)
  | _, _ => none

/-- The elements that a slice shows. -/
def elems (H : Nat → Option Blk) : V → Option (List V)
  | .sl es => some es
  | .e0 => some []
  | .hs b off n _ =>
    if n = 0 then some [] else
    match H b with
    | some B => if off + n ≤ B.es.length then some ((B.es.drop off).take n) else none
    | none => none
  | _ => none

def vlen : V → Option Nat
  | .sl es => some es.length
  | .hs _ _ n _ => some n
  | .e0 => some 0
  | _ => none

def asI : V → Option Int
  | .im (.int _ n) => some n
  | _ => none

/-- What a pointer points to. -/
def deref (H : Nat → Option Blk) : V → Option V
  | .rp v => some v
  | .hp b i => (H b).bind fun B => B.es[i]?
  | .hf b i j => (H b).bind fun B => match B.es[i]? with | some (.st cs) => (cs[j]?).bind fun c => if c.okc = true then some c else none | _ => none
  | _ => none

/-- The list with what lies from place i on written over. -/
def splice (l : List V) (i : Nat) (xs : List V) : List V := l.take i ++ xs ++ l.drop (i + xs.length)

def storeAt (H : Nat → Option Blk) (q : Option Nat) (p x : V) : Option (Nat → Option Blk) :=
  match p with
  | .hp b i =>
    match H b with
    | some B => if B.fr = false ∧ i < B.es.length ∧ B.k = ksz q ∧ x.fits q = true then some (upd H b (some { B with es := B.es.set i x })) else none
    | none => none
  | .hf b i j =>
    match H b with
    | some B =>
      match B.es[i]? with
      | some (.st cs) => if B.fr = false ∧ j < cs.length ∧ q = none ∧ x.okc = true then some (upd H b (some { B with es := B.es.set i (.st (cs.set j x)) })) else none
      | _ => none
    | none => none
  | _ => none

def bndOf (d : Nat) : Option V → Option Int
  | none => some d
  | some v => asI v

def isZ : Option V → Bool
  | some v => asI v == some 0
  | none => false

/-- x[lo:hi]; of the slices with a third index x[0:0:0] alone. -/
def sliceOf (x : V) (lo hi mx : Option V) : Option V :=
  match mx with
  | some m =>
    match x with
    | .e0 | .sl _ | .hs .. => if bndOf 0 lo = some 0 ∧ isZ hi = true ∧ asI m = some 0 then some .e0 else none
    | _ => none
  | none =>
    match x with
    | .e0 => if bndOf 0 lo = some 0 ∧ bndOf 0 hi = some 0 then some .e0 else none
    | .sl es =>
      match bndOf 0 lo, bndOf es.length hi with
      | some l, some h => if 0 ≤ l ∧ l ≤ h ∧ h ≤ es.length then some (.sl ((es.take h.toNat).drop l.toNat)) else none
      | _, _ => none
    | .hs b off n c =>
      match bndOf 0 lo, bndOf n hi with
      | some l, some h => if 0 ≤ l ∧ l ≤ h ∧ h ≤ c then some (.hs b (off + l.toNat) (h - l).toNat (c - l.toNat)) else none
      | _, _ => none
    | _ => none

def appendTo (s : S) (q : Option Nat) (x : V) (src : List V) : Option (V × S) :=
  let k := ksz q
  match x with
  | .e0 => if src = [] then some (.e0, s) else if src.length ≤ LIM then some (.hs s.nx 0 src.length src.length, s.new k src) else none
  | .hs b off n c =>
    match s.H b with
    | some B =>
      if B.k = k ∧ B.fr = false ∧ n + src.length ≤ LIM then
        if n + src.length ≤ c then
          if off + n ≤ B.es.length then some (.hs b off (n + src.length) c, s.blk b (some { B with es := splice B.es (off + n) src })) else none
        else if off + n = B.es.length then
          some (.hs s.nx 0 (n + src.length) (n + src.length), (s.blk b none).new k (B.es.drop off ++ src))
        else none
      else none
    | none => none
  | _ => none


/-! ### Between a frame and its callee: snapshots, hand-overs, take-overs -/

def overL (f : V → Option (V × List Nat)) : List V → Option (List V × List Nat)
  | [] => some ([], [])
  | v :: vs =>
    match f v with
    | some (t, i) => match overL f vs with | some (ts, j) => some (t :: ts, i ++ j) | none => none
    | none => none

/-- A value as the callee reads it, with the blocks that it lies in. -/
def snap : Nat → (Nat → Option Blk) → V → Option (V × List Nat)
  | 0, _, _ => none
  | d + 1, H, v =>
    match v with
    | .im x => some (.im x, [])
    | .st cs => match overL (snap d H) cs with | some (ts, i) => some (.st ts, i) | none => none
    | .tu cs => match overL (snap d H) cs with | some (ts, i) => some (.tu ts, i) | none => none
    | .cl f cs => match overL (snap d H) cs with | some (ts, i) => some (.cl f ts, i) | none => none
    | .sl es => some (.sl es, [])
    | .rp v => some (.rp v, [])
    | .e0 => some (.sl [], [])
    | .hs b off n _ =>
      if n = 0 then some (.sl [], []) else
      match H b with
      | some B =>
        if off + n ≤ B.es.length then
          match overL (snap d H) ((B.es.drop off).take n) with | some (ts, i) => some (.sl ts, b :: i) | none => none
        else none
      | none => none
    | .hp b i =>
      match H b with
      | some B => match B.es[i]? with
        | some v => match snap d H v with | some (t, j) => some (.rp t, b :: j) | none => none
        | none => none
      | none => none
    | .hf b i j =>
      match H b with
      | some B => match B.es[i]? with
        | some (.st cs) => match cs[j]? with
          | some v => if v.okc = true then match snap d H v with | some (t, j) => some (.rp t, b :: j) | none => none else none
          | none => none
        | _ => none
      | none => none
    | .ow _ _ | .op _ => none

/-- A value handed over with its memory, and the blocks that go with it. -/
def give : Nat → (Nat → Option Blk) → V → Option (V × List Nat)
  | 0, _, _ => none
  | d + 1, H, v =>
    match v with
    | .im x => some (.im x, [])
    | .st cs => match overL (give d H) cs with | some (ts, i) => some (.st ts, i) | none => none
    | .tu cs => match overL (give d H) cs with | some (ts, i) => some (.tu ts, i) | none => none
    | .cl f cs => match overL (give d H) cs with | some (ts, i) => some (.cl f ts, i) | none => none
    | .sl es => some (.sl es, [])
    | .rp v => some (.rp v, [])
    | .e0 => some (.e0, [])
    | .hs b off n _ =>
      match H b with
      | some B =>
        if off + n ≤ B.es.length then
          match overL (give d H) ((B.es.drop off).take n) with | some (ts, i) => some (.ow B.k ts, b :: i) | none => none
        else none
      | none => none
    | .hp b i =>
      match H b with
      | some B =>
        if i = 0 ∧ B.es.length = 1 then
          match overL (give d H) B.es with | some ([t], j) => some (.op t, b :: j) | _ => none
        else none
      | none => none
    | .hf _ _ _ | .ow _ _ | .op _ => none

/-- A value lent: an empty slice goes as one that is only read. -/
def lend1 (H : Nat → Option Blk) : V → Option (V × List Nat)
  | .hs b off n c => if n = 0 then some (.sl [], []) else give 8 H (.hs b off n c)
  | v => give 8 H v
def lend (H : Nat → Option Blk) : V → Option (V × List Nat)
  | .st cs => match overL (lend1 H) cs with | some (ts, i) => some (.st ts, i) | none => none
  | v => lend1 H v

def takeL (f : V → S → Option (V × S)) : List V → S → Option (List V × S)
  | [], s => some ([], s)
  | v :: vs, s =>
    match f v s with
    | some (t, s1) => match takeL f vs s1 with | some (ts, s2) => some (t :: ts, s2) | none => none
    | none => none

/-- A value taken over: its memory becomes blocks of the frame's own. -/
def takeIn : Nat → V → S → Option (V × S)
  | 0, _, _ => none
  | d + 1, v, s =>
    match v with
    | .im x => some (.im x, s)
    | .st cs => match takeL (takeIn d) cs s with | some (vs, s1) => some (.st vs, s1) | none => none
    | .tu cs => match takeL (takeIn d) cs s with | some (vs, s1) => some (.tu vs, s1) | none => none
    | .cl f cs => match takeL (takeIn d) cs s with | some (vs, s1) => some (.cl f vs, s1) | none => none
    | .sl es => some (.sl es, s)
    | .rp v => some (.rp v, s)
    | .e0 => some (.e0, s)
    | .ow k es => match takeL (takeIn d) es s with | some (vs, s1) => some (.hs s1.nx 0 vs.length vs.length, s1.new k vs) | none => none
    | .op v => match takeIn d v s with | some (v, s1) => some (.hp s1.nx 0, s1.new v.size [v]) | none => none
    | .hs .. | .hp .. | .hf .. => none

def DEP : Nat := 8

/-- Is no memory shared with what was handed in? -/
def allL (f : V → Bool) : List V → Bool
  | [] => true
  | v :: vs => f v && allL f vs
def free : Nat → V → Bool
  | 0, _ => false
  | d + 1, v =>
    match v with
    | .im _ | .e0 => true
    | .st cs | .tu cs | .cl _ cs | .ow _ cs => allL (free d) cs
    | .op v => free d v
    | _ => false

def kill (H : Nat → Option Blk) (ids : List Nat) : Nat → Option Blk := fun b => if b ∈ ids then none else H b
def freeze (H : Nat → Option Blk) (ids : List Nat) : Nat → Option Blk := fun b => if b ∈ ids then (H b).map (fun B => { B with fr := true }) else H b
def S.mem (s : S) (H : Nat → Option Blk) : S := { s with H := H }

/-- The arguments as they are handed over: the trees; the blocks that are read; the blocks that go over. -/
def handL (H : Nat → Option Blk) : List M → List V → Option (List V × List Nat × List Nat)
  | _, [] => some ([], [], [])
  | ms, v :: vs =>
    match (match ms.headD .ro with
      | .ro => (snap DEP H v).map fun x => (x.1, x.2, ([] : List Nat))
      | .tk => (give DEP H v).map fun x => (x.1, ([] : List Nat), x.2)
      | .io => (lend H v).map fun x => (x.1, ([] : List Nat), x.2)) with
    | some (t, r, o) =>
      match handL H ms.tail vs with
      | some (ts, rs, os) => some (t :: ts, r ++ rs, o ++ os)
      | none => none
    | none => none

/-- What was lent comes back: the blocks of the roots, written anew. 'old': the blocks as they were. (An empty slice's block is gone.) -/
def backV (old : Nat → Option Blk) : V → V → S → Option S
  | .hs b off n _, .ow k es, s =>
    if es = [] then (if n = 0 then some s else none) else
    match old b with
    | some B =>
      if off = 0 ∧ n = B.es.length ∧ es.length = n ∧ k = B.k then
        match takeL (takeIn DEP) es s with | some (vs, s1) => some (s1.blk b (some { k := k, es := vs })) | none => none
      else none
    | none => none
  | .hp b i, .op v, s =>
    match old b with
    | some B => if i = 0 ∧ B.k = v.size then match takeIn DEP v s with | some (v, s1) => some (s1.blk b (some { k := v.size, es := [v] })) | none => none else none
    | none => none
  | .hs _ _ n _, .sl es, s => if n = 0 ∧ es = [] then some s else none
  | .im _, .im _, s | .e0, .e0, s | .sl _, .sl _, s | .rp _, .rp _, s => some s
  | _, _, _ => none
def backVs (old : Nat → Option Blk) : List V → List V → S → Option S
  | [], [], s => some s
  | v :: vs, t :: ts, s => match backV old v t s with | some s1 => backVs old vs ts s1 | none => none
  | _, _, _ => none
def back1 (old : Nat → Option Blk) : V → V → S → Option S
  | .st vs, .st ts, s => backVs old vs ts s
  | v, t, s => backV old v t s
def backL (old : Nat → Option Blk) : List V → List V → S → Option S
  | [], [], s => some s
  | v :: vs, t :: ts, s => match back1 old v t s with | some s1 => backL old vs ts s1 | none => none
  | _, _, _ => none

def lent {α : Type} : List M → List α → List α
  | _, [] => []
  | ms, v :: vs => match ms.headD .ro with | .io => v :: lent ms.tail vs | _ => lent ms.tail vs

inductive R where
  | n (s : S)
  | x (id : Nat) (s : S)
  | r (s : S)

structure Env where
  T : Nat → Option F
  md : Nat → Option (List M)
  pr : Nat → Option (List V → Option (V × List V))

def envOf (vs : List V) : Nat → V := fun i => vs.getD i .un

def resV (s : S) : Nat × Option (Option Nat) → Option V
  | (t, none) => some (s.e t)
  | (t, some q) => match deref s.H (s.e t) with | some v => if v.fits q then some v else none | none => none
def resL (s : S) : List (Nat × Option (Option Nat)) → Option (List V)
  | [] => some []
  | x :: xs => match resV s x, resL s xs with | some v, some vs => some (v :: vs) | _, _ => none
def resOf (s : S) (l : List (Nat × Option (Option Nat))) : Option V :=
  match resL s l with
  | some [v] => some v
  | some vs => some (.tu vs)
  | none => none

/-- The call of a function on trees. -/
def isoCall (Γ : Env) (exk : C → S → Option R) (f : Nat) (ms : List M) (args : List V) : Option (V × List V) :=
  match Γ.pr f with
  | some p => p args
  | none =>
    match Γ.T f with
    | some F =>
      if args.length = F.np then
        match takeL (takeIn DEP) args { e := fun _ => .un, H := fun _ => none, nx := 0 } with
        | some (vals, s0) =>
          match exk F.body { e := envOf vals, H := s0.H, nx := s0.nx } with
          | some (.n s) | some (.r s) =>
            match resOf s F.res with
            | some v =>
              match give DEP s.H v, overL (give DEP s.H) (lent ms vals) with
              | some (t, i), some (ts, j) =>
                if (i ++ j).Nodup ∧ (s.fz = false ∨ (free DEP t = true ∧ allL (free DEP) ts = true)) then some (t, ts) else none
              | _, _ => none
            | none => none
          | _ => none
        | none => none
      else none
    | none => none

def callV (Γ : Env) (exk : C → S → Option R) (fv : V) (args : List V) (s : S) : Option (V × S) :=
  match (match fv with
    | .cl f caps => some (f, caps)
    | .im (.func (.func f) first caps) => if first = #[] ∧ caps = #[] then some (f, []) else none
    | _ => none) with
  | none => none
  | some (f, caps) =>
    match Γ.md f with
    | none =>
      match Γ.T f with
      | some F =>
        if (args ++ caps).length = F.np then
          match exk F.body { s with e := envOf (args ++ caps) } with
          | some (.n s1) | some (.r s1) =>
            match resOf s1 F.res with
            | some v => some (v, { s with H := s1.H, nx := s1.nx, fz := s1.fz })
            | none => none
          | _ => none
        else none
      | none => none
    | some ms =>
      match handL s.H ms (args ++ caps) with
      | some (ts, rs, os) =>
        if os.Nodup ∧ (∀ b ∈ os, b ∉ rs) ∧ os.all (fun b => match s.H b with | some B => !B.fr | none => true) = true then
          match isoCall Γ exk f ms ts with
          | some (t, us) =>
            match backL s.H (lent ms (args ++ caps)) us (if free DEP t = true ∧ allL (free DEP) us = true then s.mem (kill s.H os) else { s with H := freeze (kill s.H os) rs, fz := s.fz || !rs.isEmpty }) with
            | some s1 => takeIn DEP t s1
            | none => none
          | none => none
        else none
      | none => none

def mmx (mx : Bool) (a b : Int) : Int := if mx then (if b > a then b else a) else (if b < a then b else a)
def bytesOf : List V → Option (List UInt8)
  | [] => some []
  | .im (.int .u8 n) :: l => match bytesOf l with | some bs => some (n.toNat.toUInt8 :: bs) | none => none
  | _ => none

def opA (ca : V → List V → S → Option (V × S)) (s : S) (a : A) : Option (V × S) :=
  let v := val s.e
  match a with
  | .mv x => some (v x, s)
  | .pk c a b => match v c with | .im (.bool c) => some (if c then v a else v b, s) | _ => none
  | .al z q => if z.fits q then some (.hp s.nx 0, s.new (ksz q) [z]) else none
  | .bx q x => if (v x).fits q then some (.hp s.nx 0, s.new (ksz q) [v x]) else none
  | .ld q x => match deref s.H (v x) with | some y => if y.fits q then some (y, s) else none | none => none
  | .so q p x => match storeAt s.H q (v p) (v x) with | some H => some (.un, { s with H := H }) | none => none
  | .bi op x y => match v x, v y with | .im x, .im y => (abin op x y).map fun z => (.im z, s) | _, _ => none
  | .be neg x y => match v x, v y with | .im (.bool x), .im (.bool y) => some (.b (if neg then !(x == y) else x == y), s) | _, _ => none
  | .un op x => match v x with | .im x => (aun op x).map fun z => (.im z, s) | _ => none
  | .cv k x => match v x with | .im (.int _ n) => some (.im (.int k (k.wrap n)), s) | _ => none
  | .fd j x => match v x with | .st cs => (cs[j]?).map fun c => (c, s) | _ => none
  | .fa j x =>
    match v x with
    | .rp (.st cs) => (cs[j]?).bind fun c => if c.okc = true then some (.rp c, s) else none
    | .hp b i => some (.hf b i j, s)
    | _ => none
  | .ia q x i =>
    match asI (v i), v x with
    | some i, .sl es => match (if 0 ≤ i then es[i.toNat]? else none) with | some e => if e.size = ksz q then some (.rp e, s) else none | none => none
    | some i, .hs b off n _ => match s.H b with | some B => if 0 ≤ i ∧ i < n ∧ B.k = ksz q then some (.hp b (off + i.toNat), s) else none | none => none
    | _, _ => none
  | .ix x i => match asI (v i), v x with
    | some i, .im (.string x) => match (if 0 ≤ i then x[i.toNat]? else none) with | some b => some (.u b.toNat, s) | none => none
    | _, _ => none
  | .ss x lo hi => match v x with
    | .im (.string x) => match bndOf 0 (lo.map v), bndOf x.size (hi.map v) with
      | some l, some h => if 0 ≤ l ∧ l ≤ h ∧ h ≤ x.size then some (.s (x.extract l.toNat h.toNat), s) else none
      | _, _ => none
    | _ => none
  | .sc q x lo hi mx => match v x with
    | .hs b off n c => if c = 0 then (sliceOf (.hs b off n c) (lo.map v) (hi.map v) (mx.map v)).map fun y => (y, s) else match s.H b with
      | some B => if B.k = ksz q then (sliceOf (.hs b off n c) (lo.map v) (hi.map v) (mx.map v)).map fun y => (y, s) else none
      | none => none
    | .sl es => if es.all (fun e => e.fits q) then (sliceOf (.sl es) (lo.map v) (hi.map v) (mx.map v)).map fun y => (y, s) else none
    | .e0 => (sliceOf .e0 (lo.map v) (hi.map v) (mx.map v)).map fun y => (y, s)
    | _ => none
  | .bs q xs => if (xs.map v).all (·.fits q) then some (.hs s.nx 0 xs.length xs.length, s.new (ksz q) (xs.map v)) else none
  | .bd z ps => if (ps.map fun p => v p.2).all V.okc then some (.st (ps.foldl (fun cs p => cs.set p.1 (v p.2)) z), s) else none
  | .ms z q l c => match v l, v c with
    | .im (.int _ l), .im (.int _ c) => if 0 ≤ l ∧ l ≤ c ∧ c ≤ LIM ∧ z.fits q then some (.hs s.nx 0 l.toNat c.toNat, s.new (ksz q) (List.replicate c.toNat z)) else none
    | _, _ => none
  | .mf f xs => if (xs.map v).all V.okc then some (.cl f (xs.map v), s) else none
  | .ca f xs => ca (v f) (xs.map v) s
  | .ap q x y => match elems s.H (v y) with
    | some src => if src.all (·.fits q) then appendTo s q (v x) src else none
    | none => none
  | .az q z x n => match v n with
    | .im (.int _ n) => if 0 < n ∧ n ≤ LIM ∧ z.fits q ∧ 0 < ksz q then appendTo s q (v x) (List.replicate n.toNat z) else none
    | _ => none
  | .ln x => match vlen (v x) with | some n => some (.i (n : Nat), s) | none => none
  | .ls x => match v x with | .im (.string x) => some (.i x.size, s) | _ => none
  | .mm mx xs => match xs.map v with
    | [.im (.int .i64 a), .im (.int .i64 b)] => some (.i (mmx mx a b), s)
    | [.im (.int .i64 a), .im (.int .i64 b), .im (.int .i64 c)] => some (.i (mmx mx (mmx mx a b) c), s)
    | _ => none
  | .et x i => match v x with | .tu vs => (vs[i]?).map fun y => (y, s) | _ => none
  | .sb x => match elems s.H (v x) with
    | some src => match bytesOf src with | some l => some (.s ⟨l.toArray⟩, s) | none => none
    | none => none
  | .cr q z x => match v x with
    | .e0 => some (.un, s)
    | .hs b off n _ => match s.H b with
      | some B => if B.fr = false ∧ B.k = ksz q ∧ z.fits q = true ∧ off + n ≤ B.es.length then some (.un, { s with H := upd s.H b (some { B with es := splice B.es off (List.replicate n z) }) }) else none
      | none => none
    | _ => none
  | .cp x => match v x with | .e0 => some (.i 0, s) | _ => none
  | .no => none

def runI (ca : V → List V → S → Option (V × S)) : List I → S → Option S
  | [], s => some s
  | o :: l, s =>
    match (match o.g with
      | none => some true
      | some (t, w) => match s.e t with | .im (.bool b) => some (b == w) | _ => none) with
    | some true => match opA ca s o.a with | some (v, s1) => runI ca l (s1.put o.d v) | none => none
    | some false => runI ca l (s.put o.d .un)
    | none => none

def ex (Γ : Env) : Nat → C → S → Option R
  | 0, _, _ => none
  | k + 1, c, s =>
    match c with
    | .skip => some (.n s)
    | .rg l => match runI (callV Γ (ex Γ k)) l s with | some s1 => some (.n s1) | none => none
    | .seq a b => match ex Γ k a s with
      | some (.n s1) => ex Γ k b s1
      | r => r
    | .cond o a b => match val s.e o with
      | .im (.bool true) => ex Γ k a s
      | .im (.bool false) => ex Γ k b s
      | _ => none
    | .blk id a => match ex Γ k a s with
      | some (.x j s1) => if j = id then some (.n s1) else some (.x j s1)
      | r => r
    | .lp a => match ex Γ k a s with
      | some (.n s1) => ex Γ k (.lp a) s1
      | r => r
    | .ex id => some (.x id s)
    | .ret => some (.r s)
    | .no => none

end Go.Am
