/- The B-machine, part 1: the A-machine with packed memory and canonical states. -/
import Derived.Test.YthpaolkonlhjfaaAm21
set_option linter.all false
namespace Go.Am

/-- Handing over, of slices and boxes that fill their blocks. -/
def giveX : Nat → (Nat → Option Blk) → V → Option (V × List Nat)
  | 0, _, _ => none
  | d + 1, H, v =>
    match v with
    | .im x => some (.im x, [])
    | .st cs => match overL (giveX d H) cs with | some (ts, i) => some (.st ts, i) | none => none
    | .cl f cs => if cs = [] then some (.cl f [], []) else none
    | .sl es => some (.sl es, [])
    | .rp v => some (.rp v, [])
    | .e0 => some (.e0, [])
    | .hs b off n c =>
      match H b with
      | some B =>
        if off = 0 ∧ n = B.es.length ∧ c = n then
          match overL (giveX d H) B.es with | some (ts, i) => some (.ow B.k ts, b :: i) | none => none
        else none
      | none => none
    | .hp b i =>
      match H b with
      | some B =>
        if i = 0 then
          match B.es with
          | [e] => match giveX d H e with | some (t, j) => if B.k = t.size then some (.op t, b :: j) else none | none => none
          | _ => none
        else none
      | none => none
    | .tu _ | .hf _ _ _ | .ow _ _ | .op _ => none

/-- A pure tree of at most this depth. -/
def okD : Nat → V → Bool
  | 0, _ => false
  | d + 1, v =>
    match v with
    | .im _ | .sl _ | .rp _ | .e0 => true
    | .st cs | .ow _ cs => allL (okD d) cs
    | .cl _ cs => cs.isEmpty
    | .op v => okD d v
    | _ => false

def pkd : V → Bool
  | .ow _ _ | .op _ => true
  | _ => false

/-- A pure tree as it is read. -/
def roT : Nat → V → Option V
  | 0, _ => none
  | d + 1, v =>
    let go : List V → Option (List V) := fun cs => match overL (fun c => (roT d c).map fun t => (t, [])) cs with | some (ts, _) => some ts | none => none
    match v with
    | .im x => some (.im x)
    | .st cs => (go cs).map .st
    | .cl f cs => (go cs).map (.cl f)
    | .sl es => some (.sl es)
    | .rp v => some (.rp v)
    | .e0 => some (.sl [])
    | .ow _ es => (go es).map .sl
    | .op v => (roT d v).map .rp
    | _ => none

def snapB : Nat → (Nat → Option Blk) → V → Option (V × List Nat)
  | 0, _, _ => none
  | d + 1, H, v =>
    match v with
    | .im x => some (.im x, [])
    | .st cs => match overL (snapB d H) cs with | some (ts, i) => some (.st ts, i) | none => none
    | .cl f cs => match overL (snapB d H) cs with | some (ts, i) => some (.cl f ts, i) | none => none
    | .sl es => some (.sl es, [])
    | .rp v => some (.rp v, [])
    | .e0 => some (.sl [], [])
    | .hs b off n _ =>
      match H b with
      | some B =>
        if off + n ≤ B.es.length then
          match overL (snapB d H) ((B.es.drop off).take n) with | some (ts, i) => some (.sl ts, b :: i) | none => none
        else none
      | none => none
    | .hp b i =>
      match H b with
      | some B => match B.es[i]? with
        | some v => match snapB d H v with | some (t, j) => some (.rp t, b :: j) | none => none
        | none => none
      | none => none
    | .ow k es => (roT (d + 1) (.ow k es)).map fun t => (t, [])
    | .op v => (roT (d + 1) (.op v)).map fun t => (t, [])
    | .tu _ | .hf _ _ _ => none

def giveB : Nat → (Nat → Option Blk) → V → Option (V × List Nat)
  | 0, _, _ => none
  | d + 1, H, v =>
    match v with
    | .im x => some (.im x, [])
    | .st cs => match overL (giveB d H) cs with | some (ts, i) => some (.st ts, i) | none => none
    | .tu cs => match cs with
      | [] => none
      | c :: cs => match overL (giveB d H) (c :: cs) with | some (ts, i) => some (.tu ts, i) | none => none
    | .cl f cs => if cs = [] then some (.cl f [], []) else none
    | .sl es => some (.sl es, [])
    | .rp v => some (.rp v, [])
    | .e0 => some (.e0, [])
    | .hs b off n _ =>
      match H b with
      | some B =>
        if off + n ≤ B.es.length then
          match overL (giveB d H) ((B.es.drop off).take n) with | some (ts, i) => some (.ow B.k ts, b :: i) | none => none
        else none
      | none => none
    | .hp b i =>
      match H b with
      | some B =>
        if i = 0 then
          match B.es with
          | [e] => match giveB d H e with | some (t, j) => some (.op t, b :: j) | none => none
          | _ => none
        else none
      | none => none
    | .ow k es => if okD (d + 1) (.ow k es) then some (.ow k es, []) else none
    | .op v => if okD (d + 1) (.op v) then some (.op v, []) else none
    | .hf _ _ _ => none

/-- A value lent: an empty slice goes as one that is only read. -/
def lendB1 (H : Nat → Option Blk) : V → Option (V × List Nat)
  | .hs b off n c => if n = 0 then some (.sl [], []) else giveB 8 H (.hs b off n c)
  | v => giveB 8 H v
def lendB (H : Nat → Option Blk) : V → Option (V × List Nat)
  | .st cs => match overL (lendB1 H) cs with | some (ts, i) => some (.st ts, i) | none => none
  | v => lendB1 H v

/-- A place of which nothing is known any more. -/
abbrev V.dd : V := .tu []

/-- Taken over, the top alone. -/
def takeB : Nat → V → S → Option (V × S)
  | 0, _, _ => none
  | d + 1, v, s =>
    match v with
    | .im x => some (.im x, s)
    | .st cs => match takeL (takeB d) cs s with | some (vs, s1) => some (.st vs, s1) | none => none
    | .tu cs => match takeL (takeB d) cs s with | some (vs, s1) => some (.tu vs, s1) | none => none
    | .cl f cs => match takeL (takeB d) cs s with | some (vs, s1) => some (.cl f vs, s1) | none => none
    | .sl es => some (.sl es, s)
    | .rp v => some (.rp v, s)
    | .e0 => some (.e0, s)
    | .ow k es => if okD (d + 1) (.ow k es) then some (.hs s.nx 0 es.length es.length, s.new k es) else none
    | .op v => if okD (d + 1) (.op v) then some (.hp s.nx 0, s.new v.size [v]) else none
    | .hs .. | .hp .. | .hf .. => none

/-- A packed value is given a block of its own. -/
def unp1 : V → S → Option (V × S)
  | .ow k es, s => some (.hs s.nx 0 es.length es.length, s.new k es)
  | .op v, s => some (.hp s.nx 0, s.new v.size [v])
  | v, s => some (v, s)
def unp (v : V) (s : S) : Option (V × S) :=
  match v with
  | .st cs => match takeL unp1 cs s with | some (vs, s1) => some (.st vs, s1) | none => none
  | v => unp1 v s

def V.pkc (v : V) : Bool := v.okc || pkd v
/-- What a pointer points to, packed or not. -/
def derefB (H : Nat → Option Blk) : V → Option V
  | .rp v => some v
  | .hp b i => (H b).bind fun B => B.es[i]?
  | .hf b i j => (H b).bind fun B => match B.es[i]? with | some (.st cs) => (cs[j]?).bind fun c => if c.pkc then some c else none | _ => none
  | _ => none
def putB (H : Nat → Option Blk) (p x : V) : Nat → Option Blk :=
  match p with
  | .hp b i => match H b with | some B => upd H b (some { B with es := B.es.set i x }) | none => H
  | .hf b i j => match H b with
    | some B => match B.es[i]? with | some (.st cs) => upd H b (some { B with es := B.es.set i (.st (cs.set j x)) }) | _ => H
    | none => H
  | _ => H
def V.fitsB : Option Nat → V → Bool
  | some n, .st cs => cs.length == n && cs.all V.pkc
  | none, v => v.pkc
  | _, _ => false

def isUn : V → Bool
  | .im (.tuple x) => x.size == 0
  | _ => false

def A.os : A → List O
  | .mv _ | .pk .. | .al .. | .no => []
  | .bx _ x | .ld _ x | .un _ x | .cv _ x | .fd _ x | .fa _ x | .ln x | .ls x | .et x _ | .sb x | .cr _ _ x | .cp x => [x]
  | .so _ a b | .bi _ a b | .be _ a b | .ia _ a b | .ix a b | .ms _ _ a b | .ap _ a b | .az _ _ a b => [a, b]
  | .ss x lo hi => x :: (lo.toList ++ hi.toList)
  | .sc _ x lo hi mx => x :: (lo.toList ++ hi.toList ++ mx.toList)
  | .bs _ xs | .mf _ xs | .mm _ xs => xs
  | .bd _ ps => ps.map fun p => p.2
  | .ca f xs => f :: xs

/-- A value without memory. -/
def pln : V → Bool
  | .im _ | .e0 => true
  | .st cs => cs.all fun c => match c with | .im _ | .e0 => true | _ => false
  | _ => false
def A.zok : A → Bool
  | .al z _ | .ms z _ _ _ | .az _ z _ _ | .cr _ z _ => pln z
  | .bd z _ => z.all fun c => match c with | .im _ | .e0 => true | _ => false
  | _ => true

def O.kok : O → Bool
  | .k v => match v with | .im _ | .e0 | .cl _ [] => true | _ => false
  | _ => true
def A.oks : A → List O
  | .mv x => [x]
  | .pk c a b => [c, a, b]
  | a => a.os
/-- The constants of an operation name no memory. -/
def A.sok (a : A) : Bool := a.zok && a.oks.all O.kok

def ldB (s : S) (q : Option Nat) (p : V) : Option (V × S) :=
  match derefB s.H p with
  | some y =>
    if y.fits q then some (y, s) else
    if y.fitsB q then
      match unp y s with
      | some (v, s1) => some (v, { s1 with H := putB s1.H p v })
      | none => none
    else none
  | none => none

def opB (ca : V → List V → S → Option (V × S)) (s : S) (a : A) : Option (V × S) :=
  match a with
  | .ld q x => ldB s q (val s.e x)
  | .ca f xs => if (f :: xs).all fun x => !isUn (val s.e x) then ca (val s.e f) (xs.map (val s.e)) s else none
  | a => opA ca s a

def runB (ca : V → List V → S → Option (V × S)) : List I → S → Option S
  | [], s => some s
  | o :: l, s =>
    match guardA s.e o.g with
    | some true => match opB ca s o.a with | some (v, s1) => runB ca l (s1.put o.d v) | none => none
    | some false => runB ca l (s.put o.d .un)
    | none => none

/-! ### Code -/
inductive CB where
  | skip
  | rg (l : List I)
  | seq (a b : CB)
  | cond (c : O) (a b : CB)
  | blk (id : Nat) (a : CB)
  | lp (a : CB)
  | ex (id : Nat)
  | ret
  | no
  | nm (L : List Nat) (a : CB)
  | dp (x i : Nat) (a : CB)
  deriving Inhabited

def CB.er : CB → C
  | .skip => .skip
  | .rg l => .rg l
  | .seq a b => .seq a.er b.er
  | .cond c a b => .cond c a.er b.er
  | .blk id a => .blk id a.er
  | .lp a => .lp a.er
  | .ex id => .ex id
  | .ret => .ret
  | .no => .no
  | .nm _ a => a.er
  | .dp _ _ a => a.er

/-- All constants of the code are plain. -/
def CB.sok : CB → Bool
  | .rg l => l.all fun i => i.a.sok
  | .seq a b => a.sok && b.sok
  | .cond c a b => c.kok && a.sok && b.sok
  | .blk _ a | .lp a | .nm _ a | .dp _ _ a => a.sok
  | _ => true
/-- These variables stay as they are. -/
def CB.keeps (n : List Nat) : CB → Bool
  | .rg l => l.all fun i => match i.d with | some d => !n.contains d | none => true
  | .seq a b | .cond _ a b => a.keeps n && b.keeps n
  | .blk _ a | .lp a | .nm _ a | .dp _ _ a => a.keeps n
  | _ => true

structure FB where
  np : Nat
  nt : Nat
  res : List (Nat × Option (Option Nat))
  body : CB
  deriving Inhabited
def FB.er (x : FB) : F := ⟨x.np, x.nt, x.res, x.body.er⟩

/-! ### Canonical states -/
/-- Packing: as 'giveX', what is packed stays. -/
def packB : Nat → (Nat → Option Blk) → V → Option (V × List Nat)
  | 0, _, _ => none
  | d + 1, H, v =>
    match v with
    | .im x => some (.im x, [])
    | .st cs => match overL (packB d H) cs with | some (ts, i) => some (.st ts, i) | none => none
    | .cl f cs => if cs = [] then some (.cl f [], []) else none
    | .sl es => some (.sl es, [])
    | .rp v => some (.rp v, [])
    | .e0 => some (.e0, [])
    | .hs b off n c =>
      match H b with
      | some B =>
        if off = 0 ∧ n = B.es.length ∧ c = n then
          match overL (packB d H) B.es with | some (ts, i) => some (.ow B.k ts, b :: i) | none => none
        else none
      | none => none
    | .hp b i =>
      match H b with
      | some B =>
        if i = 0 then
          match B.es with
          | [e] => match packB d H e with | some (t, j) => if B.k = t.size then some (.op t, b :: j) else none | none => none
          | _ => none
        else none
      | none => none
    | .ow k es => some (.ow k es, [])
    | .op v => some (.op v, [])
    | .tu _ | .hf _ _ _ => none

/-- The blocks that a value names. -/
def refs : Nat → V → List Nat
  | 0, _ => []
  | d + 1, v =>
    match v with
    | .hs b _ _ _ | .hp b _ | .hf b _ _ => [b]
    | .st cs | .tu cs | .cl _ cs => cs.flatMap (refs d)
    | _ => []
def dedup : List Nat → List Nat
  | [] => []
  | a :: l => if l.contains a then dedup l else a :: dedup l
def posOf (r : List Nat) (b : Nat) : Option Nat :=
  match r with
  | [] => none
  | a :: l => if b = a then some 0 else (posOf l b).map (· + 1)
/-- A value, its blocks numbered anew; what lies in other blocks is packed. -/
def ren (H : Nat → Option Blk) (r : List Nat) : Nat → V → Option (V × List Nat)
  | 0, _ => none
  | d + 1, v =>
    match v with
    | .hs b off n c => match posOf r b with
      | some j => some (.hs j off n c, [])
      | none => packB (d + 1) H (.hs b off n c)
    | .hp b i => match posOf r b with
      | some j => some (.hp j i, [])
      | none => packB (d + 1) H (.hp b i)
    | .hf b i j => match posOf r b with
      | some b' => some (.hf b' i j, [])
      | none => none
    | .st cs => match overL (ren H r d) cs with | some (ts, i) => some (.st ts, i) | none => none
    | .tu cs => match overL (ren H r d) cs with | some (ts, i) => some (.tu ts, i) | none => none
    | .cl f cs => match overL (ren H r d) cs with | some (ts, []) => some (.cl f ts, []) | _ => none
    | v => some (v, [])
def renBs (H : Nat → Option Blk) (r : List Nat) : List Nat → Option (List (Option Blk) × List Nat)
  | [] => some ([], [])
  | b :: bs =>
    match (match H b with
      | none => some (none, [])
      | some B => (overL (ren H r DEP) B.es).map fun x => (some { B with es := x.1 }, x.2)) with
    | some (x, i) => match renBs H r bs with | some (xs, j) => some (x :: xs, i ++ j) | none => none
    | none => none
/-- Variables, and blocks, out of a list. -/
def envA : List (Nat × V) → Nat → V
  | [], _ => .un
  | (k, v) :: l, t => if k = t then v else envA l t
def heapA (bs : List (Option Blk)) : Nat → Option Blk := fun j => (bs[j]?).bind id
def nmS (L : List Nat) (s : S) : Option S :=
  let r := dedup (L.flatMap fun t => refs 3 (s.e t))
  match renBs s.H r r with
  | some (bs, ids) =>
    if (ids ++ r).Nodup then
      some { e := envA (L.map fun t => (t, match ren s.H r 3 (s.e t) with | some (v, []) => v | _ => .un)), H := heapA bs, nx := r.length }
    else none
  | none => none

/-- The first elements of a list are forgotten. -/
def dpS (x i : Nat) (s : S) : Option S :=
  match s.e x, s.e i with
  | .hs b 0 _ _, .im (.int _ k) =>
    match s.H b with
    | some B => if k.toNat ≤ B.es.length then some (s.blk b (some { B with es := List.replicate k.toNat V.dd ++ B.es.drop k.toNat })) else none
    | none => none
  | _, _ => none

/-! ### Calls -/
def handB (H : Nat → Option Blk) : List M → List V → Option (List V × List Nat × List Nat)
  | _, [] => some ([], [], [])
  | ms, v :: vs =>
    match (match ms.headD .ro with
      | .ro => (snapB DEP H v).map fun x => (x.1, x.2, ([] : List Nat))
      | .tk => (giveB DEP H v).map fun x => (x.1, ([] : List Nat), x.2)
      | .io => (lendB H v).map fun x => (x.1, ([] : List Nat), x.2)) with
    | some (t, r, o) =>
      match handB H ms.tail vs with
      | some (ts, rs, os) => some (t :: ts, r ++ rs, o ++ os)
      | none => none
    | none => none

def backVB (old : Nat → Option Blk) : V → V → S → Option S
  | .hs b off n _, .ow k es, s =>
    if es = [] then (if n = 0 then some s else none) else
    match old b with
    | some B => if off = 0 ∧ n = B.es.length ∧ es.length = n ∧ k = B.k ∧ allL (okD DEP) es = true then some (s.blk b (some { k := k, es := es })) else none
    | none => none
  | .hp b i, .op v, s =>
    match old b with
    | some B => if i = 0 ∧ B.k = v.size ∧ okD DEP v = true then some (s.blk b (some { k := v.size, es := [v] })) else none
    | none => none
  | .hs _ _ n _, .sl es, s => if n = 0 ∧ es = [] then some s else none
  | .im _, .im _, s | .e0, .e0, s | .sl _, .sl _, s | .rp _, .rp _, s => some s
  | _, _, _ => none
def backVsB (old : Nat → Option Blk) : List V → List V → S → Option S
  | [], [], s => some s
  | v :: vs, t :: ts, s => match backVB old v t s with | some s1 => backVsB old vs ts s1 | none => none
  | _, _, _ => none
def back1B (old : Nat → Option Blk) : V → V → S → Option S
  | .st vs, .st ts, s => backVsB old vs ts s
  | v, t, s => backVB old v t s
def backLB (old : Nat → Option Blk) : List V → List V → S → Option S
  | [], [], s => some s
  | v :: vs, t :: ts, s => match back1B old v t s with | some s1 => backLB old vs ts s1 | none => none
  | _, _, _ => none

def own1 : V → List Nat
  | .hp b _ | .hf b _ _ => [b]
  | _ => []
/-- A result, and the block that it is read out of. -/
def resVB (s : S) : Nat × Option (Option Nat) → Option (V × List Nat)
  | (t, none) => if isUn (s.e t) then none else some (s.e t, [])
  | (t, some q) => match derefB s.H (s.e t) with | some v => if v.fitsB q then some (v, own1 (s.e t)) else none | none => none
def resLB (s : S) : List (Nat × Option (Option Nat)) → Option (List V × List Nat)
  | [] => some ([], [])
  | x :: xs => match resVB s x, resLB s xs with | some (v, o), some (vs, os) => some (v :: vs, o ++ os) | _, _ => none
def resOfB (s : S) (l : List (Nat × Option (Option Nat))) : Option (V × List Nat) :=
  match resLB s l with
  | some ([v], o) => some (v, o)
  | some (vs, o) => some (.tu vs, o)
  | none => none

def CB.nonm : CB → Bool
  | .seq a b | .cond _ a b => a.nonm && b.nonm
  | .blk _ a | .lp a | .dp _ _ a => a.nonm
  | .nm _ _ => false
  | _ => true

/-- What was lent, as it lies in the variables now. -/
def lentB (np : Nat) (ms : List M) (e : Nat → V) : List V := lent ms ((List.range np).map e)

def isoB (Γ : Env) (T : Nat → Option FB) (exk : CB → S → Option R) (f : Nat) (ms : List M) (args : List V) : Option (V × List V) :=
  match Γ.pr f with
  | some p => p args
  | none =>
    match T f with
    | some x =>
      if args.length = x.np then
        match takeL (takeB DEP) args { e := fun _ => .un, H := fun _ => none, nx := 0 } with
        | some (vals, s0) =>
          match exk x.body { e := envOf vals, H := s0.H, nx := s0.nx } with
          | some (.n s) | some (.r s) =>
            match resOfB s x.res with
            | some (v, o) =>
              match giveB DEP s.H v, overL (giveB DEP s.H) (lentB x.np ms s.e) with
              | some (t, i), some (ts, j) => if (o ++ i ++ j).Nodup ∧ ((lentB x.np ms s.e).isEmpty || (x.body.keeps (lent ms (List.range x.np)) && (lentB x.np ms s.e).all fun v => !isUn v)) = true then some (t, ts) else none
              | _, _ => none
            | none => none
          | _ => none
        | none => none
      else none
    | none => none

def callB (Γ : Env) (T : Nat → Option FB) (exk : CB → S → Option R) (fv : V) (args : List V) (s : S) : Option (V × S) :=
  match fnOf fv with
  | none => none
  | some (f, caps) =>
    match Γ.md f with
    | none =>
      match T f with
      | some x =>
        if (args ++ caps).length = x.np ∧ x.body.nonm = true then
          match exk x.body { s with e := envOf (args ++ caps) } with
          | some (.n s1) | some (.r s1) =>
            match resOfB s1 x.res with
            | some (v, []) => some (v, { s with H := s1.H, nx := s1.nx, fz := s1.fz })
            | _ => none
          | _ => none
        else none
      | none => none
    | some ms =>
      match handB s.H ms (args ++ caps) with
      | some (ts, rs, os) =>
        if os.Nodup ∧ ∀ b ∈ os, b ∉ rs then
          match isoB Γ T exk f ms ts with
          | some (t, us) =>
            if rs.isEmpty || (free DEP t && allL (free DEP) us) then
              match backLB s.H (lent ms (args ++ caps)) us (s.mem (kill s.H os)) with
              | some s1 => takeB DEP t s1
              | none => none
            else none
          | none => none
        else none
      | none => none

def exB (Γ : Env) (T : Nat → Option FB) : Nat → CB → S → Option R
  | 0, _, _ => none
  | k + 1, c, s =>
    match c with
    | .skip => some (.n s)
    | .rg l => match runB (callB Γ T (exB Γ T k)) l s with | some s1 => some (.n s1) | none => none
    | .seq a b => match exB Γ T k a s with
      | some (.n s1) => exB Γ T k b s1
      | r => r
    | .cond o a b => match val s.e o with
      | .im (.bool true) => exB Γ T k a s
      | .im (.bool false) => exB Γ T k b s
      | _ => none
    | .blk id a => match exB Γ T k a s with
      | some (.x j s1) => if j = id then some (.n s1) else some (.x j s1)
      | r => r
    | .lp a => match exB Γ T k a s with
      | some (.n s1) => exB Γ T k (.lp a) s1
      | r => r
    | .ex id => some (.x id s)
    | .ret => some (.r s)
    | .no => none
    | .nm L a => match nmS L s with | some s1 => exB Γ T k a s1 | none => none
    | .dp x i a => match dpS x i s with | some s1 => exB Γ T k a s1 | none => none

end Go.Am
