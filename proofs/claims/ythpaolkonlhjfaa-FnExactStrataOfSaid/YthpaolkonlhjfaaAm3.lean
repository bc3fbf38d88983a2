/- The A-machine, part 3: what a tree says of a value of the machine. -/
import Derived.Test.YthpaolkonlhjfaaAm2
set_option linter.all false
namespace Go.Am

abbrev Cel (w : World) (β o : Nat) : Option Value := w.cell? ⟨β, o, none⟩

/-- Block β is a row of at least n cells. -/
def Room (w : World) (β n : Nat) : Prop := ∃ cs ty fz, w.heap[β]? = some (.cells cs ty fz) ∧ n ≤ cs.size
/-- The same, and nothing in it is shared with a string. -/
def Own (w : World) (β n : Nat) : Prop := ∃ cs ty, w.heap[β]? = some (.cells cs ty (0, 0)) ∧ n ≤ cs.size
theorem Own.room {w : World} {β n : Nat} (h : Own w β n) : Room w β n := let ⟨cs, ty, h1, h2⟩ := h; ⟨cs, ty, _, h1, h2⟩
theorem Own.mono {w : World} {β n m : Nat} (h : Own w β n) (hm : m ≤ n) : Own w β m := let ⟨cs, ty, h1, h2⟩ := h; ⟨cs, ty, h1, by omega⟩
theorem Room.mono {w : World} {β n m : Nat} (h : Room w β n) (hm : m ≤ n) : Room w β m := let ⟨cs, ty, fz, h1, h2⟩ := h; ⟨cs, ty, fz, h1, by omega⟩

mutual
/-- A tree without a block of a frame, as a machine's value: its memory lies in blocks of St, and reads as it says. -/
def RO (St : Nat → Prop) (w : World) : V → Value → Prop
  | .im x, m => m = x
  | .st cs, m => ∃ ms : List Value, m = .agg ms.toArray ∧ ROL St w cs ms
  | .tu cs, m => ∃ ms : List Value, m = .tuple ms.toArray ∧ ROL St w cs ms
  | .cl f cs, m => ∃ ms : List Value, m = .func (.func f) #[] ms.toArray ∧ ROL St w cs ms
  | .e0, m => ∃ a, m = .slice a 0 0
  | .sl es, m => ∃ a c, m = .slice a es.length c ∧ es.length ≤ c ∧ (es = [] ∨ ∃ β o k, a = some ⟨β, o, none⟩ ∧ St β ∧ (∀ e ∈ es, e.size = k) ∧ ROE St w β o es)
  | .rp (.st cs), m => ∃ β o, m = .pointer (some ⟨β, o, none⟩) ∧ St β ∧ ROC St w β o cs
  | .rp v, m => ∃ β o, m = .pointer (some ⟨β, o, none⟩) ∧ St β ∧ ∃ u, Cel w β o = some u ∧ RO St w v u
  | .ow _ _, _ | .op _, _ | .hs .., _ | .hp .., _ | .hf .., _ => False
def ROL (St : Nat → Prop) (w : World) : List V → List Value → Prop
  | [], ms => ms = []
  | v :: vs, ms => ∃ m ms', ms = m :: ms' ∧ RO St w v m ∧ ROL St w vs ms'
def ROC (St : Nat → Prop) (w : World) (β : Nat) : Nat → List V → Prop
  | _, [] => True
  | o, v :: vs => (∃ u, Cel w β o = some u ∧ RO St w v u) ∧ ROC St w β (o + 1) vs
def ROE (St : Nat → Prop) (w : World) (β : Nat) : Nat → List V → Prop
  | _, [] => True
  | o, .st cs :: vs => ROC St w β o cs ∧ ROE St w β (o + cs.length) vs
  | o, v :: vs => (∃ u, Cel w β o = some u ∧ RO St w v u) ∧ ROE St w β (o + 1) vs
end

/- A tree with memory of its own (L: its blocks). -/
mutual
def RepT (St : Nat → Prop) (w : World) : V → Value → List Nat → Prop
  | .im x, m, L => m = x ∧ L = []
  | .st cs, m, L => ∃ ms : List Value, m = .agg ms.toArray ∧ RepTL St w cs ms L
  | .tu cs, m, L => ∃ ms : List Value, m = .tuple ms.toArray ∧ RepTL St w cs ms L
  | .cl f cs, m, L => ∃ ms : List Value, m = .func (.func f) #[] ms.toArray ∧ RepTL St w cs ms L
  | .e0, m, L => (∃ a, m = .slice a 0 0) ∧ L = []
  | .sl es, m, L => RO St w (.sl es) m ∧ L = []
  | .rp v, m, L => RO St w (.rp v) m ∧ L = []
  | .ow k es, m, L => ∃ a c, m = .slice a es.length c ∧ es.length ≤ c ∧ ((c = 0 ∧ L.length ≤ 1) ∨ ∃ β o L', a = some ⟨β, o, none⟩ ∧ L = β :: L' ∧ Own w β (o + c * k) ∧ (∀ e ∈ es, e.size = k) ∧ RepTE St w β o es L')
  | .op (.st cs), m, L => ∃ β o L', m = .pointer (some ⟨β, o, none⟩) ∧ L = β :: L' ∧ Own w β (o + cs.length) ∧ RepTC St w β o cs L'
  | .op v, m, L => ∃ β o L', m = .pointer (some ⟨β, o, none⟩) ∧ L = β :: L' ∧ Own w β (o + 1) ∧ ∃ u, Cel w β o = some u ∧ RepT St w v u L'
  | .hs .., _, _ | .hp .., _, _ | .hf .., _, _ => False
def RepTL (St : Nat → Prop) (w : World) : List V → List Value → List Nat → Prop
  | [], ms, L => ms = [] ∧ L = []
  | v :: vs, ms, L => ∃ m ms' L1 L2, ms = m :: ms' ∧ L = L1 ++ L2 ∧ RepT St w v m L1 ∧ RepTL St w vs ms' L2
def RepTC (St : Nat → Prop) (w : World) (β : Nat) : Nat → List V → List Nat → Prop
  | _, [], L => L = []
  | o, v :: vs, L => ∃ L1 L2, L = L1 ++ L2 ∧ (∃ u, Cel w β o = some u ∧ RepT St w v u L1) ∧ RepTC St w β (o + 1) vs L2
def RepTE (St : Nat → Prop) (w : World) (β : Nat) : Nat → List V → List Nat → Prop
  | _, [], L => L = []
  | o, .st cs :: vs, L => ∃ L1 L2, L = L1 ++ L2 ∧ RepTC St w β o cs L1 ∧ RepTE St w β (o + cs.length) vs L2
  | o, v :: vs, L => ∃ L1 L2, L = L1 ++ L2 ∧ (∃ u, Cel w β o = some u ∧ RepT St w v u L1) ∧ RepTE St w β (o + 1) vs L2
end

abbrev Phi := Nat → Option (Nat × Nat × Nat)

/- A value in a frame. φ: where each block of the frame lies (the machine's block, the first cell, the cells of an element). -/
mutual
def Rep (φ : Phi) (St : Nat → Prop) (w : World) : V → Value → Prop
  | .im x, m => m = x
  | .st cs, m => ∃ ms : List Value, m = .agg ms.toArray ∧ RepL φ St w cs ms
  | .tu cs, m => ∃ ms : List Value, m = .tuple ms.toArray ∧ RepL φ St w cs ms
  | .cl f cs, m => ∃ ms : List Value, m = .func (.func f) #[] ms.toArray ∧ RepL φ St w cs ms
  | .e0, m => ∃ a, m = .slice a 0 0
  | .sl es, m => RO St w (.sl es) m
  | .rp v, m => RO St w (.rp v) m
  | .hs b off n c, m => ∃ a c', m = .slice a n c' ∧ n ≤ c' ∧ c ≤ c' ∧ (c' = 0 ∨ ∃ β o k, φ b = some (β, o, k) ∧ a = some ⟨β, o + off * k, none⟩ ∧ Room w β (o + (off + c') * k))
  | .hp b i, m => ∃ β o k, φ b = some (β, o, k) ∧ m = .pointer (some ⟨β, o + i * k, none⟩)
  | .hf b i j, m => ∃ β o k, φ b = some (β, o, k) ∧ m = .pointer (some ⟨β, o + i * k + j, none⟩)
  | .ow _ _, _ | .op _, _ => False
def RepL (φ : Phi) (St : Nat → Prop) (w : World) : List V → List Value → Prop
  | [], ms => ms = []
  | v :: vs, ms => ∃ m ms', ms = m :: ms' ∧ Rep φ St w v m ∧ RepL φ St w vs ms'
end

/-- One element lies at a place. -/
def RepC (φ : Phi) (St : Nat → Prop) (w : World) (β : Nat) : Nat → List V → Prop
  | _, [] => True
  | o, v :: vs => (∃ u, Cel w β o = some u ∧ Rep φ St w v u) ∧ RepC φ St w β (o + 1) vs
def cellsOf : V → List V
  | .st cs => cs
  | v => [v]
def RepE (φ : Phi) (St : Nat → Prop) (w : World) (β o k : Nat) (es : List V) : Prop :=
  ∀ i e, es[i]? = some e → RepC φ St w β (o + i * k) (cellsOf e)

theorem size_cellsOf (v : V) : (cellsOf v).length = v.size := by cases v <;> rfl

def ROat (St : Nat → Prop) (w : World) (β o : Nat) (v : V) : Prop := ROC St w β o (cellsOf v)

theorem ROE_cons (St : Nat → Prop) (w : World) (β o : Nat) (v : V) (vs : List V) :
    ROE St w β o (v :: vs) ↔ ROC St w β o (cellsOf v) ∧ ROE St w β (o + v.size) vs := by
  cases v <;> simp [ROE, ROC, cellsOf, V.size]

theorem RO_rp (St : Nat → Prop) (w : World) (v : V) (m : Value) :
    RO St w (.rp v) m ↔ ∃ β o, m = .pointer (some ⟨β, o, none⟩) ∧ St β ∧ ROC St w β o (cellsOf v) := by
  cases v <;> simp [RO, ROC, cellsOf]

theorem RepTE_cons (St : Nat → Prop) (w : World) (β o : Nat) (v : V) (vs : List V) (L : List Nat) :
    RepTE St w β o (v :: vs) L ↔ ∃ L1 L2, L = L1 ++ L2 ∧ RepTC St w β o (cellsOf v) L1 ∧ RepTE St w β (o + v.size) vs L2 := by
  cases v <;> simp [RepTE, RepTC, cellsOf, V.size]

theorem RepT_op (St : Nat → Prop) (w : World) (v : V) (m : Value) (L : List Nat) :
    RepT St w (.op v) m L ↔ ∃ β o L', m = .pointer (some ⟨β, o, none⟩) ∧ L = β :: L' ∧ Own w β (o + v.size) ∧ RepTC St w β o (cellsOf v) L' := by
  cases v <;> simp [RepT, RepTC, cellsOf, V.size]

/-- An element of a slice that is only read. -/
theorem ROE_get {St : Nat → Prop} {w : World} {β k : Nat} : ∀ {es : List V} {o i : Nat} {e : V}, ROE St w β o es → (∀ e ∈ es, e.size = k) → es[i]? = some e →
    ROC St w β (o + i * k) (cellsOf e)
  | [], _, _, _, _, _, h => by simp at h
  | v :: vs, o, 0, e, h, _, hi => by
    obtain rfl : v = e := by simpa using hi
    simpa using ((ROE_cons _ _ _ _ _ _).1 h).1
  | v :: vs, o, i + 1, e, h, hk, hi => by
    have h2 := ((ROE_cons _ _ _ _ _ _).1 h).2
    have hv : v.size = k := hk v (by simp)
    have := ROE_get (o := o + v.size) (i := i) h2 (fun e he => hk e (by simp [he])) (by simpa using hi)
    rw [hv] at this
    rwa [show o + k + i * k = o + (i + 1) * k by rw [Nat.succ_mul]; omega] at this

theorem ROE_drop {St : Nat → Prop} {w : World} {β k : Nat} : ∀ {es : List V} {o : Nat} (n : Nat), ROE St w β o es → (∀ e ∈ es, e.size = k) → n ≤ es.length →
    ROE St w β (o + n * k) (es.drop n)
  | es, o, 0, h, _, _ => by simpa using h
  | [], o, n + 1, h, _, hn => by simp at hn
  | v :: vs, o, n + 1, h, hk, hn => by
    have h2 := ((ROE_cons _ _ _ _ _ _).1 h).2
    have hv : v.size = k := hk v (by simp)
    have := ROE_drop (o := o + v.size) n h2 (fun e he => hk e (by simp [he])) (by simpa using hn)
    rw [hv] at this
    simpa [show o + k + n * k = o + (n + 1) * k by rw [Nat.succ_mul]; omega] using this

theorem ROE_take {St : Nat → Prop} {w : World} {β : Nat} : ∀ {es : List V} {o : Nat} (n : Nat), ROE St w β o es → ROE St w β o (es.take n)
  | es, o, 0, _ => by simp [ROE]
  | [], o, n + 1, h => by simp [ROE]
  | v :: vs, o, n + 1, h => by
    have h2 := (ROE_cons _ _ _ _ _ _).1 h
    rw [List.take_succ_cons, ROE_cons]
    exact ⟨h2.1, ROE_take n h2.2⟩

theorem ROC_get {St : Nat → Prop} {w : World} {β : Nat} : ∀ {cs : List V} {o j : Nat} {c : V}, ROC St w β o cs → cs[j]? = some c → ∃ u, Cel w β (o + j) = some u ∧ RO St w c u
  | [], _, _, _, _, h => by simp at h
  | v :: vs, o, 0, c, h, hj => by
    obtain rfl : v = c := by simpa using hj
    simpa using h.1
  | v :: vs, o, j + 1, c, h, hj => by
    have := ROC_get (o := o + 1) (j := j) h.2 (by simpa using hj)
    rwa [show o + 1 + j = o + (j + 1) by omega] at this

theorem RepC_get {φ : Phi} {St : Nat → Prop} {w : World} {β : Nat} : ∀ {cs : List V} {o j : Nat} {c : V}, RepC φ St w β o cs → cs[j]? = some c → ∃ u, Cel w β (o + j) = some u ∧ Rep φ St w c u
  | [], _, _, _, _, h => by simp at h
  | v :: vs, o, 0, c, h, hj => by
    obtain rfl : v = c := by simpa using hj
    simpa using h.1
  | v :: vs, o, j + 1, c, h, hj => by
    have := RepC_get (o := o + 1) (j := j) h.2 (by simpa using hj)
    rwa [show o + 1 + j = o + (j + 1) by omega] at this

theorem RepC_iff {φ : Phi} {St : Nat → Prop} {w : World} {β : Nat} : ∀ {cs : List V} {o : Nat}, RepC φ St w β o cs ↔ ∀ j c, cs[j]? = some c → ∃ u, Cel w β (o + j) = some u ∧ Rep φ St w c u
  | [], _ => by simp [RepC]
  | v :: vs, o => by
    constructor
    · exact fun h j c hj => RepC_get h hj
    · intro h
      refine ⟨by simpa using h 0 v rfl, RepC_iff.2 fun j c hj => ?_⟩
      have := h (j + 1) c (by simpa using hj)
      rwa [show o + (j + 1) = o + 1 + j by omega] at this

/-! ### The same in a later world -/

/-- What the blocks of St hold stays. -/
def Stab (St : Nat → Prop) (w w' : World) : Prop := ∀ β, St β → w'.heap[β]? = w.heap[β]?

theorem Stab.cel {St : Nat → Prop} {w w' : World} (h : Stab St w w') {β : Nat} (hb : St β) (o : Nat) : Cel w' β o = Cel w β o := by
  simp only [Cel, World.cell?, h β hb]

mutual
theorem RO.mono {St St' : Nat → Prop} {w w' : World} (hS : ∀ β, St β → St' β) (h : Stab St w w') : ∀ (v : V) (m : Value), RO St w v m → RO St' w' v m
  | .im x, m, r => by simpa [RO] using r
  | .st cs, m, r => by obtain ⟨ms, e, q⟩ := (by simpa [RO] using r : ∃ ms : List Value, m = .agg ms.toArray ∧ ROL St w cs ms); simp only [RO]; exact ⟨ms, e, ROL.mono hS h cs ms q⟩
  | .tu cs, m, r => by obtain ⟨ms, e, q⟩ := (by simpa [RO] using r : ∃ ms : List Value, m = .tuple ms.toArray ∧ ROL St w cs ms); simp only [RO]; exact ⟨ms, e, ROL.mono hS h cs ms q⟩
  | .cl f cs, m, r => by obtain ⟨ms, e, q⟩ := (by simpa [RO] using r : ∃ ms : List Value, m = .func (.func f) #[] ms.toArray ∧ ROL St w cs ms); simp only [RO]; exact ⟨ms, e, ROL.mono hS h cs ms q⟩
  | .e0, m, r => by simpa [RO] using r
  | .sl es, m, r => by
    simp only [RO] at r ⊢
    obtain ⟨a, c, e, hc, q⟩ := r
    refine ⟨a, c, e, hc, ?_⟩
    rcases q with q | ⟨β, o, k, ha, hb, hk, q⟩
    · exact .inl q
    · exact .inr ⟨β, o, k, ha, hS β hb, hk, ROE.mono hS h hb o es q⟩
  | .rp v, m, r => by
    rw [RO_rp] at r ⊢
    obtain ⟨β, o, e, hb, q⟩ := r
    refine ⟨β, o, e, hS β hb, ?_⟩
    cases v with
    | st cs => exact ROC.mono hS h hb o cs q
    | _ =>
      obtain ⟨⟨u, hu, hr⟩, _⟩ := q
      exact ⟨⟨u, by rw [h.cel hb]; exact hu, RO.mono hS h _ u hr⟩, trivial⟩
  | .ow _ _, m, r => by simp [RO] at r
  | .op _, m, r => by simp [RO] at r
  | .hs .., m, r => by simp [RO] at r
  | .hp .., m, r => by simp [RO] at r
  | .hf .., m, r => by simp [RO] at r
theorem ROL.mono {St St' : Nat → Prop} {w w' : World} (hS : ∀ β, St β → St' β) (h : Stab St w w') : ∀ (vs : List V) (ms : List Value), ROL St w vs ms → ROL St' w' vs ms
  | [], ms, r => by simpa [ROL] using r
  | v :: vs, ms, r => by
    simp only [ROL] at r ⊢
    obtain ⟨m, ms', e, q, q'⟩ := r
    exact ⟨m, ms', e, RO.mono hS h v m q, ROL.mono hS h vs ms' q'⟩
theorem ROC.mono {St St' : Nat → Prop} {w w' : World} (hS : ∀ β, St β → St' β) (h : Stab St w w') {β : Nat} (hb : St β) : ∀ (o : Nat) (vs : List V), ROC St w β o vs → ROC St' w' β o vs
  | o, [], r => by simp [ROC]
  | o, v :: vs, r => by
    simp only [ROC] at r ⊢
    obtain ⟨⟨u, hu, q⟩, q'⟩ := r
    exact ⟨⟨u, by rw [h.cel hb]; exact hu, RO.mono hS h v u q⟩, ROC.mono hS h hb (o + 1) vs q'⟩
theorem ROE.mono {St St' : Nat → Prop} {w w' : World} (hS : ∀ β, St β → St' β) (h : Stab St w w') {β : Nat} (hb : St β) : ∀ (o : Nat) (vs : List V), ROE St w β o vs → ROE St' w' β o vs
  | o, [], r => by simp [ROE]
  | o, v :: vs, r => by
    rw [ROE_cons] at r ⊢
    obtain ⟨q, q'⟩ := r
    refine ⟨?_, ROE.mono hS h hb (o + v.size) vs q'⟩
    cases v with
    | st cs => exact ROC.mono hS h hb o cs q
    | _ =>
      obtain ⟨⟨u, hu, hr⟩, _⟩ := q
      exact ⟨⟨u, by rw [h.cel hb]; exact hu, RO.mono hS h _ u hr⟩, trivial⟩
end

end Go.Am
