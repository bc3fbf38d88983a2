/- The A-machine, part 5: the operations that neither call nor append do in the machine what the A-machine says. -/
import Derived.Test.YthpaolkonlhjfaaAm4
import Derived.Laws.Entries
set_option linter.all false
namespace Go.Am
variable {P : Program}

/-- What one operation comes to in the machine. -/
def OpTo (φ : Phi) (St Mine : Nat → Prop) (w : World) (s : S) (v : V) (s' : S) (r : Result Next) : Prop :=
  ∃ m w' φ', (r = .ok (.value m) w' ∨ (r = .ok .skip w' ∧ m = undef)) ∧ Rep φ' St w' v m ∧ WR φ' St Mine w' s'.H s'.nx ∧ s'.e = s.e ∧ Ext φ φ' s.nx ∧ s.nx ≤ s'.nx ∧ Stp St Mine w w'

theorem OpTo.pure {φ : Phi} {St Mine : Nat → Prop} {w : World} {s : S} {v : V} {m : Value} (q : WR φ St Mine w s.H s.nx) (h : Rep φ St w v m) : OpTo φ St Mine w s v s (.ok (.value m) w) :=
  ⟨m, w, φ, .inl rfl, h, q, rfl, Ext.refl _ _, Nat.le_refl _, Stp.refl _ _ _⟩

/-! ### Operands -/

theorem rep_immV {φ : Phi} {St : Nat → Prop} {w : World} {x : Value} {v : V} (h : immV x = some v) : Rep φ St w v x := by
  unfold immV at h
  split at h <;> simp at h <;> subst h <;> simp [Rep]

theorem rep_toO {φ : Phi} {St : Nat → Prop} {w : World} {e : Nat → V} {a : Act} (q : EnvR φ St w e a.tmps) {x : Operand} {y : O} (h : toO x = some y) : Rep φ St w (val e y) (a.eval x) := by
  unfold toO at h
  split at h
  · obtain rfl := Option.some.inj h; exact q _
  · obtain rfl := Option.some.inj h; simp [val, Act.eval, Rep]
  · simp only [Option.map_eq_some_iff] at h
    obtain ⟨v, hv, rfl⟩ := h
    exact rep_immV hv
  · obtain rfl := Option.some.inj h; simp [val, Act.eval, Rep, RepL]
  · cases h

theorem rep_toOs {φ : Phi} {St : Nat → Prop} {w : World} {e : Nat → V} {a : Act} (q : EnvR φ St w e a.tmps) : ∀ {l : List Operand} {ys : List O}, toOs l = some ys → RepL φ St w (ys.map (val e)) (l.map a.eval)
  | [], ys, h => by simp [toOs] at h; subst h; simp [RepL]
  | x :: l, ys, h => by
    simp only [toOs, List.mapM_cons, Option.bind_eq_bind, Option.pure_def] at h
    obtain ⟨y, hy, h⟩ := Option.bind_eq_some_iff.1 h
    obtain ⟨ys', hys, h⟩ := Option.bind_eq_some_iff.1 h
    obtain rfl := Option.some.inj h
    simp only [List.map_cons, RepL]
    exact ⟨_, _, rfl, rep_toO q hy, rep_toOs q hys⟩

theorem RepL.len {φ : Phi} {St : Nat → Prop} {w : World} : ∀ {vs : List V} {ms : List Value}, RepL φ St w vs ms → vs.length = ms.length
  | [], ms, h => by simp only [RepL] at h; subst h; rfl
  | v :: vs, ms, h => by
    simp only [RepL] at h
    obtain ⟨m, ms', rfl, _, h2⟩ := h
    simp [h2.len]

theorem RepL.get {φ : Phi} {St : Nat → Prop} {w : World} : ∀ {vs : List V} {ms : List Value} {i : Nat} {v : V}, RepL φ St w vs ms → vs[i]? = some v → ∃ m, ms[i]? = some m ∧ Rep φ St w v m
  | [], _, _, _, _, h => by simp at h
  | v :: vs, ms, 0, v', h, hi => by
    obtain rfl : v = v' := by simpa using hi
    simp only [RepL] at h
    obtain ⟨m, ms', rfl, h1, _⟩ := h
    exact ⟨m, rfl, h1⟩
  | v :: vs, ms, i + 1, v', h, hi => by
    simp only [RepL] at h
    obtain ⟨m, ms', rfl, _, h2⟩ := h
    simpa using h2.get (i := i) (by simpa using hi)

theorem RepL_iff {φ : Phi} {St : Nat → Prop} {w : World} : ∀ {vs : List V} {ms : List Value}, RepL φ St w vs ms ↔ vs.length = ms.length ∧ ∀ (i : Nat) (v : V), vs[i]? = some v → ∃ m, ms[i]? = some m ∧ Rep φ St w v m
  | [], ms => by
    simp only [RepL, List.length_nil]
    constructor
    · rintro rfl; simp
    · intro h; exact List.eq_nil_of_length_eq_zero h.1.symm
  | v :: vs, [] => by simp [RepL]
  | v :: vs, m :: ms => by
    simp only [RepL]
    constructor
    · rintro ⟨m', ms', e, h1, h2⟩
      cases e
      refine ⟨by simp [h2.len], fun i v' hi => ?_⟩
      cases i with
      | zero => exact ⟨m, rfl, by obtain rfl : v = v' := by simpa using hi
                                  exact h1⟩
      | succ i => simpa using h2.get (i := i) (by simpa using hi)
    · rintro ⟨h1, h2⟩
      refine ⟨m, ms, rfl, ?_, RepL_iff.2 ⟨by simpa using h1, fun i v' hi => ?_⟩⟩
      · obtain ⟨m', hm, hr⟩ := h2 0 v rfl
        obtain rfl : m = m' := by simpa using hm
        exact hr
      · simpa using h2 (i + 1) v' (by simpa using hi)

/-! ### Types -/

def aggD : TypeDesc → Bool
  | .struct _ | .array _ _ => true
  | _ => false

theorem shp_spec {P : Program} {t : TypeId} {q : Option Nat} (h : shp P t = some q) : ∃ i d, P.info? t = some i ∧ P.underlying t = some d ∧ i.size = ksz q ∧ i.bytes ≤ 1024 ∧ aggD d = q.isSome ∧
    (∀ n, q = some n → ∃ fs, d = .struct fs ∧ fs.size = n ∧ fldsOk P 0 fs.toList = true) ∧ (q = none → leafDesc d = true) := by
  unfold shp at h
  split at h
  · rename_i i fs h1 h2
    split at h
    · rename_i hc
      obtain rfl := Option.some.inj h
      exact ⟨i, _, h1, h2, hc.1, hc.2.1, rfl, fun n hn => ⟨fs, rfl, Option.some.inj hn, hc.2.2⟩, fun hn => (by cases hn)⟩
    · cases h
  · rename_i i d hns h1 h2
    split at h
    · rename_i hc
      obtain rfl := Option.some.inj h
      refine ⟨i, d, h1, h2, hc.1, hc.2.1, ?_, fun n hn => (by cases hn), fun _ => hc.2.2⟩
      have := hc.2.2
      cases d <;> simp_all [leafDesc, aggD]
    · cases h
  · cases h

theorem run_underlying {t : TypeId} {d : TypeDesc} (h : P.underlying t = some d) (w : World) : (underlying t).run P w = .ok d w := by
  simp [underlying, program, h, Sem.run, bind, Sem.bind, pure]

theorem run_typeInfo {t : TypeId} {i : TypeInfo} (h : P.info? t = some i) (w : World) : (typeInfo t).run P w = .ok i w := by
  simp [typeInfo, program, h, Sem.run, bind, Sem.bind, pure]

theorem run_bind {α β : Type} (x : Sem α) (f : α → Sem β) (w : World) : (x >>= f).run P w = match x.run P w with | .ok a w' => (f a).run P w' | .halt h w' => .halt h w' := by
  exact Sem.run_bind _ _ _ _

theorem run_pure {α : Type} (x : α) (w : World) : (pure x : Sem α).run P w = .ok x w := rfl

theorem run_sizeOf {t : TypeId} {q : Option Nat} (h : shp P t = some q) (w : World) : (sizeOf t).run P w = .ok (ksz q) w := by
  obtain ⟨i, d, h1, _, h3, _⟩ := shp_spec h
  unfold sizeOf
  rw [run_bind, run_typeInfo h1]
  simp [h3]

theorem run_isAgg {t : TypeId} {q : Option Nat} (h : shp P t = some q) (w : World) : (isAgg t).run P w = .ok q.isSome w := by
  obtain ⟨i, d, _, h2, _, _, h5, _⟩ := shp_spec h
  unfold isAgg
  rw [run_bind, run_underlying h2]
  rw [← h5]
  cases d <;> rfl

/-! ### What lies in memory -/

mutual
theorem RO.rep {φ : Phi} {St : Nat → Prop} {w : World} : ∀ (v : V) (m : Value), RO St w v m → Rep φ St w v m
  | .im x, m, r => by simpa [RO, Rep] using r
  | .st cs, m, r => by simp only [RO] at r; simp only [Rep]; obtain ⟨ms, e, q⟩ := r; exact ⟨ms, e, ROL.rep cs ms q⟩
  | .tu cs, m, r => by simp only [RO] at r; simp only [Rep]; obtain ⟨ms, e, q⟩ := r; exact ⟨ms, e, ROL.rep cs ms q⟩
  | .cl f cs, m, r => by simp only [RO] at r; simp only [Rep]; obtain ⟨ms, e, q⟩ := r; exact ⟨ms, e, ROL.rep cs ms q⟩
  | .e0, m, r => by simpa [RO, Rep] using r
  | .sl es, m, r => by simpa only [Rep] using r
  | .rp v, m, r => by simpa only [Rep] using r
  | .ow _ _, m, r => by simp [RO] at r
  | .op _, m, r => by simp [RO] at r
  | .hs .., m, r => by simp [RO] at r
  | .hp .., m, r => by simp [RO] at r
  | .hf .., m, r => by simp [RO] at r
theorem ROL.rep {φ : Phi} {St : Nat → Prop} {w : World} : ∀ (vs : List V) (ms : List Value), ROL St w vs ms → RepL φ St w vs ms
  | [], ms, r => by simpa [ROL, RepL] using r
  | v :: vs, ms, r => by
    simp only [ROL] at r
    obtain ⟨m, ms', e, q, q'⟩ := r
    simp only [RepL]
    exact ⟨m, ms', e, RO.rep v m q, ROL.rep vs ms' q'⟩
end

theorem ROC.rep {φ : Phi} {St : Nat → Prop} {w : World} {β : Nat} : ∀ (cs : List V) (o : Nat), ROC St w β o cs → RepC φ St w β o cs
  | [], _, _ => trivial
  | v :: vs, o, r => by
    simp only [ROC] at r
    obtain ⟨⟨u, hu, q⟩, q'⟩ := r
    exact ⟨⟨u, hu, RO.rep v u q⟩, ROC.rep vs (o + 1) q'⟩

theorem run_load {w : World} {β o : Nat} {u : Value} (h : Cel w β o = some u) : (load ⟨β, o, none⟩).run P w = .ok u w := by
  simp only [load, Sem.run]
  rw [show w.cell? ⟨β, o, none⟩ = some u from h]

theorem addr_add (β o n : Nat) : Addr.add ⟨β, o, none⟩ n = ⟨β, o + n, none⟩ := by
  unfold Addr.add; split
  · rename_i h; subst h; rfl
  · rfl

theorem run_loadCellsFrom {w : World} {β o : Nat} : ∀ (n i : Nat) (us : List Value) (acc : Array Value), us.length = n → (∀ j u, us[j]? = some u → Cel w β (o + i + j) = some u) →
    (loadCellsFrom ⟨β, o, none⟩ i n acc).run P w = .ok (acc ++ us.toArray) w
  | 0, i, us, acc, hn, _ => by
    obtain rfl := List.eq_nil_of_length_eq_zero hn
    simp [loadCellsFrom]
  | n + 1, i, us, acc, hn, h => by
    cases us with
    | nil => simp at hn
    | cons u us =>
      unfold loadCellsFrom
      rw [run_bind, addr_add, run_load (by simpa using h 0 u rfl)]
      simp only
      rw [run_loadCellsFrom n (i + 1) us (acc.push u) (by simpa using hn) fun j u' hj => by
        have := h (j + 1) u' (by simpa using hj)
        rwa [show o + i + (j + 1) = o + (i + 1) + j by omega] at this]
      simp

theorem run_loadCells {w : World} {β o n : Nat} (us : List Value) (hn : us.length = n) (h : ∀ j u, us[j]? = some u → Cel w β (o + j) = some u) :
    (loadCells ⟨β, o, none⟩ n).run P w = .ok us.toArray w := by
  unfold loadCells
  rw [run_loadCellsFrom n 0 us #[] hn (by simpa using h)]
  simp

theorem RepC.vals {φ : Phi} {St : Nat → Prop} {w : World} {β : Nat} : ∀ (cs : List V) (o : Nat), RepC φ St w β o cs → ∃ us : List Value, RepL φ St w cs us ∧ ∀ j u, us[j]? = some u → Cel w β (o + j) = some u
  | [], _, _ => ⟨[], by simp [RepL], by simp⟩
  | v :: vs, o, ⟨⟨u, hu, q⟩, q'⟩ => by
    obtain ⟨us, h1, h2⟩ := RepC.vals vs (o + 1) q'
    refine ⟨u :: us, by simp only [RepL]; exact ⟨u, us, rfl, q, h1⟩, fun j u' hj => ?_⟩
    cases j with
    | zero => obtain rfl : u = u' := by simpa using hj
              simpa using hu
    | succ j => have := h2 j u' (by simpa using hj)
                rwa [show o + 1 + j = o + (j + 1) by omega] at this

theorem fits_some {n : Nat} {v : V} (h : v.fits (some n) = true) : ∃ cs, v = .st cs ∧ cs.length = n ∧ cs.all V.okc = true := by
  cases v <;> simp [V.fits] at h
  exact ⟨_, rfl, h.1, by simpa using h.2⟩
theorem fits_none {v : V} (h : v.fits none = true) : v.okc = true := by cases v <;> simpa [V.fits] using h
theorem okc_cells {v : V} (h : v.okc = true) : cellsOf v = [v] := by cases v <;> simp [V.okc] at h <;> rfl
theorem okc_size {v : V} (h : v.okc = true) : v.size = 1 := by cases v <;> simp [V.okc] at h <;> rfl
theorem fits_size {q : Option Nat} {v : V} (h : v.fits q = true) : v.size = ksz q := by
  cases q with
  | none => exact okc_size (fits_none h)
  | some n => obtain ⟨cs, rfl, h1, _⟩ := fits_some h; exact h1
theorem fits_okc {q : Option Nat} {v : V} (h : v.fits q = true) : ∀ c ∈ cellsOf v, c.okc = true := by
  cases q with
  | none => have := fits_none h; rw [okc_cells this]; simpa using this
  | some n => obtain ⟨cs, rfl, _, h2⟩ := fits_some h; simpa [cellsOf] using h2

theorem rep_okm {φ : Phi} {St : Nat → Prop} {w : World} {v : V} {m : Value} (h : v.okc = true) (r : Rep φ St w v m) : okm m = true := by
  cases v <;> simp [V.okc] at h <;> simp only [Rep] at r
  · subst r; exact h
  · simp only [RO] at r; obtain ⟨a, c, rfl, _⟩ := r; rfl
  · rw [RO_rp] at r; obtain ⟨β, o, rfl, _⟩ := r; rfl
  · obtain ⟨a, rfl⟩ := r; rfl
  · obtain ⟨ms, rfl, _⟩ := r; rfl
  · obtain ⟨a, c', rfl, _⟩ := r; rfl
  · obtain ⟨β, o, k, _, rfl⟩ := r; rfl
  · obtain ⟨β, o, k, _, rfl⟩ := r; rfl

/-- The machine's cells of a value that fits. -/
theorem rep_cells {φ : Phi} {St : Nat → Prop} {w : World} {q : Option Nat} {v : V} {m : Value} (h : v.fits q = true) (r : Rep φ St w v m) :
    RepL φ St w (cellsOf v) m.cells.toList ∧ m.cells.size = ksz q ∧ ∀ u ∈ m.cells.toList, okm u = true := by
  cases q with
  | none =>
    have h1 := fits_none h
    have h2 := rep_okm h1 r
    have h3 : m.cells = #[m] := by cases m <;> simp [okm] at h2 <;> rfl
    rw [okc_cells h1, h3]
    exact ⟨by simp [RepL, r], rfl, by simpa using h2⟩
  | some n =>
    obtain ⟨cs, rfl, h1, h2⟩ := fits_some h
    simp only [Rep] at r
    obtain ⟨ms, rfl, r⟩ := r
    refine ⟨by simpa [cellsOf, Value.cells] using r, by simp [Value.cells, ksz, ← r.len, h1], fun u hu => ?_⟩
    obtain ⟨i, hi⟩ := List.mem_iff_getElem?.1 hu
    simp only [Value.cells] at hi
    have hi : ms[i]? = some u := by simpa using hi
    have hlt : i < cs.length := by
      have := (List.getElem?_eq_some_iff.1 hi).1
      rw [r.len]; exact this
    obtain ⟨m', hm', hr⟩ := r.get (i := i) (v := cs[i]) (by simp)
    rw [hi] at hm'
    obtain rfl := Option.some.inj hm'
    exact rep_okm (by simp only [List.all_eq_true] at h2; exact h2 _ (List.getElem_mem _)) hr

/-- A load of what lies at a place. -/
theorem run_loadVar {φ : Phi} {St : Nat → Prop} {w : World} {t : TypeId} {q : Option Nat} {β o : Nat} {v : V} (ht : shp P t = some q) (h : v.fits q = true) (r : RepC φ St w β o (cellsOf v)) :
    ∃ m, (loadVar t ⟨β, o, none⟩).run P w = .ok m w ∧ Rep φ St w v m := by
  unfold loadVar
  cases q with
  | none =>
    have h1 := fits_none h
    rw [okc_cells h1] at r
    obtain ⟨⟨u, hu, q⟩, _⟩ := r
    refine ⟨u, ?_, q⟩
    rw [run_bind, run_isAgg ht]
    simp only [Option.isSome_none, Bool.false_eq_true, if_false]
    exact run_load hu
  | some n =>
    obtain ⟨cs, rfl, h1, _⟩ := fits_some h
    obtain ⟨us, h3, h4⟩ := RepC.vals _ _ r
    refine ⟨.agg us.toArray, ?_, by simp only [Rep]; exact ⟨us, rfl, h3⟩⟩
    rw [run_bind, run_isAgg ht]
    simp only [Option.isSome_some, if_true]
    rw [run_bind, run_sizeOf ht]
    simp only [ksz]
    rw [run_bind, run_loadCells us (by rw [← h3.len]; exact h1) h4]
    rfl

/-- What a pointer points to. -/
theorem deref_spec {φ : Phi} {St Mine : Nat → Prop} {w : World} {H : Nat → Option Blk} {nx : Nat} {v y : V} {m : Value} (q : WR φ St Mine w H nx) (r : Rep φ St w v m) (h : deref H v = some y) :
    ∃ β o, m = .pointer (some ⟨β, o, none⟩) ∧ RepC φ St w β o (cellsOf y) := by
  cases v with
  | rp v =>
    simp only [deref, Option.some.injEq] at h; subst h
    simp only [Rep] at r
    rw [RO_rp] at r
    obtain ⟨β, o, e, _, r⟩ := r
    exact ⟨β, o, e, ROC.rep _ _ r⟩
  | hp b i =>
    simp only [deref, Option.bind_eq_some_iff] at h
    obtain ⟨B, hB, hi⟩ := h
    simp only [Rep] at r
    obtain ⟨β, o, k, hp, e⟩ := r
    rcases q.blk b B hB with ⟨h1, _⟩ | ⟨β', o', h1, _, _, _, _, h6⟩
    · rw [h1] at hi; simp at hi
    · rw [h1] at hp; cases hp
      exact ⟨_, _, e, h6 i y hi⟩
  | hf b i j =>
    simp only [deref, Option.bind_eq_some_iff] at h
    obtain ⟨B, hB, hi⟩ := h
    simp only [Rep] at r
    obtain ⟨β, o, k, hp, e⟩ := r
    split at hi
    · rename_i cs hcs
      simp only [Option.bind_eq_some_iff] at hi
      obtain ⟨c, hc, hi⟩ := hi
      split at hi
      · rename_i hok
        obtain rfl := Option.some.inj hi
        rcases q.blk b B hB with ⟨h1, _⟩ | ⟨β', o', h1, _, _, _, _, h6⟩
        · rw [h1] at hcs; simp at hcs
        · rw [h1] at hp; cases hp
          have := RepC_get (h6 i _ hcs) hc
          rw [okc_cells hok]
          exact ⟨_, _, e, this, trivial⟩
      · cases hi
    · cases hi
  | _ => simp [deref] at h

end Go.Am
