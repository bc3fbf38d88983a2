/-
  A machine of trees and its soundness over the model, part 9.
-/
import Derived.Test.YtocgmaekciphcaaM8
import GoSem.ClaimChange
import Derived.Deep.Slices
import Derived.ChangeArms
import Derived.ReadAgain
import Derived.ChangeOld
import Derived.ChangeShapes
import Derived.WideShapes
import Derived.Lib.Strings
set_option linter.all false
/- The row's arguments as trees. -/
namespace Go.Am
variable {P : Program} {w : World}

/-- Types that a tree shows whole: bools, integers, strings, slices, structs of such leaves. -/
def okT (P : Program) : Nat → TypeId → Bool
  | 0, _ => false
  | d + 1, t =>
    match P.underlying t with
    | some .bool | some (.int _) | some .string => true
    | some (.slice e) => okT P d e && decide (0 < P.cellsOf e)
    | some (.struct fs) => decide (P.cellsOf t = fs.size) && (fs.toList.zipIdx.all fun p => decide (p.1.offset = p.2) && decide (P.cellsOf p.1.type = 1) && (match P.underlying p.1.type with | some (.struct _) => false | _ => true) && okT P d p.1.type)
    | _ => false

/-- A tree of a type. -/
def TY (P : Program) : Nat → TypeId → V → Prop
  | 0, _, _ => False
  | d + 1, t, v =>
    match P.underlying t with
    | some .bool => ∃ b, v = .b b
    | some (.int k) => ∃ n, v = .im (.int k n) ∧ (Lit.int k n).wf = true
    | some .string => ∃ s, v = .im (.string s) ∧ s.size ≤ maxLen
    | some (.slice e) => ∃ es, v = .sl es ∧ es.length ≤ maxLen ∧ ∀ x ∈ es, TY P d e x
    | some (.struct fs) => ∃ cs, v = .st cs ∧ cs.length = fs.size ∧ ∀ (i : Nat) (f : Field), fs[i]? = some f → ∃ c, cs[i]? = some c ∧ TY P d f.type c
    | _ => False

abbrev Old (w : World) : Nat → Prop := fun β => β < w.heap.size

/-- The cells of a tree. -/
def ROcs (w : World) (v : V) (cs : List Value) : Prop := match v with | .st vs => ROL (Old w) w vs cs | v => ∃ m, cs = [m] ∧ RO (Old w) w v m

theorem mapM_range {α : Type} {f : Nat → Option α} : ∀ {n : Nat} {l : List α}, (List.range n).mapM f = some l → l.length = n ∧ ∀ i, i < n → ∃ x, l[i]? = some x ∧ f i = some x := by
  intro n l h
  obtain ⟨h1, h2⟩ := mapM_get h
  refine ⟨by simpa using h1, fun i hi => ?_⟩
  exact h2 i i (by simp [hi])

theorem ROE_at {St : Nat → Prop} {β k : Nat} : ∀ {es : List V} {o : Nat}, (∀ e ∈ es, e.size = k) → (∀ (i : Nat) (e : V), es[i]? = some e → ROC St w β (o + i * k) (cellsOf e)) → ROE St w β o es
  | [], _, _, _ => by simp [ROE]
  | e :: es, o, hk, h => by
    rw [ROE_cons]
    refine ⟨by simpa using h 0 e rfl, ?_⟩
    rw [hk e (by simp)]
    refine ROE_at (k := k) (fun x hx => hk x (by simp [hx])) fun i x hi => ?_
    have := h (i + 1) x (by simpa using hi)
    rwa [show o + (i + 1) * k = o + k + i * k by rw [Nat.succ_mul]; omega] at this

theorem ROC_of {St : Nat → Prop} {β : Nat} : ∀ {vs : List V} {o : Nat} {cs : List Value}, ROL St w vs cs → (∀ (j : Nat) (c : Value), cs[j]? = some c → Cel w β (o + j) = some c) → ROC St w β o vs
  | [], _, _, _, _ => by simp [ROC]
  | v :: vs, o, cs, h, hc => by
    simp only [ROL] at h
    obtain ⟨m, ms', rfl, h1, h2⟩ := h
    simp only [ROC]
    refine ⟨⟨m, by simpa using hc 0 m rfl, h1⟩, ROC_of h2 fun j c hj => ?_⟩
    have := hc (j + 1) c (by simpa using hj)
    rwa [show o + (j + 1) = o + 1 + j by omega] at this

theorem size_of_ROcs {v : V} {cs : List Value} (h : ROcs w v cs) : v.size = cs.length := by
  have len : ∀ {vs : List V} {ms : List Value}, ROL (Old w) w vs ms → vs.length = ms.length := by
    intro vs
    induction vs with
    | nil => intro ms h; simp only [ROL] at h; rw [h]; rfl
    | cons v vs ih => intro ms h; simp only [ROL] at h; obtain ⟨m, ms', rfl, _, h2⟩ := h; simp [ih h2]
  cases v <;> simp only [ROcs] at h
  case st vs => simpa [V.size] using len h
  all_goals (obtain ⟨m, rfl, _⟩ := h; rfl)

theorem cellsOf_ROC {St : Nat → Prop} {β o : Nat} {v : V} {cs : List Value} (h : ROcs w v cs) (hS : ∀ b, Old w b → St b) (hc : ∀ (j : Nat) (c : Value), cs[j]? = some c → Cel w β (o + j) = some c) : ROC (Old w) w β o (cellsOf v) := by
  cases v <;> simp only [ROcs] at h
  case st vs => exact ROC_of h hc
  all_goals
    obtain ⟨m, rfl, h⟩ := h
    simp only [cellsOf, ROC, and_true]
    exact ⟨m, by simpa using hc 0 m rfl, h⟩

theorem cells_get {base n : Nat} {a : Addr} {cs : List Value} (h : w.cells? base a n = some cs) : cs.length = n ∧ ∀ (j : Nat) (c : Value), cs[j]? = some c → w.cell? (a.add j) = some c := by
  unfold World.cells? at h
  split at h
  · obtain ⟨h1, h2⟩ := mapM_range h
    refine ⟨h1, fun j c hj => ?_⟩
    have hlt : j < n := by rw [← h1]; exact (List.getElem?_eq_some_iff.1 hj).1
    obtain ⟨x, hx, hf⟩ := h2 j hlt
    rw [hj] at hx; obtain rfl := Option.some.inj hx
    exact hf
  · cases h

theorem cell_none {a : Addr} {c : Value} (h : w.cell? a = some c) : a.spot = none ∧ a.block < w.heap.size := by
  unfold World.cell? at h
  split at h
  · rename_i cs e f hb
    split at h
    · cases h
    · rename_i hs
      exact ⟨by simpa using hs, (Array.getElem?_eq_some_iff.1 hb).1⟩
  · cases h

theorem add_none {β o : Nat} (n : Nat) : (⟨β, o, none⟩ : Addr).add n = ⟨β, o + n, none⟩ := by
  unfold Addr.add
  split
  · rename_i h; subst h; rfl
  · rfl

theorem read {H : Type} {enc : TypeId × Value → H} {base : Nat} {spare : Nat → Bool} {held : Bool} : ∀ (d fuel : Nat) (t : TypeId) (cs : List Value) (x : DataW H × List MemPlace), okT P d t = true → DataW.trod enc P w base spare held fuel t cs = some x →
    ∃ v, TY P d t v ∧ ROcs w v cs
  | 0, _, _, _, _, h, _ => by simp [okT] at h
  | d + 1, fuel, t, cs, x, hk, h => by
    simp only [okT] at hk
    simp only [TY]
    cases hu : P.underlying t with
    | none => rw [hu] at hk; cases hk
    | some u =>
      rw [hu] at hk
      try simp only
      cases u <;> simp only [Bool.false_eq_true] at hk
      case bool =>
        obtain ⟨b, rfl, _⟩ := DataW.trod_bool hu h
        exact ⟨.b b, ⟨b, rfl⟩, _, rfl, by simp [RO]⟩
      case int k =>
        obtain ⟨n, rfl, _, hw⟩ := DataW.trod_int hu h
        exact ⟨.im (.int k n), ⟨n, rfl, hw⟩, _, rfl, by simp [RO]⟩
      case string =>
        obtain ⟨s, rfl, _, hw⟩ := DataW.trod_string hu h
        exact ⟨.im (.string s), ⟨s, rfl, hw⟩, _, rfl, by simp [RO]⟩
      case slice e =>
        simp only [Bool.and_eq_true, decide_eq_true_eq] at hk
        rcases _root_.Go.Deep.open_slice hu h with ⟨rfl, _⟩ | ⟨a, len, cap, m, n, D, Pl, rfl, _, hl, hm, hmm, _, hel⟩
        · exact ⟨.sl [], ⟨[], rfl, by simp, by simp⟩, _, rfl, by simp only [RO]; exact ⟨none, 0, rfl, by simp, by simp⟩⟩
        · have hle : len ≤ m := by rw [hmm]; split <;> omega
          have hall : ∀ i, ∃ v, i < len → (TY P d e v ∧ ∃ cs', w.cells? base (a.add (i * P.cellsOf e)) (P.cellsOf e) = some cs' ∧ ROcs w v cs') := by
            intro i
            by_cases hi : i < len
            · obtain ⟨cs', h1, h2⟩ := hel i (by omega)
              obtain ⟨v, h3, h4⟩ := read d n e cs' _ hk.1 h2
              exact ⟨v, fun _ => ⟨h3, cs', h1, h4⟩⟩
            · exact ⟨.un, fun h => absurd h hi⟩
          let g : Nat → V := fun i => Classical.choose (hall i)
          have hg : ∀ i, i < len → (TY P d e (g i) ∧ ∃ cs', w.cells? base (a.add (i * P.cellsOf e)) (P.cellsOf e) = some cs' ∧ ROcs w (g i) cs') := fun i => Classical.choose_spec (hall i)
          refine ⟨.sl ((List.range len).map g), ⟨_, rfl, by simp; omega, fun v hv => ?_⟩, _, rfl, ?_⟩
          · obtain ⟨i, hi, rfl⟩ := List.mem_map.1 hv
            exact (hg i (by simpa using hi)).1
          · simp only [RO]
            refine ⟨some a, cap, by simp, by simpa using hl, ?_⟩
            by_cases h0 : len = 0
            · left; subst h0; rfl
            · right
              obtain ⟨β, o, sp⟩ := a
              obtain ⟨_, cs0, h1, h2⟩ := hg 0 (by omega)
              obtain ⟨hl0, hc0⟩ := cells_get h1
              have hlt : 0 < cs0.length := by rw [hl0]; exact hk.2
              have hcell := hc0 0 _ (List.getElem?_eq_getElem hlt)
              have hz : ((⟨β, o, sp⟩ : Addr).add (0 * P.cellsOf e)).add 0 = ⟨β, o, sp⟩ := by simp [Addr.add]
              rw [hz] at hcell
              obtain ⟨hs, hb⟩ := cell_none hcell
              simp only at hs hb
              subst hs
              refine ⟨β, o, P.cellsOf e, rfl, hb, fun v hv => ?_, ROE_at (k := P.cellsOf e) (fun v hv => ?_) fun i v hv => ?_⟩
              · obtain ⟨i, hi, rfl⟩ := List.mem_map.1 hv
                obtain ⟨_, cs', h3, h4⟩ := hg i (by simpa using hi)
                rw [size_of_ROcs h4, (cells_get h3).1]
              · obtain ⟨i, hi, rfl⟩ := List.mem_map.1 hv
                obtain ⟨_, cs', h3, h4⟩ := hg i (by simpa using hi)
                rw [size_of_ROcs h4, (cells_get h3).1]
              · have hi : i < len := by
                  have := (List.getElem?_eq_some_iff.1 hv).1
                  simpa using this
                rw [List.getElem?_map, List.getElem?_range hi] at hv
                obtain rfl := Option.some.inj hv
                obtain ⟨_, cs', h3, h4⟩ := hg i hi
                refine cellsOf_ROC h4 (St := Old w) (fun _ h => h) fun j c hj => ?_
                have := (cells_get h3).2 j c hj
                rw [add_none, add_none] at this
                exact this
      case struct fs =>
        simp only [Bool.and_eq_true, decide_eq_true_eq] at hk
        obtain ⟨xs, n, rfl, _, hl, hx, hf⟩ := DataW.trod_struct hu h
        have hfs : ∀ (i : Nat) (f : Field), fs[i]? = some f → f.offset = i ∧ P.cellsOf f.type = 1 ∧ (match P.underlying f.type with | some (.struct _) => false | _ => true) = true ∧ okT P d f.type = true := by
          intro i f hi
          have := List.all_eq_true.1 hk.2 (f, i) (by rw [List.mk_mem_zipIdx_iff_getElem?]; simpa using hi)
          simp only [Bool.and_eq_true, decide_eq_true_eq] at this
          exact ⟨this.1.1.1, this.1.1.2, this.1.2, this.2⟩
        have hlen : cs.length = fs.size := hl.trans hk.1
        have hall : ∀ i, ∃ v, i < fs.size → ((∀ f, fs[i]? = some f → TY P d f.type v) ∧ ∃ m, cs[i]? = some m ∧ RO (Old w) w v m) := by
          intro i
          by_cases hi : i < fs.size
          · have hfi : fs[i]? = some fs[i] := Array.getElem?_eq_getElem hi
            obtain ⟨h1, h2, h3, h4⟩ := hfs i _ hfi
            have h5 := hf i _ hfi
            rw [h1, h2] at h5
            have hci : i < cs.length := by omega
            have h6 : (cs.drop i).take 1 = [cs[i]] := by rw [List.drop_eq_getElem_cons hci]; rfl
            rw [h6, List.getElem?_eq_getElem (by omega)] at h5
            obtain ⟨v, h7, h8⟩ := read d n _ _ _ h4 h5
            refine ⟨v, fun _ => ⟨fun f hf' => by rw [hfi] at hf'; obtain rfl := Option.some.inj hf'; exact h7, cs[i], List.getElem?_eq_getElem hci, ?_⟩⟩
            cases v <;> simp only [ROcs] at h8
            case st vs =>
              exfalso
              cases d with
              | zero => simp [TY] at h7
              | succ d =>
                simp only [TY] at h7
                cases hu2 : P.underlying fs[i].type with
                | none => rw [hu2] at h7; exact h7
                | some u =>
                  rw [hu2] at h7 h3
                  cases u <;> simp only [Bool.false_eq_true] at h3 h7
                  case bool => obtain ⟨b, e⟩ := h7; cases e
                  case int => obtain ⟨b, e, _⟩ := h7; cases e
                  case string => obtain ⟨b, e, _⟩ := h7; cases e
                  case slice => obtain ⟨b, e, _⟩ := h7; cases e
            all_goals
              obtain ⟨m, hm, h9⟩ := h8
              obtain ⟨rfl, _⟩ := List.cons.inj hm
              exact h9
          · exact ⟨.un, fun h => absurd h hi⟩
        let g : Nat → V := fun i => Classical.choose (hall i)
        have hg := fun i => Classical.choose_spec (hall i)
        refine ⟨.st ((List.range fs.size).map g), ⟨_, rfl, by simp, fun i f hi => ?_⟩, ?_⟩
        · have hlt : i < fs.size := (Array.getElem?_eq_some_iff.1 hi).1
          exact ⟨g i, by simp [hlt], (hg i hlt).1 f hi⟩
        · simp only [ROcs]
          rw [ROL_iff]
          refine ⟨by simp [hlen], fun i v hv => ?_⟩
          have hlt : i < fs.size := by
            have := (List.getElem?_eq_some_iff.1 hv).1
            simpa using this
          rw [List.getElem?_map, List.getElem?_range hlt] at hv
          obtain rfl := Option.some.inj hv
          exact (hg i hlt).2

end Go.Am

/- The row: a law that holds on all trees holds in the machine. -/
namespace Go.Am
open Go.ChangeShapes
variable {P : Program} {W W' : World} {H : Type} {enc : TypeId × Value → H}

/-- The arguments' trees. -/
def TYs (P : Program) (d : Nat) : List TypeId → List V → Prop
  | [], vs => vs = []
  | t :: ts, vs => ∃ v vs', vs = v :: vs' ∧ TY P d t v ∧ TYs P d ts vs'

theorem TY.ror : ∀ {d : Nat} {t : TypeId} {v : V}, TY P d t v → Ror v
  | 0, _, _, h => by simp [TY] at h
  | d + 1, t, v, h => by
    simp only [TY] at h
    split at h
    · obtain ⟨b, rfl⟩ := h; trivial
    · obtain ⟨n, rfl, _⟩ := h; trivial
    · obtain ⟨n, rfl, _⟩ := h; trivial
    · obtain ⟨es, rfl, _, he⟩ := h
      simp only [Ror]
      exact RorL_iff.2 fun x hx => (he x hx).ror
    · rename_i fs _
      obtain ⟨cs, rfl, hl, hc⟩ := h
      simp only [Ror]
      refine RorL_iff.2 fun x hx => ?_
      obtain ⟨i, hi⟩ := List.mem_iff_getElem?.1 hx
      have hlt : i < fs.size := by rw [← hl]; exact (List.getElem?_eq_some_iff.1 hi).1
      obtain ⟨c, h1, h2⟩ := hc i _ (Array.getElem?_eq_getElem hlt)
      rw [hi] at h1; obtain rfl := Option.some.inj h1
      exact h2.ror
    · exact h.elim

mutual
theorem RepT_of_ro {St : Nat → Prop} : ∀ (v : V) (m : Value), Ror v → RO St W v m → RepT St W v m []
  | .im x, m, _, h => by simp only [RO] at h; simp only [RepT]; exact ⟨h, trivial⟩
  | .e0, m, _, h => by simp only [RO] at h; simp only [RepT]; exact ⟨h, trivial⟩
  | .sl es, m, _, h => by simp only [RepT]; exact ⟨h, trivial⟩
  | .rp v, m, _, h => by simp only [RepT]; exact ⟨h, trivial⟩
  | .st cs, m, hr, h => by simp only [Ror] at hr; simp only [RO] at h; simp only [RepT]; obtain ⟨ms, e, h⟩ := h; exact ⟨ms, e, RepTL_of_ro cs ms hr h⟩
  | .cl f cs, m, hr, h => by simp only [Ror] at hr; simp only [RO] at h; simp only [RepT]; obtain ⟨ms, e, h⟩ := h; exact ⟨ms, e, RepTL_of_ro cs ms hr h⟩
  | .tu _, m, hr, _ => by simp [Ror] at hr
  | .ow _ _, m, hr, _ => by simp [Ror] at hr
  | .op _, m, hr, _ => by simp [Ror] at hr
  | .hs .., m, hr, _ => by simp [Ror] at hr
  | .hp .., m, hr, _ => by simp [Ror] at hr
  | .hf .., m, hr, _ => by simp [Ror] at hr
theorem RepTL_of_ro {St : Nat → Prop} : ∀ (vs : List V) (ms : List Value), RorL vs → ROL St W vs ms → RepTL St W vs ms []
  | [], ms, _, h => by simp only [ROL] at h; simp only [RepTL]; exact ⟨h, trivial⟩
  | v :: vs, ms, hr, h => by
    simp only [RorL] at hr
    simp only [ROL] at h
    obtain ⟨m, ms', rfl, h1, h2⟩ := h
    simp only [RepTL]
    exact ⟨m, ms', [], [], rfl, rfl, RepT_of_ro v m hr.1 h1, RepTL_of_ro vs ms' hr.2 h2⟩
end

theorem arg {r : Reach} {base b0 : Nat} {spare : Nat → Bool} {held : Bool} {d : Nat} {t : TypeId} {m : Value} {dd : DataW H} {ps : List MemPlace} (hk : okT P d t = true) (hv : Value.okWide P W r b0 t m) (h : DataW.Trod enc P W base spare held t m dd ps) :
    ∃ v, TY P d t v ∧ RepT (Old W) W v m [] := by
  obtain ⟨fuel, h⟩ := h
  obtain ⟨v, h1, h2⟩ := read d fuel t _ _ hk h
  refine ⟨v, h1, RepT_of_ro v m h1.ror ?_⟩
  have one : (∀ cs, m ≠ .agg cs) → (∀ vs, v ≠ .st vs) → RO (Old W) W v m := by
    intro hna hns
    have hc : m.cells.toList = [m] := by cases m <;> first | rfl | exact absurd rfl (hna _)
    rw [hc] at h2
    cases v <;> simp only [ROcs] at h2 <;> first | exact absurd rfl (hns _) | (obtain ⟨m', e, h3⟩ := h2; obtain ⟨rfl, _⟩ := List.cons.inj e; exact h3)
  cases d with
  | zero => simp [TY] at h1
  | succ d =>
    simp only [TY] at h1
    split at h1
    · rename_i hu
      obtain ⟨b, rfl⟩ := h1
      exact one (by rintro cs rfl; simp [Value.okWide, hu, Cell.okWide, Cell.ok] at hv) (by rintro vs e; cases e)
    · rename_i hu
      obtain ⟨b, rfl, _⟩ := h1
      exact one (by rintro cs rfl; simp [Value.okWide, hu, Cell.okWide, Cell.ok] at hv) (by rintro vs e; cases e)
    · rename_i hu
      obtain ⟨b, rfl, _⟩ := h1
      exact one (by rintro cs rfl; simp [Value.okWide, hu, Cell.okWide, Cell.ok] at hv) (by rintro vs e; cases e)
    · rename_i hu
      obtain ⟨b, rfl, _⟩ := h1
      exact one (by rintro cs rfl; simp [Value.okWide, hu, Cell.okWide, Cell.ok] at hv) (by rintro vs e; cases e)
    · rename_i hu
      obtain ⟨vs, rfl, _⟩ := h1
      simp only [Value.okWide, hu] at hv
      obtain ⟨cs, rfl, _⟩ := hv
      simp only [ROcs, Value.cells] at h2
      simp only [RO]
      exact ⟨cs.toList, by simp, h2⟩
    · exact h1.elim

theorem args_trees {base b0 : Nat} {spare : Nat → Bool} {held : Bool} {d : Nat} : ∀ {ts : List TypeId} {ms : List Value} {ds : List (DataW H)} {ps : List MemPlace}, (∀ t ∈ ts, okT P d t = true) → (∀ (j : Nat) (t : TypeId) (v : Value), ts[j]? = some t → ms[j]? = some v → Value.okWide P W .any b0 t v) →
    DataW.TrodAll enc P W base spare held ts ms ds ps → ds.length = ts.length ∧ ∃ vs, TYs P d ts vs ∧ RepTL (Old W) W vs ms []
  | [], [], [], ps, _, _, _ => ⟨rfl, [], rfl, by simp [RepTL]⟩
  | t :: ts, m :: ms, dd :: ds, ps, hk, hv, h => by
    obtain ⟨p, q, h1, h2, _⟩ := h
    obtain ⟨v, k1, k2⟩ := arg (hk t (by simp)) (hv 0 t m rfl rfl) h1
    obtain ⟨hl, vs, g1, g2⟩ := args_trees (fun t ht => hk t (by simp [ht])) (fun j t v hj hm => hv (j + 1) t v (by simpa using hj) (by simpa using hm)) h2
    exact ⟨by simp [hl], v :: vs, ⟨v, vs, rfl, k1, g1⟩, by simp only [RepTL]; exact ⟨m, ms, [], [], rfl, rfl, k2, g2⟩⟩
  | [], _ :: _, _, _, _, _, h => h.elim
  | [], [], _ :: _, _, _, _, h => h.elim
  | _ :: _, [], _, _, _, _, h => h.elim
  | _ :: _, _ :: _, [], _, _, _, h => h.elim

theorem carryAll {base : Nat} {spare : Nat → Bool} {held : Bool} : ∀ {ts : List TypeId} {ms : List Value} {ds : List (DataW H)} {ps : List MemPlace}, DataW.TrodAll enc P W base spare held ts ms ds ps → (∀ p ∈ ps, W.sameAt W' p) → DataW.TrodAll enc P W' base spare held ts ms ds ps
  | [], [], [], ps, h, _ => h
  | t :: ts, m :: ms, dd :: ds, ps, ⟨p, q, ⟨n, h1⟩, h2, e⟩, hs => ⟨p, q, ⟨n, DataW.trod_carry n _ _ _ h1 fun x hx => hs x (by rw [e]; exact List.mem_append_left _ hx)⟩, carryAll h2 fun x hx => hs x (by rw [e]; exact List.mem_append_right _ hx), e⟩
  | [], _ :: _, _, _, h, _ => h.elim
  | [], [], _ :: _, _, h, _ => h.elim
  | _ :: _, [], _, _, h, _ => h.elim
  | _ :: _, _ :: _, [], _, h, _ => h.elim

/-- A law that returns true on all trees: in the machine it returns true, and its arguments read as they did. -/
theorem law_post {f : FuncId} {fn : Func} {s : ChangeSpec} {base tb d : Nat} {args : Array Value} {ds gs : List (DataW H)} {before : List MemPlace} (K : Kids P (· < P.types.size)) (hz : ∀ t e, t < P.types.size → P.underlying t = some (.slice e) → 0 < P.cellsOf e)
    (hval : ∀ (j : Nat) (t : TypeId) (v : Value), fn.params[j]? = some t → args[j]? = some v → Value.okWide P W .any base t v) (hW : DataW.Whole enc P fn.params.toList s.vars false W args.toList ds gs before)
    (hvars : s.vars = []) (hspec : ∀ ds : List (DataW H), ds.length = fn.params.size → s.fn H ds = { results := [.lit (.bool true)], args := ds }) (hres : fn.resultTypes = #[tb]) (hb : P.underlying tb = some .bool)
    (hok : ∀ t ∈ fn.params.toList, okT P d t = true ∧ t < P.types.size) (hcall : ∀ vs, TYs P d fn.params.toList vs → IsoOK P f [] vs (.b true) []) :
    Calls P f args W fun e W' => ∃ v, e = .returned v ∧ s.post enc P fn false true false false W args v W' := by
  have hW0 := hW
  obtain ⟨p, q, hA, hV, rfl, hnf, hnd⟩ := hW
  obtain ⟨hl, vs, h1, h2⟩ := args_trees (b0 := base) (d := d) (fun t ht => (hok t ht).1) (fun j t v hj hv => hval j t v (by simpa using hj) (by simpa using hv)) hA
  rw [hvars] at hV
  obtain ⟨rfl, rfl⟩ : gs = [] ∧ q = [] := by
    cases gs with
    | nil => exact ⟨rfl, hV⟩
    | cons _ _ => exact hV.elim
  have hc := hcall vs h1 W (Old W) args.toList [] h2 List.nodup_nil (by simp) (fun _ h => h)
  rw [Array.toArray_toList] at hc
  refine hc.mono ?_
  rintro e W2 ⟨m, L1, L2, rfl, stp, hr, _⟩
  simp only [RepT] at hr
  obtain ⟨rfl, _⟩ := hr
  have hds : ds.length = fn.params.size := by simpa using hl
  have hsp := hspec (ds ++ []) (by simpa using hds)
  have hlt : ∀ x ∈ p, x.block < W.heap.size := fun x hx => DataW.TrodAll.lt hA x hx
  refine ⟨_, rfl, ds, [], p ++ [], [], p, [], hW0, ?_, ?_, ?_, ?_, fun h => by cases h⟩
  · rw [hsp, hres]
    exact trodAll_mk1 ⟨1, by simp [DataW.trod, hb, Value.cells]⟩
  · rw [hsp]
    simp only [List.append_nil]
    refine carryAll (DataW.TrodAll.respare K hz (fun t ht => (hok t ht).2) hA fun x hx => by simpa using hlt x hx) fun x hx => ?_
    have hx' := hlt x hx
    cases x with
    | cell b off => simp only [World.sameAt]; exact stp.stab.cel hx' off
    | map b => simp only [World.sameAt]; exact stp.stab b hx'
  · rw [hvars, hsp]; rfl
  · refine ⟨stp.os, stp.output, fun i hi => ?_⟩
    rw [stp.stab i hi]
    cases hx : W.heap[i]? with
    | none => trivial
    | some o =>
      cases o with
      | cells c t fr => exact ⟨rfl, rfl, rfl, fun _ _ => rfl⟩
      | map es c => exact .inr ⟨rfl, rfl⟩
      | _ => rfl

end Go.Am

/- The B-machine, part 15: rules for walks whose facts are numbers and lists. -/
namespace Go.Am

section
variable {Γ : Env} {T : Nat → Option FB} {s : S} {K : V → S → Prop} {Q : R → Prop}

/-! Arithmetic without overflow. -/
theorem wo_add {x y : O} {a b : Int} (hx : val s.e x = .i a) (hy : val s.e y = .i b) (h : -9223372036854775808 ≤ a + b ∧ a + b ≤ 9223372036854775807) (k : K (.i (a + b)) s) : WO Γ T (.bi .add x y) s K :=
  wo_bi hx hy (by simp only [abin, if_true, aint]; rw [wrap_id h.1 h.2]) k
theorem wo_sub {x y : O} {a b : Int} (hx : val s.e x = .i a) (hy : val s.e y = .i b) (h : -9223372036854775808 ≤ a - b ∧ a - b ≤ 9223372036854775807) (k : K (.i (a - b)) s) : WO Γ T (.bi .sub x y) s K :=
  wo_bi hx hy (by simp only [abin, if_true, aint]; rw [wrap_id h.1 h.2]) k
theorem wo_mul {x y : O} {a b : Int} (hx : val s.e x = .i a) (hy : val s.e y = .i b) (h : -9223372036854775808 ≤ a * b ∧ a * b ≤ 9223372036854775807) (k : K (.i (a * b)) s) : WO Γ T (.bi .mul x y) s K :=
  wo_bi hx hy (by simp only [abin, if_true, aint]; rw [wrap_id h.1 h.2]) k
/-- One more. -/
theorem wo_inc {x : O} {a : Nat} (hx : val s.e x = .i (a : Nat)) (h : a < 9223372036854775807) (k : K (.i ((a + 1 : Nat) : Int)) s) : WO Γ T (.bi .add x (.n 1)) s K :=
  wo_add hx rfl (by omega) k

/-! Indexing of lists that are only read. -/
theorem wo_iaL {α : Type} {f : α → V} {l : List α} {q : Option Nat} {x i : O} {n : Nat} {a : α} (hx : val s.e x = .sl (l.map f)) (hi : val s.e i = .i (n : Nat)) (he : l[n]? = some a) (hs : (f a).size = ksz q) (k : K (.rp (f a)) s) : WO Γ T (.ia q x i) s K :=
  wo_ia (e := f a) hx hi (Int.natCast_nonneg n) (by simp [he]) hs k
theorem wo_iaZ {α : Type} {f : α → V} {l : List α} {q : Option Nat} {x i : O} {n : Int} {a : α} (hx : val s.e x = .sl (l.map f)) (hi : val s.e i = .i n) (h0 : 0 ≤ n) (he : l[n.toNat]? = some a) (hs : (f a).size = ksz q) (k : K (.rp (f a)) s) : WO Γ T (.ia q x i) s K :=
  wo_ia (e := f a) hx hi h0 (by simp [he]) hs k
/-- The element is named as it is met. -/
theorem wo_iaN {α : Type} {f : α → V} {l : List α} {q : Option Nat} {x i : O} {n : Nat} (hx : val s.e x = .sl (l.map f)) (hi : val s.e i = .i (n : Nat)) (h : n < l.length) (hs : ∀ a, (f a).size = ksz q) (k : ∀ a, a ∈ l → l[n]? = some a → K (.rp (f a)) s) : WO Γ T (.ia q x i) s K :=
  wo_iaL hx hi (List.getElem?_eq_getElem h) (hs _) (k _ (List.getElem_mem h) (List.getElem?_eq_getElem h))
theorem wo_iaM {α : Type} {f : α → V} {l : List α} {q : Option Nat} {x i : O} {n : Int} (hx : val s.e x = .sl (l.map f)) (hi : val s.e i = .i n) (h0 : 0 ≤ n ∧ n < l.length) (hs : ∀ a, (f a).size = ksz q) (k : ∀ a, a ∈ l → l[n.toNat]? = some a → K (.rp (f a)) s) : WO Γ T (.ia q x i) s K :=
  wo_iaZ hx hi h0.1 (List.getElem?_eq_getElem (h := by omega)) (hs _) (k _ (List.getElem_mem _) (List.getElem?_eq_getElem (by omega)))
/-- The same in a block of the frame's own. -/
theorem wo_ihN {q : Option Nat} {x i : O} {b m c n : Nat} {B : Blk} (hx : val s.e x = .hs b 0 m c) (hi : val s.e i = .i (n : Nat)) (hB : s.H b = some B) (h : n < m) (hk : B.k = ksz q) (k : K (.hp b n) s) : WO Γ T (.ia q x i) s K := wo_iah0 hx hi hB h hk k
theorem wo_ihM {q : Option Nat} {x i : O} {b m c : Nat} {n : Int} {B : Blk} (hx : val s.e x = .hs b 0 m c) (hi : val s.e i = .i n) (hB : s.H b = some B) (h : 0 ≤ n ∧ n < m) (hk : B.k = ksz q) (k : K (.hp b n.toNat) s) : WO Γ T (.ia q x i) s K :=
  wo_iah hx hi hB h.1 h.2 hk (by simpa using k)
/-- What lies there. -/
theorem wo_ldN {q : Option Nat} {x : O} {b n : Nat} {B : Blk} {v : V} (hx : val s.e x = .hp b n) (hB : s.H b = some B) (hv : B.es[n]? = some v) (hf : v.fits q = true) (k : K v s) : WO Γ T (.ld q x) s K := by
  refine wo_of (v := v) (s1 := s) ?_ k
  simp only [opB, ldB, hx, derefB, hB, Option.bind_some, hv, hf, if_true]
/-- Out of a list of plain values. -/
theorem wo_ldL {α : Type} {f : α → V} {l : List α} {q : Option Nat} {x : O} {b n : Nat} {kk : Nat} {fr : Bool} (hx : val s.e x = .hp b n) (hB : s.H b = some ⟨kk, l.map f, fr⟩) (h : n < l.length) (hf : ∀ a, (f a).fits q = true) (k : ∀ a, a ∈ l → l[n]? = some a → K (f a) s) : WO Γ T (.ld q x) s K := by
  have e : l[n]? = some l[n] := List.getElem?_eq_getElem h
  exact wo_ldN hx hB (by simp [e]) (hf _) (k _ (List.getElem_mem h) e)
theorem wo_soL {α : Type} {f : α → V} {l : List α} {a : α} {q : Option Nat} {p x : O} {b i : Nat} {kk : Nat} (hp : val s.e p = .hp b i) (hB : s.H b = some ⟨kk, l.map f, false⟩) (hx : val s.e x = f a) (hi : i < l.length) (hk : kk = ksz q) (hf : (f a).fits q = true)
    (k : K .un { s with H := upd s.H b (some ⟨kk, (l.set i a).map f, false⟩) }) : WO Γ T (.so q p x) s K :=
  wo_so hp hB rfl (by simpa using hi) hk (by rw [hx]; exact hf) (by rw [hx]; simpa [List.map_set] using k)

/-! Appending. -/
theorem wo_ap1 {q : Option Nat} {x y : O} {b n : Nat} {es : List V} {kk : Nat} {v : V} (hx : val s.e x = .hs b 0 n n) (hB : s.H b = some ⟨kk, es, false⟩) (hy : elems s.H (val s.e y) = some [v]) (hn : n = es.length) (hk : kk = ksz q) (hf : v.fits q = true) (hl : n < 2 ^ 36)
    (k : K (.hs s.nx 0 (n + 1) (n + 1)) ((s.blk b none).new kk (es ++ [v]))) : WO Γ T (.ap q x y) s K := by
  refine wo_of (v := .hs s.nx 0 (n + 1) (n + 1)) (s1 := (s.blk b none).new kk (es ++ [v])) ?_ k
  subst hk
  simp only [opB, opA, hy, List.all_cons, hf, List.all_nil, Bool.and_true, if_true, appendTo, hx, hB, List.length_singleton]
  rw [if_pos ⟨trivial, trivial, by unfold LIM; omega⟩, if_neg (by omega), if_pos (by omega)]
  simp
theorem wo_apE {q : Option Nat} {x y : O} {es : List V} (hx : val s.e x = .e0) (hy : elems s.H (val s.e y) = some es) (hf : es.all (·.fits q) = true) (hl : es.length ≤ 2 ^ 36) (h0 : es ≠ []) (k : K (.hs s.nx 0 es.length es.length) (s.new (ksz q) es)) : WO Γ T (.ap q x y) s K := by
  refine wo_of (v := .hs s.nx 0 es.length es.length) (s1 := s.new (ksz q) es) ?_ k
  simp only [opB, opA, hy, hf, if_true, appendTo, hx, h0, if_false]
  rw [if_pos (by unfold LIM; omega)]
/-- Of plain values. -/
theorem wo_apL {α : Type} {f : α → V} {l : List α} {a : α} {q : Option Nat} {x y : O} {b n : Nat} {kk : Nat} (hx : val s.e x = .hs b 0 n n) (hB : s.H b = some ⟨kk, l.map f, false⟩) (hy : elems s.H (val s.e y) = some [f a]) (hn : n = l.length) (hk : kk = ksz q) (hf : (f a).fits q = true) (hl : l.length < 2 ^ 36)
    (k : K (.hs s.nx 0 (l ++ [a]).length (l ++ [a]).length) ((s.blk b none).new kk ((l ++ [a]).map f))) : WO Γ T (.ap q x y) s K := by
  subst hn
  refine wo_ap1 hx hB hy (by simp) hk hf hl ?_
  simpa using k
theorem wo_apL0 {α : Type} {f : α → V} {a : α} {q : Option Nat} {x y : O} (hx : val s.e x = .e0) (hy : elems s.H (val s.e y) = some [f a]) (hf : (f a).fits q = true) (k : K (.hs s.nx 0 1 1) (s.new (ksz q) ([a].map f))) : WO Γ T (.ap q x y) s K :=
  wo_apE hx hy (by simp [hf]) (by simp) (by simp) k

/-! Conditions. -/
theorem wp_condD {o : O} {a b : CB} {p : Prop} [Decidable p] (hc : val s.e o = .b (decide p)) (ht : p → WP Γ T a s Q) (hf : ¬ p → WP Γ T b s Q) : WP Γ T (.cond o a b) s Q :=
  wp_cond hc (fun h => ht (of_decide_eq_true h)) fun h => hf (of_decide_eq_false h)
theorem wp_condND {o : O} {a b : CB} {p : Prop} [Decidable p] (hc : val s.e o = .b (!decide p)) (ht : ¬ p → WP Γ T a s Q) (hf : p → WP Γ T b s Q) : WP Γ T (.cond o a b) s Q :=
  wp_cond hc (fun h => ht (by simpa using h)) fun h => hf (by simpa using h)
theorem wp_condE {α : Type} [DecidableEq α] {o : O} {a b : CB} {x y : α} (hc : val s.e o = .b (x == y)) (ht : x = y → WP Γ T a s Q) (hf : x ≠ y → WP Γ T b s Q) : WP Γ T (.cond o a b) s Q :=
  wp_cond hc (fun h => ht (by simpa using h)) fun h => hf (by simpa using h)
theorem wp_condNE {α : Type} [DecidableEq α] {o : O} {a b : CB} {x y : α} (hc : val s.e o = .b (x != y)) (ht : x ≠ y → WP Γ T a s Q) (hf : x = y → WP Γ T b s Q) : WP Γ T (.cond o a b) s Q :=
  wp_cond hc (fun h => ht (by simpa using h)) fun h => hf (by simpa using h)
theorem wp_condNE' {α : Type} [DecidableEq α] {o : O} {a b : CB} {x y : α} (hc : val s.e o = .b (!(x == y))) (ht : x ≠ y → WP Γ T a s Q) (hf : x = y → WP Γ T b s Q) : WP Γ T (.cond o a b) s Q :=
  wp_cond hc (fun h => ht (by simpa using h)) fun h => hf (by simpa using h)
theorem wp_condN {o : O} {a b : CB} {c : Bool} (hc : val s.e o = .b (!c)) (ht : c = false → WP Γ T a s Q) (hf : c = true → WP Γ T b s Q) : WP Γ T (.cond o a b) s Q :=
  wp_cond hc (fun h => ht (by simpa using h)) fun h => hf (by simpa using h)

/-! Ends. -/
theorem fin_im {s : S} {l : List (Nat × Option (Option Nat))} {x y : Value} (hr : resOfB s l = some (.im y, [])) (h : y = x) : ∃ v o i, resOfB s l = some (v, o) ∧ giveB DEP s.H v = some (.im x, i) ∧ (o ++ i).Nodup := by
  subst h; exact ⟨_, _, _, hr, rfl, List.nodup_nil⟩
theorem fin_b {s : S} {l : List (Nat × Option (Option Nat))} {x y : Bool} (hr : resOfB s l = some (.b y, [])) (h : y = x) : ∃ v o i, resOfB s l = some (v, o) ∧ giveB DEP s.H v = some (.b x, i) ∧ (o ++ i).Nodup := fin_im hr (by rw [h])
theorem fin_i {s : S} {l : List (Nat × Option (Option Nat))} {x y : Int} (hr : resOfB s l = some (.i y, [])) (h : y = x) : ∃ v o i, resOfB s l = some (v, o) ∧ giveB DEP s.H v = some (.i x, i) ∧ (o ++ i).Nodup := fin_im hr (by rw [h])
theorem fin_s {s : S} {l : List (Nat × Option (Option Nat))} {x y : ByteArray} (hr : resOfB s l = some (.s y, [])) (h : y = x) : ∃ v o i, resOfB s l = some (v, o) ∧ giveB DEP s.H v = some (.s x, i) ∧ (o ++ i).Nodup := fin_im hr (by rw [h])

/-! Rounds over a list. -/
theorem rd_lt {α ρ : Type} {l : List α} {i : Nat} {F : List α → ρ} {r : ρ} (hF : F (l.drop i) = r) (h : i < l.length) : ∃ x, l[i]? = some x ∧ x ∈ l ∧ F (x :: l.drop (i + 1)) = r :=
  ⟨l[i], List.getElem?_eq_getElem h, List.getElem_mem h, by rw [← hF, List.drop_eq_getElem_cons h]⟩
theorem rd_ge {α ρ : Type} {l : List α} {i : Nat} {F : List α → ρ} {r : ρ} (hF : F (l.drop i) = r) (h : ¬ i < l.length) : F [] = r := by
  rw [← hF, List.drop_eq_nil_of_le (by omega)]
end

/-- Bounds on the length of lists, all the way down. -/
class Bnd (α : Type) where
  le : Nat → α → Prop
abbrev Bnd.ok {α : Type} [Bnd α] (a : α) : Prop := Bnd.le (2 ^ 20) a
abbrev Bnd.wf {α : Type} [Bnd α] (a : α) : Prop := Bnd.le 9223372036854775807 a
instance : Bnd Int := ⟨fun _ _ => True⟩
instance : Bnd Nat := ⟨fun _ _ => True⟩
instance : Bnd Bool := ⟨fun _ _ => True⟩
instance : Bnd UInt8 := ⟨fun _ _ => True⟩
instance : Bnd ByteArray := ⟨fun B s => s.size ≤ B⟩
instance {α : Type} [Bnd α] : Bnd (List α) := ⟨fun B l => l.length ≤ B ∧ ∀ x ∈ l, Bnd.le B x⟩
instance {α β : Type} [Bnd α] [Bnd β] : Bnd (α × β) := ⟨fun B p => Bnd.le B p.1 ∧ Bnd.le B p.2⟩
theorem ok_len {α : Type} [Bnd α] {l : List α} (h : Bnd.ok l) : l.length ≤ 2 ^ 20 := h.1
theorem wf_len {α : Type} [Bnd α] {l : List α} (h : Bnd.wf l) : l.length ≤ 9223372036854775807 := h.1
theorem ok_mem {α : Type} [Bnd α] {l : List α} {x : α} (h : Bnd.ok l) (hx : x ∈ l) : Bnd.ok x := h.2 x hx
theorem wf_mem {α : Type} [Bnd α] {l : List α} {x : α} (h : Bnd.wf l) (hx : x ∈ l) : Bnd.wf x := h.2 x hx

abbrev eI (l : List Int) : V := .sl (l.map .i)
abbrev eB (l : List Bool) : V := .sl (l.map .b)
abbrev eS (l : List ByteArray) : V := .sl (l.map .s)
abbrev eL {α : Type} (f : α → V) (l : List α) : V := .sl (l.map f)
abbrev eR (l : List Int) : V := .st [eI l]
abbrev oI (l : List Int) : V := .ow 1 (l.map .i)
abbrev oB (l : List Bool) : V := .ow 1 (l.map .b)
abbrev oS (l : List ByteArray) : V := .ow 1 (l.map .s)
abbrev oL {α : Type} (k : Nat) (f : α → V) (l : List α) : V := .ow k (l.map f)
abbrev oR (l : List Int) : V := .st [oI l]

end Go.Am

/- The B-machine, part 16: one operation at a time, on states written out. -/
namespace Go.Am

/-- As 'upd', told by a test that is computed. -/
def up {α : Type} (f : Nat → α) (i : Nat) (v : α) : Nat → α := fun j => bif Nat.beq j i then v else f j
theorem up_eq {α : Type} (f : Nat → α) (i : Nat) (v : α) : upd f i v = up f i v := by
  funext j
  unfold upd up
  by_cases h : j = i
  · subst h; simp
  · have : Nat.beq j i = false := by
      cases hb : Nat.beq j i with
      | false => rfl
      | true => exact absurd (Nat.eq_of_beq_eq_true hb) h
    rw [if_neg h, this]; rfl
theorem up_id {α : Type} (f : Nat → α) (i : Nat) (v : α) (h : f i = v) : up f i v = f := by
  rw [← up_eq]; funext j; unfold upd; split <;> simp_all

/-- Two ways. -/
structure Br (p q A B : Prop) : Prop where
  l : p → A
  r : q → B

section
variable {Γ : Env} {T : Nat → Option FB} {e : Nat → V} {H : Nat → Option Blk} {n : Nat} {z : Bool} {l : List I} {K : S → Prop} {Q : R → Prop} {d : Nat}

theorem g_op {a : A} {v : V} {H' : Nat → Option Blk} {n' : Nat} (h : opB (callB Γ T (EXB Γ T)) ⟨e, H, n, z⟩ a = some (v, ⟨e, H', n', z⟩)) (k : WL Γ T l ⟨up e d v, H', n', z⟩ K) : WL Γ T (o d a :: l) ⟨e, H, n, z⟩ K :=
  wr_op (wo_of h (by rw [← up_eq] at k; exact k))
theorem g_of {a : A} {v : V} {H' : Nat → Option Blk} {n' : Nat} (h : WO Γ T a ⟨e, H, n, z⟩ fun w s => w = v ∧ s = ⟨e, H', n', z⟩) (k : WL Γ T l ⟨up e d v, H', n', z⟩ K) : WL Γ T (o d a :: l) ⟨e, H, n, z⟩ K := by
  refine wr_op ?_
  rw [← up_eq] at k
  have h' := h
  unfold WO at h' ⊢
  obtain ⟨w, s, h1, rfl, rfl⟩ := h'
  exact ⟨_, _, h1, k⟩
theorem g_op0 {a : A} {v : V} {H' : Nat → Option Blk} {n' : Nat} (h : opB (callB Γ T (EXB Γ T)) ⟨e, H, n, z⟩ a = some (v, ⟨e, H', n', z⟩)) (k : WL Γ T l ⟨e, H', n', z⟩ K) : WL Γ T (oo a :: l) ⟨e, H, n, z⟩ K :=
  wr_op (wo_of h k)

/-! Guards. -/
theorem g_gt {t : Nat} {w : Bool} {a : A} (hb : e t = .b w) (k : WL Γ T (o d a :: l) ⟨e, H, n, z⟩ K) : WL Γ T (og d t w a :: l) ⟨e, H, n, z⟩ K := by
  unfold WL at k ⊢
  obtain ⟨s1, h1, h2⟩ := k
  refine ⟨s1, ?_, h2⟩
  rw [runB_cons] at h1 ⊢
  simpa only [guardA, hb, beq_self_eq_true] using h1
theorem g_gf {t : Nat} {w : Bool} {a : A} (hb : e t = .b (!w)) (k : WL Γ T l ⟨up e d .un, H, n, z⟩ K) : WL Γ T (og d t w a :: l) ⟨e, H, n, z⟩ K :=
  wr_gf hb rfl (by rw [← up_eq] at k; exact k)
theorem g_gt0 {t : Nat} {w : Bool} {a : A} (hb : e t = .b w) (k : WL Γ T (oo a :: l) ⟨e, H, n, z⟩ K) : WL Γ T (oog t w a :: l) ⟨e, H, n, z⟩ K := by
  unfold WL at k ⊢
  obtain ⟨s1, h1, h2⟩ := k
  refine ⟨s1, ?_, h2⟩
  rw [runB_cons] at h1 ⊢
  simpa only [guardA, hb, beq_self_eq_true] using h1
theorem g_gf0 {t : Nat} {w : Bool} {a : A} (hb : e t = .b (!w)) (k : WL Γ T l ⟨e, H, n, z⟩ K) : WL Γ T (oog t w a :: l) ⟨e, H, n, z⟩ K :=
  wr_gf hb rfl k

/-- What a truth value says. -/
structure Says (c : Bool) (p q : Prop) : Prop where
  t : c = true → p
  f : c = false → q
theorem says_d {p : Prop} [Decidable p] : Says (decide p) p (¬ p) := ⟨of_decide_eq_true, of_decide_eq_false⟩
theorem says_e {α : Type} [DecidableEq α] {x y : α} : Says (x == y) (x = y) (x ≠ y) := ⟨by simp, by simp⟩
theorem says_n {c : Bool} {p q : Prop} (h : Says c p q) : Says (!c) q p := ⟨fun h1 => h.f (by simpa using h1), fun h1 => h.t (by simpa using h1)⟩
theorem says_b {c : Bool} : Says c (c = true) (c = false) := ⟨id, id⟩
/-- A guard: the cases. -/
theorem g_gc {a : List I} {t : Nat} {c : Bool} {p q : Prop} (hb : e t = .b c) (hs : Says c p q) (k : Br p q (WL Γ T a ⟨up e t (.b true), H, n, z⟩ K) (WL Γ T a ⟨up e t (.b false), H, n, z⟩ K)) : WL Γ T a ⟨e, H, n, z⟩ K := by
  cases c with
  | true => have := k.l (hs.t rfl); rwa [up_id e t _ hb] at this
  | false => have := k.r (hs.f rfl); rwa [up_id e t _ hb] at this
theorem g_gcg {t : Nat} {w : Bool} {a : A} {c : Bool} {p q : Prop} (hb : e t = .b c) (hs : Says c p q) (k : Br p q (WL Γ T (og d t w a :: l) ⟨up e t (.b true), H, n, z⟩ K) (WL Γ T (og d t w a :: l) ⟨up e t (.b false), H, n, z⟩ K)) : WL Γ T (og d t w a :: l) ⟨e, H, n, z⟩ K := g_gc hb hs k
theorem g_gcg0 {t : Nat} {w : Bool} {a : A} {c : Bool} {p q : Prop} (hb : e t = .b c) (hs : Says c p q) (k : Br p q (WL Γ T (oog t w a :: l) ⟨up e t (.b true), H, n, z⟩ K) (WL Γ T (oog t w a :: l) ⟨up e t (.b false), H, n, z⟩ K)) : WL Γ T (oog t w a :: l) ⟨e, H, n, z⟩ K := g_gc hb hs k
theorem g_cond {x : O} {a b : CB} {c : Bool} {p q : Prop} (hc : val e x = .b c) (hs : Says c p q) (k : Br p q (WP Γ T a ⟨e, H, n, z⟩ Q) (WP Γ T b ⟨e, H, n, z⟩ Q)) : WP Γ T (.cond x a b) ⟨e, H, n, z⟩ Q :=
  wp_cond hc (fun h => k.l (hs.t h)) fun h => k.r (hs.f h)
theorem g_condT {x : O} {a b : CB} (hc : val e x = .b true) (k : WP Γ T a ⟨e, H, n, z⟩ Q) : WP Γ T (.cond x a b) ⟨e, H, n, z⟩ Q :=
  wp_cond hc (fun _ => k) fun h => by cases h
theorem g_condF {x : O} {a b : CB} (hc : val e x = .b false) (k : WP Γ T b ⟨e, H, n, z⟩ Q) : WP Γ T (.cond x a b) ⟨e, H, n, z⟩ Q :=
  wp_cond hc (fun h => by cases h) fun _ => k

theorem ibeq (a b : Int) : (a == b) = decide (a = b) := by by_cases h : a = b <;> simp [h]
/-! Operations. -/
theorem g_mv {x : O} {v : V} (h : val e x = v) (k : WL Γ T l ⟨up e d v, H, n, z⟩ K) : WL Γ T (o d (.mv x) :: l) ⟨e, H, n, z⟩ K := g_op (by rw [← h]; rfl) k
theorem g_ld {q : Option Nat} {x : O} {v : V} (h : derefB H (val e x) = some v) (hf : v.fits q = true) (k : WL Γ T l ⟨up e d v, H, n, z⟩ K) : WL Γ T (o d (.ld q x) :: l) ⟨e, H, n, z⟩ K :=
  g_op (by simp only [opB, ldB, h, hf, if_true]) k
theorem g_fah {x : O} {j b i : Nat} (h : val e x = .hp b i) (k : WL Γ T l ⟨up e d (.hf b i j), H, n, z⟩ K) : WL Γ T (o d (.fa j x) :: l) ⟨e, H, n, z⟩ K := g_op (by simp only [opB, opA, h]) k
theorem g_far {x : O} {j : Nat} {cs : List V} {c : V} (h : val e x = .rp (.st cs)) (hc : cs[j]? = some c) (ho : c.okc = true) (k : WL Γ T l ⟨up e d (.rp c), H, n, z⟩ K) : WL Γ T (o d (.fa j x) :: l) ⟨e, H, n, z⟩ K :=
  g_op (by simp only [opB, opA, h, hc, Option.bind_some, ho, if_true]) k
theorem g_fd {x : O} {j : Nat} {cs : List V} {c : V} (h : val e x = .st cs) (hc : cs[j]? = some c) (k : WL Γ T l ⟨up e d c, H, n, z⟩ K) : WL Γ T (o d (.fd j x) :: l) ⟨e, H, n, z⟩ K :=
  g_op (by simp only [opB, opA, h, hc, Option.map_some]) k
theorem g_lnL {α : Type} {f : α → V} {xs : List α} {x : O} (h : val e x = .sl (xs.map f)) (k : WL Γ T l ⟨up e d (.i (xs.length : Nat)), H, n, z⟩ K) : WL Γ T (o d (.ln x) :: l) ⟨e, H, n, z⟩ K :=
  g_op (by simp only [opB, opA, h, vlen, List.length_map]) k
theorem g_ln {x : O} {m : Nat} (h : vlen (val e x) = some m) (k : WL Γ T l ⟨up e d (.i (m : Nat)), H, n, z⟩ K) : WL Γ T (o d (.ln x) :: l) ⟨e, H, n, z⟩ K :=
  g_op (by simp only [opB, opA, h]) k
theorem g_ls {x : O} {s : ByteArray} (h : val e x = .s s) (k : WL Γ T l ⟨up e d (.i (s.size : Nat)), H, n, z⟩ K) : WL Γ T (o d (.ls x) :: l) ⟨e, H, n, z⟩ K :=
  g_op (by simp only [opB, opA, h]) k
theorem g_bi {op : BinOp} {x y : O} {u w r : Value} (hx : val e x = .im u) (hy : val e y = .im w) (h : abin op u w = some r) (k : WL Γ T l ⟨up e d (.im r), H, n, z⟩ K) : WL Γ T (o d (.bi op x y) :: l) ⟨e, H, n, z⟩ K :=
  g_op (by simp only [opB, opA, hx, hy, h, Option.map_some]) k
section
variable {x y : O} {a b : Int} (hx : val e x = .i a) (hy : val e y = .i b)
include hx hy
theorem g_lss (k : WL Γ T l ⟨up e d (.b (decide (a < b))), H, n, z⟩ K) : WL Γ T (o d (.bi .lss x y) :: l) ⟨e, H, n, z⟩ K := g_bi hx hy rfl k
theorem g_leq (k : WL Γ T l ⟨up e d (.b (decide (a ≤ b))), H, n, z⟩ K) : WL Γ T (o d (.bi .leq x y) :: l) ⟨e, H, n, z⟩ K := g_bi hx hy rfl k
theorem g_gtr (k : WL Γ T l ⟨up e d (.b (decide (b < a))), H, n, z⟩ K) : WL Γ T (o d (.bi .gtr x y) :: l) ⟨e, H, n, z⟩ K := g_bi hx hy rfl k
theorem g_geq (k : WL Γ T l ⟨up e d (.b (decide (b ≤ a))), H, n, z⟩ K) : WL Γ T (o d (.bi .geq x y) :: l) ⟨e, H, n, z⟩ K := g_bi hx hy rfl k
theorem g_eql (k : WL Γ T l ⟨up e d (.b (decide (a = b))), H, n, z⟩ K) : WL Γ T (o d (.bi .eql x y) :: l) ⟨e, H, n, z⟩ K := g_bi hx hy (by simp only [abin, if_true, aint, ibeq]) k
theorem g_neq (k : WL Γ T l ⟨up e d (.b (!decide (a = b))), H, n, z⟩ K) : WL Γ T (o d (.bi .neq x y) :: l) ⟨e, H, n, z⟩ K := g_bi hx hy (by simp only [abin, if_true, aint, bne, ibeq]) k
theorem g_add (h : -9223372036854775808 ≤ a + b ∧ a + b ≤ 9223372036854775807) (k : WL Γ T l ⟨up e d (.i (a + b)), H, n, z⟩ K) : WL Γ T (o d (.bi .add x y) :: l) ⟨e, H, n, z⟩ K :=
  g_bi hx hy (by simp only [abin, if_true, aint]; rw [wrap_id h.1 h.2]) k
theorem g_sub (h : -9223372036854775808 ≤ a - b ∧ a - b ≤ 9223372036854775807) (k : WL Γ T l ⟨up e d (.i (a - b)), H, n, z⟩ K) : WL Γ T (o d (.bi .sub x y) :: l) ⟨e, H, n, z⟩ K :=
  g_bi hx hy (by simp only [abin, if_true, aint]; rw [wrap_id h.1 h.2]) k
theorem g_mul (h : -9223372036854775808 ≤ a * b ∧ a * b ≤ 9223372036854775807) (k : WL Γ T l ⟨up e d (.i (a * b)), H, n, z⟩ K) : WL Γ T (o d (.bi .mul x y) :: l) ⟨e, H, n, z⟩ K :=
  g_bi hx hy (by simp only [abin, if_true, aint]; rw [wrap_id h.1 h.2]) k
end
theorem g_inc {x : O} {a : Nat} (hx : val e x = .i (a : Nat)) (h : a < 9223372036854775807) (k : WL Γ T l ⟨up e d (.i ((a + 1 : Nat) : Int)), H, n, z⟩ K) : WL Γ T (o d (.bi .add x (.n 1)) :: l) ⟨e, H, n, z⟩ K :=
  g_add hx rfl (by omega) k
theorem toList_inj {a b : ByteArray} (h : a.toList = b.toList) : a = b := by
  rw [Lib.toList_data, Lib.toList_data] at h
  cases a; cases b
  simpa using h
section
variable {x y : O} {a b : ByteArray} (hx : val e x = .s a) (hy : val e y = .s b)
include hx hy
theorem g_seq (k : WL Γ T l ⟨up e d (.b (decide (a = b))), H, n, z⟩ K) : WL Γ T (o d (.bi .eql x y) :: l) ⟨e, H, n, z⟩ K := g_bi hx hy (by
  simp only [abin]; congr 2
  by_cases h : a = b
  · subst h; simp
  · rw [decide_eq_false h]; simpa using fun hh => h (toList_inj hh)) k
theorem g_sne (k : WL Γ T l ⟨up e d (.b (!decide (a = b))), H, n, z⟩ K) : WL Γ T (o d (.bi .neq x y) :: l) ⟨e, H, n, z⟩ K := g_bi hx hy (by
  simp only [abin]; congr 3
  by_cases h : a = b
  · subst h; simp
  · rw [decide_eq_false h]; simpa using fun hh => h (toList_inj hh)) k
theorem g_sadd (h : a.size + b.size ≤ 9223372036854775807) (k : WL Γ T l ⟨up e d (.s (a ++ b)), H, n, z⟩ K) : WL Γ T (o d (.bi .add x y) :: l) ⟨e, H, n, z⟩ K := g_bi hx hy (by
  simp only [abin]; rw [if_neg]; show ¬ (((a.size + b.size : Nat) : Int) > 9223372036854775807); omega) k
end
section
variable {x y : O} {a b : Bool} (hx : val e x = .b a)
include hx
theorem g_not (k : WL Γ T l ⟨up e d (.b (!a)), H, n, z⟩ K) : WL Γ T (o d (.un .not x) :: l) ⟨e, H, n, z⟩ K := g_op (by simp only [opB, opA, hx, aun, Option.map_some]) k
theorem g_beq (hy : val e y = .b b) (k : WL Γ T l ⟨up e d (.b (a == b)), H, n, z⟩ K) : WL Γ T (o d (.be false x y) :: l) ⟨e, H, n, z⟩ K := g_op (by simp only [opB, opA, hx, hy]; rfl) k
theorem g_bne (hy : val e y = .b b) (k : WL Γ T l ⟨up e d (.b (!(a == b))), H, n, z⟩ K) : WL Γ T (o d (.be true x y) :: l) ⟨e, H, n, z⟩ K := g_op (by simp only [opB, opA, hx, hy, if_true]) k
end
theorem g_pkT {c x y : O} {v : V} (hc : val e c = .b true) (hv : val e x = v) (k : WL Γ T l ⟨up e d v, H, n, z⟩ K) : WL Γ T (o d (.pk c x y) :: l) ⟨e, H, n, z⟩ K := g_op (by simp only [opB, opA, hc, if_true, hv]) k
theorem g_pkF {c x y : O} {v : V} (hc : val e c = .b false) (hv : val e y = v) (k : WL Γ T l ⟨up e d v, H, n, z⟩ K) : WL Γ T (o d (.pk c x y) :: l) ⟨e, H, n, z⟩ K := g_op (by simp only [opB, opA, hc, hv]; rfl) k
theorem g_cv {x : O} {k' k2 : IntKind} {a : Int} (hx : val e x = .im (.int k2 a)) (k : WL Γ T l ⟨up e d (.im (.int k' (k'.wrap a))), H, n, z⟩ K) : WL Γ T (o d (.cv k' x) :: l) ⟨e, H, n, z⟩ K := g_op (by simp only [opB, opA, hx]) k
theorem g_et {x : O} {i : Nat} {vs : List V} {v : V} (hx : val e x = .tu vs) (hv : vs[i]? = some v) (k : WL Γ T l ⟨up e d v, H, n, z⟩ K) : WL Γ T (o d (.et x i) :: l) ⟨e, H, n, z⟩ K := g_op (by simp only [opB, opA, hx, hv, Option.map_some]) k
theorem mmx_max (a b : Int) : mmx true a b = max a b := by simp only [mmx, if_true]; omega
theorem mmx_min (a b : Int) : mmx false a b = min a b := by simp only [mmx]; split <;> simp_all <;> omega
theorem g_max {x y : O} {a b : Int} (hx : val e x = .i a) (hy : val e y = .i b) (k : WL Γ T l ⟨up e d (.i (max a b)), H, n, z⟩ K) : WL Γ T (o d (.mm true [x, y]) :: l) ⟨e, H, n, z⟩ K := g_op (by simp only [opB, opA, List.map, hx, hy, mmx_max]) k
theorem g_min {x y : O} {a b : Int} (hx : val e x = .i a) (hy : val e y = .i b) (k : WL Γ T l ⟨up e d (.i (min a b)), H, n, z⟩ K) : WL Γ T (o d (.mm false [x, y]) :: l) ⟨e, H, n, z⟩ K := g_op (by simp only [opB, opA, List.map, hx, hy, mmx_min]) k
theorem g_min3 {x y w : O} {a b c : Int} (hx : val e x = .i a) (hy : val e y = .i b) (hw : val e w = .i c) (k : WL Γ T l ⟨up e d (.i (min (min a b) c)), H, n, z⟩ K) : WL Γ T (o d (.mm false [x, y, w]) :: l) ⟨e, H, n, z⟩ K := g_op (by simp only [opB, opA, List.map, hx, hy, hw, mmx_min]) k
theorem g_max3 {x y w : O} {a b c : Int} (hx : val e x = .i a) (hy : val e y = .i b) (hw : val e w = .i c) (k : WL Γ T l ⟨up e d (.i (max (max a b) c)), H, n, z⟩ K) : WL Γ T (o d (.mm true [x, y, w]) :: l) ⟨e, H, n, z⟩ K := g_op (by simp only [opB, opA, List.map, hx, hy, hw, mmx_max]) k

/-! Memory. -/
theorem g_al {v : V} {q : Option Nat} (hf : v.fits q = true) (k : WL Γ T l ⟨up e d (.hp n 0), up H n (some ⟨ksz q, [v], false⟩), n + 1, z⟩ K) : WL Γ T (o d (.al v q) :: l) ⟨e, H, n, z⟩ K :=
  g_op (by simp only [opB, opA, hf, if_true]; rw [← up_eq]; rfl) k
theorem g_bx {x : O} {v : V} {q : Option Nat} (hx : val e x = v) (hf : v.fits q = true) (k : WL Γ T l ⟨up e d (.hp n 0), up H n (some ⟨ksz q, [v], false⟩), n + 1, z⟩ K) : WL Γ T (o d (.bx q x) :: l) ⟨e, H, n, z⟩ K :=
  g_op (by simp only [opB, opA, hx, hf, if_true]; rw [← up_eq]; rfl) k
theorem g_bs {xs : List O} {vs : List V} {q : Option Nat} (hx : xs.map (val e) = vs) (hf : vs.all (·.fits q) = true) (k : WL Γ T l ⟨up e d (.hs n 0 xs.length xs.length), up H n (some ⟨ksz q, vs, false⟩), n + 1, z⟩ K) : WL Γ T (o d (.bs q xs) :: l) ⟨e, H, n, z⟩ K :=
  g_op (by simp only [opB, opA, hx, hf, if_true]; rw [← up_eq]; rfl) k
theorem g_bd {cs vs : List V} {ps : List (Nat × O)} (ho : ((ps.map fun p => val e p.2).all V.okc) = true) (hv : ps.foldl (fun cs p => cs.set p.1 (val e p.2)) cs = vs) (k : WL Γ T l ⟨up e d (.st vs), H, n, z⟩ K) : WL Γ T (o d (.bd cs ps) :: l) ⟨e, H, n, z⟩ K :=
  g_op (by simp only [opB, opA, ho, if_true, hv]) k
theorem g_mf {f : Nat} {xs : List O} {vs : List V} (hv : xs.map (val e) = vs) (ho : vs.all V.okc = true) (k : WL Γ T l ⟨up e d (.cl f vs), H, n, z⟩ K) : WL Γ T (o d (.mf f xs) :: l) ⟨e, H, n, z⟩ K :=
  g_op (by simp only [opB, opA, hv, ho, if_true]) k
theorem g_so {q : Option Nat} {p x : O} {b i : Nat} {kk : Nat} {es es' : List V} {v : V} (hp : val e p = .hp b i) (hB : H b = some ⟨kk, es, false⟩) (hx : val e x = v) (hi : i < es.length) (hk : kk = ksz q) (hf : v.fits q = true) (he : es.set i v = es')
    (k : WL Γ T l ⟨e, up H b (some ⟨kk, es', false⟩), n, z⟩ K) : WL Γ T (oo (.so q p x) :: l) ⟨e, H, n, z⟩ K :=
  g_op0 (v := .un) (by simp only [opB, opA, hp, storeAt, hB, hx]; rw [if_pos ⟨trivial, hi, hk, hf⟩]; simp only [he, up_eq]) k
theorem g_sof {q : Option Nat} {p x : O} {b j : Nat} {kk : Nat} {cs cs' : List V} {v : V} (hp : val e p = .hf b 0 j) (hB : H b = some ⟨kk, [.st cs], false⟩) (hx : val e x = v) (hj : j < cs.length) (hq : q = none) (hf : v.okc = true) (he : cs.set j v = cs')
    (k : WL Γ T l ⟨e, up H b (some ⟨kk, [.st cs'], false⟩), n, z⟩ K) : WL Γ T (oo (.so q p x) :: l) ⟨e, H, n, z⟩ K :=
  g_op0 (v := .un) (by simp only [opB, opA, hp, storeAt, hB, hx, List.getElem?_cons_zero]; rw [if_pos ⟨trivial, hj, hq, hf⟩]; simp only [List.set_cons_zero, he, up_eq]) k
theorem g_soL {α : Type} {f : α → V} {es : List α} {a : α} {q : Option Nat} {p x : O} {b i : Nat} {kk : Nat} (hp : val e p = .hp b i) (hB : H b = some ⟨kk, es.map f, false⟩) (hx : val e x = f a) (hi : i < es.length) (hk : kk = ksz q) (hf : (f a).fits q = true)
    (k : WL Γ T l ⟨e, up H b (some ⟨kk, (es.set i a).map f, false⟩), n, z⟩ K) : WL Γ T (oo (.so q p x) :: l) ⟨e, H, n, z⟩ K :=
  g_so hp hB hx (by simpa using hi) hk hf (by rw [List.map_set]) k
theorem g_ms {v : V} {q : Option Nat} {x y : O} {m c : Nat} (hx : val e x = .i (m : Nat)) (hy : val e y = .i (c : Nat)) (h1 : m ≤ c) (h2 : c ≤ 2 ^ 36) (hf : v.fits q = true) (k : WL Γ T l ⟨up e d (.hs n 0 m c), up H n (some ⟨ksz q, List.replicate c v, false⟩), n + 1, z⟩ K) : WL Γ T (o d (.ms v q x y) :: l) ⟨e, H, n, z⟩ K :=
  g_op (by
    simp only [opB, opA, hx, hy]
    rw [if_pos ⟨by omega, by omega, by unfold LIM; omega, hf⟩, ← up_eq]
    rfl) k
theorem g_msZ {v : V} {q : Option Nat} {x y : O} {m c : Int} (hx : val e x = .i m) (hy : val e y = .i c) (h0 : 0 ≤ m) (h1 : m ≤ c) (h2 : c ≤ 2 ^ 36) (hf : v.fits q = true) (k : WL Γ T l ⟨up e d (.hs n 0 m.toNat c.toNat), up H n (some ⟨ksz q, List.replicate c.toNat v, false⟩), n + 1, z⟩ K) : WL Γ T (o d (.ms v q x y) :: l) ⟨e, H, n, z⟩ K :=
  g_ms (m := m.toNat) (c := c.toNat) (by rw [hx]; congr 2; omega) (by rw [hy]; congr 2; omega) (by omega) (by omega) hf k

/-! Indexing. -/
theorem g_iaL {α : Type} {f : α → V} {xs : List α} {q : Option Nat} {x i : O} {m : Nat} {a : α} (hx : val e x = .sl (xs.map f)) (hi : val e i = .i (m : Nat)) (he : xs[m]? = some a) (hs : (f a).size = ksz q) (k : WL Γ T l ⟨up e d (.rp (f a)), H, n, z⟩ K) : WL Γ T (o d (.ia q x i) :: l) ⟨e, H, n, z⟩ K :=
  g_of (wo_iaL hx hi he hs ⟨rfl, rfl⟩) k
theorem g_iaZ {α : Type} {f : α → V} {xs : List α} {q : Option Nat} {x i : O} {m : Int} {a : α} (hx : val e x = .sl (xs.map f)) (hi : val e i = .i m) (h0 : 0 ≤ m) (he : xs[m.toNat]? = some a) (hs : (f a).size = ksz q) (k : WL Γ T l ⟨up e d (.rp (f a)), H, n, z⟩ K) : WL Γ T (o d (.ia q x i) :: l) ⟨e, H, n, z⟩ K :=
  g_of (wo_iaZ hx hi h0 he hs ⟨rfl, rfl⟩) k
/-- An element of which is known only that it is there. -/
structure An {α : Type} (xs : List α) (m : Nat) (P : α → Prop) : Prop where
  k : ∀ a, xs[m]? = some a → P a
theorem g_iaN {α : Type} {f : α → V} {xs : List α} {q : Option Nat} {x i : O} {m : Nat} (hx : val e x = .sl (xs.map f)) (hi : val e i = .i (m : Nat)) (h : m < xs.length) (hs : ∀ a, (f a).size = ksz q) (k : An xs m fun a => WL Γ T l ⟨up e d (.rp (f a)), H, n, z⟩ K) : WL Γ T (o d (.ia q x i) :: l) ⟨e, H, n, z⟩ K :=
  g_iaL hx hi (List.getElem?_eq_getElem h) (hs _) (k.k _ (List.getElem?_eq_getElem h))
theorem g_iaM {α : Type} {f : α → V} {xs : List α} {q : Option Nat} {x i : O} {m : Int} (hx : val e x = .sl (xs.map f)) (hi : val e i = .i m) (h0 : 0 ≤ m) (h : m < xs.length) (hs : ∀ a, (f a).size = ksz q) (k : An xs m.toNat fun a => WL Γ T l ⟨up e d (.rp (f a)), H, n, z⟩ K) : WL Γ T (o d (.ia q x i) :: l) ⟨e, H, n, z⟩ K :=
  g_iaZ hx hi h0 (List.getElem?_eq_getElem (h := by omega)) (hs _) (k.k _ (List.getElem?_eq_getElem (by omega)))
theorem g_ihN {q : Option Nat} {x i : O} {b m c j : Nat} {B : Blk} (hx : val e x = .hs b 0 m c) (hi : val e i = .i (j : Nat)) (hB : H b = some B) (h : j < m) (hk : B.k = ksz q) (k : WL Γ T l ⟨up e d (.hp b j), H, n, z⟩ K) : WL Γ T (o d (.ia q x i) :: l) ⟨e, H, n, z⟩ K :=
  g_of (wo_ihN hx hi hB h hk ⟨rfl, rfl⟩) k
theorem g_ihM {q : Option Nat} {x i : O} {b m c : Nat} {j : Int} {B : Blk} (hx : val e x = .hs b 0 m c) (hi : val e i = .i j) (hB : H b = some B) (h0 : 0 ≤ j) (h : j < m) (hk : B.k = ksz q) (k : WL Γ T l ⟨up e d (.hp b j.toNat), H, n, z⟩ K) : WL Γ T (o d (.ia q x i) :: l) ⟨e, H, n, z⟩ K :=
  g_of (wo_ihM hx hi hB ⟨h0, h⟩ hk ⟨rfl, rfl⟩) k
theorem g_ldL {α : Type} {f : α → V} {es : List α} {q : Option Nat} {x : O} {b j kk : Nat} {fr : Bool} {a : α} (hx : val e x = .hp b j) (hB : H b = some ⟨kk, es.map f, fr⟩) (h : es[j]? = some a) (hf : (f a).fits q = true) (k : WL Γ T l ⟨up e d (f a), H, n, z⟩ K) : WL Γ T (o d (.ld q x) :: l) ⟨e, H, n, z⟩ K :=
  g_ld (by simp [derefB, hx, hB, h]) hf k
theorem g_ldN {α : Type} {f : α → V} {es : List α} {q : Option Nat} {x : O} {b j kk : Nat} {fr : Bool} (hx : val e x = .hp b j) (hB : H b = some ⟨kk, es.map f, fr⟩) (h : j < es.length) (hf : ∀ a, (f a).fits q = true) (k : An es j fun a => WL Γ T l ⟨up e d (f a), H, n, z⟩ K) : WL Γ T (o d (.ld q x) :: l) ⟨e, H, n, z⟩ K :=
  g_ldL hx hB (List.getElem?_eq_getElem h) (hf _) (k.k _ (List.getElem?_eq_getElem h))
theorem g_ix {x i : O} {s : ByteArray} {m : Nat} (hx : val e x = .s s) (hi : val e i = .i (m : Nat)) (h : m < s.size) (k : WL Γ T l ⟨up e d (.u (s[m]'h).toNat), H, n, z⟩ K) : WL Γ T (o d (.ix x i) :: l) ⟨e, H, n, z⟩ K := by
  refine g_op (v := .u (s[m]'h).toNat) ?_ k
  simp only [opB, opA, hx, hi, asI]
  rw [if_pos (Int.natCast_nonneg m)]
  simp only [Int.toNat_natCast, getElem?_pos s m h]
theorem g_ss {x : O} {lo hi : Option O} {s : ByteArray} {a b : Int} (hx : val e x = .s s) (hl : bndOf 0 (lo.map (val e)) = some a) (hh : bndOf s.size (hi.map (val e)) = some b) (h : 0 ≤ a ∧ a ≤ b ∧ b ≤ s.size) (k : WL Γ T l ⟨up e d (.s (s.extract a.toNat b.toNat)), H, n, z⟩ K) : WL Γ T (o d (.ss x lo hi) :: l) ⟨e, H, n, z⟩ K :=
  g_op (by simp only [opB, opA, hx, hl, hh]; rw [if_pos h]) k
theorem g_scr {α : Type} {f : α → V} {xs : List α} {q : Option Nat} {x : O} {lo hi : Option O} {a b : Int} (hx : val e x = .sl (xs.map f)) (hq : ∀ a, (f a).fits q = true) (hl : bndOf 0 (lo.map (val e)) = some a) (hh : bndOf xs.length (hi.map (val e)) = some b) (h : 0 ≤ a ∧ a ≤ b ∧ b ≤ xs.length) (k : WL Γ T l ⟨up e d (.sl (((xs.take b.toNat).drop a.toNat).map f)), H, n, z⟩ K) : WL Γ T (o d (.sc q x lo hi none) :: l) ⟨e, H, n, z⟩ K :=
  g_op (by
    simp only [opB, opA, hx, Option.map_none]
    rw [if_pos (by simp [hq])]
    simp only [sliceOf, hl, List.length_map, hh]
    rw [if_pos h]
    simp [List.map_take, List.map_drop]) k

/-! Appending. -/
theorem g_ap1 {q : Option Nat} {x y : O} {b m : Nat} {es : List V} {kk : Nat} {v : V} (hx : val e x = .hs b 0 m m) (hB : H b = some ⟨kk, es, false⟩) (hy : elems H (val e y) = some [v]) (hn : m = es.length) (hk : kk = ksz q) (hf : v.fits q = true) (hl : m < 2 ^ 36)
    (k : WL Γ T l ⟨up e d (.hs n 0 (m + 1) (m + 1)), up (up H b none) n (some ⟨kk, es ++ [v], false⟩), n + 1, z⟩ K) : WL Γ T (o d (.ap q x y) :: l) ⟨e, H, n, z⟩ K :=
  g_of (wo_ap1 hx hB hy hn hk hf hl ⟨rfl, by simp only [S.blk, S.new, up_eq]⟩) k
theorem g_apL {α : Type} {f : α → V} {es : List α} {a : α} {q : Option Nat} {x y : O} {b m : Nat} {kk : Nat} (hx : val e x = .hs b 0 m m) (hB : H b = some ⟨kk, es.map f, false⟩) (hy : elems H (val e y) = some [f a]) (hn : m = es.length) (hk : kk = ksz q) (hf : (f a).fits q = true) (hl : es.length < 2 ^ 36)
    (k : WL Γ T l ⟨up e d (.hs n 0 (es ++ [a]).length (es ++ [a]).length), up (up H b none) n (some ⟨kk, (es ++ [a]).map f, false⟩), n + 1, z⟩ K) : WL Γ T (o d (.ap q x y) :: l) ⟨e, H, n, z⟩ K :=
  g_of (wo_apL hx hB hy hn hk hf hl ⟨rfl, by simp only [S.blk, S.new, up_eq]⟩) k
theorem g_apE {q : Option Nat} {x y : O} {v : V} (hx : val e x = .e0) (hy : elems H (val e y) = some [v]) (hf : v.fits q = true)
    (k : WL Γ T l ⟨up e d (.hs n 0 1 1), up H n (some ⟨ksz q, [v], false⟩), n + 1, z⟩ K) : WL Γ T (o d (.ap q x y) :: l) ⟨e, H, n, z⟩ K :=
  g_of (wo_apE hx hy (by simp [hf]) (by simp) (by simp) ⟨rfl, by simp only [S.new, up_eq]⟩) k
theorem g_apE' {α : Type} {f : α → V} {a : α} {q : Option Nat} {x y : O} (hx : val e x = .e0) (hy : elems H (val e y) = some [f a]) (hf : (f a).fits q = true)
    (k : WL Γ T l ⟨up e d (.hs n 0 [a].length [a].length), up H n (some ⟨ksz q, [a].map f, false⟩), n + 1, z⟩ K) : WL Γ T (o d (.ap q x y) :: l) ⟨e, H, n, z⟩ K := g_apE hx hy hf k

/-! Calls. -/
theorem g_call0 {f : Nat} {xs : List O} {ts vs : List V} {t v : V} {H' : Nat → Option Blk} {n' : Nat} (hu : (xs.all fun x => !isUn (val e x)) = true) (hv : xs.map (val e) = vs) (hm : Γ.md f = some []) (hh : handB H [] vs = some (ts, [], []))
    (hc : CALLB Γ T f [] ts = some (t, [])) (ht : takeB DEP t ⟨e, H, n, z⟩ = some (v, ⟨e, H', n', z⟩)) (k : WL Γ T l ⟨up e d v, H', n', z⟩ K) :
    WL Γ T (o d (.ca (.k (.cl f [])) xs) :: l) ⟨e, H, n, z⟩ K :=
  g_of (wo_call0 hu hv hm hh hc ht ⟨rfl, rfl⟩) k
theorem g_callr {f : Nat} {fo : O} {xs : List O} {ts vs caps : List V} {rs : List Nat} {t v : V} {H' : Nat → Option Blk} {n' : Nat} (hf : fnOf (val e fo) = some (f, caps)) (hu : (xs.all fun x => !isUn (val e x)) = true) (hv : xs.map (val e) ++ caps = vs) (hm : Γ.md f = some [])
    (hh : handB H [] vs = some (ts, rs, [])) (hc : CALLB Γ T f [] ts = some (t, [])) (hr : (rs.isEmpty || free DEP t) = true) (ht : takeB DEP t ⟨e, H, n, z⟩ = some (v, ⟨e, H', n', z⟩)) (k : WL Γ T l ⟨up e d v, H', n', z⟩ K) :
    WL Γ T (o d (.ca fo xs) :: l) ⟨e, H, n, z⟩ K :=
  g_of (wo_callr hf hu hv hm hh hc hr ht ⟨rfl, rfl⟩) k
end
end Go.Am

/- The B-machine, part 17: the steps that need no thought, taken together. -/
namespace Go.Am

/-- A value, computed. -/
theorem frc {u v : V} (h : u = v := by
    first
    | exact (rfl : _ = V.im _) | exact (rfl : _ = V.hs _ _ _ _) | exact (rfl : _ = V.sl (List.map _ _)) | exact (rfl : _ = V.sl _) | exact (rfl : _ = V.e0) | exact (rfl : _ = V.hp _ _)
    | exact (rfl : _ = V.st _) | exact (rfl : _ = V.cl _ _) | exact (rfl : _ = V.rp _) | exact (rfl : _ = V.hf _ _ _) | exact (rfl : _ = V.tu _)) : u = v := h
theorem frcO {u : Option V} {v : V} (h : u = some v := by
    first
    | exact (rfl : _ = some (V.im _)) | exact (rfl : _ = some (V.hs _ _ _ _)) | exact (rfl : _ = some (V.sl (List.map _ _))) | exact (rfl : _ = some (V.sl _)) | exact (rfl : _ = some V.e0) | exact (rfl : _ = some (V.hp _ _))
    | exact (rfl : _ = some (V.st _)) | exact (rfl : _ = some (V.cl _ _)) | exact (rfl : _ = some (V.rp _)) | exact (rfl : _ = some (V.hf _ _ _)) | exact (rfl : _ = some (V.tu _))) : u = some v := h
theorem mapnil {f : O → V} : [].map f = [] := rfl
theorem mapcons {f : O → V} {x : O} {xs : List O} {v : V} {vs : List V} (h1 : f x = v) (h2 : xs.map f = vs) : (x :: xs).map f = v :: vs := by rw [List.map_cons, h1, h2]
theorem frcL {f : O → V} {xs : List O} {vs : List V} (h : xs.map f = vs := by (repeat (first | exact mapnil | (apply mapcons; exact frc) | fail)); done) : xs.map f = vs := h
theorem mapapp {f : O → V} {xs : List O} {vs cs ws : List V} (h1 : xs.map f = vs) (h2 : vs ++ cs = ws) : xs.map f ++ cs = ws := by rw [h1, h2]
theorem appnil {cs : List V} : [] ++ cs = cs := rfl
theorem appcons {v : V} {vs cs ws : List V} (h : vs ++ cs = ws) : (v :: vs) ++ cs = v :: ws := by rw [List.cons_append, h]
theorem frcA {vs cs ws : List V} (h : vs ++ cs = ws := by (repeat (first | exact appnil | apply appcons | fail)); done) : vs ++ cs = ws := h
theorem saysA {c : Bool} {p q : Prop} (h : Says c p q := by first | exact says_n says_d | exact says_n says_e | exact says_n says_b | exact says_d | exact says_e | exact says_b) : Says c p q := h
/-- A struct with one field written. -/
theorem frcS {cs vs : List V} (h : cs = vs := by first | exact (rfl : _ = [_]) | exact (rfl : _ = [_, _]) | exact (rfl : _ = [_, _, _]) | exact (rfl : _ = [_, _, _, _])) : cs = vs := h

section
variable {Γ : Env} {T : Nat → Option FB} {e : Nat → V} {H : Nat → Option Blk} {n : Nat} {z : Bool} {l : List I} {K : S → Prop} {Q : R → Prop} {d : Nat}
theorem g_bd1 {cs vs : List V} {p : Nat × O} {v : V} (hv : val e p.2 = v) (ho : v.okc = true) (h : cs.set p.1 v = vs) (k : WL Γ T l ⟨up e d (.st vs), H, n, z⟩ K) : WL Γ T (o d (.bd cs [p]) :: l) ⟨e, H, n, z⟩ K :=
  g_bd (by simp only [List.map, hv, List.all_cons, ho, List.all_nil, Bool.and_self]) (by simp only [List.foldl, hv, h]) k
theorem g_bd2 {cs vs : List V} {p p' : Nat × O} {v v' : V} (hv : val e p.2 = v) (hv' : val e p'.2 = v') (ho : v.okc = true) (ho' : v'.okc = true) (h : (cs.set p.1 v).set p'.1 v' = vs) (k : WL Γ T l ⟨up e d (.st vs), H, n, z⟩ K) : WL Γ T (o d (.bd cs [p, p']) :: l) ⟨e, H, n, z⟩ K :=
  g_bd (by simp only [List.map, hv, hv', List.all_cons, ho, ho', List.all_nil, Bool.and_self]) (by simp only [List.foldl, hv, hv', h]) k
theorem g_bd3 {cs vs : List V} {p p' p2 : Nat × O} {v v' v2 : V} (hv : val e p.2 = v) (hv' : val e p'.2 = v') (hv2 : val e p2.2 = v2) (ho : v.okc = true) (ho' : v'.okc = true) (ho2 : v2.okc = true) (h : ((cs.set p.1 v).set p'.1 v').set p2.1 v2 = vs) (k : WL Γ T l ⟨up e d (.st vs), H, n, z⟩ K) : WL Γ T (o d (.bd cs [p, p', p2]) :: l) ⟨e, H, n, z⟩ K :=
  g_bd (by simp only [List.map, hv, hv', hv2, List.all_cons, ho, ho', ho2, List.all_nil, Bool.and_self]) (by simp only [List.foldl, hv, hv', hv2, h]) k
theorem g_bd0 {cs : List V} (k : WL Γ T l ⟨up e d (.st cs), H, n, z⟩ K) : WL Γ T (o d (.bd cs []) :: l) ⟨e, H, n, z⟩ K := g_bd rfl rfl k
theorem g_opv {a : A} {v : V} (h : opB (callB Γ T (EXB Γ T)) ⟨e, H, n, z⟩ a = some (v, ⟨e, H, n, z⟩)) (k : WL Γ T l ⟨up e d v, H, n, z⟩ K) : WL Γ T (o d a :: l) ⟨e, H, n, z⟩ K := g_op h k
end

section
variable {Γ : Env} {T : Nat → Option FB} {e : Nat → V} {H : Nat → Option Blk} {n : Nat} {z : Bool} {l : List I} {K : S → Prop} {Q : R → Prop} {d : Nat}
theorem g_condDT {x : O} {a b : CB} {c : Bool} {p q : Prop} (hc : val e x = .b c) (hs : Says c p q) (h : q → False) (k : WP Γ T a ⟨e, H, n, z⟩ Q) : WP Γ T (.cond x a b) ⟨e, H, n, z⟩ Q :=
  g_cond hc hs ⟨fun _ => k, fun hq => (h hq).elim⟩
theorem g_condDF {x : O} {a b : CB} {c : Bool} {p q : Prop} (hc : val e x = .b c) (hs : Says c p q) (h : p → False) (k : WP Γ T b ⟨e, H, n, z⟩ Q) : WP Γ T (.cond x a b) ⟨e, H, n, z⟩ Q :=
  g_cond hc hs ⟨fun hp => (h hp).elim, fun _ => k⟩
theorem g_gcT {a : List I} {t : Nat} {c : Bool} {p q : Prop} (hb : e t = .b c) (hs : Says c p q) (h : q → False) (k : WL Γ T a ⟨up e t (.b true), H, n, z⟩ K) : WL Γ T a ⟨e, H, n, z⟩ K := g_gc hb hs ⟨fun _ => k, fun hq => (h hq).elim⟩
theorem g_gcF {a : List I} {t : Nat} {c : Bool} {p q : Prop} (hb : e t = .b c) (hs : Says c p q) (h : p → False) (k : WL Γ T a ⟨up e t (.b false), H, n, z⟩ K) : WL Γ T a ⟨e, H, n, z⟩ K := g_gc hb hs ⟨fun hp => (h hp).elim, fun _ => k⟩
theorem g_gcgT {t : Nat} {w : Bool} {a : A} {c : Bool} {p q : Prop} (hb : e t = .b c) (hs : Says c p q) (h : q → False) (k : WL Γ T (og d t w a :: l) ⟨up e t (.b true), H, n, z⟩ K) : WL Γ T (og d t w a :: l) ⟨e, H, n, z⟩ K := g_gcT hb hs h k
theorem g_gcgF {t : Nat} {w : Bool} {a : A} {c : Bool} {p q : Prop} (hb : e t = .b c) (hs : Says c p q) (h : p → False) (k : WL Γ T (og d t w a :: l) ⟨up e t (.b false), H, n, z⟩ K) : WL Γ T (og d t w a :: l) ⟨e, H, n, z⟩ K := g_gcF hb hs h k

/-- What holds behind a round. -/
def LpQ {β : Type} (L : List Nat) (St : β → S) (I : β → Prop) (m : Nat) (μ : β → Nat) (Q : R → Prop) : R → Prop
  | .n s => ∃ x, μ x < m ∧ I x ∧ nmS L s = some (St x)
  | r => Q r
theorem lp_n {β : Type} {L : List Nat} {St : β → S} {I : β → Prop} {m : Nat} {μ : β → Nat} {s : S} (x : β) (h1 : μ x < m) (h2 : I x) (h3 : nmS L s = some (St x)) : LpQ L St I m μ Q (.n s) := ⟨x, h1, h2, h3⟩
theorem lp_r {β : Type} {L : List Nat} {St : β → S} {I : β → Prop} {m : Nat} {μ : β → Nat} {s : S} (h : Q (.r s)) : LpQ L St I m μ Q (.r s) := h
theorem lp_x {β : Type} {L : List Nat} {St : β → S} {I : β → Prop} {m : Nat} {μ : β → Nat} {s : S} {i : Nat} (h : Q (.x i s)) : LpQ L St I m μ Q (.x i s) := h
/-- A loop. -/
theorem wp_while {β : Type} {a : CB} {L : List Nat} {s : S} (St : β → S) (I : β → Prop) (μ : β → Nat) (x0 : β) (h0 : nmS L s = some (St x0)) (hI : I x0) (h : ∀ x, I x → WP Γ T a (St x) (LpQ L St I (μ x) μ Q)) : WP Γ T (.lp (.nm L a)) s Q := by
  refine wp_loop (α := β) (fun x s => I x ∧ nmS L s = some (St x)) μ ?_ x0 ⟨hI, h0⟩
  rintro x s ⟨h1, h2⟩
  refine wp_nm h2 (wp_mono (h x h1) fun r hr => ?_)
  cases r with
  | n s' => obtain ⟨y, h3, h4, h5⟩ := hr; exact ⟨y, h3, h4, h5⟩
  | x i s' => exact hr
  | r s' => exact hr
/-- A round for each of a list: 'F' tells, of those that are left and of what is carried along, what will come of it. -/
def EaQ {α γ ρ : Type} (L : List Nat) (St : Nat → γ → S) (l : List α) (F : List α → γ → ρ) (r : ρ) (i : Nat) (Q : R → Prop) : R → Prop
  | .n s => ∃ g, F (l.drop (i + 1)) g = r ∧ nmS L s = some (St (i + 1) g)
  | r => Q r
theorem ea_n {α γ ρ : Type} {L : List Nat} {St : Nat → γ → S} {l : List α} {F : List α → γ → ρ} {r : ρ} {i : Nat} {s : S} (g : γ) (h1 : F (l.drop (i + 1)) g = r) (h2 : nmS L s = some (St (i + 1) g)) : EaQ L St l F r i Q (.n s) := ⟨g, h1, h2⟩
theorem ea_r {α γ ρ : Type} {L : List Nat} {St : Nat → γ → S} {l : List α} {F : List α → γ → ρ} {r : ρ} {i : Nat} {s : S} (h : Q (.r s)) : EaQ L St l F r i Q (.r s) := h
theorem ea_x {α γ ρ : Type} {L : List Nat} {St : Nat → γ → S} {l : List α} {F : List α → γ → ρ} {r : ρ} {i j : Nat} {s : S} (h : Q (.x j s)) : EaQ L St l F r i Q (.x j s) := h
/-- What holds behind the last test. -/
def EnQ (Q : R → Prop) : R → Prop
  | .n _ => False
  | r => Q r
theorem en_r {s : S} (h : Q (.r s)) : EnQ Q (.r s) := h
theorem en_x {i : Nat} {s : S} (h : Q (.x i s)) : EnQ Q (.x i s) := h
theorem wp_each {α γ ρ : Type} {a : CB} {L : List Nat} {s : S} (l : List α) (F : List α → γ → ρ) (St : Nat → γ → S) (g0 : γ) (r : ρ) (h0 : nmS L s = some (St 0 g0)) (hr : F l g0 = r)
    (hs : ∀ (i : Nat) (g : γ) (x : α), i < l.length → l[i]? = some x → x ∈ l → F (x :: l.drop (i + 1)) g = r → WP Γ T a (St i g) (EaQ L St l F r i Q))
    (he : ∀ g : γ, F [] g = r → WP Γ T a (St l.length g) (EnQ Q)) : WP Γ T (.lp (.nm L a)) s Q := by
  refine wp_while (β := Nat × γ) (fun p => St p.1 p.2) (fun p => p.1 ≤ l.length ∧ F (l.drop p.1) p.2 = r) (fun p => l.length - p.1) (0, g0) h0 ⟨Nat.zero_le _, hr⟩ ?_
  rintro ⟨i, g⟩ ⟨hi, hF⟩
  by_cases hlt : i < l.length
  · obtain ⟨x, hx, hm, hF'⟩ := rd_lt (F := fun r => F r g) hF hlt
    refine wp_mono (hs i g x hlt hx hm hF') fun r hr => ?_
    cases r with
    | n s' => obtain ⟨g', h1, h2⟩ := hr; exact ⟨(i + 1, g'), by show l.length - (i + 1) < l.length - i; omega, ⟨by show i + 1 ≤ l.length; omega, h1⟩, h2⟩
    | x i s' => exact hr
    | r s' => exact hr
  · have hF' := rd_ge (F := fun r => F r g) hF hlt
    obtain rfl : i = l.length := by simp only at hi; omega
    refine wp_mono (he g hF') fun r hr => ?_
    cases r with
    | n s' => exact hr.elim
    | x i s' => exact hr
    | r s' => exact hr
/-- The same, with something that holds at every head. -/
def EiQ {α γ ρ : Type} (L : List Nat) (St : Nat → γ → S) (l : List α) (F : List α → γ → ρ) (r : ρ) (I : Nat → γ → Prop) (i : Nat) (Q : R → Prop) : R → Prop
  | .n s => ∃ g, F (l.drop (i + 1)) g = r ∧ I (i + 1) g ∧ nmS L s = some (St (i + 1) g)
  | r => Q r
theorem ei_n {α γ ρ : Type} {L : List Nat} {St : Nat → γ → S} {l : List α} {F : List α → γ → ρ} {r : ρ} {I : Nat → γ → Prop} {i : Nat} {s : S} (g : γ) (h1 : F (l.drop (i + 1)) g = r) (h2 : I (i + 1) g) (h3 : nmS L s = some (St (i + 1) g)) : EiQ L St l F r I i Q (.n s) := ⟨g, h1, h2, h3⟩
theorem ei_r {α γ ρ : Type} {L : List Nat} {St : Nat → γ → S} {l : List α} {F : List α → γ → ρ} {r : ρ} {I : Nat → γ → Prop} {i : Nat} {s : S} (h : Q (.r s)) : EiQ L St l F r I i Q (.r s) := h
theorem ei_x {α γ ρ : Type} {L : List Nat} {St : Nat → γ → S} {l : List α} {F : List α → γ → ρ} {r : ρ} {I : Nat → γ → Prop} {i j : Nat} {s : S} (h : Q (.x j s)) : EiQ L St l F r I i Q (.x j s) := h
theorem wp_eachI {α γ ρ : Type} {a : CB} {L : List Nat} {s : S} (l : List α) (F : List α → γ → ρ) (St : Nat → γ → S) (g0 : γ) (r : ρ) (I : Nat → γ → Prop) (h0 : nmS L s = some (St 0 g0)) (hr : F l g0 = r) (hI : I 0 g0)
    (hs : ∀ (i : Nat) (g : γ) (x : α), i < l.length → l[i]? = some x → x ∈ l → F (x :: l.drop (i + 1)) g = r → I i g → WP Γ T a (St i g) (EiQ L St l F r I i Q))
    (he : ∀ g : γ, F [] g = r → I l.length g → WP Γ T a (St l.length g) (EnQ Q)) : WP Γ T (.lp (.nm L a)) s Q := by
  refine wp_while (β := Nat × γ) (fun p => St p.1 p.2) (fun p => p.1 ≤ l.length ∧ F (l.drop p.1) p.2 = r ∧ I p.1 p.2) (fun p => l.length - p.1) (0, g0) h0 ⟨Nat.zero_le _, hr, hI⟩ ?_
  rintro ⟨i, g⟩ ⟨hi, hF, hI⟩
  by_cases hlt : i < l.length
  · obtain ⟨x, hx, hm, hF'⟩ := rd_lt (F := fun r => F r g) hF hlt
    refine wp_mono (hs i g x hlt hx hm hF' hI) fun r hr => ?_
    cases r with
    | n s' => obtain ⟨g', h1, h2, h3⟩ := hr; exact ⟨(i + 1, g'), by show l.length - (i + 1) < l.length - i; omega, ⟨by show i + 1 ≤ l.length; omega, h1, h2⟩, h3⟩
    | x i s' => exact hr
    | r s' => exact hr
  · have hF' := rd_ge (F := fun r => F r g) hF hlt
    obtain rfl : i = l.length := by simp only at hi; omega
    refine wp_mono (he g hF' hI) fun r hr => ?_
    cases r with
    | n s' => exact hr.elim
    | x i s' => exact hr
    | r s' => exact hr
/-- What holds of all that is passed. -/
theorem take_all {α : Type} {P : α → Prop} {l : List α} {i : Nat} {x : α} (h : ∀ y ∈ l.take i, P y) (hx : l[i]? = some x) (hp : P x) : ∀ y ∈ l.take (i + 1), P y := by
  intro y hy
  rw [List.take_add_one, hx] at hy
  rcases List.mem_append.1 hy with h1 | h1
  · exact h y h1
  · simp at h1; subst h1; exact hp
theorem take_nil {α : Type} {P : α → Prop} {l : List α} : ∀ y ∈ l.take 0, P y := by simp
theorem take_end {α : Type} {P : α → Prop} {l : List α} (h : ∀ y ∈ l.take l.length, P y) : ∀ y ∈ l, P y := by rwa [List.take_length] at h
/-- The numbers from 0 on. -/
theorem wp_upto {γ ρ : Type} {a : CB} {L : List Nat} {s : S} (m : Nat) (F : List Nat → γ → ρ) (St : Nat → γ → S) (g0 : γ) (r : ρ) (h0 : nmS L s = some (St 0 g0)) (hr : F (List.range m) g0 = r)
    (hs : ∀ (i : Nat) (g : γ), i < m → F (i :: (List.range m).drop (i + 1)) g = r → WP Γ T a (St i g) (EaQ L St (List.range m) F r i Q))
    (he : ∀ g : γ, F [] g = r → WP Γ T a (St m g) (EnQ Q)) : WP Γ T (.lp (.nm L a)) s Q := by
  refine wp_each (List.range m) F St g0 r h0 hr (fun i g x hi hx hm hF => ?_) (fun g hg => by rw [List.length_range]; exact he g hg)
  have hi' : i < m := by simpa using hi
  obtain rfl : i = x := by rw [List.getElem?_range hi'] at hx; exact Option.some.inj hx
  exact hs i g hi' hF
end
attribute [irreducible] LpQ EaQ EnQ EiQ

/-- The end of a function. -/
def Fin (t : V) (l : List (Nat × Option (Option Nat))) (s : S) : Prop := ∃ v o i, resOfB s l = some (v, o) ∧ giveB DEP s.H v = some (t, i) ∧ (o ++ i).Nodup
def FinQ (t : V) (l : List (Nat × Option (Option Nat))) : R → Prop
  | .n s | .r s => Fin t l s
  | _ => False
theorem fn_n {t : V} {l : List (Nat × Option (Option Nat))} {s : S} (h : Fin t l s) : FinQ t l (.n s) := h
theorem fn_r {t : V} {l : List (Nat × Option (Option Nat))} {s : S} (h : Fin t l s) : FinQ t l (.r s) := h
theorem fi_b {s : S} {l : List (Nat × Option (Option Nat))} {x y : Bool} (hr : resOfB s l = some (.b y, [])) (h : y = x) : Fin (.b x) l s := fin_b hr h
theorem fi_i {s : S} {l : List (Nat × Option (Option Nat))} {x y : Int} (hr : resOfB s l = some (.i y, [])) (h : y = x) : Fin (.i x) l s := fin_i hr h
theorem fi_s {s : S} {l : List (Nat × Option (Option Nat))} {x y : ByteArray} (hr : resOfB s l = some (.s y, [])) (h : y = x) : Fin (.s x) l s := fin_s hr h
theorem call_ro' {Γ : Env} {T : Nat → Option FB} {f : Nat} {args vals : List V} {t : V} {x : FB} {H : Nat → Option Blk} {n : Nat} (hp : Γ.pr f = none) (hT : T f = some x) (hn : args.length = x.np) (ht : takeL (takeB DEP) args { e := fun _ => .un, H := fun _ => none, nx := 0 } = some (vals, ⟨fun _ => .un, H, n, false⟩))
    (h : WP Γ T x.body ⟨envOf vals, H, n, false⟩ (FinQ t x.res)) : CALLB Γ T f [] args = some (t, []) := call_ro hp hT hn ht (wp_mono h fun r hr => by cases r <;> exact hr)
/-- The same, of a result of which something is known. -/
def FP (P : V → Prop) (l : List (Nat × Option (Option Nat))) (s : S) : Prop := ∃ t, P t ∧ Fin t l s
def FinP (P : V → Prop) (l : List (Nat × Option (Option Nat))) : R → Prop
  | .n s | .r s => FP P l s
  | _ => False
theorem fp_n {P : V → Prop} {l : List (Nat × Option (Option Nat))} {s : S} (h : FP P l s) : FinP P l (.n s) := h
theorem fp_r {P : V → Prop} {l : List (Nat × Option (Option Nat))} {s : S} (h : FP P l s) : FinP P l (.r s) := h
theorem fp_of {P : V → Prop} {l : List (Nat × Option (Option Nat))} {s : S} {t : V} (hp : P t) (h : Fin t l s) : FP P l s := ⟨t, hp, h⟩
theorem fp_im {P : V → Prop} {s : S} {l : List (Nat × Option (Option Nat))} {y : Value} (h : P (.im y)) (hr : resOfB s l = some (.im y, [])) : FP P l s := ⟨_, h, fin_im hr rfl⟩
theorem call_ex {Γ : Env} {T : Nat → Option FB} {f : Nat} {args vals : List V} {P : V → Prop} {x : FB} {H : Nat → Option Blk} {n : Nat} (hp : Γ.pr f = none) (hT : T f = some x) (hn : args.length = x.np) (ht : takeL (takeB DEP) args { e := fun _ => .un, H := fun _ => none, nx := 0 } = some (vals, ⟨fun _ => .un, H, n, false⟩))
    (h : WP Γ T x.body ⟨envOf vals, H, n, false⟩ (FinP P x.res)) : ∃ t, CALLB Γ T f [] args = some (t, []) ∧ P t := by
  have h' := h
  unfold WP at h'
  obtain ⟨r, h1, h2⟩ := h'
  cases r with
  | n s => obtain ⟨t, h3, h4⟩ := h2; exact ⟨t, call_ro' hp hT hn ht (by unfold WP; exact ⟨_, h1, h4⟩), h3⟩
  | r s => obtain ⟨t, h3, h4⟩ := h2; exact ⟨t, call_ro' hp hT hn ht (by unfold WP; exact ⟨_, h1, h4⟩), h3⟩
  | x i s => exact h2.elim
attribute [irreducible] FinQ Fin FinP FP
/-- What a measuring function answers. -/
def SzP {α : Type} [Bnd α] (a : α) (n : Int) (t : V) : Prop := ∃ m, t = .i m ∧ (m < 0 ∨ (Bnd.ok a ∧ 0 ≤ m ∧ m ≤ n))
theorem sz_neg {α : Type} [Bnd α] {a : α} {n m : Int} (h : m < 0 := by omega) : SzP a n (.i m) := ⟨m, rfl, .inl h⟩
theorem sz_ok {α : Type} [Bnd α] {a : α} {n m : Int} (h : Bnd.ok a) (h0 : 0 ≤ m := by omega) (h1 : m ≤ n := by omega) : SzP a n (.i m) := ⟨m, rfl, .inr ⟨h, h0, h1⟩⟩
theorem take_eq {α : Type} {a b : List α} {i : Nat} {x y : α} (h : a.take i = b.take i) (hx : a[i]? = some x) (hy : b[i]? = some y) (e : x = y) : a.take (i + 1) = b.take (i + 1) := by
  rw [List.take_add_one, List.take_add_one, h, hx, hy, e]
theorem eq_of_take {α : Type} {a b : List α} (h : a.take a.length = b.take a.length) (hl : a.length = b.length) : a = b := by
  rw [List.take_length, hl, List.take_length] at h; exact h
theorem ne_of_at {α : Type} {a b : List α} {i : Nat} {x y : α} (hx : a[i]? = some x) (hy : b[i]? = some y) (h : x ≠ y) : a ≠ b := by
  rintro rfl; rw [hx] at hy; exact h (Option.some.inj hy)
theorem cell_of {α : Type} {r : List α} {j : Nat} (h : j < r.length) : ∃ b, r[j]? = some b := ⟨r[j], List.getElem?_eq_getElem h⟩

/-- (A wrapping, so that what is sought is not met.) -/
structure Wr (P : Prop) : Prop where
  h : P
end Go.Am

/- The B-machine, part 18: lists of the frame's own: handed to a call, taken from it, given back, at a loop's head. -/
namespace Go.Am
def memB (a : Nat) : List Nat → Bool
  | [] => false
  | b :: l => bif Nat.beq a b then true else memB a l
def ndB : List Nat → Bool
  | [] => true
  | a :: l => bif memB a l then false else ndB l
theorem memB_of {a : Nat} : ∀ {l : List Nat}, memB a l = false → a ∉ l
  | [], _ => by simp
  | b :: l, h => by
    unfold memB at h
    cases hb : Nat.beq a b with
    | true => rw [hb] at h; cases h
    | false =>
      rw [hb] at h
      have h2 := memB_of (l := l) h
      intro hm
      rcases List.mem_cons.1 hm with rfl | hm
      · simp at hb
      · exact h2 hm
theorem nd_of : ∀ {l : List Nat}, ndB l = true → l.Nodup
  | [], _ => List.nodup_nil
  | a :: l, h => by
    unfold ndB at h
    cases hb : memB a l with
    | true => rw [hb] at h; cases h
    | false => rw [hb] at h; exact List.nodup_cons.2 ⟨memB_of hb, nd_of h⟩

section
variable {H : Nat → Option Blk} {r : List Nat} {d : Nat}
/-! Pure trees. -/
theorem ok_im {x : Value} : okD (d + 1) (.im x) = true := rfl
theorem ok_e0 : okD (d + 1) .e0 = true := rfl
theorem ok_sl {es : List V} : okD (d + 1) (.sl es) = true := rfl
theorem ok_nil {f : V → Bool} : allL f [] = true := rfl
theorem ok_ow {α : Type} {f : α → V} {l : List α} {k : Nat} (h : ∀ a, okD d (f a) = true) : okD (d + 1) (.ow k (l.map f)) = true := by
  show allL (okD d) (l.map f) = true
  exact allL_iff.2 fun v hv => by obtain ⟨a, _, rfl⟩ := List.mem_map.1 hv; exact h a
theorem ok_st {cs : List V} (h : allL (okD d) cs = true) : okD (d + 1) (.st cs) = true := h
theorem ok_cons {f : V → Bool} {v : V} {vs : List V} (h1 : f v = true) (h2 : allL f vs = true) : allL f (v :: vs) = true := by simp [allL, h1, h2]
theorem okA {v : V} (h : okD d v = true := by (repeat (first | exact ok_im | exact ok_e0 | exact ok_sl | exact ok_nil | refine ok_ow (fun _ => ?_) | refine ok_st ?_ | refine ok_cons ?_ ?_ | fail)); done) : okD d v = true := h
theorem allL_map {α : Type} {f : α → V} {l : List α} (h : ∀ a, okD d (f a) = true) : allL (okD d) (l.map f) = true := allL_iff.2 fun v hv => by obtain ⟨a, _, rfl⟩ := List.mem_map.1 hv; exact h a

/-! As it is read. -/
theorem ro_im {x : Value} : roT (d + 1) (.im x) = some (.im x) := rfl
theorem ro_e0 : roT (d + 1) .e0 = some (.sl []) := rfl
theorem ro_sl {es : List V} : roT (d + 1) (.sl es) = some (.sl es) := rfl
theorem ro_nil : overL (fun c => (roT d c).map fun t => (t, ([] : List Nat))) [] = some ([], []) := rfl
theorem ro_ow {α : Type} {f g : α → V} {l : List α} {k : Nat} (h : ∀ a, roT d (f a) = some (g a)) : roT (d + 1) (.ow k (l.map f)) = some (.sl (l.map g)) := by
  have e : overL (fun c => (roT d c).map fun t => (t, ([] : List Nat))) (l.map f) = some (l.map g, []) := overL_map fun x _ => by rw [h x]; rfl
  show (match overL (fun c => (roT d c).map fun t => (t, ([] : List Nat))) (l.map f) with | some (ts, _) => some ts | none => none).map V.sl = _
  rw [e]; rfl
theorem ro_st {cs ts : List V} (h : overL (fun c => (roT d c).map fun t => (t, ([] : List Nat))) cs = some (ts, [])) : roT (d + 1) (.st cs) = some (.st ts) := by
  show (match overL (fun c => (roT d c).map fun t => (t, ([] : List Nat))) cs with | some (ts, _) => some ts | none => none).map V.st = _
  rw [h]; rfl
theorem ro_cons {v t : V} {vs ts : List V} (h1 : roT d v = some t) (h2 : overL (fun c => (roT d c).map fun t => (t, ([] : List Nat))) vs = some (ts, [])) : overL (fun c => (roT d c).map fun t => (t, ([] : List Nat))) (v :: vs) = some (t :: ts, []) :=
  overL_mk (L1 := []) (L2 := []) (by rw [h1]; rfl) h2
theorem sn_ow {v t : V} (hp : pkd v = true) (h : roT (d + 1) v = some t) : snapB (d + 1) H v = some (t, []) := by
  cases v <;> simp only [pkd, Bool.false_eq_true] at hp <;> simp only [snapB, h, Option.map_some]
theorem sn_im {x : Value} : snapB (d + 1) H (.im x) = some (.im x, []) := rfl
theorem sn_e0 : snapB (d + 1) H .e0 = some (.sl [], []) := rfl
theorem sn_sl {es : List V} : snapB (d + 1) H (.sl es) = some (.sl es, []) := rfl
theorem sn_rp {v : V} : snapB (d + 1) H (.rp v) = some (.rp v, []) := rfl
theorem sn_lit {es ts : List V} {k b m c : Nat} {fr : Bool} {i : List Nat} (hB : H b = some ⟨k, es, fr⟩) (hn : m = es.length) (h : overL (snapB d H) es = some (ts, i)) : snapB (d + 1) H (.hs b 0 m c) = some (.sl ts, b :: i) := by
  subst hn
  simp only [snapB, hB]
  rw [if_pos (by omega)]
  simp only [List.drop_zero, List.take_length, h]
theorem sn_hs {α : Type} {f g : α → V} {l : List α} {k b m c : Nat} {fr : Bool} (hB : H b = some ⟨k, l.map f, fr⟩) (hn : m = l.length) (h : ∀ a, snapB d H (f a) = some (g a, [])) : snapB (d + 1) H (.hs b 0 m c) = some (.sl (l.map g), [b]) :=
  snapB_hs hB (overL_map fun x _ => h x) (by simpa using hn)
theorem sn_st {cs ts : List V} {i : List Nat} (h : overL (snapB d H) cs = some (ts, i)) : snapB (d + 1) H (.st cs) = some (.st ts, i) := snapB_st h
theorem sn_cl {f : Nat} {cs ts : List V} {i : List Nat} (h : overL (snapB d H) cs = some (ts, i)) : snapB (d + 1) H (.cl f cs) = some (.cl f ts, i) := by simp only [snapB, h]
theorem sn_hp {b i : Nat} {k : Nat} {es : List V} {fr : Bool} {v t : V} {j : List Nat} (hB : H b = some ⟨k, es, fr⟩) (hv : es[i]? = some v) (h : snapB d H v = some (t, j)) : snapB (d + 1) H (.hp b i) = some (.rp t, b :: j) := by simp only [snapB, hB, hv, h]
theorem ov_nil {f : V → Option (V × List Nat)} : overL f [] = some ([], []) := rfl
theorem ov_cons {f : V → Option (V × List Nat)} {v t : V} {vs ts : List V} {i j : List Nat} (h1 : f v = some (t, i)) (h2 : overL f vs = some (ts, j)) : overL f (v :: vs) = some (t :: ts, i ++ j) := overL_mk h1 h2
theorem ov_cons0 {f : V → Option (V × List Nat)} {v t : V} {vs ts : List V} (h1 : f v = some (t, [])) (h2 : overL f vs = some (ts, [])) : overL f (v :: vs) = some (t :: ts, []) := overL_mk (L1 := []) (L2 := []) h1 h2
theorem hd_nil : handB H [] [] = some ([], [], []) := rfl
theorem hd_cons {v t : V} {vs ts : List V} {i j : List Nat} (h1 : snapB DEP H v = some (t, i)) (h2 : handB H [] vs = some (ts, j, [])) : handB H [] (v :: vs) = some (t :: ts, i ++ j, []) := by
  simp only [handB, List.headD_nil, h1, Option.map_some, List.tail_nil, h2, List.append_nil]
theorem roA {v t : V} (h : roT d v = some t := by (repeat (first | exact ro_im | exact ro_e0 | exact ro_sl | exact ro_nil | (apply ro_ow; intro _) | apply ro_st | apply ro_cons | fail)); done) : roT d v = some t := h
theorem snA {v t : V} {i : List Nat} (h : snapB d H v = some (t, i) := by
    repeat (first | exact ov_nil | apply ov_cons | apply ov_cons0 | exact sn_im | exact sn_sl | exact sn_e0 | exact sn_rp | apply sn_st | (apply sn_hs; rfl; (first | rfl | assumption); intro _) | (apply sn_ow; rfl; exact roA) | (apply sn_hp; rfl; rfl) | apply sn_cl | (apply sn_lit; rfl; rfl) | fail)
    done) : snapB d H v = some (t, i) := h
theorem hdA {vs ts : List V} {i : List Nat} (h : handB H [] vs = some (ts, i, []) := by (repeat (first | exact hd_nil | (apply hd_cons; exact snA) | fail)); done) : handB H [] vs = some (ts, i, []) := h

/-! Shares it nothing? -/
theorem fr_im {x : Value} : free (d + 1) (.im x) = true := rfl
theorem fr_e0 : free (d + 1) .e0 = true := rfl
theorem fr_ow {α : Type} {f : α → V} {l : List α} {k : Nat} (h : ∀ a, free d (f a) = true) : free (d + 1) (.ow k (l.map f)) = true := by
  show allL (free d) (l.map f) = true
  exact allL_iff.2 fun v hv => by obtain ⟨a, _, rfl⟩ := List.mem_map.1 hv; exact h a
theorem fr_st {cs : List V} (h : allL (free d) cs = true) : free (d + 1) (.st cs) = true := h
theorem fr_tu {cs : List V} (h : allL (free d) cs = true) : free (d + 1) (.tu cs) = true := h
theorem frA {v : V} (h : free d v = true := by (repeat (first | exact fr_im | exact fr_e0 | exact ok_nil | refine fr_ow (fun _ => ?_) | refine fr_st ?_ | refine fr_tu ?_ | refine ok_cons ?_ ?_ | fail)); done) : free d v = true := h
theorem rs_nil {t : V} : (([] : List Nat).isEmpty || free d t) = true := rfl
theorem rs_fr {i : List Nat} {t : V} (h : free d t = true) : (i.isEmpty || free d t) = true := by rw [h, Bool.or_true]

/-! Taken over. -/
variable {e : Nat → V} {n : Nat} {z : Bool}
theorem tk_im {x : Value} : takeB (d + 1) (.im x) ⟨e, H, n, z⟩ = some (.im x, ⟨e, H, n, z⟩) := rfl
theorem tk_e0 : takeB (d + 1) .e0 ⟨e, H, n, z⟩ = some (.e0, ⟨e, H, n, z⟩) := rfl
theorem tk_ow {α : Type} {f : α → V} {l : List α} {k : Nat} (h : ∀ a, okD d (f a) = true) : takeB (d + 1) (.ow k (l.map f)) ⟨e, H, n, z⟩ = some (.hs n 0 l.length l.length, ⟨e, up H n (some ⟨k, l.map f, false⟩), n + 1, z⟩) := by
  rw [takeB_ow (allL_map h), ← up_eq]; simp only [List.length_map]; rfl
theorem tk_st {cs vs : List V} {s1 : S} (h : takeL (takeB d) cs ⟨e, H, n, z⟩ = some (vs, s1)) : takeB (d + 1) (.st cs) ⟨e, H, n, z⟩ = some (.st vs, s1) := by simp only [takeB, h]
theorem tk_tu {cs vs : List V} {s1 : S} (h : takeL (takeB d) cs ⟨e, H, n, z⟩ = some (vs, s1)) : takeB (d + 1) (.tu cs) ⟨e, H, n, z⟩ = some (.tu vs, s1) := by simp only [takeB, h]
theorem tl_nil {f : V → S → Option (V × S)} {s : S} : takeL f [] s = some ([], s) := rfl
theorem tl_cons {f : V → S → Option (V × S)} {v v' : V} {vs vs' : List V} {s s1 s2 : S} (h1 : f v s = some (v', s1)) (h2 : takeL f vs s1 = some (vs', s2)) : takeL f (v :: vs) s = some (v' :: vs', s2) := by simp only [takeL, h1, h2]
theorem tkA {t v : V} {s1 : S} (h : takeB d t ⟨e, H, n, z⟩ = some (v, s1) := by
    repeat (first | exact tl_nil | apply tl_cons | exact tk_im | exact tk_e0 | (apply tk_ow; exact fun _ => okA) | apply tk_st | apply tk_tu | exact tl_nil | apply tl_cons | fail)
    done) : takeB d t ⟨e, H, n, z⟩ = some (v, s1) := h

/-! Given back. -/
theorem gv_im {P : Prop} {x y : Value} (p : Wr P) (h : Wr P → y = x) : giveB (d + 1) H (.im y) = some (.im x, []) := by rw [h p]; rfl
theorem gv_b {x y : Bool} (p : Wr (y = x)) : giveB (d + 1) H (.b y) = some (.b x, []) := by rw [p.h]; rfl
theorem gv_i {x y : Int} (p : Wr (y = x)) : giveB (d + 1) H (.i y) = some (.i x, []) := by rw [p.h]; rfl
theorem gv_s {x y : ByteArray} (p : Wr (y = x)) : giveB (d + 1) H (.s y) = some (.s x, []) := by rw [p.h]; rfl
theorem gv_u {x y : Int} (p : Wr (y = x)) : giveB (d + 1) H (.u y) = some (.u x, []) := by rw [p.h]; rfl
theorem gv_e0 (_p : Wr True) : giveB (d + 1) H .e0 = some (.e0, []) := rfl
theorem gv_hs {α : Type} {f : α → V} {l l' : List α} {k b m c : Nat} {fr : Bool} (p : Wr (l' = l)) (hB : H b = some ⟨k, l'.map f, fr⟩) (hn : m = l'.length) (h : ∀ a, okD d (f a) = true) : giveB (d + 1) H (.hs b 0 m c) = some (.ow k (l.map f), [b]) := by
  rw [← p.h]; exact giveB_hs hB (allL_map h) (by simpa using hn)
theorem gv_st {cs ts : List V} {i : List Nat} (h : overL (giveB d H) cs = some (ts, i)) : giveB (d + 1) H (.st cs) = some (.st ts, i) := giveB_st h
theorem gv_tu {c : V} {cs ts : List V} {i : List Nat} (h : overL (giveB d H) (c :: cs) = some (ts, i)) : giveB (d + 1) H (.tu (c :: cs)) = some (.tu ts, i) := by simp only [giveB, h]
theorem gv_nil (_p : Wr True) : overL (giveB d H) [] = some ([], []) := rfl
theorem gv_cons {A B : Prop} {v t : V} {vs ts : List V} {i j : List Nat} (p : Wr (A ∧ B)) (h1 : Wr A → giveB d H v = some (t, i)) (h2 : Wr B → overL (giveB d H) vs = some (ts, j)) : overL (giveB d H) (v :: vs) = some (t :: ts, i ++ j) :=
  overL_mk (h1 ⟨p.h.1⟩) (h2 ⟨p.h.2⟩)
theorem fin {P : Prop} {t : V} {l : List (Nat × Option (Option Nat))} {s : S} {v : V} {o i : List Nat} (p : P) (hr : resOfB s l = some (v, o) := by rfl)
    (g : Wr P → giveB DEP s.H v = some (t, i) := by
      intro p
      repeat (first | exact gv_b p | exact gv_i p | exact gv_s p | exact gv_u p | exact gv_e0 p | (apply gv_hs p; rfl; (first | rfl | assumption); exact fun _ => okA) | apply gv_st | apply gv_tu | exact gv_nil p | apply gv_cons p | intro p | fail)
      done)
    (hn : (o ++ i).Nodup := by exact nd_of rfl) : Fin t l s := by unfold Fin; exact ⟨v, o, i, hr, g ⟨p⟩, hn⟩

/-! At a loop's head. -/
theorem rb_nil : renBs H r [] = some ([], []) := rfl
theorem rb_L {α : Type} {f : α → V} {l : List α} {k b : Nat} {fr : Bool} {bs : List Nat} {xs : List (Option Blk)} {j : List Nat} (hB : H b = some ⟨k, l.map f, fr⟩) (h : ∀ a, okD DEP (f a) = true) (hr : renBs H r bs = some (xs, j)) : renBs H r (b :: bs) = some (some ⟨k, l.map f, fr⟩ :: xs, j) :=
  renBs_one hB (allL_map h) hr
theorem rb_1 {v t : V} {k b : Nat} {fr : Bool} {bs : List Nat} {xs : List (Option Blk)} {i j : List Nat} (hB : H b = some ⟨k, [v], fr⟩) (hv : ren H r DEP v = some (t, i)) (hr : renBs H r bs = some (xs, j)) : renBs H r (b :: bs) = some (some ⟨k, [t], fr⟩ :: xs, i ++ j) :=
  renBs_cons hB (by rw [overL_mk (L1 := i) (L2 := []) hv rfl, List.append_nil]) hr
theorem rb_app {α : Type} {f : α → V} {l : List α} {x : α} {v : V} {k b : Nat} {fr : Bool} {bs : List Nat} {xs : List (Option Blk)} {i j : List Nat} (hB : H b = some ⟨k, l.map f ++ [v], fr⟩) (h : ∀ a, okD DEP (f a) = true) (hv : ren H r DEP v = some (f x, i)) (hr : renBs H r bs = some (xs, j)) :
    renBs H r (b :: bs) = some (some ⟨k, (l ++ [x]).map f, fr⟩ :: xs, i ++ j) := by
  refine renBs_cons hB ?_ hr
  rw [List.map_append]
  have := overL_app (overL_ren (H := H) (r := r) (allL_map h (l := l))) (overL_mk (L1 := i) (L2 := []) hv (show overL (ren H r DEP) [] = some ([], []) from rfl))
  simpa using this
theorem rb_appV {α : Type} {f : α → V} {l : List α} {v t : V} {k b : Nat} {fr : Bool} {bs : List Nat} {xs : List (Option Blk)} {i j : List Nat} (hB : H b = some ⟨k, l.map f ++ [v], fr⟩) (h : ∀ a, okD DEP (f a) = true) (hv : ren H r DEP v = some (t, i)) (hr : renBs H r bs = some (xs, j)) :
    renBs H r (b :: bs) = some (some ⟨k, l.map f ++ [t], fr⟩ :: xs, i ++ j) := by
  refine renBs_cons hB ?_ hr
  have := overL_app (overL_ren (H := H) (r := r) (allL_map h (l := l))) (overL_mk (L1 := i) (L2 := []) hv (show overL (ren H r DEP) [] = some ([], []) from rfl))
  simpa using this
theorem rb_set {α : Type} {f : α → V} {l : List α} {x : α} {v : V} {k b m : Nat} {fr : Bool} {bs : List Nat} {xs : List (Option Blk)} {i j : List Nat} (hB : H b = some ⟨k, (l.map f).set m v, fr⟩) (h : ∀ a, okD DEP (f a) = true) (hv : ren H r DEP v = some (f x, i)) (hm : m < l.length) (hr : renBs H r bs = some (xs, j)) :
    renBs H r (b :: bs) = some (some ⟨k, (l.set m x).map f, fr⟩ :: xs, i ++ j) := by
  refine renBs_cons hB ?_ hr
  rw [List.map_set]
  exact overL_set hv (overL_ren (allL_map h)) (by simpa using hm)
theorem rb_rep {v : V} {k b m : Nat} {fr : Bool} {bs : List Nat} {xs : List (Option Blk)} {j : List Nat} (hB : H b = some ⟨k, List.replicate m v, fr⟩) (h : okD DEP v = true) (hr : renBs H r bs = some (xs, j)) : renBs H r (b :: bs) = some (some ⟨k, List.replicate m v, fr⟩ :: xs, j) :=
  renBs_one hB (allL_iff.2 fun x hx => by rw [(List.mem_replicate.1 hx).2]; exact h) hr
theorem rb_fill {α : Type} {f : α → V} {l : List α} {x : α} {v zz : V} {k b i m : Nat} {fr : Bool} {bs : List Nat} {xs : List (Option Blk)} {ids j : List Nat} (hB : H b = some ⟨k, ((l.take i).map f ++ List.replicate m zz).set i v, fr⟩) (hx : l[i]? = some x) (hm : m = l.length - i) (h : ∀ a, okD DEP (f a) = true) (hz : okD DEP zz = true) (hv : ren H r DEP v = some (f x, ids)) (hr : renBs H r bs = some (xs, j)) :
    renBs H r (b :: bs) = some (some ⟨k, (l.take (i + 1)).map f ++ List.replicate (l.length - (i + 1)) zz, fr⟩ :: xs, ids ++ j) := by
  have hi : i < l.length := (List.getElem?_eq_some_iff.1 hx).1
  obtain rfl : x = l[i] := ((List.getElem?_eq_some_iff.1 hx).2).symm
  refine renBs_cons hB ?_ hr
  rw [← fill_set f l zz hi]
  subst hm
  refine overL_set hv (overL_ren (allL_iff.2 fun y hy => ?_)) (by simp only [List.length_append, List.length_map, List.length_take, List.length_replicate]; omega)
  rcases List.mem_append.1 hy with h1 | h1
  · obtain ⟨a, _, rfl⟩ := List.mem_map.1 h1; exact h a
  · rw [(List.mem_replicate.1 h1).2]; exact hz
theorem re_im {x : Value} : ren H r (d + 1) (.im x) = some (.im x, []) := rfl
theorem re_e0 : ren H r (d + 1) .e0 = some (.e0, []) := rfl
theorem re_sl {es : List V} : ren H r (d + 1) (.sl es) = some (.sl es, []) := rfl
theorem re_rp {v : V} : ren H r (d + 1) (.rp v) = some (.rp v, []) := rfl
theorem re_rt {b o m c j : Nat} (hr : posOf r b = some j) : ren H r (d + 1) (.hs b o m c) = some (.hs j o m c, []) := by simp only [ren, hr]
theorem pk_lit {es ts : List V} {k b m c : Nat} {fr : Bool} {i : List Nat} (hr : posOf r b = none) (hB : H b = some ⟨k, es, fr⟩) (hn : m = es.length) (hc : c = m) (h : overL (packB d H) es = some (ts, i)) : ren H r (d + 1) (.hs b 0 m c) = some (.ow k ts, b :: i) := by
  subst hc; subst hn
  simp only [ren, hr, packB, hB, and_self, if_true, h]
theorem pa_ok {v : V} (h : okD d v = true) : packB d H v = some (v, []) := packB_ok h
theorem pa_hs {α : Type} {f : α → V} {l : List α} {k b m c : Nat} {fr : Bool} (hB : H b = some ⟨k, l.map f, fr⟩) (hn : m = l.length) (hc : c = m) (h : ∀ a, okD d (f a) = true) : packB (d + 1) H (.hs b 0 m c) = some (.ow k (l.map f), [b]) :=
  packB_hs hB (overL_packB (allL_map h)) (by simpa using hn) hc
theorem re_st {cs ts : List V} {i : List Nat} (h : overL (ren H r d) cs = some (ts, i)) : ren H r (d + 1) (.st cs) = some (.st ts, i) := by simp only [ren, h]
theorem re_hs {α : Type} {f : α → V} {l : List α} {k b m c : Nat} {fr : Bool} (hr : posOf r b = none) (hB : H b = some ⟨k, l.map f, fr⟩) (hn : m = l.length) (hc : c = m) (h : ∀ a, okD d (f a) = true) : ren H r (d + 1) (.hs b 0 m c) = some (.ow k (l.map f), [b]) :=
  ren_hs hr hB (allL_map h) (by simpa using hn) hc
theorem re_app {α : Type} {f : α → V} {l : List α} {x : α} {v : V} {k b m c : Nat} {fr : Bool} {i : List Nat} (hr : posOf r b = none) (hB : H b = some ⟨k, l.map f ++ [v], fr⟩) (hn : m = l.length + 1) (hc : c = m) (h : ∀ a, okD d (f a) = true) (hv : packB d H v = some (f x, i)) : ren H r (d + 1) (.hs b 0 m c) = some (.ow k ((l ++ [x]).map f), b :: i) := by
  refine pk_lit hr hB (by simpa using hn) hc ?_
  rw [List.map_append]
  have := overL_app (overL_packB (H := H) (allL_map h (l := l))) (overL_mk (L1 := i) (L2 := []) hv (show overL (packB d H) [] = some ([], []) from rfl))
  simpa using this
theorem re_ok {v : V} (h : okD d v = true) : ren H r d v = some (v, []) := ren_ok h
theorem reA {v t : V} {i : List Nat} (h : ren H r d v = some (t, i) := by (repeat (first | exact ov_nil | apply ov_cons | apply ov_cons0 | exact re_im | exact re_e0 | exact re_sl | exact re_rp | (apply re_rt; rfl) | (apply re_ok; exact okA) | (apply re_hs; rfl; rfl; (first | rfl | assumption); rfl; exact fun _ => okA) | apply re_st | (apply re_app; rfl; rfl; rfl; rfl; exact fun _ => okA) | (apply pk_lit; rfl; rfl; rfl; rfl) | (apply pa_ok; exact okA) | (apply pa_hs; rfl; (first | rfl | assumption); rfl; exact fun _ => okA) | fail)); done) : ren H r d v = some (t, i) := h
theorem nm {L ids rr : List Nat} {bs : List (Option Blk)} {s : S} {ev : List (Nat × V)} {m : Nat} (hr : dedup (L.flatMap fun t => refs 3 (s.e t)) = rr := by first | exact (rfl : _ = []) | exact (rfl : _ = [_]) | exact (rfl : _ = [_, _]) | exact (rfl : _ = [_, _, _]) | exact (rfl : _ = [_, _, _, _]) | exact (rfl : _ = [_, _, _, _, _]) | exact (rfl : _ = [_, _, _, _, _, _]) | exact (rfl : _ = [_, _, _, _, _, _, _]))
    (hb : renBs s.H rr rr = some (bs, ids) := by
      repeat (first | exact rb_nil | (apply rb_L; rfl; exact fun _ => okA) | (apply rb_1; rfl; exact reA) | (apply rb_rep; rfl; exact okA) | (apply rb_fill; rfl; assumption; rfl; exact fun _ => okA; exact okA; exact reA) | (apply rb_app; rfl; exact fun _ => okA; exact reA) | (apply rb_appV; rfl; exact fun _ => okA; exact reA) | (apply rb_set; rfl; exact fun _ => okA; exact reA; omega) | fail)
      done)
    (hn : (ids ++ rr).Nodup := by exact nd_of rfl) (he : (L.map fun t => (t, match ren s.H rr 3 (s.e t) with | some (v, []) => v | _ => V.dd)) = ev := by first | rfl | (simp only [List.length_append, List.length_singleton]; rfl)) (hm : rr.length = m := by rfl) : nmS L s = some ⟨envA ev, heapA bs, m, false⟩ := by
  subst hm; exact nmS_of hr hb hn he
end

section
variable {Γ : Env} {T : Nat → Option FB} {e : Nat → V} {H : Nat → Option Blk} {n : Nat} {z : Bool} {l : List I} {K : S → Prop} {Q : R → Prop} {d : Nat}
/-- A call that reads its arguments: by the callee's contract. -/
theorem c0 {f : Nat} {xs : List O} {ts vs : List V} {rs : List Nat} {t v : V} {H' : Nat → Option Blk} {n' : Nat} (hc : CALLB Γ T f [] ts = some (t, [])) (k : WL Γ T l ⟨up e d v, H', n', z⟩ K)
    (hv : xs.map (val e) = vs := by first | exact frcL | fail) (hu : (xs.all fun x => !isUn (val e x)) = true := by rfl) (hm : Γ.md f = some [] := by first | rfl | assumption) (hh : handB H [] vs = some (ts, rs, []) := by first | exact hdA | fail) (hr : (rs.isEmpty || free DEP t) = true := by first | exact rs_nil | exact rs_fr frA | fail)
    (ht : takeB DEP t ⟨e, H, n, z⟩ = some (v, ⟨e, H', n', z⟩) := by first | exact tkA | fail) : WL Γ T (o d (.ca (.k (.cl f [])) xs) :: l) ⟨e, H, n, z⟩ K :=
  g_callr (caps := []) rfl hu (by rw [List.append_nil]; exact hv) hm hh hc hr ht k
/-- The call of a function value. -/
theorem cv {f : Nat} {fo : O} {xs : List O} {ts vs ws caps : List V} {rs : List Nat} {t v : V} {H' : Nat → Option Blk} {n' : Nat} (hc : CALLB Γ T f [] ts = some (t, [])) (k : WL Γ T l ⟨up e d v, H', n', z⟩ K)
    (hf : fnOf (val e fo) = some (f, caps) := by rfl) (hv : xs.map (val e) = vs := by first | exact frcL | fail) (hw : vs ++ caps = ws := by first | exact frcA | fail) (hu : (xs.all fun x => !isUn (val e x)) = true := by rfl) (hm : Γ.md f = some [] := by first | rfl | assumption) (hh : handB H [] ws = some (ts, rs, []) := by first | exact hdA | fail)
    (hr : (rs.isEmpty || free DEP t) = true := by first | exact rs_nil | exact rs_fr frA | fail) (ht : takeB DEP t ⟨e, H, n, z⟩ = some (v, ⟨e, H', n', z⟩) := by first | exact tkA | fail) : WL Γ T (o d (.ca fo xs) :: l) ⟨e, H, n, z⟩ K :=
  g_callr hf hu (by rw [hv]; exact hw) hm hh hc hr ht k
theorem a_shl {x y : O} {m : Nat} (k : WL Γ T l ⟨up e d (.i ((2 ^ m : Nat) : Int)), H, n, z⟩ K) (hx : val e x = .i 1 := by rfl) (hy : val e y = .i (m : Nat) := by rfl) (hm : m ≤ 62 := by omega) : WL Γ T (o d (.bi .shl x y) :: l) ⟨e, H, n, z⟩ K := by
  refine g_op (v := .i ((2 ^ m : Nat) : Int)) ?_ k
  simp only [opB, opA, hx, hy, abin]
  rw [if_neg (by omega)]
  simp only [Int.toNat_natCast, Option.map_some, show min m IntKind.i64.bits = m by show min m 64 = m; omega, Int.one_mul]
  have h2 : (2 : Int) ^ m = ((2 ^ m : Nat) : Int) := by push_cast; rfl
  have h3 : 2 ^ m ≤ 2 ^ 62 := Nat.pow_le_pow_right (by decide) hm
  rw [h2]
  generalize 2 ^ m = p at h3 ⊢
  rw [wrap_id (by omega) (by omega)]
theorem a_shr {x y : O} {a : Int} {m : Nat} (k : WL Γ T l ⟨up e d (.i (a.fdiv (2 ^ min m 64))), H, n, z⟩ K) (hx : val e x = .i a := by rfl) (hy : val e y = .i (m : Nat) := by rfl) : WL Γ T (o d (.bi .shr x y) :: l) ⟨e, H, n, z⟩ K := by
  refine g_op (v := .i (a.fdiv (2 ^ min m 64))) ?_ k
  simp only [opB, opA, hx, hy, abin]
  rw [if_neg (by omega)]
  simp only [Int.toNat_natCast, Option.map_some]
  rfl
end
end Go.Am
