/- The row's arguments as trees. -/
import Derived.Test.YthpaolkonlhjfaaAm35
import GoSem.ClaimChange
import Derived.Deep.Slices
import Derived.ChangeArms
set_option linter.all false
namespace Go.Am
variable {P : Program} {w : World}

/-- Types that a tree shows whole: bools, integers, strings, slices, structs of such leaves. -/
def okT (P : Program) : Nat → TypeId → Bool
  | 0, _ => false
  | d + 1, t =>
    match P.underlying t with
    | some .bool | some (.int _) | some .string => true
    | some (.slice e) => okT P d e && decide (0 < P.cellsOf e)
    | some (.struct fs) => decide (P.cellsOf t = fs.size) && (fs.toList.zipIdx.all fun p => decide (p.1.offset = p.2) && decide (P.cellsOf p.1.type = 1) && (match P.underlying p.1.type with | some (.struct _) => false | _ => true) && okT P d p.1.type)
    | _ => false

/-- A tree of a type. -/
def TY (P : Program) : Nat → TypeId → V → Prop
  | 0, _, _ => False
  | d + 1, t, v =>
    match P.underlying t with
    | some .bool => ∃ b, v = .b b
    | some (.int k) => ∃ n, v = .im (.int k n) ∧ (Lit.int k n).wf = true
    | some .string => ∃ s, v = .im (.string s) ∧ s.size ≤ maxLen
    | some (.slice e) => ∃ es, v = .sl es ∧ es.length ≤ maxLen ∧ ∀ x ∈ es, TY P d e x
    | some (.struct fs) => ∃ cs, v = .st cs ∧ cs.length = fs.size ∧ ∀ (i : Nat) (f : Field), fs[i]? = some f → ∃ c, cs[i]? = some c ∧ TY P d f.type c
    | _ => False

abbrev Old (w : World) : Nat → Prop := fun β => β < w.heap.size

/-- The cells of a tree. -/
def ROcs (w : World) (v : V) (cs : List Value) : Prop := match v with | .st vs => ROL (Old w) w vs cs | v => ∃ m, cs = [m] ∧ RO (Old w) w v m

theorem mapM_range {α : Type} {f : Nat → Option α} : ∀ {n : Nat} {l : List α}, (List.range n).mapM f = some l → l.length = n ∧ ∀ i, i < n → ∃ x, l[i]? = some x ∧ f i = some x := by
  intro n l h
  obtain ⟨h1, h2⟩ := mapM_get h
  refine ⟨by simpa using h1, fun i hi => ?_⟩
  exact h2 i i (by simp [hi])

theorem ROE_at {St : Nat → Prop} {β k : Nat} : ∀ {es : List V} {o : Nat}, (∀ e ∈ es, e.size = k) → (∀ (i : Nat) (e : V), es[i]? = some e → ROC St w β (o + i * k) (cellsOf e)) → ROE St w β o es
  | [], _, _, _ => by simp [ROE]
  | e :: es, o, hk, h => by
    rw [ROE_cons]
    refine ⟨by simpa using h 0 e rfl, ?_⟩
    rw [hk e (by simp)]
    refine ROE_at (k := k) (fun x hx => hk x (by simp [hx])) fun i x hi => ?_
    have := h (i + 1) x (by simpa using hi)
    rwa [show o + (i + 1) * k = o + k + i * k by rw [Nat.succ_mul]; omega] at this

theorem ROC_of {St : Nat → Prop} {β : Nat} : ∀ {vs : List V} {o : Nat} {cs : List Value}, ROL St w vs cs → (∀ (j : Nat) (c : Value), cs[j]? = some c → Cel w β (o + j) = some c) → ROC St w β o vs
  | [], _, _, _, _ => by simp [ROC]
  | v :: vs, o, cs, h, hc => by
    simp only [ROL] at h
    obtain ⟨m, ms', rfl, h1, h2⟩ := h
    simp only [ROC]
    refine ⟨⟨m, by simpa using hc 0 m rfl, h1⟩, ROC_of h2 fun j c hj => ?_⟩
    have := hc (j + 1) c (by simpa using hj)
    rwa [show o + (j + 1) = o + 1 + j by omega] at this

theorem size_of_ROcs {v : V} {cs : List Value} (h : ROcs w v cs) : v.size = cs.length := by
  have len : ∀ {vs : List V} {ms : List Value}, ROL (Old w) w vs ms → vs.length = ms.length := by
    intro vs
    induction vs with
    | nil => intro ms h; simp only [ROL] at h; rw [h]; rfl
    | cons v vs ih => intro ms h; simp only [ROL] at h; obtain ⟨m, ms', rfl, _, h2⟩ := h; simp [ih h2]
  cases v <;> simp only [ROcs] at h
  case st vs => simpa [V.size] using len h
  all_goals (obtain ⟨m, rfl, _⟩ := h; rfl)

theorem cellsOf_ROC {St : Nat → Prop} {β o : Nat} {v : V} {cs : List Value} (h : ROcs w v cs) (hS : ∀ b, Old w b → St b) (hc : ∀ (j : Nat) (c : Value), cs[j]? = some c → Cel w β (o + j) = some c) : ROC (Old w) w β o (cellsOf v) := by
  cases v <;> simp only [ROcs] at h
  case st vs => exact ROC_of h hc
  all_goals
    obtain ⟨m, rfl, h⟩ := h
    simp only [cellsOf, ROC, and_true]
    exact ⟨m, by simpa using hc 0 m rfl, h⟩

theorem cells_get {base n : Nat} {a : Addr} {cs : List Value} (h : w.cells? base a n = some cs) : cs.length = n ∧ ∀ (j : Nat) (c : Value), cs[j]? = some c → w.cell? (a.add j) = some c := by
  unfold World.cells? at h
  split at h
  · obtain ⟨h1, h2⟩ := mapM_range h
    refine ⟨h1, fun j c hj => ?_⟩
    have hlt : j < n := by rw [← h1]; exact (List.getElem?_eq_some_iff.1 hj).1
    obtain ⟨x, hx, hf⟩ := h2 j hlt
    rw [hj] at hx; obtain rfl := Option.some.inj hx
    exact hf
  · cases h

theorem cell_none {a : Addr} {c : Value} (h : w.cell? a = some c) : a.spot = none ∧ a.block < w.heap.size := by
  unfold World.cell? at h
  split at h
  · rename_i cs e f hb
    split at h
    · cases h
    · rename_i hs
      exact ⟨by simpa using hs, (Array.getElem?_eq_some_iff.1 hb).1⟩
  · cases h

theorem add_none {β o : Nat} (n : Nat) : (⟨β, o, none⟩ : Addr).add n = ⟨β, o + n, none⟩ := by
  unfold Addr.add
  split
  · rename_i h; subst h; rfl
  · rfl

theorem read {H : Type} {enc : TypeId × Value → H} {base : Nat} {spare : Nat → Bool} {held : Bool} : ∀ (d fuel : Nat) (t : TypeId) (cs : List Value) (x : DataW H × List MemPlace), okT P d t = true → DataW.trod enc P w base spare held fuel t cs = some x →
    ∃ v, TY P d t v ∧ ROcs w v cs
  | 0, _, _, _, _, h, _ => by simp [okT] at h
  | d + 1, fuel, t, cs, x, hk, h => by
    simp only [okT] at hk
    simp only [TY]
    cases hu : P.underlying t with
    | none => rw [hu] at hk; cases hk
    | some u =>
      rw [hu] at hk
      try simp only
      cases u <;> simp only [Bool.false_eq_true] at hk
      case bool =>
        obtain ⟨b, rfl, _⟩ := DataW.trod_bool hu h
        exact ⟨.b b, ⟨b, rfl⟩, _, rfl, by simp [RO]⟩
      case int k =>
        obtain ⟨n, rfl, _, hw⟩ := DataW.trod_int hu h
        exact ⟨.im (.int k n), ⟨n, rfl, hw⟩, _, rfl, by simp [RO]⟩
      case string =>
        obtain ⟨s, rfl, _, hw⟩ := DataW.trod_string hu h
        exact ⟨.im (.string s), ⟨s, rfl, hw⟩, _, rfl, by simp [RO]⟩
      case slice e =>
        simp only [Bool.and_eq_true, decide_eq_true_eq] at hk
        rcases _root_.Go.Deep.open_slice hu h with ⟨rfl, _⟩ | ⟨a, len, cap, m, n, D, Pl, rfl, _, hl, hm, hmm, _, hel⟩
        · exact ⟨.sl [], ⟨[], rfl, by simp, by simp⟩, _, rfl, by simp only [RO]; exact ⟨none, 0, rfl, by simp, by simp⟩⟩
        · have hle : len ≤ m := by rw [hmm]; split <;> omega
          have hall : ∀ i, ∃ v, i < len → (TY P d e v ∧ ∃ cs', w.cells? base (a.add (i * P.cellsOf e)) (P.cellsOf e) = some cs' ∧ ROcs w v cs') := by
            intro i
            by_cases hi : i < len
            · obtain ⟨cs', h1, h2⟩ := hel i (by omega)
              obtain ⟨v, h3, h4⟩ := read d n e cs' _ hk.1 h2
              exact ⟨v, fun _ => ⟨h3, cs', h1, h4⟩⟩
            · exact ⟨.un, fun h => absurd h hi⟩
          let g : Nat → V := fun i => Classical.choose (hall i)
          have hg : ∀ i, i < len → (TY P d e (g i) ∧ ∃ cs', w.cells? base (a.add (i * P.cellsOf e)) (P.cellsOf e) = some cs' ∧ ROcs w (g i) cs') := fun i => Classical.choose_spec (hall i)
          refine ⟨.sl ((List.range len).map g), ⟨_, rfl, by simp; omega, fun v hv => ?_⟩, _, rfl, ?_⟩
          · obtain ⟨i, hi, rfl⟩ := List.mem_map.1 hv
            exact (hg i (by simpa using hi)).1
          · simp only [RO]
            refine ⟨some a, cap, by simp, by simpa using hl, ?_⟩
            by_cases h0 : len = 0
            · left; subst h0; rfl
            · right
              obtain ⟨β, o, sp⟩ := a
              obtain ⟨_, cs0, h1, h2⟩ := hg 0 (by omega)
              obtain ⟨hl0, hc0⟩ := cells_get h1
              have hlt : 0 < cs0.length := by rw [hl0]; exact hk.2
              have hcell := hc0 0 _ (List.getElem?_eq_getElem hlt)
              have hz : ((⟨β, o, sp⟩ : Addr).add (0 * P.cellsOf e)).add 0 = ⟨β, o, sp⟩ := by simp [Addr.add]
              rw [hz] at hcell
              obtain ⟨hs, hb⟩ := cell_none hcell
              simp only at hs hb
              subst hs
              refine ⟨β, o, P.cellsOf e, rfl, hb, fun v hv => ?_, ROE_at (k := P.cellsOf e) (fun v hv => ?_) fun i v hv => ?_⟩
              · obtain ⟨i, hi, rfl⟩ := List.mem_map.1 hv
                obtain ⟨_, cs', h3, h4⟩ := hg i (by simpa using hi)
                rw [size_of_ROcs h4, (cells_get h3).1]
              · obtain ⟨i, hi, rfl⟩ := List.mem_map.1 hv
                obtain ⟨_, cs', h3, h4⟩ := hg i (by simpa using hi)
                rw [size_of_ROcs h4, (cells_get h3).1]
              · have hi : i < len := by
                  have := (List.getElem?_eq_some_iff.1 hv).1
                  simpa using this
                rw [List.getElem?_map, List.getElem?_range hi] at hv
                obtain rfl := Option.some.inj hv
                obtain ⟨_, cs', h3, h4⟩ := hg i hi
                refine cellsOf_ROC h4 (St := Old w) (fun _ h => h) fun j c hj => ?_
                have := (cells_get h3).2 j c hj
                rw [add_none, add_none] at this
                exact this
      case struct fs =>
        simp only [Bool.and_eq_true, decide_eq_true_eq] at hk
        obtain ⟨xs, n, rfl, _, hl, hx, hf⟩ := DataW.trod_struct hu h
        have hfs : ∀ (i : Nat) (f : Field), fs[i]? = some f → f.offset = i ∧ P.cellsOf f.type = 1 ∧ (match P.underlying f.type with | some (.struct _) => false | _ => true) = true ∧ okT P d f.type = true := by
          intro i f hi
          have := List.all_eq_true.1 hk.2 (f, i) (by rw [List.mk_mem_zipIdx_iff_getElem?]; simpa using hi)
          simp only [Bool.and_eq_true, decide_eq_true_eq] at this
          exact ⟨this.1.1.1, this.1.1.2, this.1.2, this.2⟩
        have hlen : cs.length = fs.size := hl.trans hk.1
        have hall : ∀ i, ∃ v, i < fs.size → ((∀ f, fs[i]? = some f → TY P d f.type v) ∧ ∃ m, cs[i]? = some m ∧ RO (Old w) w v m) := by
          intro i
          by_cases hi : i < fs.size
          · have hfi : fs[i]? = some fs[i] := Array.getElem?_eq_getElem hi
            obtain ⟨h1, h2, h3, h4⟩ := hfs i _ hfi
            have h5 := hf i _ hfi
            rw [h1, h2] at h5
            have hci : i < cs.length := by omega
            have h6 : (cs.drop i).take 1 = [cs[i]] := by rw [List.drop_eq_getElem_cons hci]; rfl
            rw [h6, List.getElem?_eq_getElem (by omega)] at h5
            obtain ⟨v, h7, h8⟩ := read d n _ _ _ h4 h5
            refine ⟨v, fun _ => ⟨fun f hf' => by rw [hfi] at hf'; obtain rfl := Option.some.inj hf'; exact h7, cs[i], List.getElem?_eq_getElem hci, ?_⟩⟩
            cases v <;> simp only [ROcs] at h8
            case st vs =>
              exfalso
              cases d with
              | zero => simp [TY] at h7
              | succ d =>
                simp only [TY] at h7
                cases hu2 : P.underlying fs[i].type with
                | none => rw [hu2] at h7; exact h7
                | some u =>
                  rw [hu2] at h7 h3
                  cases u <;> simp only [Bool.false_eq_true] at h3 h7
                  case bool => obtain ⟨b, e⟩ := h7; cases e
                  case int => obtain ⟨b, e, _⟩ := h7; cases e
                  case string => obtain ⟨b, e, _⟩ := h7; cases e
                  case slice => obtain ⟨b, e, _⟩ := h7; cases e
            all_goals
              obtain ⟨m, hm, h9⟩ := h8
              obtain ⟨rfl, _⟩ := List.cons.inj hm
              exact h9
          · exact ⟨.un, fun h => absurd h hi⟩
        let g : Nat → V := fun i => Classical.choose (hall i)
        have hg := fun i => Classical.choose_spec (hall i)
        refine ⟨.st ((List.range fs.size).map g), ⟨_, rfl, by simp, fun i f hi => ?_⟩, ?_⟩
        · have hlt : i < fs.size := (Array.getElem?_eq_some_iff.1 hi).1
          exact ⟨g i, by simp [hlt], (hg i hlt).1 f hi⟩
        · simp only [ROcs]
          rw [ROL_iff]
          refine ⟨by simp [hlen], fun i v hv => ?_⟩
          have hlt : i < fs.size := by
            have := (List.getElem?_eq_some_iff.1 hv).1
            simpa using this
          rw [List.getElem?_map, List.getElem?_range hlt] at hv
          obtain rfl := Option.some.inj hv
          exact (hg i hlt).2

end Go.Am
