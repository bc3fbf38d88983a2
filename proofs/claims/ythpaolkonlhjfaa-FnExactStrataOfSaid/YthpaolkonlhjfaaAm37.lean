/- The row: a law that holds on all trees holds in the machine. -/
import Derived.Test.YthpaolkonlhjfaaAm36
import Derived.ReadAgain
import Derived.ChangeOld
import Derived.ChangeShapes
import Derived.WideShapes
set_option linter.all false
namespace Go.Am
open Go.ChangeShapes
variable {P : Program} {W W' : World} {H : Type} {enc : TypeId × Value → H}

/-- The arguments' trees. -/
def TYs (P : Program) (d : Nat) : List TypeId → List V → Prop
  | [], vs => vs = []
  | t :: ts, vs => ∃ v vs', vs = v :: vs' ∧ TY P d t v ∧ TYs P d ts vs'

theorem TY.ror : ∀ {d : Nat} {t : TypeId} {v : V}, TY P d t v → Ror v
  | 0, _, _, h => by simp [TY] at h
  | d + 1, t, v, h => by
    simp only [TY] at h
    split at h
    · obtain ⟨b, rfl⟩ := h; trivial
    · obtain ⟨n, rfl, _⟩ := h; trivial
    · obtain ⟨n, rfl, _⟩ := h; trivial
    · obtain ⟨es, rfl, _, he⟩ := h
      simp only [Ror]
      exact RorL_iff.2 fun x hx => (he x hx).ror
    · rename_i fs _
      obtain ⟨cs, rfl, hl, hc⟩ := h
      simp only [Ror]
      refine RorL_iff.2 fun x hx => ?_
      obtain ⟨i, hi⟩ := List.mem_iff_getElem?.1 hx
      have hlt : i < fs.size := by rw [← hl]; exact (List.getElem?_eq_some_iff.1 hi).1
      obtain ⟨c, h1, h2⟩ := hc i _ (Array.getElem?_eq_getElem hlt)
      rw [hi] at h1; obtain rfl := Option.some.inj h1
      exact h2.ror
    · exact h.elim

mutual
theorem RepT_of_ro {St : Nat → Prop} : ∀ (v : V) (m : Value), Ror v → RO St W v m → RepT St W v m []
  | .im x, m, _, h => by simp only [RO] at h; simp only [RepT]; exact ⟨h, trivial⟩
  | .e0, m, _, h => by simp only [RO] at h; simp only [RepT]; exact ⟨h, trivial⟩
  | .sl es, m, _, h => by simp only [RepT]; exact ⟨h, trivial⟩
  | .rp v, m, _, h => by simp only [RepT]; exact ⟨h, trivial⟩
  | .st cs, m, hr, h => by simp only [Ror] at hr; simp only [RO] at h; simp only [RepT]; obtain ⟨ms, e, h⟩ := h; exact ⟨ms, e, RepTL_of_ro cs ms hr h⟩
  | .cl f cs, m, hr, h => by simp only [Ror] at hr; simp only [RO] at h; simp only [RepT]; obtain ⟨ms, e, h⟩ := h; exact ⟨ms, e, RepTL_of_ro cs ms hr h⟩
  | .tu _, m, hr, _ => by simp [Ror] at hr
  | .ow _ _, m, hr, _ => by simp [Ror] at hr
  | .op _, m, hr, _ => by simp [Ror] at hr
  | .hs .., m, hr, _ => by simp [Ror] at hr
  | .hp .., m, hr, _ => by simp [Ror] at hr
  | .hf .., m, hr, _ => by simp [Ror] at hr
theorem RepTL_of_ro {St : Nat → Prop} : ∀ (vs : List V) (ms : List Value), RorL vs → ROL St W vs ms → RepTL St W vs ms []
  | [], ms, _, h => by simp only [ROL] at h; simp only [RepTL]; exact ⟨h, trivial⟩
  | v :: vs, ms, hr, h => by
    simp only [RorL] at hr
    simp only [ROL] at h
    obtain ⟨m, ms', rfl, h1, h2⟩ := h
    simp only [RepTL]
    exact ⟨m, ms', [], [], rfl, rfl, RepT_of_ro v m hr.1 h1, RepTL_of_ro vs ms' hr.2 h2⟩
end

theorem arg {r : Reach} {base b0 : Nat} {spare : Nat → Bool} {held : Bool} {d : Nat} {t : TypeId} {m : Value} {dd : DataW H} {ps : List MemPlace} (hk : okT P d t = true) (hv : Value.okWide P W r b0 t m) (h : DataW.Trod enc P W base spare held t m dd ps) :
    ∃ v, TY P d t v ∧ RepT (Old W) W v m [] := by
  obtain ⟨fuel, h⟩ := h
  obtain ⟨v, h1, h2⟩ := read d fuel t _ _ hk h
  refine ⟨v, h1, RepT_of_ro v m h1.ror ?_⟩
  have one : (∀ cs, m ≠ .agg cs) → (∀ vs, v ≠ .st vs) → RO (Old W) W v m := by
    intro hna hns
    have hc : m.cells.toList = [m] := by cases m <;> first | rfl | exact absurd rfl (hna _)
    rw [hc] at h2
    cases v <;> simp only [ROcs] at h2 <;> first | exact absurd rfl (hns _) | (obtain ⟨m', e, h3⟩ := h2; obtain ⟨rfl, _⟩ := List.cons.inj e; exact h3)
  cases d with
  | zero => simp [TY] at h1
  | succ d =>
    simp only [TY] at h1
    split at h1
    · rename_i hu
      obtain ⟨b, rfl⟩ := h1
      exact one (by rintro cs rfl; simp [Value.okWide, hu, Cell.okWide, Cell.ok] at hv) (by rintro vs e; cases e)
    · rename_i hu
      obtain ⟨b, rfl, _⟩ := h1
      exact one (by rintro cs rfl; simp [Value.okWide, hu, Cell.okWide, Cell.ok] at hv) (by rintro vs e; cases e)
    · rename_i hu
      obtain ⟨b, rfl, _⟩ := h1
      exact one (by rintro cs rfl; simp [Value.okWide, hu, Cell.okWide, Cell.ok] at hv) (by rintro vs e; cases e)
    · rename_i hu
      obtain ⟨b, rfl, _⟩ := h1
      exact one (by rintro cs rfl; simp [Value.okWide, hu, Cell.okWide, Cell.ok] at hv) (by rintro vs e; cases e)
    · rename_i hu
      obtain ⟨vs, rfl, _⟩ := h1
      simp only [Value.okWide, hu] at hv
      obtain ⟨cs, rfl, _⟩ := hv
      simp only [ROcs, Value.cells] at h2
      simp only [RO]
      exact ⟨cs.toList, by simp, h2⟩
    · exact h1.elim

theorem args_trees {base b0 : Nat} {spare : Nat → Bool} {held : Bool} {d : Nat} : ∀ {ts : List TypeId} {ms : List Value} {ds : List (DataW H)} {ps : List MemPlace}, (∀ t ∈ ts, okT P d t = true) → (∀ (j : Nat) (t : TypeId) (v : Value), ts[j]? = some t → ms[j]? = some v → Value.okWide P W .any b0 t v) →
    DataW.TrodAll enc P W base spare held ts ms ds ps → ds.length = ts.length ∧ ∃ vs, TYs P d ts vs ∧ RepTL (Old W) W vs ms []
  | [], [], [], ps, _, _, _ => ⟨rfl, [], rfl, by simp [RepTL]⟩
  | t :: ts, m :: ms, dd :: ds, ps, hk, hv, h => by
    obtain ⟨p, q, h1, h2, _⟩ := h
    obtain ⟨v, k1, k2⟩ := arg (hk t (by simp)) (hv 0 t m rfl rfl) h1
    obtain ⟨hl, vs, g1, g2⟩ := args_trees (fun t ht => hk t (by simp [ht])) (fun j t v hj hm => hv (j + 1) t v (by simpa using hj) (by simpa using hm)) h2
    exact ⟨by simp [hl], v :: vs, ⟨v, vs, rfl, k1, g1⟩, by simp only [RepTL]; exact ⟨m, ms, [], [], rfl, rfl, k2, g2⟩⟩
  | [], _ :: _, _, _, _, _, h => h.elim
  | [], [], _ :: _, _, _, _, h => h.elim
  | _ :: _, [], _, _, _, _, h => h.elim
  | _ :: _, _ :: _, [], _, _, _, h => h.elim

theorem carryAll {base : Nat} {spare : Nat → Bool} {held : Bool} : ∀ {ts : List TypeId} {ms : List Value} {ds : List (DataW H)} {ps : List MemPlace}, DataW.TrodAll enc P W base spare held ts ms ds ps → (∀ p ∈ ps, W.sameAt W' p) → DataW.TrodAll enc P W' base spare held ts ms ds ps
  | [], [], [], ps, h, _ => h
  | t :: ts, m :: ms, dd :: ds, ps, ⟨p, q, ⟨n, h1⟩, h2, e⟩, hs => ⟨p, q, ⟨n, DataW.trod_carry n _ _ _ h1 fun x hx => hs x (by rw [e]; exact List.mem_append_left _ hx)⟩, carryAll h2 fun x hx => hs x (by rw [e]; exact List.mem_append_right _ hx), e⟩
  | [], _ :: _, _, _, h, _ => h.elim
  | [], [], _ :: _, _, h, _ => h.elim
  | _ :: _, [], _, _, h, _ => h.elim
  | _ :: _, _ :: _, [], _, h, _ => h.elim

/-- A law that returns true on all trees: in the machine it returns true, and its arguments read as they did. -/
theorem law_post {f : FuncId} {fn : Func} {s : ChangeSpec} {base tb d : Nat} {args : Array Value} {ds gs : List (DataW H)} {before : List MemPlace} (K : Kids P (· < P.types.size)) (hz : ∀ t e, t < P.types.size → P.underlying t = some (.slice e) → 0 < P.cellsOf e)
    (hval : ∀ (j : Nat) (t : TypeId) (v : Value), fn.params[j]? = some t → args[j]? = some v → Value.okWide P W .any base t v) (hW : DataW.Whole enc P fn.params.toList s.vars false W args.toList ds gs before)
    (hvars : s.vars = []) (hspec : ∀ ds : List (DataW H), ds.length = fn.params.size → s.fn H ds = { results := [.lit (.bool true)], args := ds }) (hres : fn.resultTypes = #[tb]) (hb : P.underlying tb = some .bool)
    (hok : ∀ t ∈ fn.params.toList, okT P d t = true ∧ t < P.types.size) (hcall : ∀ vs, TYs P d fn.params.toList vs → IsoOK P f [] vs (.b true) []) :
    Calls P f args W fun e W' => ∃ v, e = .returned v ∧ s.post enc P fn false true false false W args v W' := by
  have hW0 := hW
  obtain ⟨p, q, hA, hV, rfl, hnf, hnd⟩ := hW
  obtain ⟨hl, vs, h1, h2⟩ := args_trees (b0 := base) (d := d) (fun t ht => (hok t ht).1) (fun j t v hj hv => hval j t v (by simpa using hj) (by simpa using hv)) hA
  rw [hvars] at hV
  obtain ⟨rfl, rfl⟩ : gs = [] ∧ q = [] := by
    cases gs with
    | nil => exact ⟨rfl, hV⟩
    | cons _ _ => exact hV.elim
  have hc := hcall vs h1 W (Old W) args.toList [] h2 List.nodup_nil (by simp) (fun _ h => h)
  rw [Array.toArray_toList] at hc
  refine hc.mono ?_
  rintro e W2 ⟨m, L1, L2, rfl, stp, hr, _⟩
  simp only [RepT] at hr
  obtain ⟨rfl, _⟩ := hr
  have hds : ds.length = fn.params.size := by simpa using hl
  have hsp := hspec (ds ++ []) (by simpa using hds)
  have hlt : ∀ x ∈ p, x.block < W.heap.size := fun x hx => DataW.TrodAll.lt hA x hx
  refine ⟨_, rfl, ds, [], p ++ [], [], p, [], hW0, ?_, ?_, ?_, ?_, fun h => by cases h⟩
  · rw [hsp, hres]
    exact trodAll_mk1 ⟨1, by simp [DataW.trod, hb, Value.cells]⟩
  · rw [hsp]
    simp only [List.append_nil]
    refine carryAll (DataW.TrodAll.respare K hz (fun t ht => (hok t ht).2) hA fun x hx => by simpa using hlt x hx) fun x hx => ?_
    have hx' := hlt x hx
    cases x with
    | cell b off => simp only [World.sameAt]; exact stp.stab.cel hx' off
    | map b => simp only [World.sameAt]; exact stp.stab b hx'
  · rw [hvars, hsp]; rfl
  · refine ⟨stp.os, stp.output, fun i hi => ?_⟩
    rw [stp.stab i hi]
    cases hx : W.heap[i]? with
    | none => trivial
    | some o =>
      cases o with
      | cells c t fr => exact ⟨rfl, rfl, rfl, fun _ _ => rfl⟩
      | map es c => exact .inr ⟨rfl, rfl⟩
      | _ => rfl

end Go.Am
