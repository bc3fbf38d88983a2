/- The A-machine, part 9: slicing, building, making. -/
import Derived.Test.YthpaolkonlhjfaaAm8
import Derived.IntWalk
set_option linter.all false
namespace Go.Am
variable {P : Program} {φ : Phi} {St Mine : Nat → Prop} {w : World} {s : S} {act : Act} {o : Oper} {v : V} {s' : S}

theorem run_sliceBound {k : IntKind} {i : Int} {y : Nat} {c : BoundsCode} (h0 : 0 ≤ i) (h1 : i ≤ y) : (Instr.sliceBound (.int k i) y c).run P w = .ok i.toNat w := by
  unfold Instr.sliceBound
  simp only [asIntOf, pure_bind]
  rw [if_pos ⟨h0, h1⟩, run_pure]

/-- A bound that may be left out. -/
def bnd (d : Nat) (x : Option Value) (n : Nat) : Prop := (x = none ∧ n = d) ∨ ∃ k, x = some (.int k n)

theorem run_sliceBounds {sl : Bool} {len cap l h : Nat} {lo hi : Option Value} (h1 : bnd 0 lo l) (h2 : bnd len hi h) (h3 : l ≤ h) (h4 : h ≤ cap) :
    (Instr.sliceBounds sl len cap lo hi none).run P w = .ok (l, h, cap) w := by
  unfold Instr.sliceBounds
  rcases h2 with ⟨rfl, rfl⟩ | ⟨k, rfl⟩ <;> rcases h1 with ⟨rfl, rfl⟩ | ⟨k', rfl⟩
  · rfl
  · simp only [pure_bind, run_bind, run_pure]
    rw [run_sliceBound (by omega) (by omega)]; simp
  · simp only [pure_bind, run_bind, run_pure]
    rw [run_sliceBound (by omega) (by omega)]; simp
  · simp only [pure_bind, run_bind, run_pure]
    rw [run_sliceBound (by omega) (by omega)]; simp only [Int.toNat_natCast]
    rw [run_sliceBound (by omega) (by omega)]; simp

theorem run_sliceBounds3 {sl : Bool} {len cap : Nat} {lo : Option Value} {k2 k3 : IntKind} (h1 : bnd 0 lo 0) :
    (Instr.sliceBounds sl len cap lo (some (.int k2 0)) (some (.int k3 0))).run P w = .ok (0, 0, 0) w := by
  unfold Instr.sliceBounds
  rcases h1 with ⟨rfl, _⟩ | ⟨k', rfl⟩
  · simp only [pure_bind, run_bind, run_pure]
    rw [run_sliceBound (by omega) (by omega)]; simp only [Int.toNat_zero]
    rw [run_sliceBound (by omega) (by omega)]; simp
  · simp only [run_bind, run_pure]
    rw [run_sliceBound (by omega) (by omega)]; simp only [Int.toNat_zero]
    rw [run_sliceBound (by omega) (by omega)]; simp only [Int.toNat_zero]
    rw [run_sliceBound (by omega) (by omega)]; simp

theorem toOo_bnd {lo : Option Operand} {lo' : Option O} (env : EnvR φ St w s.e act.tmps) (h : toOo lo = some lo') {d : Nat} {l : Int} (hl : bndOf d (lo'.map (val s.e)) = some l) (h0 : 0 ≤ l) :
    bnd d (lo.map act.eval) l.toNat := by
  cases lo with
  | none =>
    simp only [toOo, Option.some.injEq] at h; subst h
    simp only [Option.map_none, bndOf, Option.some.injEq] at hl; subst hl
    exact .inl ⟨rfl, by simp⟩
  | some x =>
    simp only [toOo, Option.map_eq_some_iff] at h
    obtain ⟨y, hy, rfl⟩ := h
    obtain ⟨k, e⟩ := asI_rep hl (rep_toO env hy)
    exact .inr ⟨k, by simp [e, Int.toNat_of_nonneg h0]⟩

theorem op_ss {t : TypeId} {x : Operand} {lo hi : Option Operand} (ho : o.op = .slice t x lo hi none) (ht : P.underlying t = some .string) {x' : O} {lo' hi' : Option O} (hx : toO x = some x') (hlo : toOo lo = some lo') (hhi : toOo hi = some hi')
    (q : WR φ St Mine w s.H s.nx) (env : EnvR φ St w s.e act.tmps)
    {ca : V → List V → S → Option (V × S)} (h : opA ca s (.ss x' lo' hi') = some (v, s')) : OpTo φ St Mine w s v s' ((execOp act.eval o).run P w) := by
  have rx := rep_toO env hx
  simp only [opA] at h
  split at h
  · rename_i str hv
    rw [hv] at rx
    simp only [Rep] at rx
    split at h
    · rename_i l hh hl hhv
      split at h
      · rename_i hc
        obtain ⟨c1, c2, c3⟩ := hc
        obtain ⟨rfl, rfl⟩ := Prod.mk.inj (Option.some.inj h)
        have b1 := toOo_bnd env hlo hl c1
        have b2 := toOo_bnd env hhi hhv (by omega)
        have : (execOp act.eval o).run P w = .ok (.value (.string (str.extract l.toNat hh.toNat))) w := by
          unfold execOp
          rw [ho]
          refine run_v ?_
          unfold Instr.sliceAt
          rw [run_bind, run_underlying ht]
          simp only
          unfold Instr.slice
          rw [run_bind, run_underlying ht, rx]
          simp only [Option.map_none, Option.isSome_none, Bool.false_eq_true, if_false]
          rw [run_bind, run_sliceBounds b1 b2 (by omega) (by omega)]
          rfl
        rw [this]
        exact OpTo.pure q (by simp [Rep])
      · cases h
    · cases h
  · cases h

/-- The machine's slicing of a slice. -/
theorem run_slice_slice {t e : TypeId} {q' : Option Nat} (ht : P.underlying t = some (.slice e)) (hs : shp P e = some q') {a : Option Addr} {n c l h m : Nat} {lo hi mx : Option Value}
    (hb : (Instr.sliceBounds true n c lo hi mx).run P w = .ok (l, h, m) w) :
    (Instr.sliceAt t (.slice a n c) lo hi mx).run P w = .ok (.slice (if m = l then a else a.map (·.add (l * ksz q'))) (h - l) (m - l)) w := by
  unfold Instr.sliceAt
  rw [run_bind, run_underlying ht]
  simp only
  unfold Instr.slice
  rw [run_bind, run_underlying ht]
  simp only
  rw [run_bind, hb]
  simp only
  rw [run_bind, run_sizeOf hs]
  rfl

theorem toOo_none {mx : Option Operand} (h : toOo mx = some none) : mx = none := by
  cases mx with
  | none => rfl
  | some x => simp [toOo] at h

theorem toOo_int {mx : Option Operand} {y : O} {z : Int} (env : EnvR φ St w s.e act.tmps) (h : toOo mx = some (some y)) (hz : asI (val s.e y) = some z) : ∃ k, mx.map act.eval = some (.int k z) := by
  cases mx with
  | none => simp [toOo] at h
  | some x =>
    simp only [toOo, Option.map_eq_some_iff, Option.some.injEq] at h
    obtain ⟨y', hy', rfl⟩ := h
    obtain ⟨k, e⟩ := asI_rep hz (rep_toO env hy')
    exact ⟨k, by simp [e]⟩

theorem op_sc {t e : TypeId} {x : Operand} {lo hi mx : Option Operand} (ho : o.op = .slice t x lo hi mx) (ht : P.underlying t = some (.slice e)) {q' : Option Nat} (hs : shp P e = some q') {x' : O} {lo' hi' mx' : Option O}
    (hx : toO x = some x') (hlo : toOo lo = some lo') (hhi : toOo hi = some hi') (hmx : toOo mx = some mx')
    (q : WR φ St Mine w s.H s.nx) (env : EnvR φ St w s.e act.tmps)
    {ca : V → List V → S → Option (V × S)} (h : opA ca s (.sc q' x' lo' hi' mx') = some (v, s')) : OpTo φ St Mine w s v s' ((execOp act.eval o).run P w) := by
  have rx := rep_toO env hx
  have fin : ∀ {u : Value}, (Instr.sliceAt t (act.eval x) (lo.map act.eval) (hi.map act.eval) (mx.map act.eval)).run P w = .ok u w → (execOp act.eval o).run P w = .ok (.value u) w := by
    intro u hu
    unfold execOp
    rw [ho]
    exact run_v hu
  -- the third index
  have third : ∀ {a n c}, act.eval x = .slice a n c → ∀ {m}, mx' = some m → bndOf 0 (lo'.map (val s.e)) = some 0 → isZ (hi'.map (val s.e)) = true → asI (val s.e m) = some 0 →
      OpTo φ St Mine w s .e0 s ((execOp act.eval o).run P w) := by
    intro a n c e1 m hm hl hz hmz
    subst hm
    obtain ⟨k3, em⟩ := toOo_int env hmx hmz
    have b1 : bnd 0 (lo.map act.eval) 0 := toOo_bnd env hlo hl (by omega)
    cases hi' with
    | none => simp [isZ] at hz
    | some yh =>
      obtain ⟨k2, eh⟩ := toOo_int env hhi (show asI (val s.e yh) = some 0 by simpa [isZ] using hz)
      rw [fin (by rw [e1, em, eh]; exact run_slice_slice ht hs (run_sliceBounds3 b1))]
      exact OpTo.pure q (by simp [Rep])
  simp only [opA] at h
  split at h
  · rename_i b off n c hv
    rw [hv] at rx
    simp only [Rep] at rx
    obtain ⟨a, c', e1, hc1, hc2, rx⟩ := rx
    by_cases hc0 : c = 0
    · rw [if_pos hc0] at h
      subst hc0
      simp only [Option.map_eq_some_iff] at h
      obtain ⟨y, hy, h⟩ := h
      obtain ⟨rfl, rfl⟩ := Prod.mk.inj h
      cases mx' with
      | some m =>
        simp only [sliceOf, Option.map_some] at hy
        split at hy
        case isFalse => cases hy
        rename_i hc
        obtain rfl := Option.some.inj hy
        exact third e1 rfl hc.1 hc.2.1 hc.2.2
      | none =>
        obtain rfl := toOo_none hmx
        simp only [sliceOf, Option.map_none] at hy
        split at hy
        case h_2 => cases hy
        rename_i l hh hl hhv
        split at hy
        case isFalse => cases hy
        rename_i hc
        obtain ⟨d1, d2, d3⟩ := hc
        obtain rfl := Option.some.inj hy
        obtain rfl : l = 0 := by omega
        obtain rfl : hh = 0 := by omega
        have b1 := toOo_bnd env hlo hl d1
        have b2 := toOo_bnd env hhi hhv (by omega)
        have hr := run_slice_slice (w := w) (a := a) ht hs (run_sliceBounds (P := P) (w := w) (sl := true) (cap := c') b1 b2 (by omega) (by omega))
        rw [fin (by rw [e1]; exact hr)]
        refine OpTo.pure q ?_
        simp only [Rep]
        refine ⟨_, c' - (0 : Int).toNat, by rw [show (0 : Int).toNat - (0 : Int).toNat = ((0 : Int) - 0).toNat by rfl], by simp, by simp, ?_⟩
        by_cases hz : c' - (0 : Int).toNat = 0
        · exact .inl hz
        · rcases rx with rfl | ⟨β, o', k', hp, rfl, hroom⟩
          · simp at hz
          · refine .inr ⟨β, o', k', hp, ?_, by simpa using hroom⟩
            split <;> simp [addr_add]
    rw [if_neg hc0] at h
    split at h
    case h_2 => cases h
    rename_i B hB
    split at h
    case isFalse => cases h
    rename_i hk
    simp only [Option.map_eq_some_iff] at h
    obtain ⟨y, hy, h⟩ := h
    obtain ⟨rfl, rfl⟩ := Prod.mk.inj h
    cases mx' with
    | some m =>
      simp only [sliceOf, Option.map_some] at hy
      split at hy
      case isFalse => cases hy
      rename_i hc
      obtain rfl := Option.some.inj hy
      exact third e1 rfl hc.1 hc.2.1 hc.2.2
    | none =>
      obtain rfl := toOo_none hmx
      simp only [sliceOf, Option.map_none] at hy
      split at hy
      case h_2 => cases hy
      rename_i l hh hl hhv
      split at hy
      case isFalse => cases hy
      rename_i hc
      obtain ⟨d1, d2, d3⟩ := hc
      obtain rfl := Option.some.inj hy
      have b1 := toOo_bnd env hlo hl d1
      have b2 := toOo_bnd env hhi hhv (by omega)
      have hr := run_slice_slice (w := w) (a := a) ht hs (run_sliceBounds (P := P) (w := w) (sl := true) (cap := c') b1 b2 (by omega) (by omega))
      rw [fin (by rw [e1]; exact hr)]
      refine OpTo.pure q ?_
      simp only [Rep]
      refine ⟨_, c' - l.toNat, by rw [show hh.toNat - l.toNat = (hh - l).toNat by omega], by omega, by omega, ?_⟩
      by_cases hz : c' - l.toNat = 0
      · exact .inl hz
      · rcases rx with rfl | ⟨β, o', k', hp, rfl, hroom⟩
        · omega
        · have hk' : k' = ksz q' := by
            rcases q.blk b B hB with ⟨_, g4⟩ | ⟨_, _, g4, _⟩
            · rw [g4] at hp; cases hp
            · rw [g4] at hp; cases hp; exact hk
          refine .inr ⟨β, o', k', hp, ?_, ?_⟩
          · rw [if_neg (by omega)]
            simp only [Option.map_some, addr_add, ← hk', Nat.add_mul]
            simp [Nat.add_assoc]
          · rw [show off + l.toNat + (c' - l.toNat) = off + c' by omega]; exact hroom
  · rename_i es hv
    rw [hv] at rx
    simp only [Rep, RO] at rx
    obtain ⟨a, c', e1, hc1, rx⟩ := rx
    split at h
    case isFalse => cases h
    rename_i hall
    simp only [Option.map_eq_some_iff] at h
    obtain ⟨y, hy, h⟩ := h
    obtain ⟨rfl, rfl⟩ := Prod.mk.inj h
    cases mx' with
    | some m =>
      simp only [sliceOf, Option.map_some] at hy
      split at hy
      case isFalse => cases hy
      rename_i hc
      obtain rfl := Option.some.inj hy
      exact third e1 rfl hc.1 hc.2.1 hc.2.2
    | none =>
      obtain rfl := toOo_none hmx
      simp only [sliceOf, Option.map_none] at hy
      split at hy
      case h_2 => cases hy
      rename_i l hh hl hhv
      split at hy
      case isFalse => cases hy
      rename_i hc
      obtain ⟨d1, d2, d3⟩ := hc
      obtain rfl := Option.some.inj hy
      have b1 := toOo_bnd env hlo hl d1
      have b2 := toOo_bnd env hhi hhv (by omega)
      have hr := run_slice_slice (w := w) (a := a) ht hs (run_sliceBounds (P := P) (w := w) (sl := true) (cap := c') b1 b2 (by omega) (by omega))
      rw [fin (by rw [e1]; exact hr)]
      refine OpTo.pure q ?_
      simp only [Rep, RO]
      have hlen : ((es.take hh.toNat).drop l.toNat).length = hh.toNat - l.toNat := by simp; omega
      refine ⟨_, c' - l.toNat, by rw [hlen], by rw [hlen]; omega, ?_⟩
      by_cases hz : hh.toNat - l.toNat = 0
      · exact .inl (List.eq_nil_of_length_eq_zero (by rw [hlen]; exact hz))
      · rcases rx with rfl | ⟨β, o', k', rfl, hb, hsz, hroe⟩
        · simp at d3; omega
        · have hne : es ≠ [] := by rintro rfl; simp at d3; omega
          have hk' : k' = ksz q' := by
            obtain ⟨x0, hx0⟩ := List.exists_mem_of_ne_nil _ hne
            rw [← hsz x0 hx0]
            simp only [List.all_eq_true] at hall
            exact fits_size (hall x0 hx0)
          refine .inr ⟨β, o' + l.toNat * k', k', ?_, hb, fun e he => hsz e (List.mem_of_mem_take (List.mem_of_mem_drop he)), ?_⟩
          · rw [if_neg (by omega)]
            simp only [Option.map_some, addr_add, ← hk']
          · exact ROE_drop _ (ROE_take _ hroe) (fun e he => hsz e (List.mem_of_mem_take he)) (by simp; omega)
  · rename_i hv
    rw [hv] at rx
    simp only [Rep] at rx
    obtain ⟨a, e1⟩ := rx
    simp only [Option.map_eq_some_iff] at h
    obtain ⟨y, hy, h⟩ := h
    obtain ⟨rfl, rfl⟩ := Prod.mk.inj h
    cases mx' with
    | some m =>
      simp only [sliceOf, Option.map_some] at hy
      split at hy
      case isFalse => cases hy
      rename_i hc
      obtain rfl := Option.some.inj hy
      exact third e1 rfl hc.1 hc.2.1 hc.2.2
    | none =>
      obtain rfl := toOo_none hmx
      simp only [sliceOf, Option.map_none] at hy
      split at hy
      case isFalse => cases hy
      rename_i hc
      obtain rfl := Option.some.inj hy
      have b1 := toOo_bnd env hlo hc.1 (by omega)
      have b2 := toOo_bnd env hhi hc.2 (by omega)
      have hr := run_slice_slice (w := w) (a := a) ht hs (run_sliceBounds (P := P) (w := w) (sl := true) (cap := 0) b1 b2 (by omega) (by omega))
      rw [fin (by rw [e1]; exact hr)]
      refine OpTo.pure q ?_
      simp [Rep]
  · cases h

/-! ### Building -/

theorem foldl_put : ∀ (l : List Value) (k off : Nat) (cs : Array Value), off + k + l.length ≤ cs.size →
    ((l.zipIdx k).foldl (fun cs x => cs.setIfInBounds (off + x.2) x.1) cs).size = cs.size ∧
    ∀ x, ((l.zipIdx k).foldl (fun cs x => cs.setIfInBounds (off + x.2) x.1) cs)[x]? = if off + k ≤ x ∧ x < off + k + l.length then l[x - (off + k)]? else cs[x]?
  | [], k, off, cs, _ => ⟨rfl, fun x => by rw [if_neg (by simp only [List.length_nil]; omega)]; rfl⟩
  | v :: l, k, off, cs, h => by
    simp only [List.length_cons] at h
    obtain ⟨h1, h2⟩ := foldl_put l (k + 1) off (cs.setIfInBounds (off + k) v) (by simp; omega)
    simp only [List.zipIdx_cons, List.foldl_cons]
    refine ⟨by rw [h1]; simp, fun x => ?_⟩
    rw [h2]
    simp only [List.length_cons]
    by_cases hx : x = off + k
    · subst hx
      rw [if_neg (by omega), if_pos (by omega)]
      simp [show off + k < cs.size by omega]
    · by_cases hin : off + (k + 1) ≤ x ∧ x < off + (k + 1) + l.length
      · rw [if_pos hin, if_pos (by omega)]
        obtain ⟨d, rfl⟩ : ∃ d, x = off + (k + 1) + d := ⟨x - (off + (k + 1)), by omega⟩
        rw [show off + (k + 1) + d - (off + (k + 1)) = d by omega, show off + (k + 1) + d - (off + k) = d + 1 by omega]
        simp
      · rw [if_neg hin, if_neg (by omega), Array.getElem?_setIfInBounds_ne (by omega)]

theorem fill_step {place : Nat → Option (Nat × Nat)} {cs : Array Value} {i off k : Nat} {m : Value} {rest : List (Nat × Value)} (hp : place i = some (off, k)) (hm : m.cells.size = k) (ho : off + k ≤ cs.size) :
    ∃ cs', Instr.fill place cs ((i, m) :: rest) = Instr.fill place cs' rest ∧ cs'.size = cs.size ∧ ∀ x, cs'[x]? = if off ≤ x ∧ x < off + k then m.cells[x - off]? else cs[x]? := by
  have e : m.cells.zipIdx.foldl (fun cs x => cs.setIfInBounds (off + x.2) x.1) cs = (m.cells.toList.zipIdx 0).foldl (fun cs x => cs.setIfInBounds (off + x.2) x.1) cs := by
    rw [← Array.foldl_toList]; simp
  obtain ⟨h1, h2⟩ := foldl_put m.cells.toList 0 off cs (by simp; omega)
  refine ⟨_, ?_, h1, fun x => ?_⟩
  · rw [Instr.fill]
    simp only [hp]
    rw [if_neg (by simp [hm]; omega)]
    rw [← e]
  · rw [h2]
    simp only [Nat.add_zero, Array.length_toList, hm]
    split <;> simp

theorem fill_row {k : Nat} {place : Nat → Option (Nat × Nat)} (hp : ∀ i, place i = some (i * k, k)) : ∀ (ms : List Value) (i0 : Nat) (cs : Array Value), (∀ m ∈ ms, m.cells.size = k) → (i0 + ms.length) * k ≤ cs.size →
    ∃ cs', Instr.fill place cs (ms.zipIdx i0 |>.map fun x => (x.2, x.1)) = some cs' ∧ cs'.size = cs.size ∧ (∀ x, x < i0 * k → cs'[x]? = cs[x]?) ∧
      ∀ (i : Nat) m, ms[i]? = some m → ∀ (j : Nat) u, m.cells.toList[j]? = some u → cs'[(i0 + i) * k + j]? = some u
  | [], i0, cs, _, _ => ⟨cs, rfl, rfl, fun _ _ => rfl, by simp⟩
  | m :: ms, i0, cs, hk, hl => by
    have hk0 : m.cells.size = k := hk m (by simp)
    have hle : i0 * k + k ≤ cs.size := by
      have : (i0 + 1) * k ≤ (i0 + (ms.length + 1)) * k := Nat.mul_le_mul_right _ (by omega)
      rw [Nat.succ_mul] at this
      simp only [List.length_cons] at hl
      omega
    obtain ⟨cs1, h1, h2, h3⟩ := fill_step (rest := ms.zipIdx (i0 + 1) |>.map fun x => (x.2, x.1)) (hp i0) hk0 hle
    obtain ⟨cs2, g1, g2, g3, g4⟩ := fill_row hp ms (i0 + 1) cs1 (fun m hm => hk m (by simp [hm])) (by rw [h2]; simp only [List.length_cons] at hl; rwa [show i0 + 1 + ms.length = i0 + (ms.length + 1) by omega])
    refine ⟨cs2, by simp only [List.zipIdx_cons, List.map_cons]; rw [h1]; exact g1, by omega, fun x hx => ?_, fun i m' hi j u hj => ?_⟩
    · rw [g3 x (by rw [Nat.succ_mul]; omega), h3, if_neg (by omega)]
    · cases i with
      | zero =>
        obtain rfl : m = m' := by simpa using hi
        have hjk : j < k := by have := (List.getElem?_eq_some_iff.1 hj).1; simpa [hk0] using this
        rw [Nat.add_zero, g3 _ (by rw [Nat.succ_mul]; omega), h3, if_pos (by omega)]
        rw [show i0 * k + j - i0 * k = j by omega]
        simpa using hj
      | succ i =>
        have := g4 i m' (by simpa using hi) j u hj
        rwa [show i0 + 1 + i = i0 + (i + 1) by omega] at this

theorem partsOk_spec {e : Nat → V} : ∀ {ps : List (Nat × Operand)} {i0 : Nat} {xs : List O}, partsOk i0 ps = some xs → EnvR φ St w e act.tmps →
    ps.map (fun p => (p.1, act.eval p.2)) = ((ps.map fun p => act.eval p.2).zipIdx i0 |>.map fun x => (x.2, x.1)) ∧ RepL φ St w (xs.map (val e)) (ps.map fun p => act.eval p.2)
  | [], i0, xs, h, _ => by simp [partsOk] at h; subst h; simp [RepL]
  | (j, x) :: ps, i0, xs, h, env => by
    simp only [partsOk] at h
    split at h
    · rename_i hj
      subst hj
      split at h
      · rename_i y ys hy hys
        obtain rfl := Option.some.inj h
        obtain ⟨h1, h2⟩ := partsOk_spec hys env
        refine ⟨by simp only [List.map_cons, List.zipIdx_cons, h1], ?_⟩
        simp only [List.map_cons, RepL]
        exact ⟨_, _, rfl, rep_toO env hy, h2⟩
      · cases h
    · cases h

/-- A new slice: a block of the frame's own in a new row. -/
theorem new_slice {q' : Option Nat} {es : List V} {ms : List Value} {ty : TypeId} {cs : Array Value} {n c : Nat} (q : WR φ St Mine w s.H s.nx)
    (hf : ∀ e ∈ es, e.fits q' = true) (hr : RepL φ St w es ms) (hcs : c * ksz q' ≤ cs.size) (hn : n ≤ c) (hes : es.length ≤ c)
    (hc : ∀ (i : Nat) m, ms[i]? = some m → ∀ (j : Nat) u, m.cells.toList[j]? = some u → cs[i * ksz q' + j]? = some u) {c0 : Nat} (hc0 : c0 ≤ c) :
    OpTo φ St Mine w s (.hs s.nx 0 n c0) (s.new (ksz q') es) (.ok (.value (.slice (some ⟨w.heap.size, 0, none⟩) n c)) (Push w (.cells cs ty))) := by
  refine ⟨_, _, upd φ s.nx (some (w.heap.size, 0, ksz q')), .inl rfl, ?_, ?_, rfl, ext_upd _, by simp [S.new], Stp.push q.stB _⟩
  · simp only [Rep]
    exact ⟨_, c, rfl, hn, hc0, .inr ⟨w.heap.size, 0, ksz q', upd_same _ _ _, by simp, ⟨cs, ty, (0, 0), push_new, by simpa using hcs⟩⟩⟩
  · exact q.row hf hr (by
      have : ms.length * ksz q' ≤ c * ksz q' := Nat.mul_le_mul_right _ (by rw [← hr.len]; exact hes)
      omega) hc

theorem op_bs {t : TypeId} {n : Nat} {ps : Array (Nat × Operand)} (ho : o.op = .buildSlice t n ps) {q' : Option Nat} (ht : sliceShp P t = some q') {xs : List O} (hx : partsOk 0 ps.toList = some xs) (hn : xs.length = n) (hn' : n * ksz q' ≤ 2 ^ 24) {z : V} (hz : sliceZero P t = some z)
    (q : WR φ St Mine w s.H s.nx) (env : EnvR φ St w s.e act.tmps)
    {ca : V → List V → S → Option (V × S)} (h : opA ca s (.bs q' xs) = some (v, s')) : OpTo φ St Mine w s v s' ((execOp act.eval o).run P w) := by
  obtain ⟨e, h1, h2⟩ := sliceShp_spec ht
  obtain ⟨p1, p2⟩ := partsOk_spec hx env
  obtain ⟨i, d, g1, g2, g3, g4, _⟩ := shp_spec h2
  simp only [opA] at h
  split at h
  case isFalse => cases h
  rename_i hf
  have hf' : ∀ x ∈ xs.map (val s.e), x.fits q' = true := by simpa only [List.all_eq_true] using hf
  obtain ⟨rfl, rfl⟩ := Prod.mk.inj (Option.some.inj h)
  have hlen : (ps.toList.map fun p => act.eval p.2).length = n := by rw [← p2.len]; simpa using hn
  have hmk : ∀ m ∈ ps.toList.map (fun p => act.eval p.2), m.cells.size = ksz q' := by
    intro m hm
    obtain ⟨i, hi⟩ := List.mem_iff_getElem?.1 hm
    have hlt : i < (xs.map (val s.e)).length := by rw [p2.len]; exact (List.getElem?_eq_some_iff.1 hi).1
    obtain ⟨m', hm', hrm⟩ := p2.get (i := i) (v := (xs.map (val s.e))[i]) (List.getElem?_eq_getElem hlt)
    rw [hi] at hm'; obtain rfl := Option.some.inj hm'
    exact (rep_cells (hf' _ (List.getElem_mem _)) hrm).2.1
  have hpm : (ps.map fun x => (x.1, act.eval x.2)).toList = ((ps.toList.map fun p => act.eval p.2).zipIdx 0 |>.map fun x => (x.2, x.1)) := by
    rw [← p1]; simp
  obtain ⟨zz, hzr, _⟩ := zeroV_spec (P := P) (t := e) (z := z) (by unfold sliceZero at hz; rwa [h1] at hz)
  have run : ∃ cs : Array Value, (Instr.buildSlice t n (ps.map fun x => (x.1, act.eval x.2))).run P w = .ok (.slice (some ⟨w.heap.size, 0, none⟩) n n) (Push w (.cells cs e)) ∧ cs.size = n * ksz q' ∧
      ∀ (i : Nat) m, (ps.toList.map fun p => act.eval p.2)[i]? = some m → ∀ (j : Nat) u, m.cells.toList[j]? = some u → cs[i * ksz q' + j]? = some u := by
    have hf0 : ∀ z0 : Array Value, ∃ cs, Instr.fill (fun i => some (i * ksz q', ksz q')) ((Array.range (n * ksz q')).map (z0[· % z0.size]!)) (ps.map fun x => (x.1, act.eval x.2)).toList = some cs ∧ cs.size = n * ksz q' ∧
        ∀ (i : Nat) m, (ps.toList.map fun p => act.eval p.2)[i]? = some m → ∀ (j : Nat) u, m.cells.toList[j]? = some u → cs[i * ksz q' + j]? = some u := by
      intro z0
      obtain ⟨cs, c1, c2, _, c4⟩ := fill_row (k := ksz q') (place := fun i => some (i * ksz q', ksz q')) (fun _ => rfl) (ps.toList.map fun p => act.eval p.2) 0 ((Array.range (n * ksz q')).map (z0[· % z0.size]!)) hmk (by simp only [Nat.zero_add, hlen]; simp)
      exact ⟨cs, by rw [hpm]; exact c1, by rw [c2]; simp, by simpa using c4⟩
    unfold Instr.buildSlice
    simp only [run_bind, run_underlying h1, run_sizeOf h2, if_neg (show ¬ n * ksz q' > 2 ^ 24 by omega)]
    by_cases h0 : n * ksz q' = 0
    · obtain ⟨cs, c1, c2, c3⟩ := hf0 #[]
      refine ⟨cs, ?_, c2, c3⟩
      rw [if_pos h0]
      simp only [run_pure, c1, run_bind, run_newRow]
    · obtain ⟨cs, c1, c2, c3⟩ := hf0 zz.cells
      refine ⟨cs, ?_, c2, c3⟩
      rw [if_neg h0]
      simp only [run_bind, hzr, run_pure, c1, run_newRow]
  obtain ⟨cs, r1, r2, r3⟩ := run
  have : (execOp act.eval o).run P w = .ok (.value (.slice (some ⟨w.heap.size, 0, none⟩) n n)) (Push w (.cells cs e)) := by
    unfold execOp
    rw [ho]
    exact run_v r1
  rw [this, hn]
  exact new_slice q hf' p2 (by omega) (Nat.le_refl _) (by simp [hn]) r3 (Nat.le_refl _)

theorem op_ms {t : TypeId} {l c : Operand} (ho : o.op = .makeSlice t l c) {q' : Option Nat} (ht : sliceShp P t = some q') {z : V} (hz : sliceZero P t = some z) {l' c' : O} (hl : toO l = some l') (hc : toO c = some c')
    (q : WR φ St Mine w s.H s.nx) (env : EnvR φ St w s.e act.tmps)
    {ca : V → List V → S → Option (V × S)} (h : opA ca s (.ms z q' l' c') = some (v, s')) : OpTo φ St Mine w s v s' ((execOp act.eval o).run P w) := by
  obtain ⟨e, h1, h2⟩ := sliceShp_spec ht
  obtain ⟨i, d, g1, g2, g3, g4, _⟩ := shp_spec h2
  obtain ⟨zz, hzr, hzrep⟩ := zeroV_spec (P := P) (t := e) (z := z) (by unfold sliceZero at hz; rwa [h1] at hz)
  have rl := rep_toO env hl
  have rc := rep_toO env hc
  simp only [opA] at h
  split at h
  case h_2 => cases h
  rename_i k1 a k2 b ea eb
  rw [ea] at rl; rw [eb] at rc
  simp only [Rep] at rl rc
  split at h
  case isFalse => cases h
  rename_i hcond
  obtain ⟨c1, c2, c3, hf⟩ := hcond
  obtain ⟨rfl, rfl⟩ := Prod.mk.inj (Option.some.inj h)
  have hlim : b ≤ 2 ^ 36 := by unfold LIM at c3; omega
  have wa : IntKind.i64.wrap a = a := IntWalk.i64_in _ (by omega)
  have wb : IntKind.i64.wrap b = b := IntWalk.i64_in _ (by omega)
  obtain ⟨z1, z2, z3⟩ := rep_cells hf (hzrep φ St w)
  have hbytes : ¬ ((i.bytes : Int) * b > 2 ^ 48) := by
    have : (i.bytes : Int) * b ≤ 1024 * 2 ^ 36 := Int.mul_le_mul (by omega) hlim (by omega) (by omega)
    omega
  have run : (Instr.makeSlice t (.int k1 a) (.int k2 b)).run P w = .ok (.slice (some ⟨w.heap.size, 0, none⟩) a.toNat b.toNat)
      (Push w (.cells ((Array.range (b.toNat * ksz q')).map ((if b.toNat * ksz q' = 0 then #[] else zz.cells)[· % (if b.toNat * ksz q' = 0 then #[] else zz.cells).size]!)) e)) := by
    unfold Instr.makeSlice
    simp only [run_bind, run_underlying h1, asInt, asIntOf, run_pure, run_typeInfo g1, wa, wb]
    rw [if_neg (by simp only [Bool.or_eq_true, decide_eq_true_eq, not_or]; omega)]
    simp only [run_bind, run_pure]
    have hask : (askRoom (b.toNat * i.bytes)).run P w = .ok () w := by
      unfold askRoom
      split <;> rfl
    rw [hask]
    simp only [run_sizeOf h2]
    by_cases h0 : b.toNat * ksz q' = 0
    · simp only [if_pos h0, pure_bind, run_bind, run_pure, run_newRow]
    · simp only [if_neg h0, run_bind, hzr, run_pure, run_newRow]
  have : (execOp act.eval o).run P w = .ok (.value (.slice (some ⟨w.heap.size, 0, none⟩) a.toNat b.toNat)) (Push w (.cells ((Array.range (b.toNat * ksz q')).map ((if b.toNat * ksz q' = 0 then #[] else zz.cells)[· % (if b.toNat * ksz q' = 0 then #[] else zz.cells).size]!)) e)) := by
    unfold execOp
    rw [ho]
    refine run_v ?_
    rw [rl, rc]
    exact run
  rw [this]
  refine new_slice (ms := List.replicate b.toNat zz) q (fun x hx => by rw [List.eq_of_mem_replicate hx]; exact hf) ?_ (by simp) (by omega) (by simp) ?_ (Nat.le_refl _)
  · rw [RepL_iff]
    refine ⟨by simp, fun i v hv => ?_⟩
    rw [List.getElem?_replicate] at hv
    split at hv
    · rename_i hi
      obtain rfl := Option.some.inj hv
      exact ⟨zz, by rw [List.getElem?_replicate, if_pos hi], hzrep φ St w⟩
    · cases hv
  · intro i m hm j u hu
    rw [List.getElem?_replicate] at hm
    split at hm
    case isFalse => cases hm
    rename_i hi
    obtain rfl := Option.some.inj hm
    have hj : j < ksz q' := by have := (List.getElem?_eq_some_iff.1 hu).1; simpa [z2] using this
    have hlt : i * ksz q' + j < b.toNat * ksz q' := mul_lt_place hi hj
    have h0 : ¬ b.toNat * ksz q' = 0 := by omega
    simp only [if_neg h0, z2]
    rw [Array.getElem?_map, Array.getElem?_range, if_pos hlt]
    simp only [Option.map_some, Option.some.injEq]
    rw [Nat.add_comm, Nat.add_mul_mod_self_right, Nat.mod_eq_of_lt hj]
    have hu' : zz.cells[j]? = some u := by simpa using hu
    rw [getElem!_def, hu']

/-! ### A struct built -/

theorem run_mapM_list {α β : Type} {f : α → Sem β} {g : α → β} {w : World} : ∀ (l : List α), (∀ x ∈ l, (f x).run P w = .ok (g x) w) → (l.mapM f).run P w = .ok (l.map g) w
  | [], _ => rfl
  | x :: l, h => by
    simp only [List.mapM_cons, run_bind, h x (by simp), run_mapM_list l (fun y hy => h y (by simp [hy])), run_pure, List.map_cons]

theorem run_mapM_array {α β : Type} {f : α → Sem β} {g : α → β} {w : World} (l : Array α) (h : ∀ x ∈ l, (f x).run P w = .ok (g x) w) : (l.mapM f).run P w = .ok (l.map g) w := by
  rw [Array.mapM_eq_mapM_toList, run_bind_map, run_mapM_list l.toList (fun x hx => h x (by simpa using hx))]
  simp [map_toList l g]
where
  run_bind_map {α β : Type} {x : Sem α} {f : α → β} {w : World} : (f <$> x).run P w = match x.run P w with | .ok a w' => .ok (f a) w' | .halt h w' => .halt h w' := by
    rw [← bind_pure_comp, run_bind]; rfl

theorem RepL.set {φ : Phi} {St : Nat → Prop} {w : World} {vs : List V} {ms : List Value} (h : RepL φ St w vs ms) {j : Nat} {v : V} {m : Value} (hv : Rep φ St w v m) : RepL φ St w (vs.set j v) (ms.set j m) := by
  rw [RepL_iff] at h ⊢
  obtain ⟨h1, h2⟩ := h
  refine ⟨by simpa using h1, fun i u hu => ?_⟩
  rw [List.getElem?_set] at hu ⊢
  split at hu
  · rename_i hj
    subst hj
    split at hu
    · rename_i hlt
      obtain rfl := Option.some.inj hu
      exact ⟨m, by rw [if_pos rfl, if_pos (by omega)], hv⟩
    · cases hu
  · rename_i hj
    rw [if_neg hj]
    exact h2 i u hu

theorem fill_flds {k : Nat} {place : Nat → Option (Nat × Nat)} (hp : ∀ j, j < k → place j = some (j, 1)) {φ : Phi} {St : Nat → Prop} {w : World} : ∀ (ps : List (Nat × V)) (ms : List (Nat × Value)) (cs : Array Value) (vs : List V),
    ps.length = ms.length → (∀ (i : Nat) p m, ps[i]? = some p → ms[i]? = some m → p.1 = m.1 ∧ p.1 < k ∧ p.2.okc = true ∧ Rep φ St w p.2 m.2) → cs.size = k → RepL φ St w vs cs.toList →
    ∃ cs', Instr.fill place cs ms = some cs' ∧ RepL φ St w (ps.foldl (fun cs p => cs.set p.1 p.2) vs) cs'.toList
  | [], ms, cs, vs, hl, _, _, hr => by
    obtain rfl := List.eq_nil_of_length_eq_zero hl.symm
    exact ⟨cs, rfl, hr⟩
  | p :: ps, [], _, _, hl, _, _, _ => by simp at hl
  | (j, v) :: ps, (j', m) :: ms, cs, vs, hl, h, hc, hr => by
    obtain ⟨e, hj, hok, hrep⟩ := h 0 _ _ rfl rfl
    simp only at e hj hok hrep
    subst e
    have hm := rep_okm hok hrep
    have hmc : m.cells = #[m] := by cases m <;> simp [okm] at hm <;> rfl
    obtain ⟨cs', h1, h2⟩ := fill_flds hp ps ms (cs.setIfInBounds j m) (vs.set j v) (by simpa using hl) (fun i p m hp hm => h (i + 1) p m (by simpa using hp) (by simpa using hm)) (by simpa using hc) (by simpa using hr.set hrep)
    refine ⟨cs', ?_, h2⟩
    rw [Instr.fill]
    simp only [hp j hj, hmc]
    rw [if_neg (by simp; omega)]
    simpa using h1

theorem op_bd {t : TypeId} {ps : Array (Nat × Operand)} (ho : o.op = .build t ps) {n : Nat} (ht : shp P t = some (some n)) {z : List V} (hz : zeroV P t = some (.st z)) {xs : List (Nat × O)}
    (hx : ps.toList.mapM (fun p => (toO p.2).map fun x => (p.1, x)) = some xs) (hlt : xs.all (fun p => p.1 < n) = true) (hzl : z.length = n)
    (q : WR φ St Mine w s.H s.nx) (env : EnvR φ St w s.e act.tmps)
    {ca : V → List V → S → Option (V × S)} (h : opA ca s (.bd z xs) = some (v, s')) : OpTo φ St Mine w s v s' ((execOp act.eval o).run P w) := by
  obtain ⟨i, d, h1, h2, h3, _, _, h6, _⟩ := shp_spec ht
  obtain ⟨fs, rfl, h7, h8⟩ := h6 n rfl
  obtain ⟨zz, hzr, hzrep⟩ := zeroV_spec hz
  have hzz := hzrep φ St w
  simp only [Rep] at hzz
  obtain ⟨zs, rfl, hzs⟩ := hzz
  simp only [opA] at h
  split at h
  case isFalse => cases h
  rename_i hall
  obtain ⟨rfl, rfl⟩ := Prod.mk.inj (Option.some.inj h)
  have hspec : ∀ {l : List (Nat × Operand)} {xs : List (Nat × O)}, l.mapM (fun p => (toO p.2).map fun x => (p.1, x)) = some xs → xs.length = l.length ∧
      ∀ (i : Nat) x p, xs[i]? = some x → l[i]? = some p → x.1 = p.1 ∧ Rep φ St w (val s.e x.2) (act.eval p.2) := by
    intro l
    induction l with
    | nil => intro xs h; simp at h; subst h; simp
    | cons p l ih =>
      intro xs h
      simp only [List.mapM_cons, Option.bind_eq_bind, Option.pure_def] at h
      obtain ⟨y, hy, h⟩ := Option.bind_eq_some_iff.1 h
      obtain ⟨ys, hys, h⟩ := Option.bind_eq_some_iff.1 h
      obtain rfl := Option.some.inj h
      obtain ⟨y0, hy0, rfl⟩ := Option.map_eq_some_iff.1 hy
      obtain ⟨g1, g2⟩ := ih hys
      refine ⟨by simp [g1], fun i x p' hx hp => ?_⟩
      cases i with
      | zero =>
        simp only [List.getElem?_cons_zero, Option.some.injEq] at hx hp
        subst hx; subst hp
        exact ⟨rfl, rep_toO env hy0⟩
      | succ i => exact g2 i x p' (by simpa using hx) (by simpa using hp)
  obtain ⟨s1, s2⟩ := hspec hx
  have hzlen : zs.length = n := by rw [← hzs.len]; exact hzl
  have hplaces : (fs.mapM fun f => (do pure (f.offset, ← sizeOf f.type) : Sem (Nat × Nat))).run P w = .ok (fs.map fun f => (f.offset, 1)) w := by
    refine run_mapM_array fs fun f hf => ?_
    obtain ⟨j, hj⟩ := List.mem_iff_getElem?.1 (Array.mem_toList_iff.2 hf)
    obtain ⟨_, ⟨i', g1, g2⟩, _⟩ := fldsOk_get h8 hj
    rw [run_bind, run_sizeOf_info g1, g2]
    rfl
  have hp : ∀ j, j < n → (fs.map fun f => (f.offset, 1))[j]? = some (j, 1) := by
    intro j hj
    obtain ⟨g0, _⟩ := fldsOk_get h8 (j := j) (f := fs[j]) (by simp)
    rw [Array.getElem?_map, Array.getElem?_eq_getElem (by omega)]
    simp [g0]
  obtain ⟨cs', f1, f2⟩ := fill_flds (k := n) (place := fun j => (fs.map fun f => (f.offset, 1))[j]?) hp (φ := φ) (St := St) (w := w) (xs.map fun x => (x.1, val s.e x.2)) (ps.toList.map fun p => (p.1, act.eval p.2)) zs.toArray z
    (by simpa using s1) (fun i x m hx hm => by
      simp only [List.getElem?_map, Option.map_eq_some_iff] at hx hm
      obtain ⟨x, hx, rfl⟩ := hx
      obtain ⟨p, hp, rfl⟩ := hm
      obtain ⟨r1, r2⟩ := s2 i x p hx hp
      refine ⟨r1, ?_, ?_, r2⟩
      · simp only [List.all_eq_true, decide_eq_true_eq] at hlt
        exact hlt x (List.mem_of_getElem? hx)
      · simp only [List.all_eq_true, List.mem_map] at hall
        exact hall _ ⟨x, List.mem_of_getElem? hx, rfl⟩) (by simpa using hzlen) (by simpa using hzs)
  have : (execOp act.eval o).run P w = .ok (.value (.agg cs')) w := by
    unfold execOp
    rw [ho]
    refine run_v ?_
    unfold Instr.build
    rw [run_bind, hzr]
    simp only [Value.cells]
    rw [run_bind, run_underlying h2]
    simp only
    rw [run_bind, hplaces]
    simp only [show (ps.map fun x => (x.1, act.eval x.2)).toList = ps.toList.map fun p => (p.1, act.eval p.2) by simp]
    rw [f1]
    rfl
  rw [this]
  refine OpTo.pure q ?_
  simp only [Rep]
  refine ⟨cs'.toList, by simp, ?_⟩
  rw [List.foldl_map] at f2
  exact f2

end Go.Am
