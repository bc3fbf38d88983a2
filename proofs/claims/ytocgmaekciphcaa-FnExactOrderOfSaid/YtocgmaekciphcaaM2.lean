/-
  A machine of trees and its soundness over the model, part 2.
-/
import Derived.Test.YtocgmaekciphcaaM1
import Derived.IntWalk
import Derived.Laws.BytesString
import Derived.Laws.AppendOwn
set_option linter.all false
/- The A-machine, part 8: the other operations that neither call nor append. -/
namespace Go.Am
variable {P : Program} {φ : Phi} {St Mine : Nat → Prop} {w : World} {s : S} {act : Act} {o : Oper} {v : V} {s' : S}

theorem run_binOp {op : BinOp} {t : TypeId} {x y z : Value} (h : abin op x y = some z) : (binOp op t x y).run P w = .ok z w := by
  unfold abin at h
  split at h
  · rename_i k a k' b
    split at h
    · split at h
      · cases h
      · rename_i hb; obtain rfl := Option.some.inj h
        simp only [binOp, Op.shift, if_neg hb]; rfl
    · split at h
      · cases h
      · rename_i hb; obtain rfl := Option.some.inj h
        simp only [binOp, Op.shift, if_neg hb]; rfl
    · split at h
      · rename_i n1 n2 hk
        subst hk
        unfold aint at h
        cases op <;> simp only [reduceCtorEq] at h n1 n2 <;> simp only [binOp, Op.intArith, Op.intDiv, Op.intBits, Op.intCmp, ne_eq, not_true, if_false] <;> first
          | (obtain rfl := Option.some.inj h; rfl)
          | (split at h
             · cases h
             · rename_i hb; obtain rfl := Option.some.inj h; rw [if_neg hb]; rfl)
          | exact absurd rfl (n1 rfl)
          | exact absurd rfl (n2 rfl)
      · cases h
  · rename_i a b
    split at h
    · split at h
      · cases h
      · rename_i hb; obtain rfl := Option.some.inj h
        simp only [binOp, Op.stringOp, if_neg hb]; rfl
    · obtain rfl := Option.some.inj h; simp only [binOp, Op.stringOp]; rfl
    · obtain rfl := Option.some.inj h; simp only [binOp, Op.stringOp]; rfl
    · cases h
  · cases h

theorem abin_guard {op : BinOp} {t : TypeId} {X Y : Operand} {x y z : Value} (h : abin op x y = some z) : eqGuard op t X Y x y = pure () := by
  unfold abin at h
  split at h
  · exact eqGuard_at_int ..
  · exact eqGuard_at_string ..
  · cases h

theorem op_bi {op : BinOp} {t t' : TypeId} {x y : Operand} (ho : o.op = .binOp op t x y t') {x' y' : O} (hx : toO x = some x') (hy : toO y = some y') (q : WR φ St Mine w s.H s.nx) (env : EnvR φ St w s.e act.tmps)
    {ca : V → List V → S → Option (V × S)} (h : opA ca s (.bi op x' y') = some (v, s')) : OpTo φ St Mine w s v s' ((execOp act.eval o).run P w) := by
  have rx := rep_toO env hx
  have ry := rep_toO env hy
  simp only [opA] at h
  split at h
  · rename_i a b ha hb
    rw [ha] at rx; rw [hb] at ry
    simp only [Rep] at rx ry
    simp only [Option.map_eq_some_iff] at h
    obtain ⟨z, hz, h⟩ := h
    obtain ⟨rfl, rfl⟩ := Prod.mk.inj h
    have : (execOp act.eval o).run P w = .ok (.value z) w := by
      unfold execOp
      rw [ho]
      refine run_v ?_
      rw [rx, ry, run_bind, abin_guard hz, run_pure]
      exact run_binOp hz
    rw [this]
    exact OpTo.pure q (by simp [Rep])
  · cases h

theorem op_be {op : BinOp} {neg : Bool} {t t' : TypeId} {x y : Operand} (ho : o.op = .binOp op t x y t') (hop : op = if neg then .neq else .eql) (ht : P.underlying t = some .bool) {x' y' : O} (hx : toO x = some x') (hy : toO y = some y') (q : WR φ St Mine w s.H s.nx) (env : EnvR φ St w s.e act.tmps)
    {ca : V → List V → S → Option (V × S)} (h : opA ca s (.be neg x' y') = some (v, s')) : OpTo φ St Mine w s v s' ((execOp act.eval o).run P w) := by
  have rx := rep_toO env hx
  have ry := rep_toO env hy
  simp only [opA] at h
  split at h
  · rename_i a b ha hb
    rw [ha] at rx; rw [hb] at ry
    simp only [Rep] at rx ry
    obtain ⟨rfl, rfl⟩ := Prod.mk.inj (Option.some.inj h)
    have he : (Op.equal t (.bool a) (.bool b)).run P w = .ok (a == b) w := by
      unfold Op.equal Op.maxDepth Op.equalIn
      rw [run_bind, run_underlying ht]
      rfl
    have : (execOp act.eval o).run P w = .ok (.value (.bool (if neg then !(a == b) else a == b))) w := by
      unfold execOp
      rw [ho]
      refine run_v ?_
      rw [rx, ry, run_bind, eqGuard_at_bool, run_pure, hop]
      cases neg <;> simp only [binOp, Bool.false_eq_true, if_false, if_true] <;> rw [run_bind, he] <;> rfl
    rw [this]
    exact OpTo.pure q (by simp [Rep])
  · cases h

theorem op_un {op : UnOp} {t : TypeId} {x : Operand} (ho : o.op = .unOp op t x) {x' : O} (hx : toO x = some x') (q : WR φ St Mine w s.H s.nx) (env : EnvR φ St w s.e act.tmps)
    {ca : V → List V → S → Option (V × S)} (h : opA ca s (.un op x') = some (v, s')) : OpTo φ St Mine w s v s' ((execOp act.eval o).run P w) := by
  have rx := rep_toO env hx
  simp only [opA] at h
  split at h
  · rename_i a ha
    rw [ha] at rx
    simp only [Rep] at rx
    simp only [Option.map_eq_some_iff] at h
    obtain ⟨z, hz, h⟩ := h
    obtain ⟨rfl, rfl⟩ := Prod.mk.inj h
    have : (execOp act.eval o).run P w = .ok (.value z) w := by
      unfold execOp
      rw [ho]
      refine run_v ?_
      rw [rx]
      unfold aun at hz
      split at hz
      · obtain rfl := Option.some.inj hz; rfl
      · obtain rfl := Option.some.inj hz; rfl
      · cases hz
    rw [this]
    exact OpTo.pure q (by simp [Rep])
  · cases h

theorem op_cv {src dst : TypeId} {x : Operand} {k0 k : IntKind} (ho : o.op = .convert src dst x) (hs : P.underlying src = some (.int k0)) (hd : P.underlying dst = some (.int k)) {x' : O} (hx : toO x = some x') (q : WR φ St Mine w s.H s.nx) (env : EnvR φ St w s.e act.tmps)
    {ca : V → List V → S → Option (V × S)} (h : opA ca s (.cv k x') = some (v, s')) : OpTo φ St Mine w s v s' ((execOp act.eval o).run P w) := by
  have rx := rep_toO env hx
  simp only [opA] at h
  split at h
  · rename_i k1 n ha
    rw [ha] at rx
    simp only [Rep] at rx
    obtain ⟨rfl, rfl⟩ := Prod.mk.inj (Option.some.inj h)
    have : (execOp act.eval o).run P w = .ok (.value (.int k (k.wrap n))) w := by
      unfold execOp
      rw [ho]
      refine run_v ?_
      rw [rx]
      unfold convert
      rw [run_bind, run_underlying hs]
      simp only
      rw [run_bind, run_underlying hd]
      rfl
    rw [this]
    exact OpTo.pure q (by simp [Rep])
  · cases h

theorem fldsOk_get {P : Program} : ∀ {l : List Field} {i0 j : Nat} {f : Field}, fldsOk P i0 l = true → l[j]? = some f → f.offset = i0 + j ∧ (∃ i, P.info? f.type = some i ∧ i.size = 1) ∧ ∃ d, P.underlying f.type = some d ∧ leafDesc d = true
  | [], _, _, _, _, h => by simp at h
  | g :: l, i0, j, f, hf, hj => by
    simp only [fldsOk, Bool.and_eq_true, beq_iff_eq] at hf
    obtain ⟨⟨⟨h1, h2⟩, h2'⟩, h3⟩ := hf
    cases j with
    | zero =>
      simp only [List.getElem?_cons_zero, Option.some.injEq] at hj
      subst hj
      refine ⟨by omega, ?_, ?_⟩
      · split at h2
        · rename_i i hi; exact ⟨i, hi, by simpa using h2⟩
        · cases h2
      · split at h2'
        · rename_i d hd; exact ⟨d, hd, h2'⟩
        · cases h2'
    | succ j =>
      obtain ⟨h4, h5⟩ := fldsOk_get (j := j) h3 (by simpa using hj)
      exact ⟨by omega, h5⟩

theorem RepL.cell {φ : Phi} {St : Nat → Prop} {w : World} {cs : List V} {ms : List Value} (h : RepL φ St w cs ms) {j : Nat} {c : V} (hj : cs[j]? = some c) : ∃ m, ms.toArray[j]? = some m ∧ Rep φ St w c m := by
  obtain ⟨m, hm, hr⟩ := h.get hj
  exact ⟨m, by simpa using hm, hr⟩

theorem run_isAgg_leaf {t : TypeId} {d : TypeDesc} (h : P.underlying t = some d) (hl : leafDesc d = true) (w : World) : (isAgg t).run P w = .ok false w := by
  unfold isAgg
  rw [run_bind, run_underlying h]
  cases d <;> simp [leafDesc] at hl <;> rfl

/-- A field of a struct's value, if it is of one cell. -/
theorem op_fd {t : TypeId} {x : Operand} {n j : Nat} (ho : o.op = .field t x j) (ht : shp P t = some (some n)) (hn : j < n) {x' : O} (hx : toO x = some x') (q : WR φ St Mine w s.H s.nx) (env : EnvR φ St w s.e act.tmps)
    {ca : V → List V → S → Option (V × S)} (h : opA ca s (.fd j x') = some (v, s')) : OpTo φ St Mine w s v s' ((execOp act.eval o).run P w) := by
  have rx := rep_toO env hx
  simp only [opA] at h
  split at h
  · rename_i cs ha
    rw [ha] at rx
    simp only [Rep] at rx
    obtain ⟨ms, e, hr⟩ := rx
    simp only [Option.map_eq_some_iff] at h
    obtain ⟨c, hc, h⟩ := h
    obtain ⟨rfl, rfl⟩ := Prod.mk.inj h
    obtain ⟨i, d, h1, h2, h3, _, _, h6, _⟩ := shp_spec ht
    obtain ⟨fs, rfl, h7, h8⟩ := h6 n rfl
    have hj : fs[j]? = some fs[j] := by simp
    obtain ⟨h9, _, d', h10, h11⟩ := fldsOk_get h8 (j := j) (f := fs[j]) (by simp)
    obtain ⟨m, hm, hrm⟩ := hr.cell hc
    have : (execOp act.eval o).run P w = .ok (.value m) w := by
      unfold execOp
      rw [ho]
      refine run_v ?_
      rw [e]
      unfold Instr.field
      rw [run_bind, run_underlying h2]
      simp only [hj]
      simp only [asAgg, pure_bind]
      unfold part
      rw [run_bind, run_isAgg_leaf h10 h11]
      simp only [Bool.false_eq_true, if_false, h9, Nat.zero_add, hm]
      rfl
    rw [this]
    exact OpTo.pure q hrm
  · cases h

theorem run_sizeOf_info {t : TypeId} {i : TypeInfo} (h : P.info? t = some i) (w : World) : (sizeOf t).run P w = .ok i.size w := by
  unfold sizeOf
  rw [run_bind, run_typeInfo h]
  rfl

theorem op_fa {t : TypeId} {x : Operand} {n j : Nat} (ho : o.op = .fieldAddr t x j) (ht : shp P t = some (some n)) (hn : j < n) {x' : O} (hx : toO x = some x') (q : WR φ St Mine w s.H s.nx) (env : EnvR φ St w s.e act.tmps)
    {ca : V → List V → S → Option (V × S)} (h : opA ca s (.fa j x') = some (v, s')) : OpTo φ St Mine w s v s' ((execOp act.eval o).run P w) := by
  have rx := rep_toO env hx
  obtain ⟨i, d, h1, h2, h3, _, _, h6, _⟩ := shp_spec ht
  obtain ⟨fs, rfl, h7, h8⟩ := h6 n rfl
  have hj : fs[j]? = some fs[j] := by simp
  obtain ⟨h9, ⟨i', h10, h11⟩, _⟩ := fldsOk_get h8 (j := j) (f := fs[j]) (by simp)
  have key : ∀ β off, act.eval x = .pointer (some ⟨β, off, none⟩) → (execOp act.eval o).run P w = .ok (.value (.pointer (some ⟨β, off + j, none⟩))) w := by
    intro β off e
    unfold execOp
    rw [ho]
    refine run_v ?_
    rw [e]
    unfold Instr.fieldAt
    rw [run_bind, run_underlying h2]
    simp only [hj, Instr.sureAddr, pure_bind]
    unfold fieldPlace
    rw [run_bind, run_bind, run_sizeOf_info h10]
    simp only [h11, h9, Nat.zero_add, addr_add]
    rfl
  simp only [opA] at h
  split at h
  · rename_i cs ha
    rw [ha] at rx
    simp only [Rep] at rx
    rw [RO_rp] at rx
    obtain ⟨β, off, e, hb, hr⟩ := rx
    obtain ⟨c, hc, h⟩ := Option.bind_eq_some_iff.1 h
    split at h
    · rename_i hok
      obtain ⟨rfl, rfl⟩ := Prod.mk.inj (Option.some.inj h)
      rw [key β off e]
      refine OpTo.pure q ?_
      simp only [Rep]
      rw [RO_rp]
      obtain ⟨u, hu, hru⟩ := ROC_get (show ROC St w β off cs from hr) hc
      rw [okc_cells hok]
      exact ⟨β, off + j, rfl, hb, ⟨u, hu, hru⟩, trivial⟩
    · cases h
  · rename_i b i2 ha
    rw [ha] at rx
    simp only [Rep] at rx
    obtain ⟨β, o', k, hp, e⟩ := rx
    obtain ⟨rfl, rfl⟩ := Prod.mk.inj (Option.some.inj h)
    rw [key _ _ e]
    refine OpTo.pure q ?_
    simp only [Rep]
    exact ⟨β, o', k, hp, rfl⟩
  · cases h

theorem sliceShp_spec {t : TypeId} {q : Option Nat} (h : sliceShp P t = some q) : ∃ e, P.underlying t = some (.slice e) ∧ shp P e = some q := by
  unfold sliceShp at h
  split at h
  · rename_i e he; exact ⟨e, he, h⟩
  · cases h

theorem asI_rep {φ : Phi} {St : Nat → Prop} {w : World} {v : V} {m : Value} {n : Int} (h : asI v = some n) (r : Rep φ St w v m) : ∃ k, m = .int k n := by
  unfold asI at h
  split at h
  · rename_i k n'; obtain rfl := Option.some.inj h
    simp only [Rep] at r
    exact ⟨k, r⟩
  · cases h

theorem op_ia {t : TypeId} {x i : Operand} {q' : Option Nat} (ho : o.op = .indexAddr t x i) (ht : sliceShp P t = some q') {x' i' : O} (hx : toO x = some x') (hi : toO i = some i') (q : WR φ St Mine w s.H s.nx) (env : EnvR φ St w s.e act.tmps)
    {ca : V → List V → S → Option (V × S)} (h : opA ca s (.ia q' x' i') = some (v, s')) : OpTo φ St Mine w s v s' ((execOp act.eval o).run P w) := by
  have rx := rep_toO env hx
  have ri := rep_toO env hi
  obtain ⟨e, h1, h2⟩ := sliceShp_spec ht
  have key : ∀ (β off n c : Nat) (k : IntKind) (z : Int), act.eval x = .slice (some ⟨β, off, none⟩) n c → act.eval i = .int k z → 0 ≤ z → z < n →
      (execOp act.eval o).run P w = .ok (.value (.pointer (some ⟨β, off + z.toNat * ksz q', none⟩))) w := by
    intro β off n c k z e1 e2 hz hn
    unfold execOp
    rw [ho]
    refine run_v ?_
    rw [e1, e2]
    unfold Instr.indexAt
    simp only [asIntOf, pure_bind]
    simp only [run_bind, run_underlying h1, run_pure, if_pos (show 0 ≤ z ∧ z < (n : Int) from ⟨hz, hn⟩), run_sizeOf h2, addr_add]
  simp only [opA] at h
  split at h
  · rename_i z es hz hv
    rw [hv] at rx
    obtain ⟨k, ez⟩ := asI_rep hz ri
    simp only [Rep, RO] at rx
    obtain ⟨a, c, e1, hc, rx⟩ := rx
    split at h
    · rename_i el hel
      split at hel
      · rename_i hz0
        split at h
        · rename_i hsz
          obtain ⟨rfl, rfl⟩ := Prod.mk.inj (Option.some.inj h)
          have hlt : z.toNat < es.length := (List.getElem?_eq_some_iff.1 hel).1
          rcases rx with rfl | ⟨β, o', k', rfl, hb, hk, hr⟩
          · simp at hlt
          rw [key β o' _ c k z e1 ez hz0 (by omega)]
          refine OpTo.pure q ?_
          simp only [Rep]
          rw [RO_rp]
          have := ROE_get hr hk hel
          have hkk : k' = ksz q' := by rw [← hsz]; exact (hk el (List.mem_of_getElem? hel)).symm
          rw [hkk] at this
          exact ⟨β, _, rfl, hb, this⟩
        · cases h
      · cases hel
    · cases h
  · rename_i z b off n c hz hv
    rw [hv] at rx
    obtain ⟨k, ez⟩ := asI_rep hz ri
    simp only [Rep] at rx
    obtain ⟨a, c', e1, hc1, hc2, rx⟩ := rx
    split at h
    · rename_i B hB
      split at h
      · rename_i hcond
        obtain ⟨g1, g2, g3⟩ := hcond
        obtain ⟨rfl, rfl⟩ := Prod.mk.inj (Option.some.inj h)
        rcases rx with rfl | ⟨β, o', k', hp, rfl, _⟩
        · omega
        rw [key β _ n c' k z e1 ez g1 g2]
        refine OpTo.pure q ?_
        have hk' : k' = ksz q' := by
          rcases q.blk b B hB with ⟨_, g4⟩ | ⟨_, _, g4, _⟩
          · rw [g4] at hp; cases hp
          · rw [g4] at hp; cases hp; exact g3
        simp only [Rep]
        exact ⟨β, o', k', hp, by rw [← hk', Nat.add_mul]; simp [Nat.add_assoc]⟩
      · cases h
    · cases h
  · cases h

theorem op_ix {t : TypeId} {x i : Operand} (ho : o.op = .index t x i) (ht : P.underlying t = some .string) {x' i' : O} (hx : toO x = some x') (hi : toO i = some i') (q : WR φ St Mine w s.H s.nx) (env : EnvR φ St w s.e act.tmps)
    {ca : V → List V → S → Option (V × S)} (h : opA ca s (.ix x' i') = some (v, s')) : OpTo φ St Mine w s v s' ((execOp act.eval o).run P w) := by
  have rx := rep_toO env hx
  have ri := rep_toO env hi
  simp only [opA] at h
  split at h
  · rename_i z str hz hv
    rw [hv] at rx
    obtain ⟨k, ez⟩ := asI_rep hz ri
    simp only [Rep] at rx
    split at h
    · rename_i b hb
      obtain ⟨rfl, rfl⟩ := Prod.mk.inj (Option.some.inj h)
      have : (execOp act.eval o).run P w = .ok (.value (.int .u8 b.toNat)) w := by
        unfold execOp
        rw [ho]
        refine run_v ?_
        rw [rx, ez]
        unfold Instr.index
        simp only [asIntOf, pure_bind]
        rw [run_bind, run_underlying ht]
        simp only [hb]
        rfl
      rw [this]
      exact OpTo.pure q (by simp [Rep])
    · cases h
  · cases h

theorem op_et {x : Operand} {i : Nat} (ho : o.op = .extract x i) {x' : O} (hx : toO x = some x') (q : WR φ St Mine w s.H s.nx) (env : EnvR φ St w s.e act.tmps)
    {ca : V → List V → S → Option (V × S)} (h : opA ca s (.et x' i) = some (v, s')) : OpTo φ St Mine w s v s' ((execOp act.eval o).run P w) := by
  have rx := rep_toO env hx
  simp only [opA] at h
  split at h
  · rename_i vs hv
    rw [hv] at rx
    simp only [Rep] at rx
    obtain ⟨ms, e, hr⟩ := rx
    simp only [Option.map_eq_some_iff] at h
    obtain ⟨c, hc, h⟩ := h
    obtain ⟨rfl, rfl⟩ := Prod.mk.inj h
    obtain ⟨m, hm, hrm⟩ := hr.cell hc
    have : (execOp act.eval o).run P w = .ok (.value m) w := by
      unfold execOp
      rw [ho]
      refine run_v ?_
      rw [e]
      unfold Instr.extract
      simp only [hm]
      rfl
    rw [this]
    exact OpTo.pure q hrm
  · cases h

theorem map_toList {α β : Type} (a : Array α) (f : α → β) : a.map f = (a.toList.map f).toArray := by cases a; simp

theorem op_mf {f : Nat} {first caps : Array Operand} (ho : o.op = .makeFunc (.func f) first caps) (hf : first.toList = []) {xs : List O} (hx : toOs caps.toList = some xs) (q : WR φ St Mine w s.H s.nx) (env : EnvR φ St w s.e act.tmps)
    {ca : V → List V → S → Option (V × S)} (h : opA ca s (.mf f xs) = some (v, s')) : OpTo φ St Mine w s v s' ((execOp act.eval o).run P w) := by
  have rx := rep_toOs env hx
  simp only [opA] at h
  split at h
  · obtain ⟨rfl, rfl⟩ := Prod.mk.inj (Option.some.inj h)
    have h0 : first = #[] := by simpa using hf
    have : (execOp act.eval o).run P w = .ok (.value (.func (.func f) #[] (caps.toList.map act.eval).toArray)) w := by
      unfold execOp
      rw [ho]
      refine run_v ?_
      unfold Instr.makeFunc
      subst h0
      rw [run_pure, map_toList caps, show (#[] : Array Operand).map act.eval = #[] by simp]
    rw [this]
    refine OpTo.pure q ?_
    simp only [Rep]
    exact ⟨_, rfl, rx⟩
  · cases h

theorem run_builtin_v {b : Builtin} {ts : Array TypeId} {ty : TypeId} {cs : Array Bool} {args : Array Value} {x : Sem Value} (hb : builtin b ts ty cs args = (do pure (Next.value (← x)))) {m : Value} {w' : World} (h : x.run P w = .ok m w') :
    (builtin b ts ty cs args).run P w = .ok (.value m) w' := by
  rw [hb]; exact run_v h

theorem exec_builtin {cal : Call} {b : Builtin} (ho : o.op = .call cal) (hc : cal.callee = .builtin b) :
    execOp act.eval o = builtin b cal.argTypes o.type (cal.args.map fun | .const _ => true | _ => false) (cal.args.map act.eval) := by
  unfold execOp
  rw [ho]
  simp only [resolve, hc, pure_bind, invoke]
  rfl

theorem arr1 {α : Type} {a : Array α} {x : α} (h : a.toList = [x]) : a = #[x] := by
  cases a; simp at h; simp [h]
theorem arr2 {α : Type} {a : Array α} {x y : α} (h : a.toList = [x, y]) : a = #[x, y] := by
  cases a; simp at h; simp [h]

theorem op_ln {x : Operand} {t e : TypeId} {cal : Call} (ho : o.op = .call cal) (hc : cal.callee = .builtin .len) (ha : cal.args.toList = [x]) (hat : cal.argTypes.toList = [t])
    (ht : P.underlying t = some (.slice e)) {x' : O} (hx : toO x = some x') (q : WR φ St Mine w s.H s.nx) (env : EnvR φ St w s.e act.tmps)
    {ca : V → List V → S → Option (V × S)} (h : opA ca s (.ln x') = some (v, s')) : OpTo φ St Mine w s v s' ((execOp act.eval o).run P w) := by
  have rx := rep_toO env hx
  simp only [opA] at h
  split at h
  case h_2 => cases h
  rename_i n hn
  obtain ⟨rfl, rfl⟩ := Prod.mk.inj (Option.some.inj h)
  have key : ∃ a c, act.eval x = .slice a n c := by
    unfold vlen at hn
    split at hn
    · rename_i es hv; obtain rfl := Option.some.inj hn
      rw [hv] at rx; simp only [Rep, RO] at rx; obtain ⟨a, c, e, _⟩ := rx; exact ⟨a, c, e⟩
    · rename_i b off n' c hv; obtain rfl := Option.some.inj hn
      rw [hv] at rx; simp only [Rep] at rx; obtain ⟨a, c, e, _⟩ := rx; exact ⟨a, c, e⟩
    · rename_i hv; obtain rfl := Option.some.inj hn
      rw [hv] at rx; simp only [Rep] at rx; obtain ⟨a, e⟩ := rx; exact ⟨a, 0, e⟩
    · cases hn
  obtain ⟨a, c, e1⟩ := key
  have : (execOp act.eval o).run P w = .ok (.value (.int .i64 n)) w := by
    rw [exec_builtin ho hc, arr1 ha, arr1 hat]
    refine run_v ?_
    unfold Builtin.len_
    simp only [List.map_toArray, List.map_cons, List.map_nil, List.getElem?_toArray, List.getElem?_cons_zero, e1]
    rw [run_bind, run_underlying ht]
    rfl
  rw [this]
  exact OpTo.pure q (by simp [Rep])

theorem op_ls {x : Operand} {t : TypeId} {cal : Call} (ho : o.op = .call cal) (hc : cal.callee = .builtin .len) (ha : cal.args.toList = [x]) (hat : cal.argTypes.toList = [t])
    (ht : P.underlying t = some .string) {x' : O} (hx : toO x = some x') (q : WR φ St Mine w s.H s.nx) (env : EnvR φ St w s.e act.tmps)
    {ca : V → List V → S → Option (V × S)} (h : opA ca s (.ls x') = some (v, s')) : OpTo φ St Mine w s v s' ((execOp act.eval o).run P w) := by
  have rx := rep_toO env hx
  simp only [opA] at h
  split at h
  · rename_i str hv
    rw [hv] at rx
    simp only [Rep] at rx
    obtain ⟨rfl, rfl⟩ := Prod.mk.inj (Option.some.inj h)
    have : (execOp act.eval o).run P w = .ok (.value (.int .i64 str.size)) w := by
      rw [exec_builtin ho hc, arr1 ha, arr1 hat]
      refine run_v ?_
      unfold Builtin.len_
      simp only [List.map_toArray, List.map_cons, List.map_nil, List.getElem?_toArray, List.getElem?_cons_zero, rx]
      rw [run_bind, run_underlying ht]
      rfl
    rw [this]
    exact OpTo.pure q (by simp [Rep])
  · cases h

theorem op_mm {mx : Bool} {cal : Call} (ho : o.op = .call cal) (hc : cal.callee = .builtin (if mx then .max else .min)) {xs : List O} (hx : toOs cal.args.toList = some xs) (q : WR φ St Mine w s.H s.nx) (env : EnvR φ St w s.e act.tmps)
    {ca : V → List V → S → Option (V × S)} (h : opA ca s (.mm mx xs) = some (v, s')) : OpTo φ St Mine w s v s' ((execOp act.eval o).run P w) := by
  have rx := rep_toOs env hx
  have em : cal.args.map act.eval = (cal.args.toList.map act.eval).toArray := map_toList _ _
  simp only [opA] at h
  generalize cal.args.toList.map act.eval = ms at rx em
  have hrun : ∀ z, (∀ ts ty, (if mx then Builtin.max_ ts ty ms.toArray else Builtin.min_ ts ty ms.toArray).run P w = .ok z w) → (execOp act.eval o).run P w = .ok (.value z) w := by
    intro z hz
    rw [exec_builtin ho hc, em]
    cases mx
    · exact run_v (by simpa using hz _ _)
    · exact run_v (by simpa using hz _ _)
  split at h
  · rename_i a b hv
    rw [hv] at rx
    simp only [RepL, Rep] at rx
    obtain ⟨_, _, rfl, rfl, _, _, rfl, rfl, rfl⟩ := rx
    obtain ⟨rfl, rfl⟩ := Prod.mk.inj (Option.some.inj h)
    rw [hrun (.int .i64 (mmx mx a b)) fun ts ty => by cases mx <;> simp [Builtin.max_, Builtin.min_, Builtin.max2, Builtin.min2, mmx]]
    exact OpTo.pure q (by simp [Rep])
  · rename_i a b c hv
    rw [hv] at rx
    simp only [RepL, Rep] at rx
    obtain ⟨_, _, rfl, rfl, _, _, rfl, rfl, _, _, rfl, rfl, rfl⟩ := rx
    obtain ⟨rfl, rfl⟩ := Prod.mk.inj (Option.some.inj h)
    rw [hrun (.int .i64 (mmx mx (mmx mx a b) c)) fun ts ty => by cases mx <;> simp [Builtin.max_, Builtin.min_, Builtin.max2, Builtin.min2, mmx]]
    exact OpTo.pure q (by simp [Rep])
  · cases h

end Go.Am

/- The A-machine, part 9: slicing, building, making. -/
namespace Go.Am
variable {P : Program} {φ : Phi} {St Mine : Nat → Prop} {w : World} {s : S} {act : Act} {o : Oper} {v : V} {s' : S}

theorem run_sliceBound {k : IntKind} {i : Int} {y : Nat} {c : BoundsCode} (h0 : 0 ≤ i) (h1 : i ≤ y) : (Instr.sliceBound (.int k i) y c).run P w = .ok i.toNat w := by
  unfold Instr.sliceBound
  simp only [asIntOf, pure_bind]
  rw [if_pos ⟨h0, h1⟩, run_pure]

/-- A bound that may be left out. -/
def bnd (d : Nat) (x : Option Value) (n : Nat) : Prop := (x = none ∧ n = d) ∨ ∃ k, x = some (.int k n)

theorem run_sliceBounds {sl : Bool} {len cap l h : Nat} {lo hi : Option Value} (h1 : bnd 0 lo l) (h2 : bnd len hi h) (h3 : l ≤ h) (h4 : h ≤ cap) :
    (Instr.sliceBounds sl len cap lo hi none).run P w = .ok (l, h, cap) w := by
  unfold Instr.sliceBounds
  rcases h2 with ⟨rfl, rfl⟩ | ⟨k, rfl⟩ <;> rcases h1 with ⟨rfl, rfl⟩ | ⟨k', rfl⟩
  · rfl
  · simp only [pure_bind, run_bind, run_pure]
    rw [run_sliceBound (by omega) (by omega)]; simp
  · simp only [pure_bind, run_bind, run_pure]
    rw [run_sliceBound (by omega) (by omega)]; simp
  · simp only [pure_bind, run_bind, run_pure]
    rw [run_sliceBound (by omega) (by omega)]; simp only [Int.toNat_natCast]
    rw [run_sliceBound (by omega) (by omega)]; simp

theorem run_sliceBounds3 {sl : Bool} {len cap : Nat} {lo : Option Value} {k2 k3 : IntKind} (h1 : bnd 0 lo 0) :
    (Instr.sliceBounds sl len cap lo (some (.int k2 0)) (some (.int k3 0))).run P w = .ok (0, 0, 0) w := by
  unfold Instr.sliceBounds
  rcases h1 with ⟨rfl, _⟩ | ⟨k', rfl⟩
  · simp only [pure_bind, run_bind, run_pure]
    rw [run_sliceBound (by omega) (by omega)]; simp only [Int.toNat_zero]
    rw [run_sliceBound (by omega) (by omega)]; simp
  · simp only [run_bind, run_pure]
    rw [run_sliceBound (by omega) (by omega)]; simp only [Int.toNat_zero]
    rw [run_sliceBound (by omega) (by omega)]; simp only [Int.toNat_zero]
    rw [run_sliceBound (by omega) (by omega)]; simp

theorem toOo_bnd {lo : Option Operand} {lo' : Option O} (env : EnvR φ St w s.e act.tmps) (h : toOo lo = some lo') {d : Nat} {l : Int} (hl : bndOf d (lo'.map (val s.e)) = some l) (h0 : 0 ≤ l) :
    bnd d (lo.map act.eval) l.toNat := by
  cases lo with
  | none =>
    simp only [toOo, Option.some.injEq] at h; subst h
    simp only [Option.map_none, bndOf, Option.some.injEq] at hl; subst hl
    exact .inl ⟨rfl, by simp⟩
  | some x =>
    simp only [toOo, Option.map_eq_some_iff] at h
    obtain ⟨y, hy, rfl⟩ := h
    obtain ⟨k, e⟩ := asI_rep hl (rep_toO env hy)
    exact .inr ⟨k, by simp [e, Int.toNat_of_nonneg h0]⟩

theorem op_ss {t : TypeId} {x : Operand} {lo hi : Option Operand} (ho : o.op = .slice t x lo hi none) (ht : P.underlying t = some .string) {x' : O} {lo' hi' : Option O} (hx : toO x = some x') (hlo : toOo lo = some lo') (hhi : toOo hi = some hi')
    (q : WR φ St Mine w s.H s.nx) (env : EnvR φ St w s.e act.tmps)
    {ca : V → List V → S → Option (V × S)} (h : opA ca s (.ss x' lo' hi') = some (v, s')) : OpTo φ St Mine w s v s' ((execOp act.eval o).run P w) := by
  have rx := rep_toO env hx
  simp only [opA] at h
  split at h
  · rename_i str hv
    rw [hv] at rx
    simp only [Rep] at rx
    split at h
    · rename_i l hh hl hhv
      split at h
      · rename_i hc
        obtain ⟨c1, c2, c3⟩ := hc
        obtain ⟨rfl, rfl⟩ := Prod.mk.inj (Option.some.inj h)
        have b1 := toOo_bnd env hlo hl c1
        have b2 := toOo_bnd env hhi hhv (by omega)
        have : (execOp act.eval o).run P w = .ok (.value (.string (str.extract l.toNat hh.toNat))) w := by
          unfold execOp
          rw [ho]
          refine run_v ?_
          unfold Instr.sliceAt
          rw [run_bind, run_underlying ht]
          simp only
          unfold Instr.slice
          rw [run_bind, run_underlying ht, rx]
          simp only [Option.map_none, Option.isSome_none, Bool.false_eq_true, if_false]
          rw [run_bind, run_sliceBounds b1 b2 (by omega) (by omega)]
          rfl
        rw [this]
        exact OpTo.pure q (by simp [Rep])
      · cases h
    · cases h
  · cases h

/-- The machine's slicing of a slice. -/
theorem run_slice_slice {t e : TypeId} {q' : Option Nat} (ht : P.underlying t = some (.slice e)) (hs : shp P e = some q') {a : Option Addr} {n c l h m : Nat} {lo hi mx : Option Value}
    (hb : (Instr.sliceBounds true n c lo hi mx).run P w = .ok (l, h, m) w) :
    (Instr.sliceAt t (.slice a n c) lo hi mx).run P w = .ok (.slice (if m = l then a else a.map (·.add (l * ksz q'))) (h - l) (m - l)) w := by
  unfold Instr.sliceAt
  rw [run_bind, run_underlying ht]
  simp only
  unfold Instr.slice
  rw [run_bind, run_underlying ht]
  simp only
  rw [run_bind, hb]
  simp only
  rw [run_bind, run_sizeOf hs]
  rfl

theorem toOo_none {mx : Option Operand} (h : toOo mx = some none) : mx = none := by
  cases mx with
  | none => rfl
  | some x => simp [toOo] at h

theorem toOo_int {mx : Option Operand} {y : O} {z : Int} (env : EnvR φ St w s.e act.tmps) (h : toOo mx = some (some y)) (hz : asI (val s.e y) = some z) : ∃ k, mx.map act.eval = some (.int k z) := by
  cases mx with
  | none => simp [toOo] at h
  | some x =>
    simp only [toOo, Option.map_eq_some_iff, Option.some.injEq] at h
    obtain ⟨y', hy', rfl⟩ := h
    obtain ⟨k, e⟩ := asI_rep hz (rep_toO env hy')
    exact ⟨k, by simp [e]⟩

theorem op_sc {t e : TypeId} {x : Operand} {lo hi mx : Option Operand} (ho : o.op = .slice t x lo hi mx) (ht : P.underlying t = some (.slice e)) {q' : Option Nat} (hs : shp P e = some q') {x' : O} {lo' hi' mx' : Option O}
    (hx : toO x = some x') (hlo : toOo lo = some lo') (hhi : toOo hi = some hi') (hmx : toOo mx = some mx')
    (q : WR φ St Mine w s.H s.nx) (env : EnvR φ St w s.e act.tmps)
    {ca : V → List V → S → Option (V × S)} (h : opA ca s (.sc q' x' lo' hi' mx') = some (v, s')) : OpTo φ St Mine w s v s' ((execOp act.eval o).run P w) := by
  have rx := rep_toO env hx
  have fin : ∀ {u : Value}, (Instr.sliceAt t (act.eval x) (lo.map act.eval) (hi.map act.eval) (mx.map act.eval)).run P w = .ok u w → (execOp act.eval o).run P w = .ok (.value u) w := by
    intro u hu
    unfold execOp
    rw [ho]
    exact run_v hu
  -- the third index
  have third : ∀ {a n c}, act.eval x = .slice a n c → ∀ {m}, mx' = some m → bndOf 0 (lo'.map (val s.e)) = some 0 → isZ (hi'.map (val s.e)) = true → asI (val s.e m) = some 0 →
      OpTo φ St Mine w s .e0 s ((execOp act.eval o).run P w) := by
    intro a n c e1 m hm hl hz hmz
    subst hm
    obtain ⟨k3, em⟩ := toOo_int env hmx hmz
    have b1 : bnd 0 (lo.map act.eval) 0 := toOo_bnd env hlo hl (by omega)
    cases hi' with
    | none => simp [isZ] at hz
    | some yh =>
      obtain ⟨k2, eh⟩ := toOo_int env hhi (show asI (val s.e yh) = some 0 by simpa [isZ] using hz)
      rw [fin (by rw [e1, em, eh]; exact run_slice_slice ht hs (run_sliceBounds3 b1))]
      exact OpTo.pure q (by simp [Rep])
  simp only [opA] at h
  split at h
  · rename_i b off n c hv
    rw [hv] at rx
    simp only [Rep] at rx
    obtain ⟨a, c', e1, hc1, hc2, rx⟩ := rx
    by_cases hc0 : c = 0
    · rw [if_pos hc0] at h
      subst hc0
      simp only [Option.map_eq_some_iff] at h
      obtain ⟨y, hy, h⟩ := h
      obtain ⟨rfl, rfl⟩ := Prod.mk.inj h
      cases mx' with
      | some m =>
        simp only [sliceOf, Option.map_some] at hy
        split at hy
        case isFalse => cases hy
        rename_i hc
        obtain rfl := Option.some.inj hy
        exact third e1 rfl hc.1 hc.2.1 hc.2.2
      | none =>
        obtain rfl := toOo_none hmx
        simp only [sliceOf, Option.map_none] at hy
        split at hy
        case h_2 => cases hy
        rename_i l hh hl hhv
        split at hy
        case isFalse => cases hy
        rename_i hc
        obtain ⟨d1, d2, d3⟩ := hc
        obtain rfl := Option.some.inj hy
        obtain rfl : l = 0 := by omega
        obtain rfl : hh = 0 := by omega
        have b1 := toOo_bnd env hlo hl d1
        have b2 := toOo_bnd env hhi hhv (by omega)
        have hr := run_slice_slice (w := w) (a := a) ht hs (run_sliceBounds (P := P) (w := w) (sl := true) (cap := c') b1 b2 (by omega) (by omega))
        rw [fin (by rw [e1]; exact hr)]
        refine OpTo.pure q ?_
        simp only [Rep]
        refine ⟨_, c' - (0 : Int).toNat, by rw [show (0 : Int).toNat - (0 : Int).toNat = ((0 : Int) - 0).toNat by rfl], by simp, by simp, ?_⟩
        by_cases hz : c' - (0 : Int).toNat = 0
        · exact .inl hz
        · rcases rx with rfl | ⟨β, o', k', hp, rfl, hroom⟩
          · simp at hz
          · refine .inr ⟨β, o', k', hp, ?_, by simpa using hroom⟩
            split <;> simp [addr_add]
    rw [if_neg hc0] at h
    split at h
    case h_2 => cases h
    rename_i B hB
    split at h
    case isFalse => cases h
    rename_i hk
    simp only [Option.map_eq_some_iff] at h
    obtain ⟨y, hy, h⟩ := h
    obtain ⟨rfl, rfl⟩ := Prod.mk.inj h
    cases mx' with
    | some m =>
      simp only [sliceOf, Option.map_some] at hy
      split at hy
      case isFalse => cases hy
      rename_i hc
      obtain rfl := Option.some.inj hy
      exact third e1 rfl hc.1 hc.2.1 hc.2.2
    | none =>
      obtain rfl := toOo_none hmx
      simp only [sliceOf, Option.map_none] at hy
      split at hy
      case h_2 => cases hy
      rename_i l hh hl hhv
      split at hy
      case isFalse => cases hy
      rename_i hc
      obtain ⟨d1, d2, d3⟩ := hc
      obtain rfl := Option.some.inj hy
      have b1 := toOo_bnd env hlo hl d1
      have b2 := toOo_bnd env hhi hhv (by omega)
      have hr := run_slice_slice (w := w) (a := a) ht hs (run_sliceBounds (P := P) (w := w) (sl := true) (cap := c') b1 b2 (by omega) (by omega))
      rw [fin (by rw [e1]; exact hr)]
      refine OpTo.pure q ?_
      simp only [Rep]
      refine ⟨_, c' - l.toNat, by rw [show hh.toNat - l.toNat = (hh - l).toNat by omega], by omega, by omega, ?_⟩
      by_cases hz : c' - l.toNat = 0
      · exact .inl hz
      · rcases rx with rfl | ⟨β, o', k', hp, rfl, hroom⟩
        · omega
        · have hk' : k' = ksz q' := by
            rcases q.blk b B hB with ⟨_, g4⟩ | ⟨_, _, g4, _⟩
            · rw [g4] at hp; cases hp
            · rw [g4] at hp; cases hp; exact hk
          refine .inr ⟨β, o', k', hp, ?_, ?_⟩
          · rw [if_neg (by omega)]
            simp only [Option.map_some, addr_add, ← hk', Nat.add_mul]
            simp [Nat.add_assoc]
          · rw [show off + l.toNat + (c' - l.toNat) = off + c' by omega]; exact hroom
  · rename_i es hv
    rw [hv] at rx
    simp only [Rep, RO] at rx
    obtain ⟨a, c', e1, hc1, rx⟩ := rx
    split at h
    case isFalse => cases h
    rename_i hall
    simp only [Option.map_eq_some_iff] at h
    obtain ⟨y, hy, h⟩ := h
    obtain ⟨rfl, rfl⟩ := Prod.mk.inj h
    cases mx' with
    | some m =>
      simp only [sliceOf, Option.map_some] at hy
      split at hy
      case isFalse => cases hy
      rename_i hc
      obtain rfl := Option.some.inj hy
      exact third e1 rfl hc.1 hc.2.1 hc.2.2
    | none =>
      obtain rfl := toOo_none hmx
      simp only [sliceOf, Option.map_none] at hy
      split at hy
      case h_2 => cases hy
      rename_i l hh hl hhv
      split at hy
      case isFalse => cases hy
      rename_i hc
      obtain ⟨d1, d2, d3⟩ := hc
      obtain rfl := Option.some.inj hy
      have b1 := toOo_bnd env hlo hl d1
      have b2 := toOo_bnd env hhi hhv (by omega)
      have hr := run_slice_slice (w := w) (a := a) ht hs (run_sliceBounds (P := P) (w := w) (sl := true) (cap := c') b1 b2 (by omega) (by omega))
      rw [fin (by rw [e1]; exact hr)]
      refine OpTo.pure q ?_
      simp only [Rep, RO]
      have hlen : ((es.take hh.toNat).drop l.toNat).length = hh.toNat - l.toNat := by simp; omega
      refine ⟨_, c' - l.toNat, by rw [hlen], by rw [hlen]; omega, ?_⟩
      by_cases hz : hh.toNat - l.toNat = 0
      · exact .inl (List.eq_nil_of_length_eq_zero (by rw [hlen]; exact hz))
      · rcases rx with rfl | ⟨β, o', k', rfl, hb, hsz, hroe⟩
        · simp at d3; omega
        · have hne : es ≠ [] := by rintro rfl; simp at d3; omega
          have hk' : k' = ksz q' := by
            obtain ⟨x0, hx0⟩ := List.exists_mem_of_ne_nil _ hne
            rw [← hsz x0 hx0]
            simp only [List.all_eq_true] at hall
            exact fits_size (hall x0 hx0)
          refine .inr ⟨β, o' + l.toNat * k', k', ?_, hb, fun e he => hsz e (List.mem_of_mem_take (List.mem_of_mem_drop he)), ?_⟩
          · rw [if_neg (by omega)]
            simp only [Option.map_some, addr_add, ← hk']
          · exact ROE_drop _ (ROE_take _ hroe) (fun e he => hsz e (List.mem_of_mem_take he)) (by simp; omega)
  · rename_i hv
    rw [hv] at rx
    simp only [Rep] at rx
    obtain ⟨a, e1⟩ := rx
    simp only [Option.map_eq_some_iff] at h
    obtain ⟨y, hy, h⟩ := h
    obtain ⟨rfl, rfl⟩ := Prod.mk.inj h
    cases mx' with
    | some m =>
      simp only [sliceOf, Option.map_some] at hy
      split at hy
      case isFalse => cases hy
      rename_i hc
      obtain rfl := Option.some.inj hy
      exact third e1 rfl hc.1 hc.2.1 hc.2.2
    | none =>
      obtain rfl := toOo_none hmx
      simp only [sliceOf, Option.map_none] at hy
      split at hy
      case isFalse => cases hy
      rename_i hc
      obtain rfl := Option.some.inj hy
      have b1 := toOo_bnd env hlo hc.1 (by omega)
      have b2 := toOo_bnd env hhi hc.2 (by omega)
      have hr := run_slice_slice (w := w) (a := a) ht hs (run_sliceBounds (P := P) (w := w) (sl := true) (cap := 0) b1 b2 (by omega) (by omega))
      rw [fin (by rw [e1]; exact hr)]
      refine OpTo.pure q ?_
      simp [Rep]
  · cases h

/-! ### Building -/

theorem foldl_put : ∀ (l : List Value) (k off : Nat) (cs : Array Value), off + k + l.length ≤ cs.size →
    ((l.zipIdx k).foldl (fun cs x => cs.setIfInBounds (off + x.2) x.1) cs).size = cs.size ∧
    ∀ x, ((l.zipIdx k).foldl (fun cs x => cs.setIfInBounds (off + x.2) x.1) cs)[x]? = if off + k ≤ x ∧ x < off + k + l.length then l[x - (off + k)]? else cs[x]?
  | [], k, off, cs, _ => ⟨rfl, fun x => by rw [if_neg (by simp only [List.length_nil]; omega)]; rfl⟩
  | v :: l, k, off, cs, h => by
    simp only [List.length_cons] at h
    obtain ⟨h1, h2⟩ := foldl_put l (k + 1) off (cs.setIfInBounds (off + k) v) (by simp; omega)
    simp only [List.zipIdx_cons, List.foldl_cons]
    refine ⟨by rw [h1]; simp, fun x => ?_⟩
    rw [h2]
    simp only [List.length_cons]
    by_cases hx : x = off + k
    · subst hx
      rw [if_neg (by omega), if_pos (by omega)]
      simp [show off + k < cs.size by omega]
    · by_cases hin : off + (k + 1) ≤ x ∧ x < off + (k + 1) + l.length
      · rw [if_pos hin, if_pos (by omega)]
        obtain ⟨d, rfl⟩ : ∃ d, x = off + (k + 1) + d := ⟨x - (off + (k + 1)), by omega⟩
        rw [show off + (k + 1) + d - (off + (k + 1)) = d by omega, show off + (k + 1) + d - (off + k) = d + 1 by omega]
        simp
      · rw [if_neg hin, if_neg (by omega), Array.getElem?_setIfInBounds_ne (by omega)]

theorem fill_step {place : Nat → Option (Nat × Nat)} {cs : Array Value} {i off k : Nat} {m : Value} {rest : List (Nat × Value)} (hp : place i = some (off, k)) (hm : m.cells.size = k) (ho : off + k ≤ cs.size) :
    ∃ cs', Instr.fill place cs ((i, m) :: rest) = Instr.fill place cs' rest ∧ cs'.size = cs.size ∧ ∀ x, cs'[x]? = if off ≤ x ∧ x < off + k then m.cells[x - off]? else cs[x]? := by
  have e : m.cells.zipIdx.foldl (fun cs x => cs.setIfInBounds (off + x.2) x.1) cs = (m.cells.toList.zipIdx 0).foldl (fun cs x => cs.setIfInBounds (off + x.2) x.1) cs := by
    rw [← Array.foldl_toList]; simp
  obtain ⟨h1, h2⟩ := foldl_put m.cells.toList 0 off cs (by simp; omega)
  refine ⟨_, ?_, h1, fun x => ?_⟩
  · rw [Instr.fill]
    simp only [hp]
    rw [if_neg (by simp [hm]; omega)]
    rw [← e]
  · rw [h2]
    simp only [Nat.add_zero, Array.length_toList, hm]
    split <;> simp

theorem fill_row {k : Nat} {place : Nat → Option (Nat × Nat)} (hp : ∀ i, place i = some (i * k, k)) : ∀ (ms : List Value) (i0 : Nat) (cs : Array Value), (∀ m ∈ ms, m.cells.size = k) → (i0 + ms.length) * k ≤ cs.size →
    ∃ cs', Instr.fill place cs (ms.zipIdx i0 |>.map fun x => (x.2, x.1)) = some cs' ∧ cs'.size = cs.size ∧ (∀ x, x < i0 * k → cs'[x]? = cs[x]?) ∧
      ∀ (i : Nat) m, ms[i]? = some m → ∀ (j : Nat) u, m.cells.toList[j]? = some u → cs'[(i0 + i) * k + j]? = some u
  | [], i0, cs, _, _ => ⟨cs, rfl, rfl, fun _ _ => rfl, by simp⟩
  | m :: ms, i0, cs, hk, hl => by
    have hk0 : m.cells.size = k := hk m (by simp)
    have hle : i0 * k + k ≤ cs.size := by
      have : (i0 + 1) * k ≤ (i0 + (ms.length + 1)) * k := Nat.mul_le_mul_right _ (by omega)
      rw [Nat.succ_mul] at this
      simp only [List.length_cons] at hl
      omega
    obtain ⟨cs1, h1, h2, h3⟩ := fill_step (rest := ms.zipIdx (i0 + 1) |>.map fun x => (x.2, x.1)) (hp i0) hk0 hle
    obtain ⟨cs2, g1, g2, g3, g4⟩ := fill_row hp ms (i0 + 1) cs1 (fun m hm => hk m (by simp [hm])) (by rw [h2]; simp only [List.length_cons] at hl; rwa [show i0 + 1 + ms.length = i0 + (ms.length + 1) by omega])
    refine ⟨cs2, by simp only [List.zipIdx_cons, List.map_cons]; rw [h1]; exact g1, by omega, fun x hx => ?_, fun i m' hi j u hj => ?_⟩
    · rw [g3 x (by rw [Nat.succ_mul]; omega), h3, if_neg (by omega)]
    · cases i with
      | zero =>
        obtain rfl : m = m' := by simpa using hi
        have hjk : j < k := by have := (List.getElem?_eq_some_iff.1 hj).1; simpa [hk0] using this
        rw [Nat.add_zero, g3 _ (by rw [Nat.succ_mul]; omega), h3, if_pos (by omega)]
        rw [show i0 * k + j - i0 * k = j by omega]
        simpa using hj
      | succ i =>
        have := g4 i m' (by simpa using hi) j u hj
        rwa [show i0 + 1 + i = i0 + (i + 1) by omega] at this

theorem partsOk_spec {e : Nat → V} : ∀ {ps : List (Nat × Operand)} {i0 : Nat} {xs : List O}, partsOk i0 ps = some xs → EnvR φ St w e act.tmps →
    ps.map (fun p => (p.1, act.eval p.2)) = ((ps.map fun p => act.eval p.2).zipIdx i0 |>.map fun x => (x.2, x.1)) ∧ RepL φ St w (xs.map (val e)) (ps.map fun p => act.eval p.2)
  | [], i0, xs, h, _ => by simp [partsOk] at h; subst h; simp [RepL]
  | (j, x) :: ps, i0, xs, h, env => by
    simp only [partsOk] at h
    split at h
    · rename_i hj
      subst hj
      split at h
      · rename_i y ys hy hys
        obtain rfl := Option.some.inj h
        obtain ⟨h1, h2⟩ := partsOk_spec hys env
        refine ⟨by simp only [List.map_cons, List.zipIdx_cons, h1], ?_⟩
        simp only [List.map_cons, RepL]
        exact ⟨_, _, rfl, rep_toO env hy, h2⟩
      · cases h
    · cases h

/-- A new slice: a block of the frame's own in a new row. -/
theorem new_slice {q' : Option Nat} {es : List V} {ms : List Value} {ty : TypeId} {cs : Array Value} {n c : Nat} (q : WR φ St Mine w s.H s.nx)
    (hf : ∀ e ∈ es, e.fits q' = true) (hr : RepL φ St w es ms) (hcs : c * ksz q' ≤ cs.size) (hn : n ≤ c) (hes : es.length ≤ c)
    (hc : ∀ (i : Nat) m, ms[i]? = some m → ∀ (j : Nat) u, m.cells.toList[j]? = some u → cs[i * ksz q' + j]? = some u) {c0 : Nat} (hc0 : c0 ≤ c) :
    OpTo φ St Mine w s (.hs s.nx 0 n c0) (s.new (ksz q') es) (.ok (.value (.slice (some ⟨w.heap.size, 0, none⟩) n c)) (Push w (.cells cs ty))) := by
  refine ⟨_, _, upd φ s.nx (some (w.heap.size, 0, ksz q')), .inl rfl, ?_, ?_, rfl, ext_upd _, by simp [S.new], Stp.push q.stB _⟩
  · simp only [Rep]
    exact ⟨_, c, rfl, hn, hc0, .inr ⟨w.heap.size, 0, ksz q', upd_same _ _ _, by simp, ⟨cs, ty, (0, 0), push_new, by simpa using hcs⟩⟩⟩
  · exact q.row hf hr (by
      have : ms.length * ksz q' ≤ c * ksz q' := Nat.mul_le_mul_right _ (by rw [← hr.len]; exact hes)
      omega) hc

theorem op_bs {t : TypeId} {n : Nat} {ps : Array (Nat × Operand)} (ho : o.op = .buildSlice t n ps) {q' : Option Nat} (ht : sliceShp P t = some q') {xs : List O} (hx : partsOk 0 ps.toList = some xs) (hn : xs.length = n) (hn' : n * ksz q' ≤ 2 ^ 24) {z : V} (hz : sliceZero P t = some z)
    (q : WR φ St Mine w s.H s.nx) (env : EnvR φ St w s.e act.tmps)
    {ca : V → List V → S → Option (V × S)} (h : opA ca s (.bs q' xs) = some (v, s')) : OpTo φ St Mine w s v s' ((execOp act.eval o).run P w) := by
  obtain ⟨e, h1, h2⟩ := sliceShp_spec ht
  obtain ⟨p1, p2⟩ := partsOk_spec hx env
  obtain ⟨i, d, g1, g2, g3, g4, _⟩ := shp_spec h2
  simp only [opA] at h
  split at h
  case isFalse => cases h
  rename_i hf
  have hf' : ∀ x ∈ xs.map (val s.e), x.fits q' = true := by simpa only [List.all_eq_true] using hf
  obtain ⟨rfl, rfl⟩ := Prod.mk.inj (Option.some.inj h)
  have hlen : (ps.toList.map fun p => act.eval p.2).length = n := by rw [← p2.len]; simpa using hn
  have hmk : ∀ m ∈ ps.toList.map (fun p => act.eval p.2), m.cells.size = ksz q' := by
    intro m hm
    obtain ⟨i, hi⟩ := List.mem_iff_getElem?.1 hm
    have hlt : i < (xs.map (val s.e)).length := by rw [p2.len]; exact (List.getElem?_eq_some_iff.1 hi).1
    obtain ⟨m', hm', hrm⟩ := p2.get (i := i) (v := (xs.map (val s.e))[i]) (List.getElem?_eq_getElem hlt)
    rw [hi] at hm'; obtain rfl := Option.some.inj hm'
    exact (rep_cells (hf' _ (List.getElem_mem _)) hrm).2.1
  have hpm : (ps.map fun x => (x.1, act.eval x.2)).toList = ((ps.toList.map fun p => act.eval p.2).zipIdx 0 |>.map fun x => (x.2, x.1)) := by
    rw [← p1]; simp
  obtain ⟨zz, hzr, _⟩ := zeroV_spec (P := P) (t := e) (z := z) (by unfold sliceZero at hz; rwa [h1] at hz)
  have run : ∃ cs : Array Value, (Instr.buildSlice t n (ps.map fun x => (x.1, act.eval x.2))).run P w = .ok (.slice (some ⟨w.heap.size, 0, none⟩) n n) (Push w (.cells cs e)) ∧ cs.size = n * ksz q' ∧
      ∀ (i : Nat) m, (ps.toList.map fun p => act.eval p.2)[i]? = some m → ∀ (j : Nat) u, m.cells.toList[j]? = some u → cs[i * ksz q' + j]? = some u := by
    have hf0 : ∀ z0 : Array Value, ∃ cs, Instr.fill (fun i => some (i * ksz q', ksz q')) ((Array.range (n * ksz q')).map (z0[· % z0.size]!)) (ps.map fun x => (x.1, act.eval x.2)).toList = some cs ∧ cs.size = n * ksz q' ∧
        ∀ (i : Nat) m, (ps.toList.map fun p => act.eval p.2)[i]? = some m → ∀ (j : Nat) u, m.cells.toList[j]? = some u → cs[i * ksz q' + j]? = some u := by
      intro z0
      obtain ⟨cs, c1, c2, _, c4⟩ := fill_row (k := ksz q') (place := fun i => some (i * ksz q', ksz q')) (fun _ => rfl) (ps.toList.map fun p => act.eval p.2) 0 ((Array.range (n * ksz q')).map (z0[· % z0.size]!)) hmk (by simp only [Nat.zero_add, hlen]; simp)
      exact ⟨cs, by rw [hpm]; exact c1, by rw [c2]; simp, by simpa using c4⟩
    unfold Instr.buildSlice
    simp only [run_bind, run_underlying h1, run_sizeOf h2, if_neg (show ¬ n * ksz q' > 2 ^ 24 by omega)]
    by_cases h0 : n * ksz q' = 0
    · obtain ⟨cs, c1, c2, c3⟩ := hf0 #[]
      refine ⟨cs, ?_, c2, c3⟩
      rw [if_pos h0]
      simp only [run_pure, c1, run_bind, run_newRow]
    · obtain ⟨cs, c1, c2, c3⟩ := hf0 zz.cells
      refine ⟨cs, ?_, c2, c3⟩
      rw [if_neg h0]
      simp only [run_bind, hzr, run_pure, c1, run_newRow]
  obtain ⟨cs, r1, r2, r3⟩ := run
  have : (execOp act.eval o).run P w = .ok (.value (.slice (some ⟨w.heap.size, 0, none⟩) n n)) (Push w (.cells cs e)) := by
    unfold execOp
    rw [ho]
    exact run_v r1
  rw [this, hn]
  exact new_slice q hf' p2 (by omega) (Nat.le_refl _) (by simp [hn]) r3 (Nat.le_refl _)

theorem op_ms {t : TypeId} {l c : Operand} (ho : o.op = .makeSlice t l c) {q' : Option Nat} (ht : sliceShp P t = some q') {z : V} (hz : sliceZero P t = some z) {l' c' : O} (hl : toO l = some l') (hc : toO c = some c')
    (q : WR φ St Mine w s.H s.nx) (env : EnvR φ St w s.e act.tmps)
    {ca : V → List V → S → Option (V × S)} (h : opA ca s (.ms z q' l' c') = some (v, s')) : OpTo φ St Mine w s v s' ((execOp act.eval o).run P w) := by
  obtain ⟨e, h1, h2⟩ := sliceShp_spec ht
  obtain ⟨i, d, g1, g2, g3, g4, _⟩ := shp_spec h2
  obtain ⟨zz, hzr, hzrep⟩ := zeroV_spec (P := P) (t := e) (z := z) (by unfold sliceZero at hz; rwa [h1] at hz)
  have rl := rep_toO env hl
  have rc := rep_toO env hc
  simp only [opA] at h
  split at h
  case h_2 => cases h
  rename_i k1 a k2 b ea eb
  rw [ea] at rl; rw [eb] at rc
  simp only [Rep] at rl rc
  split at h
  case isFalse => cases h
  rename_i hcond
  obtain ⟨c1, c2, c3, hf⟩ := hcond
  obtain ⟨rfl, rfl⟩ := Prod.mk.inj (Option.some.inj h)
  have hlim : b ≤ 2 ^ 36 := by unfold LIM at c3; omega
  have wa : IntKind.i64.wrap a = a := IntWalk.i64_in _ (by omega)
  have wb : IntKind.i64.wrap b = b := IntWalk.i64_in _ (by omega)
  obtain ⟨z1, z2, z3⟩ := rep_cells hf (hzrep φ St w)
  have hbytes : ¬ ((i.bytes : Int) * b > 2 ^ 48) := by
    have : (i.bytes : Int) * b ≤ 1024 * 2 ^ 36 := Int.mul_le_mul (by omega) hlim (by omega) (by omega)
    omega
  have run : (Instr.makeSlice t (.int k1 a) (.int k2 b)).run P w = .ok (.slice (some ⟨w.heap.size, 0, none⟩) a.toNat b.toNat)
      (Push w (.cells ((Array.range (b.toNat * ksz q')).map ((if b.toNat * ksz q' = 0 then #[] else zz.cells)[· % (if b.toNat * ksz q' = 0 then #[] else zz.cells).size]!)) e)) := by
    unfold Instr.makeSlice
    simp only [run_bind, run_underlying h1, asInt, asIntOf, run_pure, run_typeInfo g1, wa, wb]
    rw [if_neg (by simp only [Bool.or_eq_true, decide_eq_true_eq, not_or]; omega)]
    simp only [run_bind, run_pure]
    have hask : (askRoom (b.toNat * i.bytes)).run P w = .ok () w := by
      unfold askRoom
      split <;> rfl
    rw [hask]
    simp only [run_sizeOf h2]
    by_cases h0 : b.toNat * ksz q' = 0
    · simp only [if_pos h0, pure_bind, run_bind, run_pure, run_newRow]
    · simp only [if_neg h0, run_bind, hzr, run_pure, run_newRow]
  have : (execOp act.eval o).run P w = .ok (.value (.slice (some ⟨w.heap.size, 0, none⟩) a.toNat b.toNat)) (Push w (.cells ((Array.range (b.toNat * ksz q')).map ((if b.toNat * ksz q' = 0 then #[] else zz.cells)[· % (if b.toNat * ksz q' = 0 then #[] else zz.cells).size]!)) e)) := by
    unfold execOp
    rw [ho]
    refine run_v ?_
    rw [rl, rc]
    exact run
  rw [this]
  refine new_slice (ms := List.replicate b.toNat zz) q (fun x hx => by rw [List.eq_of_mem_replicate hx]; exact hf) ?_ (by simp) (by omega) (by simp) ?_ (Nat.le_refl _)
  · rw [RepL_iff]
    refine ⟨by simp, fun i v hv => ?_⟩
    rw [List.getElem?_replicate] at hv
    split at hv
    · rename_i hi
      obtain rfl := Option.some.inj hv
      exact ⟨zz, by rw [List.getElem?_replicate, if_pos hi], hzrep φ St w⟩
    · cases hv
  · intro i m hm j u hu
    rw [List.getElem?_replicate] at hm
    split at hm
    case isFalse => cases hm
    rename_i hi
    obtain rfl := Option.some.inj hm
    have hj : j < ksz q' := by have := (List.getElem?_eq_some_iff.1 hu).1; simpa [z2] using this
    have hlt : i * ksz q' + j < b.toNat * ksz q' := mul_lt_place hi hj
    have h0 : ¬ b.toNat * ksz q' = 0 := by omega
    simp only [if_neg h0, z2]
    rw [Array.getElem?_map, Array.getElem?_range, if_pos hlt]
    simp only [Option.map_some, Option.some.injEq]
    rw [Nat.add_comm, Nat.add_mul_mod_self_right, Nat.mod_eq_of_lt hj]
    have hu' : zz.cells[j]? = some u := by simpa using hu
    rw [getElem!_def, hu']

/-! ### A struct built -/

theorem run_mapM_list {α β : Type} {f : α → Sem β} {g : α → β} {w : World} : ∀ (l : List α), (∀ x ∈ l, (f x).run P w = .ok (g x) w) → (l.mapM f).run P w = .ok (l.map g) w
  | [], _ => rfl
  | x :: l, h => by
    simp only [List.mapM_cons, run_bind, h x (by simp), run_mapM_list l (fun y hy => h y (by simp [hy])), run_pure, List.map_cons]

theorem run_mapM_array {α β : Type} {f : α → Sem β} {g : α → β} {w : World} (l : Array α) (h : ∀ x ∈ l, (f x).run P w = .ok (g x) w) : (l.mapM f).run P w = .ok (l.map g) w := by
  rw [Array.mapM_eq_mapM_toList, run_bind_map, run_mapM_list l.toList (fun x hx => h x (by simpa using hx))]
  simp [map_toList l g]
where
  run_bind_map {α β : Type} {x : Sem α} {f : α → β} {w : World} : (f <$> x).run P w = match x.run P w with | .ok a w' => .ok (f a) w' | .halt h w' => .halt h w' := by
    rw [← bind_pure_comp, run_bind]; rfl

theorem RepL.set {φ : Phi} {St : Nat → Prop} {w : World} {vs : List V} {ms : List Value} (h : RepL φ St w vs ms) {j : Nat} {v : V} {m : Value} (hv : Rep φ St w v m) : RepL φ St w (vs.set j v) (ms.set j m) := by
  rw [RepL_iff] at h ⊢
  obtain ⟨h1, h2⟩ := h
  refine ⟨by simpa using h1, fun i u hu => ?_⟩
  rw [List.getElem?_set] at hu ⊢
  split at hu
  · rename_i hj
    subst hj
    split at hu
    · rename_i hlt
      obtain rfl := Option.some.inj hu
      exact ⟨m, by rw [if_pos rfl, if_pos (by omega)], hv⟩
    · cases hu
  · rename_i hj
    rw [if_neg hj]
    exact h2 i u hu

theorem fill_flds {k : Nat} {place : Nat → Option (Nat × Nat)} (hp : ∀ j, j < k → place j = some (j, 1)) {φ : Phi} {St : Nat → Prop} {w : World} : ∀ (ps : List (Nat × V)) (ms : List (Nat × Value)) (cs : Array Value) (vs : List V),
    ps.length = ms.length → (∀ (i : Nat) p m, ps[i]? = some p → ms[i]? = some m → p.1 = m.1 ∧ p.1 < k ∧ p.2.okc = true ∧ Rep φ St w p.2 m.2) → cs.size = k → RepL φ St w vs cs.toList →
    ∃ cs', Instr.fill place cs ms = some cs' ∧ RepL φ St w (ps.foldl (fun cs p => cs.set p.1 p.2) vs) cs'.toList
  | [], ms, cs, vs, hl, _, _, hr => by
    obtain rfl := List.eq_nil_of_length_eq_zero hl.symm
    exact ⟨cs, rfl, hr⟩
  | p :: ps, [], _, _, hl, _, _, _ => by simp at hl
  | (j, v) :: ps, (j', m) :: ms, cs, vs, hl, h, hc, hr => by
    obtain ⟨e, hj, hok, hrep⟩ := h 0 _ _ rfl rfl
    simp only at e hj hok hrep
    subst e
    have hm := rep_okm hok hrep
    have hmc : m.cells = #[m] := by cases m <;> simp [okm] at hm <;> rfl
    obtain ⟨cs', h1, h2⟩ := fill_flds hp ps ms (cs.setIfInBounds j m) (vs.set j v) (by simpa using hl) (fun i p m hp hm => h (i + 1) p m (by simpa using hp) (by simpa using hm)) (by simpa using hc) (by simpa using hr.set hrep)
    refine ⟨cs', ?_, h2⟩
    rw [Instr.fill]
    simp only [hp j hj, hmc]
    rw [if_neg (by simp; omega)]
    simpa using h1

theorem op_bd {t : TypeId} {ps : Array (Nat × Operand)} (ho : o.op = .build t ps) {n : Nat} (ht : shp P t = some (some n)) {z : List V} (hz : zeroV P t = some (.st z)) {xs : List (Nat × O)}
    (hx : ps.toList.mapM (fun p => (toO p.2).map fun x => (p.1, x)) = some xs) (hlt : xs.all (fun p => p.1 < n) = true) (hzl : z.length = n)
    (q : WR φ St Mine w s.H s.nx) (env : EnvR φ St w s.e act.tmps)
    {ca : V → List V → S → Option (V × S)} (h : opA ca s (.bd z xs) = some (v, s')) : OpTo φ St Mine w s v s' ((execOp act.eval o).run P w) := by
  obtain ⟨i, d, h1, h2, h3, _, _, h6, _⟩ := shp_spec ht
  obtain ⟨fs, rfl, h7, h8⟩ := h6 n rfl
  obtain ⟨zz, hzr, hzrep⟩ := zeroV_spec hz
  have hzz := hzrep φ St w
  simp only [Rep] at hzz
  obtain ⟨zs, rfl, hzs⟩ := hzz
  simp only [opA] at h
  split at h
  case isFalse => cases h
  rename_i hall
  obtain ⟨rfl, rfl⟩ := Prod.mk.inj (Option.some.inj h)
  have hspec : ∀ {l : List (Nat × Operand)} {xs : List (Nat × O)}, l.mapM (fun p => (toO p.2).map fun x => (p.1, x)) = some xs → xs.length = l.length ∧
      ∀ (i : Nat) x p, xs[i]? = some x → l[i]? = some p → x.1 = p.1 ∧ Rep φ St w (val s.e x.2) (act.eval p.2) := by
    intro l
    induction l with
    | nil => intro xs h; simp at h; subst h; simp
    | cons p l ih =>
      intro xs h
      simp only [List.mapM_cons, Option.bind_eq_bind, Option.pure_def] at h
      obtain ⟨y, hy, h⟩ := Option.bind_eq_some_iff.1 h
      obtain ⟨ys, hys, h⟩ := Option.bind_eq_some_iff.1 h
      obtain rfl := Option.some.inj h
      obtain ⟨y0, hy0, rfl⟩ := Option.map_eq_some_iff.1 hy
      obtain ⟨g1, g2⟩ := ih hys
      refine ⟨by simp [g1], fun i x p' hx hp => ?_⟩
      cases i with
      | zero =>
        simp only [List.getElem?_cons_zero, Option.some.injEq] at hx hp
        subst hx; subst hp
        exact ⟨rfl, rep_toO env hy0⟩
      | succ i => exact g2 i x p' (by simpa using hx) (by simpa using hp)
  obtain ⟨s1, s2⟩ := hspec hx
  have hzlen : zs.length = n := by rw [← hzs.len]; exact hzl
  have hplaces : (fs.mapM fun f => (do pure (f.offset, ← sizeOf f.type) : Sem (Nat × Nat))).run P w = .ok (fs.map fun f => (f.offset, 1)) w := by
    refine run_mapM_array fs fun f hf => ?_
    obtain ⟨j, hj⟩ := List.mem_iff_getElem?.1 (Array.mem_toList_iff.2 hf)
    obtain ⟨_, ⟨i', g1, g2⟩, _⟩ := fldsOk_get h8 hj
    rw [run_bind, run_sizeOf_info g1, g2]
    rfl
  have hp : ∀ j, j < n → (fs.map fun f => (f.offset, 1))[j]? = some (j, 1) := by
    intro j hj
    obtain ⟨g0, _⟩ := fldsOk_get h8 (j := j) (f := fs[j]) (by simp)
    rw [Array.getElem?_map, Array.getElem?_eq_getElem (by omega)]
    simp [g0]
  obtain ⟨cs', f1, f2⟩ := fill_flds (k := n) (place := fun j => (fs.map fun f => (f.offset, 1))[j]?) hp (φ := φ) (St := St) (w := w) (xs.map fun x => (x.1, val s.e x.2)) (ps.toList.map fun p => (p.1, act.eval p.2)) zs.toArray z
    (by simpa using s1) (fun i x m hx hm => by
      simp only [List.getElem?_map, Option.map_eq_some_iff] at hx hm
      obtain ⟨x, hx, rfl⟩ := hx
      obtain ⟨p, hp, rfl⟩ := hm
      obtain ⟨r1, r2⟩ := s2 i x p hx hp
      refine ⟨r1, ?_, ?_, r2⟩
      · simp only [List.all_eq_true, decide_eq_true_eq] at hlt
        exact hlt x (List.mem_of_getElem? hx)
      · simp only [List.all_eq_true, List.mem_map] at hall
        exact hall _ ⟨x, List.mem_of_getElem? hx, rfl⟩) (by simpa using hzlen) (by simpa using hzs)
  have : (execOp act.eval o).run P w = .ok (.value (.agg cs')) w := by
    unfold execOp
    rw [ho]
    refine run_v ?_
    unfold Instr.build
    rw [run_bind, hzr]
    simp only [Value.cells]
    rw [run_bind, run_underlying h2]
    simp only
    rw [run_bind, hplaces]
    simp only [show (ps.map fun x => (x.1, act.eval x.2)).toList = ps.toList.map fun p => (p.1, act.eval p.2) by simp]
    rw [f1]
    rfl
  rw [this]
  refine OpTo.pure q ?_
  simp only [Rep]
  refine ⟨cs'.toList, by simp, ?_⟩
  rw [List.foldl_map] at f2
  exact f2

end Go.Am

/- The A-machine, part 10: what a slice holds, bytes to a string, append. -/
namespace Go.Am
variable {P : Program} {φ : Phi} {St Mine : Nat → Prop} {w : World} {s : S} {act : Act} {o : Oper} {v : V} {s' : S}

/-- The cells of elements that lie in a row. -/
theorem row_cells {β off k : Nat} {src : List V} (hk : ∀ e ∈ src, e.size = k) (hr : ∀ (i : Nat) e, src[i]? = some e → RepC φ St w β (off + i * k) (cellsOf e)) :
    ∃ news : List Value, news.length = src.length * k ∧ (∀ j u, news[j]? = some u → Cel w β (off + j) = some u) ∧
      ∀ (i : Nat) e, src[i]? = some e → ∀ (j : Nat) c, (cellsOf e)[j]? = some c → ∃ u, news[i * k + j]? = some u ∧ Rep φ St w c u := by
  have hcel : ∀ (i : Nat) e, src[i]? = some e → ∀ (j : Nat) c, (cellsOf e)[j]? = some c → ∃ u, Cel w β (off + (i * k + j)) = some u ∧ Rep φ St w c u := by
    intro i e hi j c hj
    obtain ⟨u, hu, hru⟩ := RepC_get (hr i e hi) hj
    exact ⟨u, by rw [← Nat.add_assoc]; exact hu, hru⟩
  refine ⟨(List.range (src.length * k)).map fun x => (Cel w β (off + x)).getD undef, by simp, ?_, ?_⟩
  · intro j u hj
    rw [List.getElem?_map] at hj
    obtain ⟨x, hx, rfl⟩ := Option.map_eq_some_iff.1 hj
    obtain ⟨hlt, rfl⟩ := List.getElem?_eq_some_iff.1 hx
    simp only [List.getElem_range, List.length_range] at hlt ⊢
    have hk0 : 0 < k := by
      rcases Nat.eq_zero_or_pos k with h | h
      · subst h; simp at hlt
      · exact h
    have hi : j / k < src.length := by rw [Nat.div_lt_iff_lt_mul hk0]; exact hlt
    have hmod : j % k < k := Nat.mod_lt _ hk0
    have hsz := hk _ (List.getElem_mem hi)
    have hlen : j % k < (cellsOf src[j / k]).length := by rw [size_cellsOf, hsz]; exact hmod
    obtain ⟨u, hu, _⟩ := hcel (j / k) src[j / k] (List.getElem?_eq_getElem hi) (j % k) _ (List.getElem?_eq_getElem hlen)
    rw [Nat.mul_comm, Nat.div_add_mod] at hu
    rw [hu]; rfl
  · intro i e hi j c hj
    obtain ⟨u, hu, hru⟩ := hcel i e hi j c hj
    have hi' := (List.getElem?_eq_some_iff.1 hi).1
    have hj' : j < k := by
      have := (List.getElem?_eq_some_iff.1 hj).1
      rwa [size_cellsOf, hk e (List.mem_of_getElem? hi)] at this
    refine ⟨u, ?_, hru⟩
    rw [List.getElem?_map, List.getElem?_range (mul_lt_place hi' hj')]
    simp [hu]

/-- What a slice shows, in the machine. -/
theorem elems_spec {vy : V} {m : Value} {src : List V} {k : Nat} (q : WR φ St Mine w s.H s.nx) (r : Rep φ St w vy m) (h : elems s.H vy = some src) (hf : ∀ e ∈ src, e.size = k) :
    ∃ a c, m = .slice a src.length c ∧ ((src = []) ∨ ∃ β off, a = some ⟨β, off, none⟩ ∧ (∀ (i : Nat) e, src[i]? = some e → RepC φ St w β (off + i * k) (cellsOf e))) := by
  unfold elems at h
  split at h
  · rename_i es
    obtain rfl := Option.some.inj h
    simp only [Rep, RO] at r
    obtain ⟨a, c, e1, hc, r⟩ := r
    refine ⟨a, c, e1, ?_⟩
    rcases r with r | ⟨β, o', k', rfl, hb, hk', hr⟩
    · exact .inl r
    · by_cases hne : es = []
      · exact .inl hne
      · refine .inr ⟨β, o', rfl, fun i e hi => ?_⟩
        have : k' = k := by
          obtain ⟨x0, hx0⟩ := List.exists_mem_of_ne_nil _ hne
          rw [← hk' x0 hx0, hf x0 hx0]
        subst this
        exact ROC.rep _ _ (ROE_get hr hk' hi)
  · obtain rfl := Option.some.inj h
    simp only [Rep] at r
    obtain ⟨a, e1⟩ := r
    exact ⟨a, 0, e1, .inl rfl⟩
  · rename_i b off n c
    split at h
    · rename_i hn0
      obtain rfl := Option.some.inj h
      simp only [Rep] at r
      obtain ⟨a, c', e1, _⟩ := r
      exact ⟨a, c', by rw [e1, hn0]; rfl, .inl rfl⟩
    split at h
    case h_2 => cases h
    rename_i B hB
    split at h
    case isFalse => cases h
    rename_i hle
    obtain rfl := Option.some.inj h
    simp only [Rep] at r
    obtain ⟨a, c', e1, hc1, hc2, r⟩ := r
    have hlen : ((B.es.drop off).take n).length = n := by simp; omega
    refine ⟨a, c', by rw [hlen]; exact e1, ?_⟩
    by_cases hn : n = 0
    · subst hn; exact .inl (by simp)
    · rcases r with rfl | ⟨β, o', k', hp, rfl, _⟩
      · omega
      · rcases q.blk b B hB with ⟨h1, _⟩ | ⟨β', o'', h1, _, _, _, hsz, hr⟩
        · rw [h1] at hle; simp at hle; omega
        · rw [h1] at hp; cases hp
          have hkk : B.k = k := by
            have hx : B.es[off]'(by omega) ∈ (B.es.drop off).take n := by
              rw [List.mem_iff_getElem?]
              exact ⟨0, by rw [List.getElem?_take]; simp; omega⟩
            rw [← hf _ hx, hsz _ (List.getElem_mem _)]
          refine .inr ⟨β, _, rfl, fun i e hi => ?_⟩
          rw [List.getElem?_take] at hi
          split at hi
          · rw [List.getElem?_drop] at hi
            have := hr _ e hi
            rw [← hkk]
            rwa [Nat.add_mul, ← Nat.add_assoc] at this
          · cases hi
  · cases h

theorem bytes_ints {φ : Phi} {St : Nat → Prop} {w : World} : ∀ {es : List V} {bs : List UInt8}, bytesOf es = some bs → (∀ e ∈ es, e.size = 1) ∧ ∃ ns : List Int, es = ns.map (fun n => V.u n) ∧ bs = ns.map fun n => n.toNat.toUInt8
  | [], bs, h => by simp [bytesOf] at h; subst h; exact ⟨by simp, [], rfl, rfl⟩
  | e :: es, bs, h => by
    unfold bytesOf at h
    split at h
    · rename_i hh; cases hh
    · rename_i n l hh
      cases hh
      split at h
      · rename_i bs' hbs
        obtain rfl := Option.some.inj h
        obtain ⟨h1, ns, rfl, rfl⟩ := bytes_ints (φ := φ) (St := St) (w := w) hbs
        refine ⟨?_, n :: ns, rfl, rfl⟩
        intro e he
        rcases List.mem_cons.1 he with rfl | he
        · rfl
        · exact h1 e he
      · cases h
    · cases h

theorem foldl_push : ∀ (ns : List Int) (acc : ByteArray), ns.foldl (fun r n => r.push (UInt8.ofNat n.toNat)) acc = ⟨acc.data ++ (ns.map fun n => n.toNat.toUInt8).toArray⟩
  | [], acc => by cases acc; simp
  | n :: ns, acc => by
    rw [List.foldl_cons, foldl_push ns]
    simp [ByteArray.push]

theorem op_sb {src dst e : TypeId} {x : Operand} (ho : o.op = .convert src dst x) (hs : P.underlying src = some (.slice e)) (he : P.underlying e = some (.int .u8)) (hd : P.underlying dst = some .string) {x' : O} (hx : toO x = some x')
    (q : WR φ St Mine w s.H s.nx) (env : EnvR φ St w s.e act.tmps)
    {ca : V → List V → S → Option (V × S)} (h : opA ca s (.sb x') = some (v, s')) : OpTo φ St Mine w s v s' ((execOp act.eval o).run P w) := by
  have rx := rep_toO env hx
  simp only [opA] at h
  split at h
  case h_2 => cases h
  rename_i es hes
  split at h
  case h_2 => cases h
  rename_i bs hbs
  obtain ⟨rfl, rfl⟩ := Prod.mk.inj (Option.some.inj h)
  obtain ⟨h1, ns, rfl, rfl⟩ := bytes_ints (φ := φ) (St := St) (w := w) hbs
  obtain ⟨a, c, e1, h2⟩ := elems_spec q rx hes h1
  have fin : (Conv.bytesToString (.slice a (ns.map (fun n => V.u n)).length c)).run P w = .ok (.string ⟨(ns.map fun n => n.toNat.toUInt8).toArray⟩) w → OpTo φ St Mine w s (.s ⟨(ns.map fun n => n.toNat.toUInt8).toArray⟩) s ((execOp act.eval o).run P w) := by
    intro hrun
    have : (execOp act.eval o).run P w = .ok (.value (.string ⟨(ns.map fun n => n.toNat.toUInt8).toArray⟩)) w := by
      unfold execOp
      rw [ho]
      refine run_v ?_
      rw [e1, run_convert_bytes_string w src dst e _ _ _ hs he hd]
      exact hrun
    rw [this]
    exact OpTo.pure q (by simp [Rep])
  refine fin ?_
  have hrun := fun (ad : Addr) (hl : (loadCells ad ns.length).run P w = .ok (ns.map (Value.int .u8)).toArray w) => run_bytesToString (P := P) w ad ns.length c ns hl
  have hfold := foldl_push ns ByteArray.empty
  have hemp : (ByteArray.empty.data ++ (ns.map fun n => n.toNat.toUInt8).toArray) = (ns.map fun n => n.toNat.toUInt8).toArray := by
    show #[] ++ _ = _
    simp
  rw [hemp] at hfold
  rcases h2 with h2 | ⟨β, off, rfl, h2⟩
  · have : ns = [] := by simpa using h2
    subst this
    cases a with
    | none => rfl
    | some ad => simpa [hfold] using hrun ad (by simp [loadCells, loadCellsFrom])
  · rw [List.length_map]
    rw [← hfold]
    refine hrun _ (run_loadCells _ (by simp) fun j u hj => ?_)
    rw [List.getElem?_map] at hj
    obtain ⟨n, hn, rfl⟩ := Option.map_eq_some_iff.1 hj
    obtain ⟨u, hu, hru⟩ := RepC_get (h2 j (V.u n) (by rw [List.getElem?_map, hn]; rfl)) (j := 0) (c := V.u n) rfl
    simp only [Rep] at hru
    subst hru
    simpa using hu

/-! ### append -/

/-- What append makes when there is no room. -/
abbrev Grown (w : World) (need old : Nat) (e : TypeId) (cs : Array Value) (z : Array Value) : World :=
  Push { w with drawn := w.drawn + 1 } (.cells (cs ++ Builtin.zeroCells z (grownCap w need old e - need)) e)

theorem run_ap_grow {t u ty e e' : TypeId} {i : TypeInfo} {z : Value} (ht : P.underlying t = some (.slice e)) (hu : P.underlying u = some (.slice e')) (hi : P.info? e = some i) (hz : i.zero = some z)
    {a b : Option Addr} {sLen sCap n c : Nat} {olds news : Array Value} (ho : ∀ w', w'.heap = w.heap → (Builtin.firstCells i.size sLen (.slice a sLen sCap)).run P w' = .ok olds w')
    (hn : ∀ w', w'.heap = w.heap → (Builtin.firstCells i.size n (.slice b n c)).run P w' = .ok news w') (hg : sCap < sLen + n) (hl : sLen + n ≤ LIM) (hb : i.bytes ≤ 1024) :
    (Builtin.append_ #[t, u] ty #[.slice a sLen sCap, .slice b n c]).run P w = .ok (.slice (some ⟨w.heap.size, 0, none⟩) (sLen + n) (grownCap w (sLen + n) sCap e)) (Grown w (sLen + n) sCap e (olds ++ news) z.cells) := by
  have hl' : sLen + n ≤ 2 ^ 36 := hl
  have h48 : Builtin.nextslicecap (sLen + n) sCap * i.bytes ≤ 281474976710656 := growslice_fits hg (by
    have : (sLen + n) * i.bytes ≤ 2 ^ 36 * 1024 := Nat.mul_le_mul hl' hb
    simp only [Nat.reducePow, Nat.reduceMul] at this; omega)
  have hng : ¬ (sLen + n ≤ sCap) := by omega
  have h63' : ¬ (9223372036854775807 < ((sLen : Int) + (n : Int))) := by omega
  have h48' : ¬ (281474976710656 < Builtin.nextslicecap (sLen + n) sCap * i.bytes) := by omega
  have ho' := ho w.drew rfl
  have hn' := hn w.drew rfl
  simp [Builtin.append_, run_underlying ht, run_underlying hu, sizeOf, typeInfo, zeroValue, hi, hz, Builtin.lenOf, hng, h63', h48', Question.forced, ho', hn', newRow, grownCap]

theorem run_ap_room {t u ty e e' : TypeId} {i : TypeInfo} (ht : P.underlying t = some (.slice e)) (hu : P.underlying u = some (.slice e')) (hi : P.info? e = some i)
    {a b : Option Addr} {sLen sCap n c : Nat} {news : Array Value} (hn : (Builtin.firstCells i.size n (.slice b n c)).run P w = .ok news w) (hg : sLen + n ≤ sCap)
    {w' : World} (hst : ∀ ad, a = some ad → (storeCells (ad.add (sLen * i.size)) news.toList).run P w = .ok () w') (hnone : a = none → w' = w) :
    (Builtin.append_ #[t, u] ty #[.slice a sLen sCap, .slice b n c]).run P w = .ok (.slice a (sLen + n) sCap) w' := by
  cases a with
  | none => rw [hnone rfl]; simp [Builtin.append_, run_underlying ht, run_underlying hu, sizeOf, typeInfo, hi, Builtin.lenOf, hg, hn]
  | some ad => simp [Builtin.append_, run_underlying ht, run_underlying hu, sizeOf, typeInfo, hi, Builtin.lenOf, hg, hn, hst ad rfl]

theorem run_az_grow {t u ty e : TypeId} {k0 k : IntKind} {i : TypeInfo} {z : Value} (ht : P.underlying t = some (.slice e)) (hu : P.underlying u = some (.int k0)) (hi : P.info? e = some i) (hz : i.zero = some z)
    {a : Option Addr} {sLen sCap n : Nat} {olds : Array Value} (ho : ∀ w', w'.heap = w.heap → (Builtin.firstCells i.size sLen (.slice a sLen sCap)).run P w' = .ok olds w')
    (hg : sCap < sLen + n) (hl : sLen + n ≤ LIM) (hb : i.bytes ≤ 1024) (hs : n * i.size ≠ 0) :
    (Builtin.append_ #[t, u] ty #[.slice a sLen sCap, .int k n]).run P w = .ok (.slice (some ⟨w.heap.size, 0, none⟩) (sLen + n) (grownCap w (sLen + n) sCap e)) (Grown w (sLen + n) sCap e (olds ++ Builtin.zeroCells z.cells n) z.cells) := by
  have hl' : sLen + n ≤ 2 ^ 36 := hl
  have h48 : Builtin.nextslicecap (sLen + n) sCap * i.bytes ≤ 281474976710656 := growslice_fits hg (by
    have : (sLen + n) * i.bytes ≤ 2 ^ 36 * 1024 := Nat.mul_le_mul hl' hb
    simp only [Nat.reducePow, Nat.reduceMul] at this; omega)
  have hw : IntKind.i64.wrap (n : Int) = n := IntWalk.i64_in _ (by omega)
  have hnb : ¬ ((n : Int) * i.bytes > 2 ^ 48) := by
    have : n * i.bytes ≤ 2 ^ 36 * 1024 := Nat.mul_le_mul (by omega) hb
    have h2 : (n : Int) * i.bytes = ((n * i.bytes : Nat) : Int) := by push_cast; rfl
    rw [h2]; omega
  have hng : ¬ (sLen + n ≤ sCap) := by omega
  have h63' : ¬ (9223372036854775807 < ((sLen : Int) + (n : Int))) := by omega
  have h48' : ¬ (281474976710656 < Builtin.nextslicecap (sLen + n) sCap * i.bytes) := by omega
  have ho' := ho w.drew rfl
  have hnb' : ¬ (281474976710656 < (n : Int) * i.bytes) := by omega
  have hs' : ¬ (n * i.size = 0) := hs
  have hneg : ¬ ((n : Int) < 0) := by omega
  simp [Builtin.append_, run_underlying ht, run_underlying hu, sizeOf, typeInfo, zeroValue, hi, hz, hng, h63', h48', Question.forced, ho', newRow, grownCap, asInt, asIntOf, hw, hnb', hs', hneg]

abbrev Drawn (w : World) (d : Nat) : World := { w with drawn := d }

theorem stp_drawn {w : World} {d : Nat} : Stp St Mine w (Drawn w d) := ⟨rfl, rfl, rfl, Nat.le_refl _, fun _ _ _ => rfl, fun _ _ => rfl, fun _ _ h => h⟩
theorem WR.drawn {H : Nat → Option Blk} {nx d : Nat} (q : WR φ St Mine w H nx) : WR φ St Mine (Drawn w d) H nx := q.later stp_drawn fun _ _ _ _ _ _ _ => rfl
theorem Rep.drawn {v : V} {m : Value} {d : Nat} (r : Rep φ St w v m) : Rep φ St (Drawn w d) v m := Rep.mono (fun _ _ h => h) (fun _ h => h) (stp_drawn (Mine := fun _ => True)).stab (fun _ _ h => h) v m r

/-- A block of the frame under a new name. -/
theorem WR.move {H : Nat → Option Blk} {nx b β o' off : Nat} {B : Blk} (q : WR φ St Mine w H nx) (hB : H b = some B) (hf : B.fr = false) (hp : φ b = some (β, o', B.k)) (hoff : off ≤ B.es.length) :
    WR (upd φ nx (some (β, o' + off * B.k, B.k))) St Mine w (upd (upd H b none) nx (some { k := B.k, es := B.es.drop off })) (nx + 1) := by
  have hbn : b < nx := by
    rcases Nat.lt_or_ge b nx with h | h
    · exact h
    · rw [q.bnd b h] at hB; cases hB
  have hφ : ∀ b x, φ b = some x → upd φ nx (some (β, o' + off * B.k, B.k)) b = some x := fun b x hx => by
    rw [upd_ne]; · exact hx
    rintro rfl; rw [q.dom b (Nat.le_refl _)] at hx; cases hx
  rcases q.blk b B hB with ⟨_, h1⟩ | ⟨β', o'', h1, h2, h3, h4, h5, h6⟩
  · rw [h1] at hp; cases hp
  rw [h1] at hp; cases hp
  have key : ∀ {b' : Nat} {C : Blk}, b' ≠ nx → upd (upd H b none) nx (some { k := B.k, es := B.es.drop off }) b' = some C → H b' = some C ∧ b' ≠ b := by
    intro b' C hne hC
    rw [upd_ne _ _ hne] at hC
    by_cases e : b' = b
    · subst e; rw [upd_same] at hC; cases hC
    · rw [upd_ne _ _ e] at hC; exact ⟨hC, e⟩
  refine ⟨fun b' hb => ?_, fun b' hb => ?_, fun b' C hC => ?_, ?_, ?_, q.stB, q.mine⟩
  · rw [upd_ne _ _ (by omega), upd_ne _ _ (by omega)]; exact q.bnd b' (by omega)
  · rw [upd_ne _ _ (by omega)]; exact q.dom b' (by omega)
  · by_cases e : b' = nx
    · subst e
      rw [upd_same] at hC
      obtain rfl := Option.some.inj hC
      refine .inr ⟨β, o' + off * B.k, upd_same _ _ _, fun _ => h2 hf, fun h => (by simp at h), h4.mono ?_, fun e he => h5 e (List.mem_of_mem_drop he), fun i e hi => ?_⟩
      · have h7 : B.es.length * B.k = off * B.k + (B.es.length - off) * B.k := by rw [← Nat.add_mul]; congr 1; omega
        simp only [List.length_drop]
        omega
      · simp only [List.getElem?_drop] at hi
        have := h6 _ e hi
        rw [Nat.add_mul, ← Nat.add_assoc] at this
        exact RepC.mono hφ (fun _ h => h) (fun _ _ => rfl) (fun _ _ h => h) (fun _ => rfl) _ _ this
    · obtain ⟨hC', _⟩ := key e hC
      exact BlkOK.mono hφ (fun hn => by rw [upd_ne _ _ e]; exact hn) (fun _ _ => rfl) (fun _ _ h => h) (fun _ _ _ _ => rfl) (q.blk b' C hC')
  · intro b1 b2 B1 B2 β1 o1 k1 o2 k2 h1' h2' p1 p2
    by_cases e1 : b1 = nx <;> by_cases e2 : b2 = nx
    · rw [e1, e2]
    · subst e1
      rw [upd_same] at p1; cases p1
      obtain ⟨c2, n2⟩ := key e2 h2'
      rw [upd_ne _ _ e2] at p2
      exact absurd (q.inj b2 b B2 B β o2 k2 o' B.k c2 hB p2 h1) n2
    · subst e2
      rw [upd_same] at p2; cases p2
      obtain ⟨c1, n1⟩ := key e1 h1'
      rw [upd_ne _ _ e1] at p1
      exact absurd (q.inj b1 b B1 B β o1 k1 o' B.k c1 hB p1 h1) n1
    · obtain ⟨c1, _⟩ := key e1 h1'
      obtain ⟨c2, _⟩ := key e2 h2'
      rw [upd_ne _ _ e1] at p1; rw [upd_ne _ _ e2] at p2
      exact q.inj b1 b2 B1 B2 β1 o1 k1 o2 k2 c1 c2 p1 p2
  · intro b1 B1 β1 o1 k1 hb1 p1
    by_cases e1 : b1 = nx
    · subst e1
      rw [upd_same] at p1; cases p1
      exact q.own b B β o' B.k hB h1
    · obtain ⟨c1, _⟩ := key e1 hb1
      rw [upd_ne _ _ e1] at p1
      exact q.own b1 B1 β1 o1 k1 c1 p1

theorem splice_length (l : List V) (i : Nat) (xs : List V) (h : i ≤ l.length) : (splice l i xs).length = max l.length (i + xs.length) := by
  simp [splice]; omega

theorem splice_get {l : List V} {i : Nat} {xs : List V} (h : i ≤ l.length) (x : Nat) : (splice l i xs)[x]? = if i ≤ x ∧ x < i + xs.length then xs[x - i]? else l[x]? := by
  unfold splice
  rw [List.append_assoc, List.getElem?_append]
  simp only [List.length_take, Nat.min_eq_left h]
  by_cases h1 : x < i
  · rw [if_pos h1, if_neg (by omega), List.getElem?_take, if_pos h1]
  · rw [if_neg h1, List.getElem?_append]
    by_cases h2 : x - i < xs.length
    · rw [if_pos h2, if_pos (by omega)]
    · rw [if_neg h2, if_neg (by omega), List.getElem?_drop]
      congr 1; omega

/-- Elements written into a block, from element number 'at' on, perhaps beyond its end, where there is room. -/
theorem WR.splice {H : Nat → Option Blk} {nx b at_ β o' : Nat} {B : Blk} {src : List V} {news : List Value} (q : WR φ St Mine w H nx) (hB : H b = some B) (hf : B.fr = false) (hp : φ b = some (β, o', B.k))
    (hat : at_ ≤ B.es.length) (hroom : Room w β (o' + (at_ + src.length) * B.k)) (hs : ∀ e ∈ src, e.size = B.k) (hn : news.length = src.length * B.k)
    (hc : ∀ (i : Nat) e, src[i]? = some e → ∀ (j : Nat) c, (cellsOf e)[j]? = some c → ∃ u, news[i * B.k + j]? = some u ∧ Rep φ St w c u) :
    WR φ St Mine (setCells w β (o' + at_ * B.k) news) (upd H b (some { B with es := Am.splice B.es at_ src })) nx ∧ Stp St Mine w (setCells w β (o' + at_ * B.k) news) := by
  rcases q.blk b B hB with ⟨_, h1⟩ | ⟨β', o'', h1, h2, h3, h4, h5, h6⟩
  · rw [h1] at hp; cases hp
  rw [h1] at hp; cases hp
  have hst : Stp St Mine w (setCells w β (o' + at_ * B.k) news) := stp_setCells (h2 hf) (q.own b B β o' B.k hB h1)
  have hown : Own w β (o' + (max B.es.length (at_ + src.length)) * B.k) := by
    obtain ⟨cs, ty, c1, c2⟩ := h4
    obtain ⟨cs', ty', fz, d1, d2⟩ := hroom
    rw [c1] at d1
    obtain ⟨rfl, rfl, rfl⟩ := Obj.cells.inj (Option.some.inj d1)
    refine ⟨cs, ty, c1, ?_⟩
    rcases Nat.le_total B.es.length (at_ + src.length) with h | h
    · rw [Nat.max_eq_right h]; exact d2
    · rw [Nat.max_eq_left h]; exact c2
  have hle : o' + at_ * B.k + news.length ≤ o' + (max B.es.length (at_ + src.length)) * B.k := by
    rw [hn, Nat.add_assoc, ← Nat.add_mul]
    exact Nat.add_le_add_left (Nat.mul_le_mul_right _ (Nat.le_max_right _ _)) _
  refine ⟨q.write hB h1 hst (fun β' hne _ => setCells_ne hne _ _ _) rfl hf (h2 hf) ?_ ?_ ?_, hst⟩
  · rw [show (Am.splice B.es at_ src).length = max B.es.length (at_ + src.length) from splice_length _ _ _ hat]
    exact setCells_own hown
  · intro e he
    unfold Am.splice at he
    simp only [List.mem_append] at he
    rcases he with (he | he) | he
    · exact h5 e (List.mem_of_mem_take he)
    · exact hs e he
    · exact h5 e (List.mem_of_mem_drop he)
  · intro i e hi
    simp only at hi
    rw [splice_get hat] at hi
    rw [RepC_iff]
    intro j c hj
    rw [setCells_cel hown hle]
    have hjk : j < B.k := by
      have h7 := (List.getElem?_eq_some_iff.1 hj).1
      rw [size_cellsOf] at h7
      split at hi
      · rwa [hs e (List.mem_of_getElem? hi)] at h7
      · rwa [h5 e (List.mem_of_getElem? hi)] at h7
    split at hi
    · rename_i hin
      obtain ⟨d, rfl⟩ : ∃ d, i = at_ + d := ⟨i - at_, by omega⟩
      rw [show at_ + d - at_ = d by omega] at hi
      obtain ⟨u, hu, hru⟩ := hc d e hi j c hj
      have hlt := (List.getElem?_eq_some_iff.1 hu).1
      refine ⟨u, ?_, Rep.mono (fun _ _ h => h) (fun _ h => h) hst.stab hst.room c u hru⟩
      rw [Nat.add_mul, if_pos (by omega), show o' + (at_ * B.k + d * B.k) + j - (o' + at_ * B.k) = d * B.k + j by omega]
      exact hu
    · rename_i hin
      obtain ⟨u, hu, hru⟩ := RepC_get (h6 i e hi) hj
      refine ⟨u, ?_, Rep.mono (fun _ _ h => h) (fun _ h => h) hst.stab hst.room c u hru⟩
      rw [if_neg]
      · exact hu
      · intro hh
        rcases Nat.lt_or_ge i at_ with h8 | h8
        · have := mul_lt_place h8 hjk; omega
        · have h9 : at_ + src.length ≤ i := by omega
          have : (at_ + src.length) * B.k ≤ i * B.k := Nat.mul_le_mul_right _ h9
          rw [Nat.add_mul, ← hn] at this
          omega

end Go.Am
