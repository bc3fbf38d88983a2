/- The A-machine, part 8: the other operations that neither call nor append. -/
import Derived.Test.YthpaolkonlhjfaaAm7
set_option linter.all false
namespace Go.Am
variable {P : Program} {φ : Phi} {St Mine : Nat → Prop} {w : World} {s : S} {act : Act} {o : Oper} {v : V} {s' : S}

theorem run_binOp {op : BinOp} {t : TypeId} {x y z : Value} (h : abin op x y = some z) : (binOp op t x y).run P w = .ok z w := by
  unfold abin at h
  split at h
  · rename_i k a k' b
    split at h
    · split at h
      · cases h
      · rename_i hb; obtain rfl := Option.some.inj h
        simp only [binOp, Op.shift, if_neg hb]; rfl
    · split at h
      · cases h
      · rename_i hb; obtain rfl := Option.some.inj h
        simp only [binOp, Op.shift, if_neg hb]; rfl
    · split at h
      · rename_i n1 n2 hk
        subst hk
        unfold aint at h
        cases op <;> simp only [reduceCtorEq] at h n1 n2 <;> simp only [binOp, Op.intArith, Op.intDiv, Op.intBits, Op.intCmp, ne_eq, not_true, if_false] <;> first
          | (obtain rfl := Option.some.inj h; rfl)
          | (split at h
             · cases h
             · rename_i hb; obtain rfl := Option.some.inj h; rw [if_neg hb]; rfl)
          | exact absurd rfl (n1 rfl)
          | exact absurd rfl (n2 rfl)
      · cases h
  · rename_i a b
    split at h
    · split at h
      · cases h
      · rename_i hb; obtain rfl := Option.some.inj h
        simp only [binOp, Op.stringOp, if_neg hb]; rfl
    · obtain rfl := Option.some.inj h; simp only [binOp, Op.stringOp]; rfl
    · obtain rfl := Option.some.inj h; simp only [binOp, Op.stringOp]; rfl
    · cases h
  · cases h

theorem abin_guard {op : BinOp} {t : TypeId} {X Y : Operand} {x y z : Value} (h : abin op x y = some z) : eqGuard op t X Y x y = pure () := by
  unfold abin at h
  split at h
  · exact eqGuard_at_int ..
  · exact eqGuard_at_string ..
  · cases h

theorem op_bi {op : BinOp} {t t' : TypeId} {x y : Operand} (ho : o.op = .binOp op t x y t') {x' y' : O} (hx : toO x = some x') (hy : toO y = some y') (q : WR φ St Mine w s.H s.nx) (env : EnvR φ St w s.e act.tmps)
    {ca : V → List V → S → Option (V × S)} (h : opA ca s (.bi op x' y') = some (v, s')) : OpTo φ St Mine w s v s' ((execOp act.eval o).run P w) := by
  have rx := rep_toO env hx
  have ry := rep_toO env hy
  simp only [opA] at h
  split at h
  · rename_i a b ha hb
    rw [ha] at rx; rw [hb] at ry
    simp only [Rep] at rx ry
    simp only [Option.map_eq_some_iff] at h
    obtain ⟨z, hz, h⟩ := h
    obtain ⟨rfl, rfl⟩ := Prod.mk.inj h
    have : (execOp act.eval o).run P w = .ok (.value z) w := by
      unfold execOp
      rw [ho]
      refine run_v ?_
      rw [rx, ry, run_bind, abin_guard hz, run_pure]
      exact run_binOp hz
    rw [this]
    exact OpTo.pure q (by simp [Rep])
  · cases h

theorem op_be {op : BinOp} {neg : Bool} {t t' : TypeId} {x y : Operand} (ho : o.op = .binOp op t x y t') (hop : op = if neg then .neq else .eql) (ht : P.underlying t = some .bool) {x' y' : O} (hx : toO x = some x') (hy : toO y = some y') (q : WR φ St Mine w s.H s.nx) (env : EnvR φ St w s.e act.tmps)
    {ca : V → List V → S → Option (V × S)} (h : opA ca s (.be neg x' y') = some (v, s')) : OpTo φ St Mine w s v s' ((execOp act.eval o).run P w) := by
  have rx := rep_toO env hx
  have ry := rep_toO env hy
  simp only [opA] at h
  split at h
  · rename_i a b ha hb
    rw [ha] at rx; rw [hb] at ry
    simp only [Rep] at rx ry
    obtain ⟨rfl, rfl⟩ := Prod.mk.inj (Option.some.inj h)
    have he : (Op.equal t (.bool a) (.bool b)).run P w = .ok (a == b) w := by
      unfold Op.equal Op.maxDepth Op.equalIn
      rw [run_bind, run_underlying ht]
      rfl
    have : (execOp act.eval o).run P w = .ok (.value (.bool (if neg then !(a == b) else a == b))) w := by
      unfold execOp
      rw [ho]
      refine run_v ?_
      rw [rx, ry, run_bind, eqGuard_at_bool, run_pure, hop]
      cases neg <;> simp only [binOp, Bool.false_eq_true, if_false, if_true] <;> rw [run_bind, he] <;> rfl
    rw [this]
    exact OpTo.pure q (by simp [Rep])
  · cases h

theorem op_un {op : UnOp} {t : TypeId} {x : Operand} (ho : o.op = .unOp op t x) {x' : O} (hx : toO x = some x') (q : WR φ St Mine w s.H s.nx) (env : EnvR φ St w s.e act.tmps)
    {ca : V → List V → S → Option (V × S)} (h : opA ca s (.un op x') = some (v, s')) : OpTo φ St Mine w s v s' ((execOp act.eval o).run P w) := by
  have rx := rep_toO env hx
  simp only [opA] at h
  split at h
  · rename_i a ha
    rw [ha] at rx
    simp only [Rep] at rx
    simp only [Option.map_eq_some_iff] at h
    obtain ⟨z, hz, h⟩ := h
    obtain ⟨rfl, rfl⟩ := Prod.mk.inj h
    have : (execOp act.eval o).run P w = .ok (.value z) w := by
      unfold execOp
      rw [ho]
      refine run_v ?_
      rw [rx]
      unfold aun at hz
      split at hz
      · obtain rfl := Option.some.inj hz; rfl
      · obtain rfl := Option.some.inj hz; rfl
      · cases hz
    rw [this]
    exact OpTo.pure q (by simp [Rep])
  · cases h

theorem op_cv {src dst : TypeId} {x : Operand} {k0 k : IntKind} (ho : o.op = .convert src dst x) (hs : P.underlying src = some (.int k0)) (hd : P.underlying dst = some (.int k)) {x' : O} (hx : toO x = some x') (q : WR φ St Mine w s.H s.nx) (env : EnvR φ St w s.e act.tmps)
    {ca : V → List V → S → Option (V × S)} (h : opA ca s (.cv k x') = some (v, s')) : OpTo φ St Mine w s v s' ((execOp act.eval o).run P w) := by
  have rx := rep_toO env hx
  simp only [opA] at h
  split at h
  · rename_i k1 n ha
    rw [ha] at rx
    simp only [Rep] at rx
    obtain ⟨rfl, rfl⟩ := Prod.mk.inj (Option.some.inj h)
    have : (execOp act.eval o).run P w = .ok (.value (.int k (k.wrap n))) w := by
      unfold execOp
      rw [ho]
      refine run_v ?_
      rw [rx]
      unfold convert
      rw [run_bind, run_underlying hs]
      simp only
      rw [run_bind, run_underlying hd]
      rfl
    rw [this]
    exact OpTo.pure q (by simp [Rep])
  · cases h

theorem fldsOk_get {P : Program} : ∀ {l : List Field} {i0 j : Nat} {f : Field}, fldsOk P i0 l = true → l[j]? = some f → f.offset = i0 + j ∧ (∃ i, P.info? f.type = some i ∧ i.size = 1) ∧ ∃ d, P.underlying f.type = some d ∧ leafDesc d = true
  | [], _, _, _, _, h => by simp at h
  | g :: l, i0, j, f, hf, hj => by
    simp only [fldsOk, Bool.and_eq_true, beq_iff_eq] at hf
    obtain ⟨⟨⟨h1, h2⟩, h2'⟩, h3⟩ := hf
    cases j with
    | zero =>
      simp only [List.getElem?_cons_zero, Option.some.injEq] at hj
      subst hj
      refine ⟨by omega, ?_, ?_⟩
      · split at h2
        · rename_i i hi; exact ⟨i, hi, by simpa using h2⟩
        · cases h2
      · split at h2'
        · rename_i d hd; exact ⟨d, hd, h2'⟩
        · cases h2'
    | succ j =>
      obtain ⟨h4, h5⟩ := fldsOk_get (j := j) h3 (by simpa using hj)
      exact ⟨by omega, h5⟩

theorem RepL.cell {φ : Phi} {St : Nat → Prop} {w : World} {cs : List V} {ms : List Value} (h : RepL φ St w cs ms) {j : Nat} {c : V} (hj : cs[j]? = some c) : ∃ m, ms.toArray[j]? = some m ∧ Rep φ St w c m := by
  obtain ⟨m, hm, hr⟩ := h.get hj
  exact ⟨m, by simpa using hm, hr⟩

theorem run_isAgg_leaf {t : TypeId} {d : TypeDesc} (h : P.underlying t = some d) (hl : leafDesc d = true) (w : World) : (isAgg t).run P w = .ok false w := by
  unfold isAgg
  rw [run_bind, run_underlying h]
  cases d <;> simp [leafDesc] at hl <;> rfl

/-- A field of a struct's value, if it is of one cell. -/
theorem op_fd {t : TypeId} {x : Operand} {n j : Nat} (ho : o.op = .field t x j) (ht : shp P t = some (some n)) (hn : j < n) {x' : O} (hx : toO x = some x') (q : WR φ St Mine w s.H s.nx) (env : EnvR φ St w s.e act.tmps)
    {ca : V → List V → S → Option (V × S)} (h : opA ca s (.fd j x') = some (v, s')) : OpTo φ St Mine w s v s' ((execOp act.eval o).run P w) := by
  have rx := rep_toO env hx
  simp only [opA] at h
  split at h
  · rename_i cs ha
    rw [ha] at rx
    simp only [Rep] at rx
    obtain ⟨ms, e, hr⟩ := rx
    simp only [Option.map_eq_some_iff] at h
    obtain ⟨c, hc, h⟩ := h
    obtain ⟨rfl, rfl⟩ := Prod.mk.inj h
    obtain ⟨i, d, h1, h2, h3, _, _, h6, _⟩ := shp_spec ht
    obtain ⟨fs, rfl, h7, h8⟩ := h6 n rfl
    have hj : fs[j]? = some fs[j] := by simp
    obtain ⟨h9, _, d', h10, h11⟩ := fldsOk_get h8 (j := j) (f := fs[j]) (by simp)
    obtain ⟨m, hm, hrm⟩ := hr.cell hc
    have : (execOp act.eval o).run P w = .ok (.value m) w := by
      unfold execOp
      rw [ho]
      refine run_v ?_
      rw [e]
      unfold Instr.field
      rw [run_bind, run_underlying h2]
      simp only [hj]
      simp only [asAgg, pure_bind]
      unfold part
      rw [run_bind, run_isAgg_leaf h10 h11]
      simp only [Bool.false_eq_true, if_false, h9, Nat.zero_add, hm]
      rfl
    rw [this]
    exact OpTo.pure q hrm
  · cases h

theorem run_sizeOf_info {t : TypeId} {i : TypeInfo} (h : P.info? t = some i) (w : World) : (sizeOf t).run P w = .ok i.size w := by
  unfold sizeOf
  rw [run_bind, run_typeInfo h]
  rfl

theorem op_fa {t : TypeId} {x : Operand} {n j : Nat} (ho : o.op = .fieldAddr t x j) (ht : shp P t = some (some n)) (hn : j < n) {x' : O} (hx : toO x = some x') (q : WR φ St Mine w s.H s.nx) (env : EnvR φ St w s.e act.tmps)
    {ca : V → List V → S → Option (V × S)} (h : opA ca s (.fa j x') = some (v, s')) : OpTo φ St Mine w s v s' ((execOp act.eval o).run P w) := by
  have rx := rep_toO env hx
  obtain ⟨i, d, h1, h2, h3, _, _, h6, _⟩ := shp_spec ht
  obtain ⟨fs, rfl, h7, h8⟩ := h6 n rfl
  have hj : fs[j]? = some fs[j] := by simp
  obtain ⟨h9, ⟨i', h10, h11⟩, _⟩ := fldsOk_get h8 (j := j) (f := fs[j]) (by simp)
  have key : ∀ β off, act.eval x = .pointer (some ⟨β, off, none⟩) → (execOp act.eval o).run P w = .ok (.value (.pointer (some ⟨β, off + j, none⟩))) w := by
    intro β off e
    unfold execOp
    rw [ho]
    refine run_v ?_
    rw [e]
    unfold Instr.fieldAt
    rw [run_bind, run_underlying h2]
    simp only [hj, Instr.sureAddr, pure_bind]
    unfold fieldPlace
    rw [run_bind, run_bind, run_sizeOf_info h10]
    simp only [h11, h9, Nat.zero_add, addr_add]
    rfl
  simp only [opA] at h
  split at h
  · rename_i cs ha
    rw [ha] at rx
    simp only [Rep] at rx
    rw [RO_rp] at rx
    obtain ⟨β, off, e, hb, hr⟩ := rx
    obtain ⟨c, hc, h⟩ := Option.bind_eq_some_iff.1 h
    split at h
    · rename_i hok
      obtain ⟨rfl, rfl⟩ := Prod.mk.inj (Option.some.inj h)
      rw [key β off e]
      refine OpTo.pure q ?_
      simp only [Rep]
      rw [RO_rp]
      obtain ⟨u, hu, hru⟩ := ROC_get (show ROC St w β off cs from hr) hc
      rw [okc_cells hok]
      exact ⟨β, off + j, rfl, hb, ⟨u, hu, hru⟩, trivial⟩
    · cases h
  · rename_i b i2 ha
    rw [ha] at rx
    simp only [Rep] at rx
    obtain ⟨β, o', k, hp, e⟩ := rx
    obtain ⟨rfl, rfl⟩ := Prod.mk.inj (Option.some.inj h)
    rw [key _ _ e]
    refine OpTo.pure q ?_
    simp only [Rep]
    exact ⟨β, o', k, hp, rfl⟩
  · cases h

theorem sliceShp_spec {t : TypeId} {q : Option Nat} (h : sliceShp P t = some q) : ∃ e, P.underlying t = some (.slice e) ∧ shp P e = some q := by
  unfold sliceShp at h
  split at h
  · rename_i e he; exact ⟨e, he, h⟩
  · cases h

theorem asI_rep {φ : Phi} {St : Nat → Prop} {w : World} {v : V} {m : Value} {n : Int} (h : asI v = some n) (r : Rep φ St w v m) : ∃ k, m = .int k n := by
  unfold asI at h
  split at h
  · rename_i k n'; obtain rfl := Option.some.inj h
    simp only [Rep] at r
    exact ⟨k, r⟩
  · cases h

theorem op_ia {t : TypeId} {x i : Operand} {q' : Option Nat} (ho : o.op = .indexAddr t x i) (ht : sliceShp P t = some q') {x' i' : O} (hx : toO x = some x') (hi : toO i = some i') (q : WR φ St Mine w s.H s.nx) (env : EnvR φ St w s.e act.tmps)
    {ca : V → List V → S → Option (V × S)} (h : opA ca s (.ia q' x' i') = some (v, s')) : OpTo φ St Mine w s v s' ((execOp act.eval o).run P w) := by
  have rx := rep_toO env hx
  have ri := rep_toO env hi
  obtain ⟨e, h1, h2⟩ := sliceShp_spec ht
  have key : ∀ (β off n c : Nat) (k : IntKind) (z : Int), act.eval x = .slice (some ⟨β, off, none⟩) n c → act.eval i = .int k z → 0 ≤ z → z < n →
      (execOp act.eval o).run P w = .ok (.value (.pointer (some ⟨β, off + z.toNat * ksz q', none⟩))) w := by
    intro β off n c k z e1 e2 hz hn
    unfold execOp
    rw [ho]
    refine run_v ?_
    rw [e1, e2]
    unfold Instr.indexAt
    simp only [asIntOf, pure_bind]
    simp only [run_bind, run_underlying h1, run_pure, if_pos (show 0 ≤ z ∧ z < (n : Int) from ⟨hz, hn⟩), run_sizeOf h2, addr_add]
  simp only [opA] at h
  split at h
  · rename_i z es hz hv
    rw [hv] at rx
    obtain ⟨k, ez⟩ := asI_rep hz ri
    simp only [Rep, RO] at rx
    obtain ⟨a, c, e1, hc, rx⟩ := rx
    split at h
    · rename_i el hel
      split at hel
      · rename_i hz0
        split at h
        · rename_i hsz
          obtain ⟨rfl, rfl⟩ := Prod.mk.inj (Option.some.inj h)
          have hlt : z.toNat < es.length := (List.getElem?_eq_some_iff.1 hel).1
          rcases rx with rfl | ⟨β, o', k', rfl, hb, hk, hr⟩
          · simp at hlt
          rw [key β o' _ c k z e1 ez hz0 (by omega)]
          refine OpTo.pure q ?_
          simp only [Rep]
          rw [RO_rp]
          have := ROE_get hr hk hel
          have hkk : k' = ksz q' := by rw [← hsz]; exact (hk el (List.mem_of_getElem? hel)).symm
          rw [hkk] at this
          exact ⟨β, _, rfl, hb, this⟩
        · cases h
      · cases hel
    · cases h
  · rename_i z b off n c hz hv
    rw [hv] at rx
    obtain ⟨k, ez⟩ := asI_rep hz ri
    simp only [Rep] at rx
    obtain ⟨a, c', e1, hc1, hc2, rx⟩ := rx
    split at h
    · rename_i B hB
      split at h
      · rename_i hcond
        obtain ⟨g1, g2, g3⟩ := hcond
        obtain ⟨rfl, rfl⟩ := Prod.mk.inj (Option.some.inj h)
        rcases rx with rfl | ⟨β, o', k', hp, rfl, _⟩
        · omega
        rw [key β _ n c' k z e1 ez g1 g2]
        refine OpTo.pure q ?_
        have hk' : k' = ksz q' := by
          rcases q.blk b B hB with ⟨_, g4⟩ | ⟨_, _, g4, _⟩
          · rw [g4] at hp; cases hp
          · rw [g4] at hp; cases hp; exact g3
        simp only [Rep]
        exact ⟨β, o', k', hp, by rw [← hk', Nat.add_mul]; simp [Nat.add_assoc]⟩
      · cases h
    · cases h
  · cases h

theorem op_ix {t : TypeId} {x i : Operand} (ho : o.op = .index t x i) (ht : P.underlying t = some .string) {x' i' : O} (hx : toO x = some x') (hi : toO i = some i') (q : WR φ St Mine w s.H s.nx) (env : EnvR φ St w s.e act.tmps)
    {ca : V → List V → S → Option (V × S)} (h : opA ca s (.ix x' i') = some (v, s')) : OpTo φ St Mine w s v s' ((execOp act.eval o).run P w) := by
  have rx := rep_toO env hx
  have ri := rep_toO env hi
  simp only [opA] at h
  split at h
  · rename_i z str hz hv
    rw [hv] at rx
    obtain ⟨k, ez⟩ := asI_rep hz ri
    simp only [Rep] at rx
    split at h
    · rename_i b hb
      obtain ⟨rfl, rfl⟩ := Prod.mk.inj (Option.some.inj h)
      have : (execOp act.eval o).run P w = .ok (.value (.int .u8 b.toNat)) w := by
        unfold execOp
        rw [ho]
        refine run_v ?_
        rw [rx, ez]
        unfold Instr.index
        simp only [asIntOf, pure_bind]
        rw [run_bind, run_underlying ht]
        simp only [hb]
        rfl
      rw [this]
      exact OpTo.pure q (by simp [Rep])
    · cases h
  · cases h

theorem op_et {x : Operand} {i : Nat} (ho : o.op = .extract x i) {x' : O} (hx : toO x = some x') (q : WR φ St Mine w s.H s.nx) (env : EnvR φ St w s.e act.tmps)
    {ca : V → List V → S → Option (V × S)} (h : opA ca s (.et x' i) = some (v, s')) : OpTo φ St Mine w s v s' ((execOp act.eval o).run P w) := by
  have rx := rep_toO env hx
  simp only [opA] at h
  split at h
  · rename_i vs hv
    rw [hv] at rx
    simp only [Rep] at rx
    obtain ⟨ms, e, hr⟩ := rx
    simp only [Option.map_eq_some_iff] at h
    obtain ⟨c, hc, h⟩ := h
    obtain ⟨rfl, rfl⟩ := Prod.mk.inj h
    obtain ⟨m, hm, hrm⟩ := hr.cell hc
    have : (execOp act.eval o).run P w = .ok (.value m) w := by
      unfold execOp
      rw [ho]
      refine run_v ?_
      rw [e]
      unfold Instr.extract
      simp only [hm]
      rfl
    rw [this]
    exact OpTo.pure q hrm
  · cases h

theorem map_toList {α β : Type} (a : Array α) (f : α → β) : a.map f = (a.toList.map f).toArray := by cases a; simp

theorem op_mf {f : Nat} {first caps : Array Operand} (ho : o.op = .makeFunc (.func f) first caps) (hf : first.toList = []) {xs : List O} (hx : toOs caps.toList = some xs) (q : WR φ St Mine w s.H s.nx) (env : EnvR φ St w s.e act.tmps)
    {ca : V → List V → S → Option (V × S)} (h : opA ca s (.mf f xs) = some (v, s')) : OpTo φ St Mine w s v s' ((execOp act.eval o).run P w) := by
  have rx := rep_toOs env hx
  simp only [opA] at h
  split at h
  · obtain ⟨rfl, rfl⟩ := Prod.mk.inj (Option.some.inj h)
    have h0 : first = #[] := by simpa using hf
    have : (execOp act.eval o).run P w = .ok (.value (.func (.func f) #[] (caps.toList.map act.eval).toArray)) w := by
      unfold execOp
      rw [ho]
      refine run_v ?_
      unfold Instr.makeFunc
      subst h0
      rw [run_pure, map_toList caps, show (#[] : Array Operand).map act.eval = #[] by simp]
    rw [this]
    refine OpTo.pure q ?_
    simp only [Rep]
    exact ⟨_, rfl, rx⟩
  · cases h

theorem run_builtin_v {b : Builtin} {ts : Array TypeId} {ty : TypeId} {cs : Array Bool} {args : Array Value} {x : Sem Value} (hb : builtin b ts ty cs args = (do pure (Next.value (← x)))) {m : Value} {w' : World} (h : x.run P w = .ok m w') :
    (builtin b ts ty cs args).run P w = .ok (.value m) w' := by
  rw [hb]; exact run_v h

theorem exec_builtin {cal : Call} {b : Builtin} (ho : o.op = .call cal) (hc : cal.callee = .builtin b) :
    execOp act.eval o = builtin b cal.argTypes o.type (cal.args.map fun | .const _ => true | _ => false) (cal.args.map act.eval) := by
  unfold execOp
  rw [ho]
  simp only [resolve, hc, pure_bind, invoke]
  rfl

theorem arr1 {α : Type} {a : Array α} {x : α} (h : a.toList = [x]) : a = #[x] := by
  cases a; simp at h; simp [h]
theorem arr2 {α : Type} {a : Array α} {x y : α} (h : a.toList = [x, y]) : a = #[x, y] := by
  cases a; simp at h; simp [h]

theorem op_ln {x : Operand} {t e : TypeId} {cal : Call} (ho : o.op = .call cal) (hc : cal.callee = .builtin .len) (ha : cal.args.toList = [x]) (hat : cal.argTypes.toList = [t])
    (ht : P.underlying t = some (.slice e)) {x' : O} (hx : toO x = some x') (q : WR φ St Mine w s.H s.nx) (env : EnvR φ St w s.e act.tmps)
    {ca : V → List V → S → Option (V × S)} (h : opA ca s (.ln x') = some (v, s')) : OpTo φ St Mine w s v s' ((execOp act.eval o).run P w) := by
  have rx := rep_toO env hx
  simp only [opA] at h
  split at h
  case h_2 => cases h
  rename_i n hn
  obtain ⟨rfl, rfl⟩ := Prod.mk.inj (Option.some.inj h)
  have key : ∃ a c, act.eval x = .slice a n c := by
    unfold vlen at hn
    split at hn
    · rename_i es hv; obtain rfl := Option.some.inj hn
      rw [hv] at rx; simp only [Rep, RO] at rx; obtain ⟨a, c, e, _⟩ := rx; exact ⟨a, c, e⟩
    · rename_i b off n' c hv; obtain rfl := Option.some.inj hn
      rw [hv] at rx; simp only [Rep] at rx; obtain ⟨a, c, e, _⟩ := rx; exact ⟨a, c, e⟩
    · rename_i hv; obtain rfl := Option.some.inj hn
      rw [hv] at rx; simp only [Rep] at rx; obtain ⟨a, e⟩ := rx; exact ⟨a, 0, e⟩
    · cases hn
  obtain ⟨a, c, e1⟩ := key
  have : (execOp act.eval o).run P w = .ok (.value (.int .i64 n)) w := by
    rw [exec_builtin ho hc, arr1 ha, arr1 hat]
    refine run_v ?_
    unfold Builtin.len_
    simp only [List.map_toArray, List.map_cons, List.map_nil, List.getElem?_toArray, List.getElem?_cons_zero, e1]
    rw [run_bind, run_underlying ht]
    rfl
  rw [this]
  exact OpTo.pure q (by simp [Rep])

theorem op_ls {x : Operand} {t : TypeId} {cal : Call} (ho : o.op = .call cal) (hc : cal.callee = .builtin .len) (ha : cal.args.toList = [x]) (hat : cal.argTypes.toList = [t])
    (ht : P.underlying t = some .string) {x' : O} (hx : toO x = some x') (q : WR φ St Mine w s.H s.nx) (env : EnvR φ St w s.e act.tmps)
    {ca : V → List V → S → Option (V × S)} (h : opA ca s (.ls x') = some (v, s')) : OpTo φ St Mine w s v s' ((execOp act.eval o).run P w) := by
  have rx := rep_toO env hx
  simp only [opA] at h
  split at h
  · rename_i str hv
    rw [hv] at rx
    simp only [Rep] at rx
    obtain ⟨rfl, rfl⟩ := Prod.mk.inj (Option.some.inj h)
    have : (execOp act.eval o).run P w = .ok (.value (.int .i64 str.size)) w := by
      rw [exec_builtin ho hc, arr1 ha, arr1 hat]
      refine run_v ?_
      unfold Builtin.len_
      simp only [List.map_toArray, List.map_cons, List.map_nil, List.getElem?_toArray, List.getElem?_cons_zero, rx]
      rw [run_bind, run_underlying ht]
      rfl
    rw [this]
    exact OpTo.pure q (by simp [Rep])
  · cases h

theorem op_mm {mx : Bool} {cal : Call} (ho : o.op = .call cal) (hc : cal.callee = .builtin (if mx then .max else .min)) {xs : List O} (hx : toOs cal.args.toList = some xs) (q : WR φ St Mine w s.H s.nx) (env : EnvR φ St w s.e act.tmps)
    {ca : V → List V → S → Option (V × S)} (h : opA ca s (.mm mx xs) = some (v, s')) : OpTo φ St Mine w s v s' ((execOp act.eval o).run P w) := by
  have rx := rep_toOs env hx
  have em : cal.args.map act.eval = (cal.args.toList.map act.eval).toArray := map_toList _ _
  simp only [opA] at h
  generalize cal.args.toList.map act.eval = ms at rx em
  have hrun : ∀ z, (∀ ts ty, (if mx then Builtin.max_ ts ty ms.toArray else Builtin.min_ ts ty ms.toArray).run P w = .ok z w) → (execOp act.eval o).run P w = .ok (.value z) w := by
    intro z hz
    rw [exec_builtin ho hc, em]
    cases mx
    · exact run_v (by simpa using hz _ _)
    · exact run_v (by simpa using hz _ _)
  split at h
  · rename_i a b hv
    rw [hv] at rx
    simp only [RepL, Rep] at rx
    obtain ⟨_, _, rfl, rfl, _, _, rfl, rfl, rfl⟩ := rx
    obtain ⟨rfl, rfl⟩ := Prod.mk.inj (Option.some.inj h)
    rw [hrun (.int .i64 (mmx mx a b)) fun ts ty => by cases mx <;> simp [Builtin.max_, Builtin.min_, Builtin.max2, Builtin.min2, mmx]]
    exact OpTo.pure q (by simp [Rep])
  · rename_i a b c hv
    rw [hv] at rx
    simp only [RepL, Rep] at rx
    obtain ⟨_, _, rfl, rfl, _, _, rfl, rfl, _, _, rfl, rfl, rfl⟩ := rx
    obtain ⟨rfl, rfl⟩ := Prod.mk.inj (Option.some.inj h)
    rw [hrun (.int .i64 (mmx mx (mmx mx a b) c)) fun ts ty => by cases mx <;> simp [Builtin.max_, Builtin.min_, Builtin.max2, Builtin.min2, mmx]]
    exact OpTo.pure q (by simp [Rep])
  · cases h

end Go.Am
