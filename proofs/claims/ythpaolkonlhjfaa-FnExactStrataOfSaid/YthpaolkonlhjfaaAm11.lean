/- The A-machine, part 11: append. -/
import Derived.Test.YthpaolkonlhjfaaAm10
set_option linter.all false
namespace Go.Am
variable {P : Program} {φ : Phi} {St Mine : Nat → Prop} {w : World} {s : S} {act : Act} {o : Oper} {v : V} {s' : S}

/-- What the machine does at an append, whatever is appended (news: its cells). -/
structure ApRun (P : Program) (w : World) (k n : Nat) (news : List Value) (mx : Value) (R : Result Next) : Prop where
  room : ∀ a sLen sCap w', mx = .slice a sLen sCap → sLen + n ≤ sCap → (∀ ad, a = some ad → (storeCells (ad.add (sLen * k)) news).run P w = .ok () w') → (a = none → w' = w) → R = .ok (.value (.slice a (sLen + n) sCap)) w'
  grow : ∀ a sLen sCap (olds : Array Value), mx = .slice a sLen sCap → sCap < sLen + n → sLen + n ≤ LIM → (∀ w', w'.heap = w.heap → (Builtin.firstCells k sLen (.slice a sLen sCap)).run P w' = .ok olds w') →
    ∃ (cap : Nat) (rest : Array Value) (ty : TypeId) (d : Nat), sLen + n ≤ cap ∧ rest.size = (cap - (sLen + n)) * k ∧ R = .ok (.value (.slice (some ⟨w.heap.size, 0, none⟩) (sLen + n) cap)) (Push (Drawn w d) (.cells (olds ++ news.toArray ++ rest) ty))

theorem OpTo.after {w1 : World} {r : Result Next} (h : Stp St Mine w w1) (k : OpTo φ St Mine w1 s v s' r) : OpTo φ St Mine w s v s' r := by
  obtain ⟨m, w', φ', h1, h2, h3, h4, h5, h6, h7⟩ := k
  exact ⟨m, w', φ', h1, h2, h3, h4, h5, h6, h.trans (fun _ h => h) h7⟩

theorem splice_end {l : List V} {i : Nat} {xs : List V} (h : i = l.length) : splice l i xs = l ++ xs := by
  subst h; simp [splice]

theorem append_sound {q' : Option Nat} {vx : V} {mx : Value} {src : List V} {news : List Value} {R : Result Next} (q : WR φ St Mine w s.H s.nx) (rx : Rep φ St w vx mx)
    (h : appendTo s q' vx src = some (v, s')) (hs : ∀ e ∈ src, e.size = ksz q') (hn : news.length = src.length * ksz q') (hok : ∀ u ∈ news, okm u = true)
    (hc : ∀ (i : Nat) e, src[i]? = some e → ∀ (j : Nat) c, (cellsOf e)[j]? = some c → ∃ u, news[i * ksz q' + j]? = some u ∧ Rep φ St w c u)
    (run : ApRun P w (ksz q') src.length news mx R) : OpTo φ St Mine w s v s' R := by
  unfold appendTo at h
  simp only at h
  split at h
  · -- a slice without capacity
    simp only [Rep] at rx
    obtain ⟨a, rfl⟩ := rx
    split at h
    · rename_i h0
      subst h0
      obtain ⟨rfl, rfl⟩ := Prod.mk.inj (Option.some.inj h)
      have hnil : news = [] := List.eq_nil_of_length_eq_zero (by simpa using hn)
      subst hnil
      rw [run.room a 0 0 w rfl (by simp) (fun ad _ => by simp [storeCells]) (fun _ => rfl)]
      exact OpTo.pure q (by simp [Rep])
    · rename_i h0
      split at h
      case isFalse => cases h
      rename_i hlim
      obtain ⟨rfl, rfl⟩ := Prod.mk.inj (Option.some.inj h)
      have hpos : 0 < src.length := by
        rcases Nat.eq_zero_or_pos src.length with h | h
        · exact absurd (List.eq_nil_of_length_eq_zero h) h0
        · exact h
      obtain ⟨cap, rest, ty, d, c1, c2, rfl⟩ := run.grow a 0 0 #[] rfl (by omega) (by omega) (fun w' _ => by cases a <;> simp [Builtin.firstCells, loadCells, loadCellsFrom])
      replace c2 : (#[] : Array Value).size + news.length + rest.size = cap * ksz q' := by
        have : cap * ksz q' = (0 + src.length) * ksz q' + (cap - (0 + src.length)) * ksz q' := by rw [← Nat.add_mul]; congr 1; omega
        rw [this, c2, hn]; simp
      refine OpTo.after (stp_drawn (d := d)) ?_
      have qd := q.drawn (d := d)
      refine ⟨_, _, upd φ s.nx (some (w.heap.size, 0, ksz q')), .inl rfl, ?_, qd.new (cs := #[] ++ news.toArray ++ rest) (ty := ty) ?_ hs ?_, rfl, ext_upd _, by simp [S.new], Stp.push qd.stB _⟩
      · simp only [Rep]
        exact ⟨some ⟨w.heap.size, 0, none⟩, cap, by simp, by omega, by omega, .inr ⟨w.heap.size, 0, _, upd_same _ _ _, by simp, ⟨_, ty, (0, 0), push_new, by simp at c2 ⊢; omega⟩⟩⟩
      · simp; omega
      · intro i e hi j c hj
        obtain ⟨u, hu, hru⟩ := hc i e hi j c hj
        refine ⟨u, ?_, hru.drawn⟩
        have := (List.getElem?_eq_some_iff.1 hu).1
        rw [Array.getElem?_append_left (by simpa using this)]
        simpa using hu
  · rename_i b off n c
    simp only [Rep] at rx
    obtain ⟨a, c', rfl, r1, r2, r3⟩ := rx
    split at h
    case h_2 => cases h
    rename_i B hB
    split at h
    case isFalse => cases h
    rename_i hcond
    obtain ⟨hk, hf, hlim⟩ := hcond
    -- writing where there is room
    have inplace : n + src.length ≤ c' → off + n ≤ B.es.length → (c' = 0 → src = []) →
        ∃ β o', φ b = some (β, o', B.k) ∧ R = .ok (.value (.slice a (n + src.length) c')) (setCells w β (o' + (off + n) * B.k) news) ∧
          WR φ St Mine (setCells w β (o' + (off + n) * B.k) news) (upd s.H b (some { B with es := splice B.es (off + n) src })) s.nx ∧ Stp St Mine w (setCells w β (o' + (off + n) * B.k) news) ∧
          a = some ⟨β, o' + off * B.k, none⟩ ∧ Room w β (o' + (off + c') * B.k) ∨
        (src = [] ∧ n = 0 ∧ c' = 0 ∧ R = .ok (.value (.slice a 0 0)) w) := by
      intro h1 h2 h3
      rcases r3 with rfl | ⟨β, o', k', hp, rfl, hroom⟩
      · have : src = [] := h3 rfl
        subst this
        refine ⟨0, 0, .inr ⟨rfl, by omega, rfl, ?_⟩⟩
        have hnil : news = [] := List.eq_nil_of_length_eq_zero (by simpa using hn)
        subst hnil
        have hn0 : n = 0 := by omega
        subst hn0
        exact run.room a 0 0 w rfl (by simp) (fun ad _ => by simp [storeCells]) (fun _ => rfl)
      · have hk' : k' = B.k := by
          rcases q.blk b B hB with ⟨_, g4⟩ | ⟨_, _, g4, _⟩
          · rw [g4] at hp; cases hp
          · rw [g4] at hp; cases hp; rfl
        subst hk'
        have hle : o' + (off + n + src.length) * B.k ≤ o' + (off + c') * B.k := Nat.add_le_add_left (Nat.mul_le_mul_right _ (by omega)) _
        obtain ⟨w1, w2⟩ := q.splice (news := news) hB hf hp h2 (hroom.mono hle) (by rw [hk]; exact hs) (by rw [hk]; exact hn) (by rw [hk]; exact hc)
        refine ⟨β, o', .inl ⟨hp, ?_, w1, w2, rfl, hroom⟩⟩
        refine run.room _ n c' _ rfl h1 (fun ad had => ?_) (fun h => by cases h)
        obtain rfl := Option.some.inj had
        rw [addr_add, ← hk]
        have e : o' + off * B.k + n * B.k = o' + (off + n) * B.k := by rw [Nat.add_mul]; omega
        rw [e]
        have hbk : ∃ cs ty, w.heap[β]? = some (.cells cs ty (0, 0)) ∧ o' + (off + c') * B.k ≤ cs.size := by
          rcases q.blk b B hB with ⟨_, g4⟩ | ⟨_, _, g4, _, _, g5, _⟩
          · rw [g4] at hp; cases hp
          · rw [g4] at hp; cases hp
            obtain ⟨cs, ty, c1, c2⟩ := g5
            obtain ⟨cs', ty', fz, d1, d2⟩ := hroom
            rw [c1] at d1
            obtain ⟨rfl, rfl, rfl⟩ := Obj.cells.inj (Option.some.inj d1)
            exact ⟨cs, ty, c1, d2⟩
        have hst := run_storeCells (P := P) (β := β) (o := o' + (off + n) * B.k) news 0 w hok (by
          refine Own.mono hbk ?_
          have : o' + (off + n) * B.k + news.length = o' + (off + n + src.length) * B.k := by rw [hn, ← hk, Nat.add_assoc, ← Nat.add_mul]
          omega)
        simpa using hst
    split at h
    · -- known room
      rename_i hc1
      split at h
      case isFalse => cases h
      rename_i hle
      obtain ⟨rfl, rfl⟩ := Prod.mk.inj (Option.some.inj h)
      obtain ⟨β, o', hh⟩ := inplace (by omega) hle (fun h0 => List.eq_nil_of_length_eq_zero (by omega))
      rcases hh with ⟨hp, hR, w1, w2, ha, hroom⟩ | ⟨hs0, hn0, hc0, hR⟩
      · rw [hR]
        refine ⟨_, _, φ, .inl rfl, ?_, w1, rfl, Ext.refl _ _, Nat.le_refl _, w2⟩
        simp only [Rep]
        exact ⟨_, c', rfl, by omega, by omega, .inr ⟨β, o', B.k, hp, ha, setCells_room hroom⟩⟩
      · subst hs0; subst hn0; subst hc0
        rw [hR]
        refine ⟨_, _, φ, .inl rfl, ?_, q.kill (fun b' C hC => ?_), rfl, Ext.refl _ _, Nat.le_refl _, Stp.refl _ _ _⟩
        · simp only [Rep]
          exact ⟨a, 0, by simp, by simp, by omega, .inl rfl⟩
        · by_cases e : b' = b
          · subst e
            simp only [S.blk, upd_same, Option.some.injEq] at hC
            subst hC
            rw [hB]
            congr 1
            cases B
            simp [splice]
          · simp only [S.blk] at hC
            rw [upd_ne _ _ e] at hC; exact hC
    · rename_i hc1
      split at h
      case isFalse => cases h
      rename_i hfr
      obtain ⟨rfl, rfl⟩ := Prod.mk.inj (Option.some.inj h)
      have hdrop : B.es.drop off = (B.es.drop off).take n := (List.take_of_length_le (by simp; omega)).symm
      by_cases hcap : n + src.length ≤ c'
      · -- the machine writes in place
        obtain ⟨β, o', hh⟩ := inplace hcap (by omega) (fun h0 => by omega)
        rcases hh with ⟨hp, hR, w1, w2, ha, hroom⟩ | ⟨hs0, hn0, hc0, hR⟩
        · rw [hR]
          have w3 := w1.move (b := b) (off := off) (upd_same _ _ _) hf hp (by rw [show ({ B with es := splice B.es (off + n) src } : Blk).es = splice B.es (off + n) src from rfl, splice_length _ _ _ (by omega)]; omega)
          refine ⟨_, _, _, .inl rfl, ?_, w3.kill (fun b' C hC => ?_), rfl, ext_upd _, by simp [S.new, S.blk], w2⟩
          · simp only [Rep]
            refine ⟨a, c', rfl, hcap, hcap, .inr ⟨β, o' + off * B.k, B.k, upd_same _ _ _, by simpa using ha, setCells_room ?_⟩⟩
            rw [show o' + off * B.k + (0 + c') * B.k = o' + (off + c') * B.k by rw [Nat.zero_add, Nat.add_mul]; omega]
            exact hroom
          · simp only [S.new, S.blk] at hC
            by_cases e : b' = s.nx
            · subst e
              rw [upd_same] at hC ⊢
              rw [← hC, hk]
              congr 2
              rw [splice_end (by omega), List.drop_append_of_le_length (by omega)]
            · rw [upd_ne _ _ e] at hC ⊢
              by_cases e2 : b' = b
              · subst e2; rw [upd_same] at hC; cases hC
              · rw [upd_ne _ _ e2] at hC
                rw [upd_ne _ _ e2, upd_ne _ _ e2]; exact hC
        · omega
      · -- a new row
        have holds : ∃ olds : List Value, olds.length = n * ksz q' ∧ (∀ w', w'.heap = w.heap → (Builtin.firstCells (ksz q') n (.slice a n c')).run P w' = .ok olds.toArray w') ∧
            ∀ (i : Nat) e, (B.es.drop off)[i]? = some e → ∀ (j : Nat) c, (cellsOf e)[j]? = some c → ∃ u, olds[i * ksz q' + j]? = some u ∧ Rep φ St w c u := by
          rcases r3 with rfl | ⟨β, o', k', hp, rfl, hroom⟩
          · have hn0 : n = 0 := by omega
            subst hn0
            refine ⟨[], by simp, fun w' _ => by cases a <;> simp [Builtin.firstCells, loadCells, loadCellsFrom], fun i e hi => ?_⟩
            rw [hdrop] at hi; simp at hi
          · have hk' : k' = B.k := by
              rcases q.blk b B hB with ⟨_, g4⟩ | ⟨_, _, g4, _⟩
              · rw [g4] at hp; cases hp
              · rw [g4] at hp; cases hp; rfl
            subst hk'
            rcases q.blk b B hB with ⟨_, g4⟩ | ⟨β', o'', g4, _, _, _, g6, g7⟩
            · rw [g4] at hp; cases hp
            rw [g4] at hp; cases hp
            obtain ⟨olds, l1, l2, l3⟩ := row_cells (φ := φ) (St := St) (w := w) (β := β) (off := o' + off * B.k) (k := B.k) (src := B.es.drop off) (fun e he => g6 e (List.mem_of_mem_drop he)) (fun i e hi => by
              simp only [List.getElem?_drop] at hi
              have := g7 _ e hi
              rwa [Nat.add_mul, ← Nat.add_assoc] at this)
            have hlen : (B.es.drop off).length = n := by simp; omega
            rw [hlen] at l1
            refine ⟨olds, by rw [← hk]; exact l1, fun w' hw' => ?_, by rw [← hk]; exact l3⟩
            simp only [Builtin.firstCells]
            rw [← hk]
            exact run_loadCells olds l1 fun j u hj => by
              have := l2 j u hj
              unfold Cel World.cell? at this ⊢
              rw [hw']; exact this
        obtain ⟨olds, l1, l2, l3⟩ := holds
        obtain ⟨cap, rest, ty, d, c1, c2, rfl⟩ := run.grow a n c' olds.toArray rfl (by omega) hlim l2
        refine OpTo.after (stp_drawn (d := d)) ?_
        have q2 : WR φ St Mine (Drawn w d) (upd s.H b none) s.nx := (q.drawn (d := d)).kill fun b' C hC => by
          by_cases e : b' = b
          · subst e; rw [upd_same] at hC; cases hC
          · rwa [upd_ne _ _ e] at hC
        have hsz : ∀ e ∈ B.es.drop off ++ src, e.size = ksz q' := by
          intro e he
          rcases List.mem_append.1 he with he | he
          · rcases q.blk b B hB with ⟨g3, _⟩ | ⟨_, _, _, _, _, _, g6, _⟩
            · rw [g3] at he; simp at he
            · rw [← hk]; exact g6 e (List.mem_of_mem_drop he)
          · exact hs e he
        have hlen : (B.es.drop off).length = n := by simp; omega
        have hcap' : cap * ksz q' = (n + src.length) * ksz q' + rest.size := by rw [c2, ← Nat.add_mul]; congr 1; omega
        have hcap2 : cap * ksz q' = n * ksz q' + src.length * ksz q' + rest.size := by rw [hcap', Nat.add_mul]
        refine ⟨_, _, upd φ s.nx (some (w.heap.size, 0, ksz q')), .inl rfl, ?_, q2.new (cs := olds.toArray ++ news.toArray ++ rest) (ty := ty) ?_ hsz ?_, rfl, ext_upd _, by simp [S.new, S.blk], Stp.push q2.stB _⟩
        · simp only [Rep]
          exact ⟨some ⟨w.heap.size, 0, none⟩, cap, by simp, by omega, by omega, .inr ⟨w.heap.size, 0, _, upd_same _ _ _, by simp, ⟨_, ty, (0, 0), push_new, by simp [l1, hn]; omega⟩⟩⟩
        · simp only [List.length_append, hlen, Array.size_append, List.size_toArray, l1, hn]
          rw [Nat.add_mul]; omega
        · intro i e hi j c hj
          rw [List.getElem?_append] at hi
          have hjk : j < ksz q' := by
            have h7 := (List.getElem?_eq_some_iff.1 hj).1
            rw [size_cellsOf] at h7
            split at hi
            · rwa [hsz e (List.mem_append_left _ (List.mem_of_getElem? hi))] at h7
            · rwa [hs e (List.mem_of_getElem? hi)] at h7
          split at hi
          · rename_i hlt
            obtain ⟨u, hu, hru⟩ := l3 i e hi j c hj
            refine ⟨u, ?_, hru.drawn⟩
            have := (List.getElem?_eq_some_iff.1 hu).1
            rw [Array.append_assoc, Array.getElem?_append_left (by simpa using this)]
            simpa using hu
          · rename_i hge
            rw [hlen] at hi hge
            obtain ⟨u, hu, hru⟩ := hc (i - n) e hi j c hj
            refine ⟨u, ?_, hru.drawn⟩
            have h8 := (List.getElem?_eq_some_iff.1 hu).1
            have h9 : i * ksz q' + j = n * ksz q' + ((i - n) * ksz q' + j) := by
              rw [← Nat.add_assoc, ← Nat.add_mul]; congr 2; omega
            rw [Array.append_assoc, Array.getElem?_append_right (by simp [l1]; omega), Array.getElem?_append_left (by simp [l1]; omega)]
            simp only [List.size_toArray, l1, List.getElem?_toArray]
            rw [h9, show n * ksz q' + ((i - n) * ksz q' + j) - n * ksz q' = (i - n) * ksz q' + j by omega]
            exact hu
  · cases h

theorem info_zero {e : TypeId} {z : V} (h : zeroV P e = some z) : ∃ i x, P.info? e = some i ∧ i.zero = some x ∧ ∀ φ St w, Rep φ St w z x := by
  unfold zeroV at h
  split at h
  · rename_i i hi
    obtain ⟨x, hx, hz⟩ := Option.bind_eq_some_iff.1 h
    exact ⟨i, x, hi, hx, fun φ St w => rep_zV hz⟩
  · cases h

theorem zeroCells_size (z : Array Value) (n : Nat) : (Builtin.zeroCells z n).size = n * z.size := by simp [Builtin.zeroCells]

theorem op_ap {x y : Operand} {t u e' : TypeId} {cal : Call} (ho : o.op = .call cal) (hc : cal.callee = .builtin .append) (ha : cal.args.toList = [x, y]) (hat : cal.argTypes.toList = [t, u])
    {q' : Option Nat} (ht : sliceShp P t = some q') (hu : P.underlying u = some (.slice e')) {z : V} (hz : sliceZero P t = some z) (hzf : z.fits q' = true) {x' y' : O} (hx : toO x = some x') (hy : toO y = some y')
    (q : WR φ St Mine w s.H s.nx) (env : EnvR φ St w s.e act.tmps)
    {ca : V → List V → S → Option (V × S)} (h : opA ca s (.ap q' x' y') = some (v, s')) : OpTo φ St Mine w s v s' ((execOp act.eval o).run P w) := by
  have rx := rep_toO env hx
  have ry := rep_toO env hy
  obtain ⟨e, h1, h2⟩ := sliceShp_spec ht
  obtain ⟨i, d, g1, g2, g3, g4, _⟩ := shp_spec h2
  obtain ⟨i2, zz, z1, z2, z3⟩ := info_zero (P := P) (e := e) (z := z) (by unfold sliceZero at hz; rwa [h1] at hz)
  rw [g1] at z1; obtain rfl := Option.some.inj z1
  have zsz := (rep_cells hzf (z3 φ St w)).2.1
  simp only [opA] at h
  split at h
  case h_2 => cases h
  rename_i src hsrc
  split at h
  case isFalse => cases h
  rename_i hall
  have hf : ∀ e ∈ src, e.fits q' = true := by simpa only [List.all_eq_true] using hall
  have hk : ∀ e ∈ src, e.size = ksz q' := fun e he => fits_size (hf e he)
  obtain ⟨b, c, ey, hrow⟩ := elems_spec q ry hsrc hk
  have hnews : ∃ news : List Value, news.length = src.length * ksz q' ∧ (∀ w', w'.heap = w.heap → (Builtin.firstCells (ksz q') src.length (.slice b src.length c)).run P w' = .ok news.toArray w') ∧
      ∀ (i : Nat) e, src[i]? = some e → ∀ (j : Nat) c, (cellsOf e)[j]? = some c → ∃ u, news[i * ksz q' + j]? = some u ∧ Rep φ St w c u := by
    rcases hrow with rfl | ⟨β, off, rfl, hrow⟩
    · exact ⟨[], by simp, fun w' _ => by cases b <;> simp [Builtin.firstCells, loadCells, loadCellsFrom], by simp⟩
    · obtain ⟨news, l1, l2, l3⟩ := row_cells hk hrow
      refine ⟨news, l1, fun w' hw' => ?_, l3⟩
      simp only [Builtin.firstCells]
      exact run_loadCells news l1 fun j u hj => by
        have := l2 j u hj
        unfold Cel World.cell? at this ⊢
        rw [hw']; exact this
  obtain ⟨news, n1, n2, n3⟩ := hnews
  have hok : ∀ u ∈ news, okm u = true := by
    intro u hu
    obtain ⟨x, hx⟩ := List.mem_iff_getElem?.1 hu
    have hlt := (List.getElem?_eq_some_iff.1 hx).1
    have hk0 : 0 < ksz q' := by
      rcases Nat.eq_zero_or_pos (ksz q') with h0 | h0
      · rw [n1, h0] at hlt; simp at hlt
      · exact h0
    have hi : x / ksz q' < src.length := by rw [Nat.div_lt_iff_lt_mul hk0]; omega
    have hlen : x % ksz q' < (cellsOf src[x / ksz q']).length := by rw [size_cellsOf, hk _ (List.getElem_mem hi)]; exact Nat.mod_lt _ hk0
    obtain ⟨u', hu', hru⟩ := n3 _ _ (List.getElem?_eq_getElem hi) _ _ (List.getElem?_eq_getElem hlen)
    rw [Nat.mul_comm, Nat.div_add_mod, hx] at hu'
    obtain rfl := Option.some.inj hu'
    exact rep_okm (fits_okc (hf _ (List.getElem_mem hi)) _ (List.getElem_mem hlen)) hru
  refine append_sound (P := P) q rx h hk n1 hok n3 (ApRun.mk (P := P) ?_ ?_)
  · intro a sLen sCap w' em hle hst hnone
    rw [exec_builtin ho hc, arr2 ha, arr2 hat]
    refine run_v ?_
    simp only [List.map_toArray, List.map_cons, List.map_nil, em, ey]
    exact run_ap_room h1 hu g1 (by rw [g3]; exact n2 w rfl) hle (fun ad had => by rw [g3]; simpa using hst ad had) hnone
  · intro a sLen sCap olds em hgt hlim holds
    refine ⟨grownCap w (sLen + src.length) sCap e, Builtin.zeroCells zz.cells (grownCap w (sLen + src.length) sCap e - (sLen + src.length)), e, w.drawn + 1, grownCap_ge _ _ _ _, ?_, ?_⟩
    · rw [zeroCells_size, zsz]
    · rw [exec_builtin ho hc, arr2 ha, arr2 hat]
      refine run_v ?_
      simp only [List.map_toArray, List.map_cons, List.map_nil, em, ey]
      exact run_ap_grow h1 hu g1 z2 (by rw [g3]; exact holds) (by rw [g3]; exact n2) hgt hlim g4

theorem run_az_room {t u ty e : TypeId} {k0 k : IntKind} {i : TypeInfo} {z : Value} (ht : P.underlying t = some (.slice e)) (hu : P.underlying u = some (.int k0)) (hi : P.info? e = some i) (hz : i.zero = some z)
    {a : Option Addr} {sLen sCap n : Nat} (hg : sLen + n ≤ sCap) (hl : n ≤ LIM) (hb : i.bytes ≤ 1024) (hzs : z.cells.size = i.size)
    {w' : World} (hst : ∀ ad, a = some ad → (storeCells (ad.add (sLen * i.size)) (Builtin.zeroCells z.cells n).toList).run P w = .ok () w') (hnone : a = none → w' = w) :
    (Builtin.append_ #[t, u] ty #[.slice a sLen sCap, .int k n]).run P w = .ok (.slice a (sLen + n) sCap) w' := by
  have hl' : n ≤ 2 ^ 36 := hl
  have hw : IntKind.i64.wrap (n : Int) = n := IntWalk.i64_in _ (by omega)
  have hnb : ¬ ((n : Int) * i.bytes > 2 ^ 48) := by
    have : n * i.bytes ≤ 2 ^ 36 * 1024 := Nat.mul_le_mul (by omega) hb
    have h2 : (n : Int) * i.bytes = ((n * i.bytes : Nat) : Int) := by push_cast; rfl
    rw [h2]; omega
  have hnb' : ¬ (281474976710656 < (n : Int) * i.bytes) := by omega
  have hneg : ¬ ((n : Int) < 0) := by omega
  by_cases h0 : n * i.size = 0
  · have hnil : (Builtin.zeroCells z.cells n).toList = [] := by
      apply List.eq_nil_of_length_eq_zero
      rw [Array.length_toList, zeroCells_size, hzs, h0]
    rw [hnil] at hst
    cases a with
    | none => rw [hnone rfl]; simp [Builtin.append_, run_underlying ht, run_underlying hu, sizeOf, typeInfo, hi, hg, asInt, asIntOf, hw, hnb', hneg, h0]
    | some ad => simp [Builtin.append_, run_underlying ht, run_underlying hu, sizeOf, typeInfo, hi, hg, asInt, asIntOf, hw, hnb', hneg, h0, hst ad rfl]
  · cases a with
    | none => rw [hnone rfl]; simp [Builtin.append_, run_underlying ht, run_underlying hu, sizeOf, typeInfo, zeroValue, hz, hi, hg, asInt, asIntOf, hw, hnb', hneg, h0]
    | some ad => simp [Builtin.append_, run_underlying ht, run_underlying hu, sizeOf, typeInfo, zeroValue, hz, hi, hg, asInt, asIntOf, hw, hnb', hneg, h0, hst ad rfl]

theorem zeroCells_get {z : Array Value} {n i j : Nat} (hi : i < n) {u : Value} (hj : z[j]? = some u) : (Builtin.zeroCells z n).toList[i * z.size + j]? = some u := by
  have hjz := (Array.getElem?_eq_some_iff.1 hj).1
  have hlt : i * z.size + j < n * z.size := mul_lt_place hi hjz
  rw [Array.getElem?_toList]
  unfold Builtin.zeroCells
  rw [Array.getElem?_map, Array.getElem?_range, if_pos hlt]
  simp only [Option.map_some, Option.some.injEq]
  rw [Nat.add_comm, Nat.add_mul_mod_self_right, Nat.mod_eq_of_lt hjz, getElem!_def, hj]

theorem op_az {x y : Operand} {t u : TypeId} {k0 : IntKind} {cal : Call} (ho : o.op = .call cal) (hc : cal.callee = .builtin .append) (ha : cal.args.toList = [x, y]) (hat : cal.argTypes.toList = [t, u])
    {q' : Option Nat} (ht : sliceShp P t = some q') (hu : P.underlying u = some (.int k0)) {z : V} (hz : sliceZero P t = some z) (hzf : z.fits q' = true) {x' y' : O} (hx : toO x = some x') (hy : toO y = some y')
    (q : WR φ St Mine w s.H s.nx) (env : EnvR φ St w s.e act.tmps)
    {ca : V → List V → S → Option (V × S)} (h : opA ca s (.az q' z x' y') = some (v, s')) : OpTo φ St Mine w s v s' ((execOp act.eval o).run P w) := by
  have rx := rep_toO env hx
  have ry := rep_toO env hy
  obtain ⟨e, h1, h2⟩ := sliceShp_spec ht
  obtain ⟨i, d, g1, g2, g3, g4, _⟩ := shp_spec h2
  obtain ⟨i2, zz, z1, z2, z3⟩ := info_zero (P := P) (e := e) (z := z) (by unfold sliceZero at hz; rwa [h1] at hz)
  rw [g1] at z1; obtain rfl := Option.some.inj z1
  obtain ⟨zc1, zsz, zok⟩ := rep_cells hzf (z3 φ St w)
  simp only [opA] at h
  split at h
  case h_2 => cases h
  rename_i k n hn
  rw [hn] at ry
  simp only [Rep] at ry
  split at h
  case isFalse => cases h
  rename_i hcond
  obtain ⟨c1, c2, _, c4⟩ := hcond
  obtain ⟨n, rfl⟩ := Int.eq_ofNat_of_zero_le (Int.le_of_lt c1)
  simp only [Int.toNat_natCast] at h
  have hlim : n ≤ LIM := by omega
  have hk : ∀ e ∈ List.replicate n z, e.size = ksz q' := fun e he => by rw [List.eq_of_mem_replicate he]; exact fits_size hzf
  refine append_sound (P := P) (news := (Builtin.zeroCells zz.cells n).toList) q rx h hk (by rw [Array.length_toList, zeroCells_size, zsz]; simp) ?_ ?_ (ApRun.mk (P := P) ?_ ?_)
  · intro u hu
    simp only [Array.mem_toList_iff, Builtin.zeroCells, Array.mem_map, Array.mem_range] at hu
    obtain ⟨x, hx, rfl⟩ := hu
    have hpos : 0 < zz.cells.size := by rw [zsz]; exact c4
    have hm := Nat.mod_lt x hpos
    rw [getElem!_def, Array.getElem?_eq_getElem hm]
    exact zok _ (by simp)
  · intro i e hi j c hj
    rw [List.getElem?_replicate] at hi
    split at hi
    case isFalse => cases hi
    rename_i hlt
    obtain rfl := Option.some.inj hi
    obtain ⟨u, hu, hru⟩ := zc1.get hj
    refine ⟨u, ?_, hru⟩
    rw [← zsz]
    exact zeroCells_get hlt (by simpa using hu)
  · intro a sLen sCap w' em hle hst hnone
    rw [List.length_replicate] at hle ⊢
    rw [exec_builtin ho hc, arr2 ha, arr2 hat]
    refine run_v ?_
    simp only [List.map_toArray, List.map_cons, List.map_nil, em, ry]
    exact run_az_room h1 hu g1 z2 hle hlim g4 (by rw [g3]; exact zsz) (fun ad had => by rw [g3]; exact hst ad had) hnone
  · intro a sLen sCap olds em hgt hlim' holds
    rw [List.length_replicate] at hgt hlim' ⊢
    refine ⟨grownCap w (sLen + n) sCap e, Builtin.zeroCells zz.cells (grownCap w (sLen + n) sCap e - (sLen + n)), e, w.drawn + 1, grownCap_ge _ _ _ _, ?_, ?_⟩
    · rw [zeroCells_size, zsz]
    · by_cases hn0 : n * i.size = 0
      · -- nothing is appended: then there is room, or the slice is too long for its capacity
        rcases Nat.mul_eq_zero.1 hn0 with h0 | h0
        · omega
        · rw [g3] at h0; omega
      · rw [exec_builtin ho hc, arr2 ha, arr2 hat]
        refine run_v ?_
        simp only [List.map_toArray, List.map_cons, List.map_nil, em, ry]
        have := run_az_grow (P := P) (w := w) (ty := o.type) (k := k) h1 hu g1 z2 (by rw [g3]; exact holds) hgt hlim' g4 hn0
        simpa using this

theorem op_cr {x : Operand} {t : TypeId} {cal : Call} (ho : o.op = .call cal) (hc : cal.callee = .builtin .clear) (ha : cal.args.toList = [x]) (hat : cal.argTypes.toList = [t])
    {q' : Option Nat} (ht : sliceShp P t = some q') {z : V} (hz : sliceZero P t = some z) {x' : O} (hx : toO x = some x') (q : WR φ St Mine w s.H s.nx) (env : EnvR φ St w s.e act.tmps)
    {ca : V → List V → S → Option (V × S)} (h : opA ca s (.cr q' z x') = some (v, s')) : OpTo φ St Mine w s v s' ((execOp act.eval o).run P w) := by
  have rx := rep_toO env hx
  obtain ⟨e, h1, h2⟩ := sliceShp_spec ht
  obtain ⟨i, d, g1, g2, g3, g4, _⟩ := shp_spec h2
  obtain ⟨i2, zz, z1, z2, z3⟩ := info_zero (P := P) (e := e) (z := z) (by unfold sliceZero at hz; rwa [h1] at hz)
  rw [g1] at z1; obtain rfl := Option.some.inj z1
  have fin : ∀ {w' : World}, (Builtin.clear_ #[t] o.type #[act.eval x]).run P w = .ok (.tuple #[]) w' → (execOp act.eval o).run P w = .ok (.value (.tuple #[])) w' := by
    intro w' hw
    rw [exec_builtin ho hc, arr1 ha, arr1 hat]
    refine run_v ?_
    simp only [List.map_toArray, List.map_cons, List.map_nil]
    exact hw
  have empty : ∀ {a : Option Addr} {c : Nat}, act.eval x = .slice a 0 c → (execOp act.eval o).run P w = .ok (.value (.tuple #[])) w := by
    intro a c e1
    refine fin ?_
    rw [e1]
    cases a <;> simp [Builtin.clear_, run_underlying h1]
  simp only [opA] at h
  split at h
  · rename_i hv
    rw [hv] at rx
    simp only [Rep] at rx
    obtain ⟨a, rx⟩ := rx
    obtain ⟨rfl, rfl⟩ := Prod.mk.inj (Option.some.inj h)
    rw [empty rx]
    exact OpTo.pure q (by simp [Rep, undef])
  · rename_i b off n c hv
    rw [hv] at rx
    simp only [Rep] at rx
    obtain ⟨a, c', e1, r1, r2, r3⟩ := rx
    split at h
    case h_2 => cases h
    rename_i B hB
    split at h
    case isFalse => cases h
    rename_i hcond
    obtain ⟨hf, hk, hzf, hle⟩ := hcond
    obtain ⟨rfl, rfl⟩ := Prod.mk.inj (Option.some.inj h)
    obtain ⟨zc1, zsz, zok⟩ := rep_cells hzf (z3 φ St w)
    rcases Nat.eq_zero_or_pos n with hn0 | hpos
    · subst hn0
      rw [empty e1]
      refine ⟨_, _, φ, .inl rfl, by simp [Rep, undef], q.kill (fun b' C hC => ?_), rfl, Ext.refl _ _, Nat.le_refl _, Stp.refl _ _ _⟩
      by_cases e : b' = b
      · subst e
        simp only [upd_same, Option.some.injEq] at hC
        subst hC
        rw [hB]
        congr 1
        cases B
        simp [splice]
      · simp only at hC
        rw [upd_ne _ _ e] at hC; exact hC
    · rcases r3 with rfl | ⟨β, o', k', hp, rfl, hroom⟩
      · omega
      have hk' : k' = B.k := by
        rcases q.blk b B hB with ⟨_, g4⟩ | ⟨_, _, g4, _⟩
        · rw [g4] at hp; cases hp
        · rw [g4] at hp; cases hp; rfl
      subst hk'
      have hlen : (Builtin.zeroCells zz.cells n).toList.length = (List.replicate n z).length * B.k := by rw [Array.length_toList, zeroCells_size, zsz, hk]; simp
      have hok : ∀ u ∈ (Builtin.zeroCells zz.cells n).toList, okm u = true := by
        intro u hu
        simp only [Array.mem_toList_iff, Builtin.zeroCells, Array.mem_map, Array.mem_range] at hu
        obtain ⟨y, hy, rfl⟩ := hu
        have hp0 : 0 < zz.cells.size := by
          rcases Nat.eq_zero_or_pos zz.cells.size with h0 | h0
          · rw [h0] at hy; simp at hy
          · exact h0
        have hm := Nat.mod_lt y hp0
        rw [getElem!_def, Array.getElem?_eq_getElem hm]
        exact zok _ (by simp)
      have hle2 : o' + (off + n) * B.k ≤ o' + (off + c') * B.k := Nat.add_le_add_left (Nat.mul_le_mul_right _ (by omega)) _
      obtain ⟨w1, w2⟩ := q.splice (at_ := off) (src := List.replicate n z) (news := (Builtin.zeroCells zz.cells n).toList) hB hf hp (by omega) (hroom.mono (by simpa using hle2))
        (fun e he => by rw [List.eq_of_mem_replicate he, hk]; exact fits_size hzf) hlen (by
          intro i e hi j c hj
          rw [List.getElem?_replicate] at hi
          split at hi
          case isFalse => cases hi
          rename_i hlt
          obtain rfl := Option.some.inj hi
          obtain ⟨u, hu, hru⟩ := zc1.get hj
          refine ⟨u, ?_, hru⟩
          rw [hk, ← zsz]
          exact zeroCells_get hlt (by simpa using hu))
      have hbk : ∃ cs ty, w.heap[β]? = some (.cells cs ty (0, 0)) ∧ o' + (off + c') * B.k ≤ cs.size := by
        rcases q.blk b B hB with ⟨_, g4⟩ | ⟨_, _, g4, _, _, g5, _⟩
        · rw [g4] at hp; cases hp
        · rw [g4] at hp; cases hp
          obtain ⟨cs, ty, c1, c2⟩ := g5
          obtain ⟨cs', ty', fz, d1, d2⟩ := hroom
          rw [c1] at d1
          obtain ⟨rfl, rfl, rfl⟩ := Obj.cells.inj (Option.some.inj d1)
          exact ⟨cs, ty, c1, d2⟩
      have hst := run_storeCells (P := P) (β := β) (o := o' + off * B.k) (Builtin.zeroCells zz.cells n).toList 0 w hok (by
        refine Own.mono hbk ?_
        rw [hlen, List.length_replicate]
        have : o' + off * B.k + n * B.k = o' + (off + n) * B.k := by rw [Nat.add_mul]; omega
        omega)
      have hrun : (execOp act.eval o).run P w = .ok (.value (.tuple #[])) (setCells w β (o' + off * B.k) (Builtin.zeroCells zz.cells n).toList) := by
        refine fin ?_
        rw [e1]
        obtain ⟨m, rfl⟩ : ∃ m, n = m + 1 := ⟨n - 1, by omega⟩
        simp only [Nat.add_zero] at hst
        simp [Builtin.clear_, run_underlying h1, zeroValue, typeInfo, g1, z2, hst]
      rw [hrun]
      exact ⟨_, _, φ, .inl rfl, by simp [Rep, undef], w1, rfl, Ext.refl _ _, Nat.le_refl _, w2⟩
  · cases h

theorem op_cp {x : Operand} {t : TypeId} {cal : Call} (ho : o.op = .call cal) (hc : cal.callee = .builtin .cap) (ha : cal.args.toList = [x]) (hat : cal.argTypes.toList = [t])
    {q' : Option Nat} (ht : sliceShp P t = some q') {x' : O} (hx : toO x = some x') (q : WR φ St Mine w s.H s.nx) (env : EnvR φ St w s.e act.tmps)
    {ca : V → List V → S → Option (V × S)} (h : opA ca s (.cp x') = some (v, s')) : OpTo φ St Mine w s v s' ((execOp act.eval o).run P w) := by
  have rx := rep_toO env hx
  obtain ⟨e, h1, _⟩ := sliceShp_spec ht
  simp only [opA] at h
  split at h
  · rename_i hv
    rw [hv] at rx
    simp only [Rep] at rx
    obtain ⟨a, rx⟩ := rx
    obtain ⟨rfl, rfl⟩ := Prod.mk.inj (Option.some.inj h)
    have : (execOp act.eval o).run P w = .ok (.value (.int .i64 0)) w := by
      rw [exec_builtin ho hc, arr1 ha, arr1 hat]
      refine run_v ?_
      simp [Builtin.cap_, run_underlying h1, rx, goInt]
    rw [this]
    exact OpTo.pure q (by simp [Rep])
  · cases h

/-! ### All operations but calls -/

/-- An operation that does not call. -/
theorem op_sound (h : opA (fun _ _ _ => none) s (compA P o.op) = some (v, s')) (q : WR φ St Mine w s.H s.nx) (env : EnvR φ St w s.e act.tmps) : OpTo φ St Mine w s v s' ((execOp act.eval o).run P w) := by
  have no : ∀ {ca : V → List V → S → Option (V × S)}, opA ca s .no = some (v, s') → OpTo φ St Mine w s v s' ((execOp act.eval o).run P w) := by
    intro ca h; simp [opA] at h
  cases ho : o.op <;> rw [ho] at h <;> simp only [compA] at h
  case move x => split at h
                 · rename_i y hy; simp only [opA] at h; obtain ⟨rfl, rfl⟩ := Prod.mk.inj (Option.some.inj h); exact op_mv (.inl ho) hy q env
                 · exact no h
  case assign x => split at h
                   · rename_i y hy; simp only [opA] at h; obtain ⟨rfl, rfl⟩ := Prod.mk.inj (Option.some.inj h); exact op_mv (.inr ho) hy q env
                   · exact no h
  case pick c a b => split at h
                     · exact op_pk ho ‹_› ‹_› ‹_› q env h
                     · exact no h
  case alloc t => split at h
                  · exact op_al ho ‹_› q h
                  · exact no h
  case box t x => split at h
                  · exact op_bx ho ‹_› q env h
                  · exact no h
  case load t x => split at h
                   · exact op_ld ho ‹_› ‹_› q env h
                   · exact no h
  case store t p x => split at h
                      · exact op_so ho ‹_› ‹_› ‹_› q env h
                      · exact no h
  case binOp op t x y u => split at h
                           · exact op_bi ho ‹_› ‹_› q env h
                           · exact op_bi ho ‹_› ‹_› q env h
                           · split at h
                             · exact op_be ho rfl ‹_› ‹_› ‹_› q env h
                             · exact op_be ho rfl ‹_› ‹_› ‹_› q env h
                             · exact no h
                           · exact no h
  case unOp op t x => split at h
                      · exact op_un ho ‹_› q env h
                      · exact no h
  case convert src dst x => split at h
                            · exact op_cv ho ‹_› ‹_› ‹_› q env h
                            · split at h
                              · exact op_sb ho ‹_› ‹_› ‹_› ‹_› q env h
                              · exact no h
                            · exact no h
  case field t x j => split at h
                      · split at h
                        · exact op_fd ho ‹_› ‹_› ‹_› q env h
                        · exact no h
                      · exact no h
  case fieldAddr t x j => split at h
                          · split at h
                            · exact op_fa ho ‹_› ‹_› ‹_› q env h
                            · exact no h
                          · exact no h
  case indexAddr t x i => split at h
                          · exact op_ia ho ‹_› ‹_› ‹_› q env h
                          · exact no h
  case index t x i => split at h
                      · exact op_ix ho ‹_› ‹_› ‹_› q env h
                      · exact no h
  case slice t x lo hi mx =>
    split at h
    · split at h
      · split at h
        · have hmx := toOo_none ‹toOo mx = some none›
          subst hmx
          exact op_ss ho ‹_› ‹_› ‹_› ‹_› q env h
        · exact no h
      · split at h
        · exact op_sc ho ‹_› ‹_› ‹_› ‹_› ‹_› ‹_› q env h
        · exact no h
      · exact no h
    · exact no h
  case buildSlice t n ps => split at h
                            · split at h
                              · rename_i hc; exact op_bs ho ‹_› ‹_› hc.1 hc.2 ‹_› q env h
                              · exact no h
                            · exact no h
  case build t ps => split at h
                     · split at h
                       · rename_i hc; exact op_bd ho ‹_› ‹_› ‹_› hc.2 hc.1 q env h
                       · exact no h
                     · exact no h
  case makeSlice t l c => split at h
                          · exact op_ms ho ‹_› ‹_› ‹_› ‹_› q env h
                          · exact no h
  case makeFunc fn first caps =>
    cases fn <;> simp only at h
    case func f =>
      split at h
      · exact op_mf ho ‹_› ‹_› q env h
      · exact no h
    all_goals exact no h
  case call cal =>
    obtain ⟨callee, args, ats⟩ := cal
    cases callee with
    | value f =>
      simp only at h
      split at h
      · simp [opA] at h
      · exact no h
    | invoke r m => exact no h
    | builtin b =>
      cases b <;> simp only at h
      case append =>
        split at h
        · split at h
          · split at h
            · split at h
              · exact op_ap ho rfl ‹_› ‹_› ‹_› ‹_› ‹_› ‹_› ‹_› ‹_› q env h
              · exact no h
            · exact no h
          · split at h
            · split at h
              · exact op_az ho rfl ‹_› ‹_› ‹_› ‹_› ‹_› ‹_› ‹_› ‹_› q env h
              · exact no h
            · exact no h
          · exact no h
        · exact no h
      case len =>
        split at h
        · split at h
          · exact op_ls ho rfl ‹_› ‹_› ‹_› ‹_› q env h
          · exact op_ln ho rfl ‹_› ‹_› ‹_› ‹_› q env h
          · exact no h
        · exact no h
      case clear =>
        split at h
        · split at h
          · exact op_cr ho rfl ‹_› ‹_› ‹_› ‹_› ‹_› q env h
          · exact no h
        · exact no h
      case cap =>
        split at h
        · split at h
          · exact op_cp ho rfl ‹_› ‹_› ‹_› ‹_› q env h
          · exact no h
        · exact no h
      case max => split at h
                  · exact op_mm (mx := true) ho rfl ‹_› q env h
                  · exact no h
      case min => split at h
                  · exact op_mm (mx := false) ho rfl ‹_› q env h
                  · exact no h
      all_goals exact no h
  case extract x i => split at h
                      · exact op_et ho ‹_› q env h
                      · exact no h
  all_goals exact no h

end Go.Am
