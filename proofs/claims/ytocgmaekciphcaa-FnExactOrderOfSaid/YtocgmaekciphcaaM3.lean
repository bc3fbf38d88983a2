/-
  A machine of trees and its soundness over the model, part 3.
-/
import Derived.Test.YtocgmaekciphcaaM2
set_option linter.all false
/- The A-machine, part 11: append. -/
namespace Go.Am
variable {P : Program} {φ : Phi} {St Mine : Nat → Prop} {w : World} {s : S} {act : Act} {o : Oper} {v : V} {s' : S}

/-- What the machine does at an append, whatever is appended (news: its cells). -/
structure ApRun (P : Program) (w : World) (k n : Nat) (news : List Value) (mx : Value) (R : Result Next) : Prop where
  room : ∀ a sLen sCap w', mx = .slice a sLen sCap → sLen + n ≤ sCap → (∀ ad, a = some ad → (storeCells (ad.add (sLen * k)) news).run P w = .ok () w') → (a = none → w' = w) → R = .ok (.value (.slice a (sLen + n) sCap)) w'
  grow : ∀ a sLen sCap (olds : Array Value), mx = .slice a sLen sCap → sCap < sLen + n → sLen + n ≤ LIM → (∀ w', w'.heap = w.heap → (Builtin.firstCells k sLen (.slice a sLen sCap)).run P w' = .ok olds w') →
    ∃ (cap : Nat) (rest : Array Value) (ty : TypeId) (d : Nat), sLen + n ≤ cap ∧ rest.size = (cap - (sLen + n)) * k ∧ R = .ok (.value (.slice (some ⟨w.heap.size, 0, none⟩) (sLen + n) cap)) (Push (Drawn w d) (.cells (olds ++ news.toArray ++ rest) ty))

theorem OpTo.after {w1 : World} {r : Result Next} (h : Stp St Mine w w1) (k : OpTo φ St Mine w1 s v s' r) : OpTo φ St Mine w s v s' r := by
  obtain ⟨m, w', φ', h1, h2, h3, h4, h5, h6, h7⟩ := k
  exact ⟨m, w', φ', h1, h2, h3, h4, h5, h6, h.trans (fun _ h => h) h7⟩

theorem splice_end {l : List V} {i : Nat} {xs : List V} (h : i = l.length) : splice l i xs = l ++ xs := by
  subst h; simp [splice]

theorem append_sound {q' : Option Nat} {vx : V} {mx : Value} {src : List V} {news : List Value} {R : Result Next} (q : WR φ St Mine w s.H s.nx) (rx : Rep φ St w vx mx)
    (h : appendTo s q' vx src = some (v, s')) (hs : ∀ e ∈ src, e.size = ksz q') (hn : news.length = src.length * ksz q') (hok : ∀ u ∈ news, okm u = true)
    (hc : ∀ (i : Nat) e, src[i]? = some e → ∀ (j : Nat) c, (cellsOf e)[j]? = some c → ∃ u, news[i * ksz q' + j]? = some u ∧ Rep φ St w c u)
    (run : ApRun P w (ksz q') src.length news mx R) : OpTo φ St Mine w s v s' R := by
  unfold appendTo at h
  simp only at h
  split at h
  · -- a slice without capacity
    simp only [Rep] at rx
    obtain ⟨a, rfl⟩ := rx
    split at h
    · rename_i h0
      subst h0
      obtain ⟨rfl, rfl⟩ := Prod.mk.inj (Option.some.inj h)
      have hnil : news = [] := List.eq_nil_of_length_eq_zero (by simpa using hn)
      subst hnil
      rw [run.room a 0 0 w rfl (by simp) (fun ad _ => by simp [storeCells]) (fun _ => rfl)]
      exact OpTo.pure q (by simp [Rep])
    · rename_i h0
      split at h
      case isFalse => cases h
      rename_i hlim
      obtain ⟨rfl, rfl⟩ := Prod.mk.inj (Option.some.inj h)
      have hpos : 0 < src.length := by
        rcases Nat.eq_zero_or_pos src.length with h | h
        · exact absurd (List.eq_nil_of_length_eq_zero h) h0
        · exact h
      obtain ⟨cap, rest, ty, d, c1, c2, rfl⟩ := run.grow a 0 0 #[] rfl (by omega) (by omega) (fun w' _ => by cases a <;> simp [Builtin.firstCells, loadCells, loadCellsFrom])
      replace c2 : (#[] : Array Value).size + news.length + rest.size = cap * ksz q' := by
        have : cap * ksz q' = (0 + src.length) * ksz q' + (cap - (0 + src.length)) * ksz q' := by rw [← Nat.add_mul]; congr 1; omega
        rw [this, c2, hn]; simp
      refine OpTo.after (stp_drawn (d := d)) ?_
      have qd := q.drawn (d := d)
      refine ⟨_, _, upd φ s.nx (some (w.heap.size, 0, ksz q')), .inl rfl, ?_, qd.new (cs := #[] ++ news.toArray ++ rest) (ty := ty) ?_ hs ?_, rfl, ext_upd _, by simp [S.new], Stp.push qd.stB _⟩
      · simp only [Rep]
        exact ⟨some ⟨w.heap.size, 0, none⟩, cap, by simp, by omega, by omega, .inr ⟨w.heap.size, 0, _, upd_same _ _ _, by simp, ⟨_, ty, (0, 0), push_new, by simp at c2 ⊢; omega⟩⟩⟩
      · simp; omega
      · intro i e hi j c hj
        obtain ⟨u, hu, hru⟩ := hc i e hi j c hj
        refine ⟨u, ?_, hru.drawn⟩
        have := (List.getElem?_eq_some_iff.1 hu).1
        rw [Array.getElem?_append_left (by simpa using this)]
        simpa using hu
  · rename_i b off n c
    simp only [Rep] at rx
    obtain ⟨a, c', rfl, r1, r2, r3⟩ := rx
    split at h
    case h_2 => cases h
    rename_i B hB
    split at h
    case isFalse => cases h
    rename_i hcond
    obtain ⟨hk, hf, hlim⟩ := hcond
    -- writing where there is room
    have inplace : n + src.length ≤ c' → off + n ≤ B.es.length → (c' = 0 → src = []) →
        ∃ β o', φ b = some (β, o', B.k) ∧ R = .ok (.value (.slice a (n + src.length) c')) (setCells w β (o' + (off + n) * B.k) news) ∧
          WR φ St Mine (setCells w β (o' + (off + n) * B.k) news) (upd s.H b (some { B with es := splice B.es (off + n) src })) s.nx ∧ Stp St Mine w (setCells w β (o' + (off + n) * B.k) news) ∧
          a = some ⟨β, o' + off * B.k, none⟩ ∧ Room w β (o' + (off + c') * B.k) ∨
        (src = [] ∧ n = 0 ∧ c' = 0 ∧ R = .ok (.value (.slice a 0 0)) w) := by
      intro h1 h2 h3
      rcases r3 with rfl | ⟨β, o', k', hp, rfl, hroom⟩
      · have : src = [] := h3 rfl
        subst this
        refine ⟨0, 0, .inr ⟨rfl, by omega, rfl, ?_⟩⟩
        have hnil : news = [] := List.eq_nil_of_length_eq_zero (by simpa using hn)
        subst hnil
        have hn0 : n = 0 := by omega
        subst hn0
        exact run.room a 0 0 w rfl (by simp) (fun ad _ => by simp [storeCells]) (fun _ => rfl)
      · have hk' : k' = B.k := by
          rcases q.blk b B hB with ⟨_, g4⟩ | ⟨_, _, g4, _⟩
          · rw [g4] at hp; cases hp
          · rw [g4] at hp; cases hp; rfl
        subst hk'
        have hle : o' + (off + n + src.length) * B.k ≤ o' + (off + c') * B.k := Nat.add_le_add_left (Nat.mul_le_mul_right _ (by omega)) _
        obtain ⟨w1, w2⟩ := q.splice (news := news) hB hf hp h2 (hroom.mono hle) (by rw [hk]; exact hs) (by rw [hk]; exact hn) (by rw [hk]; exact hc)
        refine ⟨β, o', .inl ⟨hp, ?_, w1, w2, rfl, hroom⟩⟩
        refine run.room _ n c' _ rfl h1 (fun ad had => ?_) (fun h => by cases h)
        obtain rfl := Option.some.inj had
        rw [addr_add, ← hk]
        have e : o' + off * B.k + n * B.k = o' + (off + n) * B.k := by rw [Nat.add_mul]; omega
        rw [e]
        have hbk : ∃ cs ty, w.heap[β]? = some (.cells cs ty (0, 0)) ∧ o' + (off + c') * B.k ≤ cs.size := by
          rcases q.blk b B hB with ⟨_, g4⟩ | ⟨_, _, g4, _, _, g5, _⟩
          · rw [g4] at hp; cases hp
          · rw [g4] at hp; cases hp
            obtain ⟨cs, ty, c1, c2⟩ := g5
            obtain ⟨cs', ty', fz, d1, d2⟩ := hroom
            rw [c1] at d1
            obtain ⟨rfl, rfl, rfl⟩ := Obj.cells.inj (Option.some.inj d1)
            exact ⟨cs, ty, c1, d2⟩
        have hst := run_storeCells (P := P) (β := β) (o := o' + (off + n) * B.k) news 0 w hok (by
          refine Own.mono hbk ?_
          have : o' + (off + n) * B.k + news.length = o' + (off + n + src.length) * B.k := by rw [hn, ← hk, Nat.add_assoc, ← Nat.add_mul]
          omega)
        simpa using hst
    split at h
    · -- known room
      rename_i hc1
      split at h
      case isFalse => cases h
      rename_i hle
      obtain ⟨rfl, rfl⟩ := Prod.mk.inj (Option.some.inj h)
      obtain ⟨β, o', hh⟩ := inplace (by omega) hle (fun h0 => List.eq_nil_of_length_eq_zero (by omega))
      rcases hh with ⟨hp, hR, w1, w2, ha, hroom⟩ | ⟨hs0, hn0, hc0, hR⟩
      · rw [hR]
        refine ⟨_, _, φ, .inl rfl, ?_, w1, rfl, Ext.refl _ _, Nat.le_refl _, w2⟩
        simp only [Rep]
        exact ⟨_, c', rfl, by omega, by omega, .inr ⟨β, o', B.k, hp, ha, setCells_room hroom⟩⟩
      · subst hs0; subst hn0; subst hc0
        rw [hR]
        refine ⟨_, _, φ, .inl rfl, ?_, q.kill (fun b' C hC => ?_), rfl, Ext.refl _ _, Nat.le_refl _, Stp.refl _ _ _⟩
        · simp only [Rep]
          exact ⟨a, 0, by simp, by simp, by omega, .inl rfl⟩
        · by_cases e : b' = b
          · subst e
            simp only [S.blk, upd_same, Option.some.injEq] at hC
            subst hC
            rw [hB]
            congr 1
            cases B
            simp [splice]
          · simp only [S.blk] at hC
            rw [upd_ne _ _ e] at hC; exact hC
    · rename_i hc1
      split at h
      case isFalse => cases h
      rename_i hfr
      obtain ⟨rfl, rfl⟩ := Prod.mk.inj (Option.some.inj h)
      have hdrop : B.es.drop off = (B.es.drop off).take n := (List.take_of_length_le (by simp; omega)).symm
      by_cases hcap : n + src.length ≤ c'
      · -- the machine writes in place
        obtain ⟨β, o', hh⟩ := inplace hcap (by omega) (fun h0 => by omega)
        rcases hh with ⟨hp, hR, w1, w2, ha, hroom⟩ | ⟨hs0, hn0, hc0, hR⟩
        · rw [hR]
          have w3 := w1.move (b := b) (off := off) (upd_same _ _ _) hf hp (by rw [show ({ B with es := splice B.es (off + n) src } : Blk).es = splice B.es (off + n) src from rfl, splice_length _ _ _ (by omega)]; omega)
          refine ⟨_, _, _, .inl rfl, ?_, w3.kill (fun b' C hC => ?_), rfl, ext_upd _, by simp [S.new, S.blk], w2⟩
          · simp only [Rep]
            refine ⟨a, c', rfl, hcap, hcap, .inr ⟨β, o' + off * B.k, B.k, upd_same _ _ _, by simpa using ha, setCells_room ?_⟩⟩
            rw [show o' + off * B.k + (0 + c') * B.k = o' + (off + c') * B.k by rw [Nat.zero_add, Nat.add_mul]; omega]
            exact hroom
          · simp only [S.new, S.blk] at hC
            by_cases e : b' = s.nx
            · subst e
              rw [upd_same] at hC ⊢
              rw [← hC, hk]
              congr 2
              rw [splice_end (by omega), List.drop_append_of_le_length (by omega)]
            · rw [upd_ne _ _ e] at hC ⊢
              by_cases e2 : b' = b
              · subst e2; rw [upd_same] at hC; cases hC
              · rw [upd_ne _ _ e2] at hC
                rw [upd_ne _ _ e2, upd_ne _ _ e2]; exact hC
        · omega
      · -- a new row
        have holds : ∃ olds : List Value, olds.length = n * ksz q' ∧ (∀ w', w'.heap = w.heap → (Builtin.firstCells (ksz q') n (.slice a n c')).run P w' = .ok olds.toArray w') ∧
            ∀ (i : Nat) e, (B.es.drop off)[i]? = some e → ∀ (j : Nat) c, (cellsOf e)[j]? = some c → ∃ u, olds[i * ksz q' + j]? = some u ∧ Rep φ St w c u := by
          rcases r3 with rfl | ⟨β, o', k', hp, rfl, hroom⟩
          · have hn0 : n = 0 := by omega
            subst hn0
            refine ⟨[], by simp, fun w' _ => by cases a <;> simp [Builtin.firstCells, loadCells, loadCellsFrom], fun i e hi => ?_⟩
            rw [hdrop] at hi; simp at hi
          · have hk' : k' = B.k := by
              rcases q.blk b B hB with ⟨_, g4⟩ | ⟨_, _, g4, _⟩
              · rw [g4] at hp; cases hp
              · rw [g4] at hp; cases hp; rfl
            subst hk'
            rcases q.blk b B hB with ⟨_, g4⟩ | ⟨β', o'', g4, _, _, _, g6, g7⟩
            · rw [g4] at hp; cases hp
            rw [g4] at hp; cases hp
            obtain ⟨olds, l1, l2, l3⟩ := row_cells (φ := φ) (St := St) (w := w) (β := β) (off := o' + off * B.k) (k := B.k) (src := B.es.drop off) (fun e he => g6 e (List.mem_of_mem_drop he)) (fun i e hi => by
              simp only [List.getElem?_drop] at hi
              have := g7 _ e hi
              rwa [Nat.add_mul, ← Nat.add_assoc] at this)
            have hlen : (B.es.drop off).length = n := by simp; omega
            rw [hlen] at l1
            refine ⟨olds, by rw [← hk]; exact l1, fun w' hw' => ?_, by rw [← hk]; exact l3⟩
            simp only [Builtin.firstCells]
            rw [← hk]
            exact run_loadCells olds l1 fun j u hj => by
              have := l2 j u hj
              unfold Cel World.cell? at this ⊢
              rw [hw']; exact this
        obtain ⟨olds, l1, l2, l3⟩ := holds
        obtain ⟨cap, rest, ty, d, c1, c2, rfl⟩ := run.grow a n c' olds.toArray rfl (by omega) hlim l2
        refine OpTo.after (stp_drawn (d := d)) ?_
        have q2 : WR φ St Mine (Drawn w d) (upd s.H b none) s.nx := (q.drawn (d := d)).kill fun b' C hC => by
          by_cases e : b' = b
          · subst e; rw [upd_same] at hC; cases hC
          · rwa [upd_ne _ _ e] at hC
        have hsz : ∀ e ∈ B.es.drop off ++ src, e.size = ksz q' := by
          intro e he
          rcases List.mem_append.1 he with he | he
          · rcases q.blk b B hB with ⟨g3, _⟩ | ⟨_, _, _, _, _, _, g6, _⟩
            · rw [g3] at he; simp at he
            · rw [← hk]; exact g6 e (List.mem_of_mem_drop he)
          · exact hs e he
        have hlen : (B.es.drop off).length = n := by simp; omega
        have hcap' : cap * ksz q' = (n + src.length) * ksz q' + rest.size := by rw [c2, ← Nat.add_mul]; congr 1; omega
        have hcap2 : cap * ksz q' = n * ksz q' + src.length * ksz q' + rest.size := by rw [hcap', Nat.add_mul]
        refine ⟨_, _, upd φ s.nx (some (w.heap.size, 0, ksz q')), .inl rfl, ?_, q2.new (cs := olds.toArray ++ news.toArray ++ rest) (ty := ty) ?_ hsz ?_, rfl, ext_upd _, by simp [S.new, S.blk], Stp.push q2.stB _⟩
        · simp only [Rep]
          exact ⟨some ⟨w.heap.size, 0, none⟩, cap, by simp, by omega, by omega, .inr ⟨w.heap.size, 0, _, upd_same _ _ _, by simp, ⟨_, ty, (0, 0), push_new, by simp [l1, hn]; omega⟩⟩⟩
        · simp only [List.length_append, hlen, Array.size_append, List.size_toArray, l1, hn]
          rw [Nat.add_mul]; omega
        · intro i e hi j c hj
          rw [List.getElem?_append] at hi
          have hjk : j < ksz q' := by
            have h7 := (List.getElem?_eq_some_iff.1 hj).1
            rw [size_cellsOf] at h7
            split at hi
            · rwa [hsz e (List.mem_append_left _ (List.mem_of_getElem? hi))] at h7
            · rwa [hs e (List.mem_of_getElem? hi)] at h7
          split at hi
          · rename_i hlt
            obtain ⟨u, hu, hru⟩ := l3 i e hi j c hj
            refine ⟨u, ?_, hru.drawn⟩
            have := (List.getElem?_eq_some_iff.1 hu).1
            rw [Array.append_assoc, Array.getElem?_append_left (by simpa using this)]
            simpa using hu
          · rename_i hge
            rw [hlen] at hi hge
            obtain ⟨u, hu, hru⟩ := hc (i - n) e hi j c hj
            refine ⟨u, ?_, hru.drawn⟩
            have h8 := (List.getElem?_eq_some_iff.1 hu).1
            have h9 : i * ksz q' + j = n * ksz q' + ((i - n) * ksz q' + j) := by
              rw [← Nat.add_assoc, ← Nat.add_mul]; congr 2; omega
            rw [Array.append_assoc, Array.getElem?_append_right (by simp [l1]; omega), Array.getElem?_append_left (by simp [l1]; omega)]
            simp only [List.size_toArray, l1, List.getElem?_toArray]
            rw [h9, show n * ksz q' + ((i - n) * ksz q' + j) - n * ksz q' = (i - n) * ksz q' + j by omega]
            exact hu
  · cases h

theorem info_zero {e : TypeId} {z : V} (h : zeroV P e = some z) : ∃ i x, P.info? e = some i ∧ i.zero = some x ∧ ∀ φ St w, Rep φ St w z x := by
  unfold zeroV at h
  split at h
  · rename_i i hi
    obtain ⟨x, hx, hz⟩ := Option.bind_eq_some_iff.1 h
    exact ⟨i, x, hi, hx, fun φ St w => rep_zV hz⟩
  · cases h

theorem zeroCells_size (z : Array Value) (n : Nat) : (Builtin.zeroCells z n).size = n * z.size := by simp [Builtin.zeroCells]

theorem op_ap {x y : Operand} {t u e' : TypeId} {cal : Call} (ho : o.op = .call cal) (hc : cal.callee = .builtin .append) (ha : cal.args.toList = [x, y]) (hat : cal.argTypes.toList = [t, u])
    {q' : Option Nat} (ht : sliceShp P t = some q') (hu : P.underlying u = some (.slice e')) {z : V} (hz : sliceZero P t = some z) (hzf : z.fits q' = true) {x' y' : O} (hx : toO x = some x') (hy : toO y = some y')
    (q : WR φ St Mine w s.H s.nx) (env : EnvR φ St w s.e act.tmps)
    {ca : V → List V → S → Option (V × S)} (h : opA ca s (.ap q' x' y') = some (v, s')) : OpTo φ St Mine w s v s' ((execOp act.eval o).run P w) := by
  have rx := rep_toO env hx
  have ry := rep_toO env hy
  obtain ⟨e, h1, h2⟩ := sliceShp_spec ht
  obtain ⟨i, d, g1, g2, g3, g4, _⟩ := shp_spec h2
  obtain ⟨i2, zz, z1, z2, z3⟩ := info_zero (P := P) (e := e) (z := z) (by unfold sliceZero at hz; rwa [h1] at hz)
  rw [g1] at z1; obtain rfl := Option.some.inj z1
  have zsz := (rep_cells hzf (z3 φ St w)).2.1
  simp only [opA] at h
  split at h
  case h_2 => cases h
  rename_i src hsrc
  split at h
  case isFalse => cases h
  rename_i hall
  have hf : ∀ e ∈ src, e.fits q' = true := by simpa only [List.all_eq_true] using hall
  have hk : ∀ e ∈ src, e.size = ksz q' := fun e he => fits_size (hf e he)
  obtain ⟨b, c, ey, hrow⟩ := elems_spec q ry hsrc hk
  have hnews : ∃ news : List Value, news.length = src.length * ksz q' ∧ (∀ w', w'.heap = w.heap → (Builtin.firstCells (ksz q') src.length (.slice b src.length c)).run P w' = .ok news.toArray w') ∧
      ∀ (i : Nat) e, src[i]? = some e → ∀ (j : Nat) c, (cellsOf e)[j]? = some c → ∃ u, news[i * ksz q' + j]? = some u ∧ Rep φ St w c u := by
    rcases hrow with rfl | ⟨β, off, rfl, hrow⟩
    · exact ⟨[], by simp, fun w' _ => by cases b <;> simp [Builtin.firstCells, loadCells, loadCellsFrom], by simp⟩
    · obtain ⟨news, l1, l2, l3⟩ := row_cells hk hrow
      refine ⟨news, l1, fun w' hw' => ?_, l3⟩
      simp only [Builtin.firstCells]
      exact run_loadCells news l1 fun j u hj => by
        have := l2 j u hj
        unfold Cel World.cell? at this ⊢
        rw [hw']; exact this
  obtain ⟨news, n1, n2, n3⟩ := hnews
  have hok : ∀ u ∈ news, okm u = true := by
    intro u hu
    obtain ⟨x, hx⟩ := List.mem_iff_getElem?.1 hu
    have hlt := (List.getElem?_eq_some_iff.1 hx).1
    have hk0 : 0 < ksz q' := by
      rcases Nat.eq_zero_or_pos (ksz q') with h0 | h0
      · rw [n1, h0] at hlt; simp at hlt
      · exact h0
    have hi : x / ksz q' < src.length := by rw [Nat.div_lt_iff_lt_mul hk0]; omega
    have hlen : x % ksz q' < (cellsOf src[x / ksz q']).length := by rw [size_cellsOf, hk _ (List.getElem_mem hi)]; exact Nat.mod_lt _ hk0
    obtain ⟨u', hu', hru⟩ := n3 _ _ (List.getElem?_eq_getElem hi) _ _ (List.getElem?_eq_getElem hlen)
    rw [Nat.mul_comm, Nat.div_add_mod, hx] at hu'
    obtain rfl := Option.some.inj hu'
    exact rep_okm (fits_okc (hf _ (List.getElem_mem hi)) _ (List.getElem_mem hlen)) hru
  refine append_sound (P := P) q rx h hk n1 hok n3 (ApRun.mk (P := P) ?_ ?_)
  · intro a sLen sCap w' em hle hst hnone
    rw [exec_builtin ho hc, arr2 ha, arr2 hat]
    refine run_v ?_
    simp only [List.map_toArray, List.map_cons, List.map_nil, em, ey]
    exact run_ap_room h1 hu g1 (by rw [g3]; exact n2 w rfl) hle (fun ad had => by rw [g3]; simpa using hst ad had) hnone
  · intro a sLen sCap olds em hgt hlim holds
    refine ⟨grownCap w (sLen + src.length) sCap e, Builtin.zeroCells zz.cells (grownCap w (sLen + src.length) sCap e - (sLen + src.length)), e, w.drawn + 1, grownCap_ge _ _ _ _, ?_, ?_⟩
    · rw [zeroCells_size, zsz]
    · rw [exec_builtin ho hc, arr2 ha, arr2 hat]
      refine run_v ?_
      simp only [List.map_toArray, List.map_cons, List.map_nil, em, ey]
      exact run_ap_grow h1 hu g1 z2 (by rw [g3]; exact holds) (by rw [g3]; exact n2) hgt hlim g4

theorem run_az_room {t u ty e : TypeId} {k0 k : IntKind} {i : TypeInfo} {z : Value} (ht : P.underlying t = some (.slice e)) (hu : P.underlying u = some (.int k0)) (hi : P.info? e = some i) (hz : i.zero = some z)
    {a : Option Addr} {sLen sCap n : Nat} (hg : sLen + n ≤ sCap) (hl : n ≤ LIM) (hb : i.bytes ≤ 1024) (hzs : z.cells.size = i.size)
    {w' : World} (hst : ∀ ad, a = some ad → (storeCells (ad.add (sLen * i.size)) (Builtin.zeroCells z.cells n).toList).run P w = .ok () w') (hnone : a = none → w' = w) :
    (Builtin.append_ #[t, u] ty #[.slice a sLen sCap, .int k n]).run P w = .ok (.slice a (sLen + n) sCap) w' := by
  have hl' : n ≤ 2 ^ 36 := hl
  have hw : IntKind.i64.wrap (n : Int) = n := IntWalk.i64_in _ (by omega)
  have hnb : ¬ ((n : Int) * i.bytes > 2 ^ 48) := by
    have : n * i.bytes ≤ 2 ^ 36 * 1024 := Nat.mul_le_mul (by omega) hb
    have h2 : (n : Int) * i.bytes = ((n * i.bytes : Nat) : Int) := by push_cast; rfl
    rw [h2]; omega
  have hnb' : ¬ (281474976710656 < (n : Int) * i.bytes) := by omega
  have hneg : ¬ ((n : Int) < 0) := by omega
  by_cases h0 : n * i.size = 0
  · have hnil : (Builtin.zeroCells z.cells n).toList = [] := by
      apply List.eq_nil_of_length_eq_zero
      rw [Array.length_toList, zeroCells_size, hzs, h0]
    rw [hnil] at hst
    cases a with
    | none => rw [hnone rfl]; simp [Builtin.append_, run_underlying ht, run_underlying hu, sizeOf, typeInfo, hi, hg, asInt, asIntOf, hw, hnb', hneg, h0]
    | some ad => simp [Builtin.append_, run_underlying ht, run_underlying hu, sizeOf, typeInfo, hi, hg, asInt, asIntOf, hw, hnb', hneg, h0, hst ad rfl]
  · cases a with
    | none => rw [hnone rfl]; simp [Builtin.append_, run_underlying ht, run_underlying hu, sizeOf, typeInfo, zeroValue, hz, hi, hg, asInt, asIntOf, hw, hnb', hneg, h0]
    | some ad => simp [Builtin.append_, run_underlying ht, run_underlying hu, sizeOf, typeInfo, zeroValue, hz, hi, hg, asInt, asIntOf, hw, hnb', hneg, h0, hst ad rfl]

theorem zeroCells_get {z : Array Value} {n i j : Nat} (hi : i < n) {u : Value} (hj : z[j]? = some u) : (Builtin.zeroCells z n).toList[i * z.size + j]? = some u := by
  have hjz := (Array.getElem?_eq_some_iff.1 hj).1
  have hlt : i * z.size + j < n * z.size := mul_lt_place hi hjz
  rw [Array.getElem?_toList]
  unfold Builtin.zeroCells
  rw [Array.getElem?_map, Array.getElem?_range, if_pos hlt]
  simp only [Option.map_some, Option.some.injEq]
  rw [Nat.add_comm, Nat.add_mul_mod_self_right, Nat.mod_eq_of_lt hjz, getElem!_def, hj]

theorem op_az {x y : Operand} {t u : TypeId} {k0 : IntKind} {cal : Call} (ho : o.op = .call cal) (hc : cal.callee = .builtin .append) (ha : cal.args.toList = [x, y]) (hat : cal.argTypes.toList = [t, u])
    {q' : Option Nat} (ht : sliceShp P t = some q') (hu : P.underlying u = some (.int k0)) {z : V} (hz : sliceZero P t = some z) (hzf : z.fits q' = true) {x' y' : O} (hx : toO x = some x') (hy : toO y = some y')
    (q : WR φ St Mine w s.H s.nx) (env : EnvR φ St w s.e act.tmps)
    {ca : V → List V → S → Option (V × S)} (h : opA ca s (.az q' z x' y') = some (v, s')) : OpTo φ St Mine w s v s' ((execOp act.eval o).run P w) := by
  have rx := rep_toO env hx
  have ry := rep_toO env hy
  obtain ⟨e, h1, h2⟩ := sliceShp_spec ht
  obtain ⟨i, d, g1, g2, g3, g4, _⟩ := shp_spec h2
  obtain ⟨i2, zz, z1, z2, z3⟩ := info_zero (P := P) (e := e) (z := z) (by unfold sliceZero at hz; rwa [h1] at hz)
  rw [g1] at z1; obtain rfl := Option.some.inj z1
  obtain ⟨zc1, zsz, zok⟩ := rep_cells hzf (z3 φ St w)
  simp only [opA] at h
  split at h
  case h_2 => cases h
  rename_i k n hn
  rw [hn] at ry
  simp only [Rep] at ry
  split at h
  case isFalse => cases h
  rename_i hcond
  obtain ⟨c1, c2, _, c4⟩ := hcond
  obtain ⟨n, rfl⟩ := Int.eq_ofNat_of_zero_le (Int.le_of_lt c1)
  simp only [Int.toNat_natCast] at h
  have hlim : n ≤ LIM := by omega
  have hk : ∀ e ∈ List.replicate n z, e.size = ksz q' := fun e he => by rw [List.eq_of_mem_replicate he]; exact fits_size hzf
  refine append_sound (P := P) (news := (Builtin.zeroCells zz.cells n).toList) q rx h hk (by rw [Array.length_toList, zeroCells_size, zsz]; simp) ?_ ?_ (ApRun.mk (P := P) ?_ ?_)
  · intro u hu
    simp only [Array.mem_toList_iff, Builtin.zeroCells, Array.mem_map, Array.mem_range] at hu
    obtain ⟨x, hx, rfl⟩ := hu
    have hpos : 0 < zz.cells.size := by rw [zsz]; exact c4
    have hm := Nat.mod_lt x hpos
    rw [getElem!_def, Array.getElem?_eq_getElem hm]
    exact zok _ (by simp)
  · intro i e hi j c hj
    rw [List.getElem?_replicate] at hi
    split at hi
    case isFalse => cases hi
    rename_i hlt
    obtain rfl := Option.some.inj hi
    obtain ⟨u, hu, hru⟩ := zc1.get hj
    refine ⟨u, ?_, hru⟩
    rw [← zsz]
    exact zeroCells_get hlt (by simpa using hu)
  · intro a sLen sCap w' em hle hst hnone
    rw [List.length_replicate] at hle ⊢
    rw [exec_builtin ho hc, arr2 ha, arr2 hat]
    refine run_v ?_
    simp only [List.map_toArray, List.map_cons, List.map_nil, em, ry]
    exact run_az_room h1 hu g1 z2 hle hlim g4 (by rw [g3]; exact zsz) (fun ad had => by rw [g3]; exact hst ad had) hnone
  · intro a sLen sCap olds em hgt hlim' holds
    rw [List.length_replicate] at hgt hlim' ⊢
    refine ⟨grownCap w (sLen + n) sCap e, Builtin.zeroCells zz.cells (grownCap w (sLen + n) sCap e - (sLen + n)), e, w.drawn + 1, grownCap_ge _ _ _ _, ?_, ?_⟩
    · rw [zeroCells_size, zsz]
    · by_cases hn0 : n * i.size = 0
      · -- nothing is appended: then there is room, or the slice is too long for its capacity
        rcases Nat.mul_eq_zero.1 hn0 with h0 | h0
        · omega
        · rw [g3] at h0; omega
      · rw [exec_builtin ho hc, arr2 ha, arr2 hat]
        refine run_v ?_
        simp only [List.map_toArray, List.map_cons, List.map_nil, em, ry]
        have := run_az_grow (P := P) (w := w) (ty := o.type) (k := k) h1 hu g1 z2 (by rw [g3]; exact holds) hgt hlim' g4 hn0
        simpa using this

theorem op_cr {x : Operand} {t : TypeId} {cal : Call} (ho : o.op = .call cal) (hc : cal.callee = .builtin .clear) (ha : cal.args.toList = [x]) (hat : cal.argTypes.toList = [t])
    {q' : Option Nat} (ht : sliceShp P t = some q') {z : V} (hz : sliceZero P t = some z) {x' : O} (hx : toO x = some x') (q : WR φ St Mine w s.H s.nx) (env : EnvR φ St w s.e act.tmps)
    {ca : V → List V → S → Option (V × S)} (h : opA ca s (.cr q' z x') = some (v, s')) : OpTo φ St Mine w s v s' ((execOp act.eval o).run P w) := by
  have rx := rep_toO env hx
  obtain ⟨e, h1, h2⟩ := sliceShp_spec ht
  obtain ⟨i, d, g1, g2, g3, g4, _⟩ := shp_spec h2
  obtain ⟨i2, zz, z1, z2, z3⟩ := info_zero (P := P) (e := e) (z := z) (by unfold sliceZero at hz; rwa [h1] at hz)
  rw [g1] at z1; obtain rfl := Option.some.inj z1
  have fin : ∀ {w' : World}, (Builtin.clear_ #[t] o.type #[act.eval x]).run P w = .ok (.tuple #[]) w' → (execOp act.eval o).run P w = .ok (.value (.tuple #[])) w' := by
    intro w' hw
    rw [exec_builtin ho hc, arr1 ha, arr1 hat]
    refine run_v ?_
    simp only [List.map_toArray, List.map_cons, List.map_nil]
    exact hw
  have empty : ∀ {a : Option Addr} {c : Nat}, act.eval x = .slice a 0 c → (execOp act.eval o).run P w = .ok (.value (.tuple #[])) w := by
    intro a c e1
    refine fin ?_
    rw [e1]
    cases a <;> simp [Builtin.clear_, run_underlying h1]
  simp only [opA] at h
  split at h
  · rename_i hv
    rw [hv] at rx
    simp only [Rep] at rx
    obtain ⟨a, rx⟩ := rx
    obtain ⟨rfl, rfl⟩ := Prod.mk.inj (Option.some.inj h)
    rw [empty rx]
    exact OpTo.pure q (by simp [Rep, undef])
  · rename_i b off n c hv
    rw [hv] at rx
    simp only [Rep] at rx
    obtain ⟨a, c', e1, r1, r2, r3⟩ := rx
    split at h
    case h_2 => cases h
    rename_i B hB
    split at h
    case isFalse => cases h
    rename_i hcond
    obtain ⟨hf, hk, hzf, hle⟩ := hcond
    obtain ⟨rfl, rfl⟩ := Prod.mk.inj (Option.some.inj h)
    obtain ⟨zc1, zsz, zok⟩ := rep_cells hzf (z3 φ St w)
    rcases Nat.eq_zero_or_pos n with hn0 | hpos
    · subst hn0
      rw [empty e1]
      refine ⟨_, _, φ, .inl rfl, by simp [Rep, undef], q.kill (fun b' C hC => ?_), rfl, Ext.refl _ _, Nat.le_refl _, Stp.refl _ _ _⟩
      by_cases e : b' = b
      · subst e
        simp only [upd_same, Option.some.injEq] at hC
        subst hC
        rw [hB]
        congr 1
        cases B
        simp [splice]
      · simp only at hC
        rw [upd_ne _ _ e] at hC; exact hC
    · rcases r3 with rfl | ⟨β, o', k', hp, rfl, hroom⟩
      · omega
      have hk' : k' = B.k := by
        rcases q.blk b B hB with ⟨_, g4⟩ | ⟨_, _, g4, _⟩
        · rw [g4] at hp; cases hp
        · rw [g4] at hp; cases hp; rfl
      subst hk'
      have hlen : (Builtin.zeroCells zz.cells n).toList.length = (List.replicate n z).length * B.k := by rw [Array.length_toList, zeroCells_size, zsz, hk]; simp
      have hok : ∀ u ∈ (Builtin.zeroCells zz.cells n).toList, okm u = true := by
        intro u hu
        simp only [Array.mem_toList_iff, Builtin.zeroCells, Array.mem_map, Array.mem_range] at hu
        obtain ⟨y, hy, rfl⟩ := hu
        have hp0 : 0 < zz.cells.size := by
          rcases Nat.eq_zero_or_pos zz.cells.size with h0 | h0
          · rw [h0] at hy; simp at hy
          · exact h0
        have hm := Nat.mod_lt y hp0
        rw [getElem!_def, Array.getElem?_eq_getElem hm]
        exact zok _ (by simp)
      have hle2 : o' + (off + n) * B.k ≤ o' + (off + c') * B.k := Nat.add_le_add_left (Nat.mul_le_mul_right _ (by omega)) _
      obtain ⟨w1, w2⟩ := q.splice (at_ := off) (src := List.replicate n z) (news := (Builtin.zeroCells zz.cells n).toList) hB hf hp (by omega) (hroom.mono (by simpa using hle2))
        (fun e he => by rw [List.eq_of_mem_replicate he, hk]; exact fits_size hzf) hlen (by
          intro i e hi j c hj
          rw [List.getElem?_replicate] at hi
          split at hi
          case isFalse => cases hi
          rename_i hlt
          obtain rfl := Option.some.inj hi
          obtain ⟨u, hu, hru⟩ := zc1.get hj
          refine ⟨u, ?_, hru⟩
          rw [hk, ← zsz]
          exact zeroCells_get hlt (by simpa using hu))
      have hbk : ∃ cs ty, w.heap[β]? = some (.cells cs ty (0, 0)) ∧ o' + (off + c') * B.k ≤ cs.size := by
        rcases q.blk b B hB with ⟨_, g4⟩ | ⟨_, _, g4, _, _, g5, _⟩
        · rw [g4] at hp; cases hp
        · rw [g4] at hp; cases hp
          obtain ⟨cs, ty, c1, c2⟩ := g5
          obtain ⟨cs', ty', fz, d1, d2⟩ := hroom
          rw [c1] at d1
          obtain ⟨rfl, rfl, rfl⟩ := Obj.cells.inj (Option.some.inj d1)
          exact ⟨cs, ty, c1, d2⟩
      have hst := run_storeCells (P := P) (β := β) (o := o' + off * B.k) (Builtin.zeroCells zz.cells n).toList 0 w hok (by
        refine Own.mono hbk ?_
        rw [hlen, List.length_replicate]
        have : o' + off * B.k + n * B.k = o' + (off + n) * B.k := by rw [Nat.add_mul]; omega
        omega)
      have hrun : (execOp act.eval o).run P w = .ok (.value (.tuple #[])) (setCells w β (o' + off * B.k) (Builtin.zeroCells zz.cells n).toList) := by
        refine fin ?_
        rw [e1]
        obtain ⟨m, rfl⟩ : ∃ m, n = m + 1 := ⟨n - 1, by omega⟩
        simp only [Nat.add_zero] at hst
        simp [Builtin.clear_, run_underlying h1, zeroValue, typeInfo, g1, z2, hst]
      rw [hrun]
      exact ⟨_, _, φ, .inl rfl, by simp [Rep, undef], w1, rfl, Ext.refl _ _, Nat.le_refl _, w2⟩
  · cases h

theorem op_cp {x : Operand} {t : TypeId} {cal : Call} (ho : o.op = .call cal) (hc : cal.callee = .builtin .cap) (ha : cal.args.toList = [x]) (hat : cal.argTypes.toList = [t])
    {q' : Option Nat} (ht : sliceShp P t = some q') {x' : O} (hx : toO x = some x') (q : WR φ St Mine w s.H s.nx) (env : EnvR φ St w s.e act.tmps)
    {ca : V → List V → S → Option (V × S)} (h : opA ca s (.cp x') = some (v, s')) : OpTo φ St Mine w s v s' ((execOp act.eval o).run P w) := by
  have rx := rep_toO env hx
  obtain ⟨e, h1, _⟩ := sliceShp_spec ht
  simp only [opA] at h
  split at h
  · rename_i hv
    rw [hv] at rx
    simp only [Rep] at rx
    obtain ⟨a, rx⟩ := rx
    obtain ⟨rfl, rfl⟩ := Prod.mk.inj (Option.some.inj h)
    have : (execOp act.eval o).run P w = .ok (.value (.int .i64 0)) w := by
      rw [exec_builtin ho hc, arr1 ha, arr1 hat]
      refine run_v ?_
      simp [Builtin.cap_, run_underlying h1, rx, goInt]
    rw [this]
    exact OpTo.pure q (by simp [Rep])
  · cases h

/-! ### All operations but calls -/

/-- An operation that does not call. -/
theorem op_sound (h : opA (fun _ _ _ => none) s (compA P o.op) = some (v, s')) (q : WR φ St Mine w s.H s.nx) (env : EnvR φ St w s.e act.tmps) : OpTo φ St Mine w s v s' ((execOp act.eval o).run P w) := by
  have no : ∀ {ca : V → List V → S → Option (V × S)}, opA ca s .no = some (v, s') → OpTo φ St Mine w s v s' ((execOp act.eval o).run P w) := by
    intro ca h; simp [opA] at h
  cases ho : o.op <;> rw [ho] at h <;> simp only [compA] at h
  case move x => split at h
                 · rename_i y hy; simp only [opA] at h; obtain ⟨rfl, rfl⟩ := Prod.mk.inj (Option.some.inj h); exact op_mv (.inl ho) hy q env
                 · exact no h
  case assign x => split at h
                   · rename_i y hy; simp only [opA] at h; obtain ⟨rfl, rfl⟩ := Prod.mk.inj (Option.some.inj h); exact op_mv (.inr ho) hy q env
                   · exact no h
  case pick c a b => split at h
                     · exact op_pk ho ‹_› ‹_› ‹_› q env h
                     · exact no h
  case alloc t => split at h
                  · exact op_al ho ‹_› q h
                  · exact no h
  case box t x => split at h
                  · exact op_bx ho ‹_› q env h
                  · exact no h
  case load t x => split at h
                   · exact op_ld ho ‹_› ‹_› q env h
                   · exact no h
  case store t p x => split at h
                      · exact op_so ho ‹_› ‹_› ‹_› q env h
                      · exact no h
  case binOp op t x y u => split at h
                           · exact op_bi ho ‹_› ‹_› q env h
                           · exact op_bi ho ‹_› ‹_› q env h
                           · split at h
                             · exact op_be ho rfl ‹_› ‹_› ‹_› q env h
                             · exact op_be ho rfl ‹_› ‹_› ‹_› q env h
                             · exact no h
                           · exact no h
  case unOp op t x => split at h
                      · exact op_un ho ‹_› q env h
                      · exact no h
  case convert src dst x => split at h
                            · exact op_cv ho ‹_› ‹_› ‹_› q env h
                            · split at h
                              · exact op_sb ho ‹_› ‹_› ‹_› ‹_› q env h
                              · exact no h
                            · exact no h
  case field t x j => split at h
                      · split at h
                        · exact op_fd ho ‹_› ‹_› ‹_› q env h
                        · exact no h
                      · exact no h
  case fieldAddr t x j => split at h
                          · split at h
                            · exact op_fa ho ‹_› ‹_› ‹_› q env h
                            · exact no h
                          · exact no h
  case indexAddr t x i => split at h
                          · exact op_ia ho ‹_› ‹_› ‹_› q env h
                          · exact no h
  case index t x i => split at h
                      · exact op_ix ho ‹_› ‹_› ‹_› q env h
                      · exact no h
  case slice t x lo hi mx =>
    split at h
    · split at h
      · split at h
        · have hmx := toOo_none ‹toOo mx = some none›
          subst hmx
          exact op_ss ho ‹_› ‹_› ‹_› ‹_› q env h
        · exact no h
      · split at h
        · exact op_sc ho ‹_› ‹_› ‹_› ‹_› ‹_› ‹_› q env h
        · exact no h
      · exact no h
    · exact no h
  case buildSlice t n ps => split at h
                            · split at h
                              · rename_i hc; exact op_bs ho ‹_› ‹_› hc.1 hc.2 ‹_› q env h
                              · exact no h
                            · exact no h
  case build t ps => split at h
                     · split at h
                       · rename_i hc; exact op_bd ho ‹_› ‹_› ‹_› hc.2 hc.1 q env h
                       · exact no h
                     · exact no h
  case makeSlice t l c => split at h
                          · exact op_ms ho ‹_› ‹_› ‹_› ‹_› q env h
                          · exact no h
  case makeFunc fn first caps =>
    cases fn <;> simp only at h
    case func f =>
      split at h
      · exact op_mf ho ‹_› ‹_› q env h
      · exact no h
    all_goals exact no h
  case call cal =>
    obtain ⟨callee, args, ats⟩ := cal
    cases callee with
    | value f =>
      simp only at h
      split at h
      · simp [opA] at h
      · exact no h
    | invoke r m => exact no h
    | builtin b =>
      cases b <;> simp only at h
      case append =>
        split at h
        · split at h
          · split at h
            · split at h
              · exact op_ap ho rfl ‹_› ‹_› ‹_› ‹_› ‹_› ‹_› ‹_› ‹_› q env h
              · exact no h
            · exact no h
          · split at h
            · split at h
              · exact op_az ho rfl ‹_› ‹_› ‹_› ‹_› ‹_› ‹_› ‹_› ‹_› q env h
              · exact no h
            · exact no h
          · exact no h
        · exact no h
      case len =>
        split at h
        · split at h
          · exact op_ls ho rfl ‹_› ‹_› ‹_› ‹_› q env h
          · exact op_ln ho rfl ‹_› ‹_› ‹_› ‹_› q env h
          · exact no h
        · exact no h
      case clear =>
        split at h
        · split at h
          · exact op_cr ho rfl ‹_› ‹_› ‹_› ‹_› ‹_› q env h
          · exact no h
        · exact no h
      case cap =>
        split at h
        · split at h
          · exact op_cp ho rfl ‹_› ‹_› ‹_› ‹_› q env h
          · exact no h
        · exact no h
      case max => split at h
                  · exact op_mm (mx := true) ho rfl ‹_› q env h
                  · exact no h
      case min => split at h
                  · exact op_mm (mx := false) ho rfl ‹_› q env h
                  · exact no h
      all_goals exact no h
  case extract x i => split at h
                      · exact op_et ho ‹_› q env h
                      · exact no h
  all_goals exact no h

end Go.Am

/- The A-machine, part 12: a snapshot reads as what it was taken of. -/
namespace Go.Am
variable {P : Program} {φ : Phi} {St Mine : Nat → Prop} {w : World}

theorem overL_spec {f : V → Option (V × List Nat)} : ∀ {vs ts : List V} {ids : List Nat}, overL f vs = some (ts, ids) → ts.length = vs.length ∧
    ∀ (i : Nat) v, vs[i]? = some v → ∃ t j, f v = some (t, j) ∧ ts[i]? = some t ∧ ∀ b ∈ j, b ∈ ids
  | [], ts, ids, h => by simp only [overL, Option.some.injEq, Prod.mk.injEq] at h; obtain ⟨rfl, rfl⟩ := h; simp
  | v :: vs, ts, ids, h => by
    simp only [overL] at h
    split at h
    case h_2 => cases h
    rename_i t i ht
    split at h
    case h_2 => cases h
    rename_i ts' j hts
    obtain ⟨rfl, rfl⟩ := Prod.mk.inj (Option.some.inj h)
    obtain ⟨h1, h2⟩ := overL_spec hts
    refine ⟨by simp [h1], fun k v' hk => ?_⟩
    cases k with
    | zero =>
      obtain rfl : v = v' := by simpa using hk
      exact ⟨t, i, ht, rfl, fun b hb => List.mem_append_left _ hb⟩
    | succ k =>
      obtain ⟨t', j', g1, g2, g3⟩ := h2 k v' (by simpa using hk)
      exact ⟨t', j', g1, by simpa using g2, fun b hb => List.mem_append_right _ (g3 b hb)⟩

theorem overL_cons {f : V → Option (V × List Nat)} {v : V} {vs ts : List V} {ids : List Nat} (h : overL f (v :: vs) = some (ts, ids)) :
    ∃ t ts' i j, f v = some (t, i) ∧ overL f vs = some (ts', j) ∧ ts = t :: ts' ∧ ids = i ++ j := by
  simp only [overL] at h
  split at h
  case h_2 => cases h
  rename_i t i ht
  split at h
  case h_2 => cases h
  rename_i ts' j hts
  obtain ⟨rfl, rfl⟩ := Prod.mk.inj (Option.some.inj h)
  exact ⟨t, ts', i, j, ht, hts, rfl, rfl⟩

/-- Whether a snapshot is a struct, and of what size, is as with the value. -/
theorem snap_shape {d : Nat} {H : Nat → Option Blk} {v t : V} {ids : List Nat} (h : snap d H v = some (t, ids)) :
    (∃ cs ts d', d = d' + 1 ∧ v = .st cs ∧ t = .st ts ∧ overL (snap d' H) cs = some (ts, ids)) ∨ (cellsOf v = [v] ∧ cellsOf t = [t]) := by
  cases d with
  | zero => simp [snap] at h
  | succ d =>
    cases v <;> simp only [snap] at h
    case st cs =>
      split at h
      case h_2 => cases h
      rename_i ts i hts
      obtain ⟨rfl, rfl⟩ := Prod.mk.inj (Option.some.inj h)
      exact .inl ⟨cs, ts, d, rfl, rfl, rfl, hts⟩
    all_goals refine .inr ⟨rfl, ?_⟩
    case im x => obtain ⟨rfl, rfl⟩ := Prod.mk.inj (Option.some.inj h); rfl
    case tu cs => split at h
                  · obtain ⟨rfl, rfl⟩ := Prod.mk.inj (Option.some.inj h); rfl
                  · cases h
    case cl f cs => split at h
                    · obtain ⟨rfl, rfl⟩ := Prod.mk.inj (Option.some.inj h); rfl
                    · cases h
    case sl es => obtain ⟨rfl, rfl⟩ := Prod.mk.inj (Option.some.inj h); rfl
    case rp v => obtain ⟨rfl, rfl⟩ := Prod.mk.inj (Option.some.inj h); rfl
    case e0 => obtain ⟨rfl, rfl⟩ := Prod.mk.inj (Option.some.inj h); rfl
    case hs b off n c =>
      split at h
      · obtain ⟨rfl, rfl⟩ := Prod.mk.inj (Option.some.inj h); rfl
      split at h <;> try (cases h; done)
      split at h <;> try (cases h; done)
      split at h <;> try (cases h; done)
      obtain ⟨rfl, rfl⟩ := Prod.mk.inj (Option.some.inj h); rfl
    case hp b i =>
      split at h <;> try (cases h; done)
      split at h <;> try (cases h; done)
      split at h <;> try (cases h; done)
      obtain ⟨rfl, rfl⟩ := Prod.mk.inj (Option.some.inj h); rfl
    case hf b i j =>
      split at h <;> try (cases h; done)
      split at h <;> try (cases h; done)
      split at h <;> try (cases h; done)
      split at h <;> try (cases h; done)
      split at h <;> try (cases h; done)
      obtain ⟨rfl, rfl⟩ := Prod.mk.inj (Option.some.inj h); rfl
    all_goals cases h

theorem snap_size {d : Nat} {H : Nat → Option Blk} {v t : V} {ids : List Nat} (h : snap d H v = some (t, ids)) : t.size = v.size := by
  rcases snap_shape h with ⟨cs, ts, d', _, rfl, rfl, h2⟩ | ⟨h1, h2⟩
  · exact (overL_spec h2).1
  · rw [← size_cellsOf, ← size_cellsOf, h1, h2]; rfl

theorem ROL_iff {St : Nat → Prop} {w : World} : ∀ {vs : List V} {ms : List Value}, ROL St w vs ms ↔ vs.length = ms.length ∧ ∀ (i : Nat) (v : V), vs[i]? = some v → ∃ m, ms[i]? = some m ∧ RO St w v m
  | [], ms => by
    simp only [ROL, List.length_nil]
    constructor
    · rintro rfl; simp
    · intro h; exact List.eq_nil_of_length_eq_zero h.1.symm
  | v :: vs, [] => by simp [ROL]
  | v :: vs, m :: ms => by
    simp only [ROL]
    constructor
    · rintro ⟨m', ms', e, h1, h2⟩
      cases e
      obtain ⟨h3, h4⟩ := ROL_iff.1 h2
      refine ⟨by simp [h3], fun i v' hi => ?_⟩
      cases i with
      | zero => exact ⟨m, rfl, by obtain rfl : v = v' := by simpa using hi
                                  exact h1⟩
      | succ i => simpa using h4 i v' (by simpa using hi)
    · rintro ⟨h1, h2⟩
      refine ⟨m, ms, rfl, ?_, ROL_iff.2 ⟨by simpa using h1, fun i v' hi => ?_⟩⟩
      · obtain ⟨m', hm, hr⟩ := h2 0 v rfl
        obtain rfl : m = m' := by simpa using hm
        exact hr
      · simpa using h2 (i + 1) v' (by simpa using hi)

theorem ROC_iff {St : Nat → Prop} {w : World} {β : Nat} : ∀ {cs : List V} {o : Nat}, ROC St w β o cs ↔ ∀ j c, cs[j]? = some c → ∃ u, Cel w β (o + j) = some u ∧ RO St w c u
  | [], _ => by simp [ROC]
  | v :: vs, o => by
    constructor
    · exact fun h j c hj => ROC_get h hj
    · intro h
      refine ⟨by simpa using h 0 v rfl, ROC_iff.2 fun j c hj => ?_⟩
      have := h (j + 1) c (by simpa using hj)
      rwa [show o + (j + 1) = o + 1 + j by omega] at this

theorem ROE_of {St : Nat → Prop} {w : World} {β k : Nat} : ∀ {es : List V} {o : Nat}, (∀ e ∈ es, e.size = k) → (∀ (i : Nat) e, es[i]? = some e → ROC St w β (o + i * k) (cellsOf e)) → ROE St w β o es
  | [], o, _, _ => by simp [ROE]
  | e :: es, o, hk, h => by
    rw [ROE_cons]
    refine ⟨by simpa using h 0 e rfl, ROE_of (fun x hx => hk x (by simp [hx])) fun i x hi => ?_⟩
    have := h (i + 1) x (by simpa using hi)
    rw [hk e (by simp)]
    rwa [show o + (i + 1) * k = o + k + i * k by rw [Nat.succ_mul]; omega] at this

theorem snap_spec {H : Nat → Option Blk} {nx : Nat} (q : WR φ St Mine w H nx) {St' : Nat → Prop} (hS : ∀ β, St β → St' β) : ∀ (d : Nat),
    (∀ (v t : V) (m : Value) (ids : List Nat), snap d H v = some (t, ids) → Rep φ St w v m → (∀ b ∈ ids, ∀ β o k, φ b = some (β, o, k) → St' β) → RO St' w t m) ∧
    (∀ (v t : V) (β o : Nat) (ids : List Nat), snap d H v = some (t, ids) → RepC φ St w β o (cellsOf v) → (∀ b ∈ ids, ∀ β o k, φ b = some (β, o, k) → St' β) → ROC St' w β o (cellsOf t))
  | 0 => ⟨fun _ _ _ _ h => by simp [snap] at h, fun _ _ _ _ _ h => by simp [snap] at h⟩
  | d + 1 => by
    obtain ⟨ihV, ihA⟩ := snap_spec q hS d
    have lst : ∀ (cs ts : List V) (ms : List Value) (ids : List Nat), overL (snap d H) cs = some (ts, ids) → RepL φ St w cs ms → (∀ b ∈ ids, ∀ β o k, φ b = some (β, o, k) → St' β) → ROL St' w ts ms := by
      intro cs ts ms ids h r hi
      obtain ⟨h1, h2⟩ := overL_spec h
      rw [RepL_iff] at r
      rw [ROL_iff]
      refine ⟨by rw [h1]; exact r.1, fun i t ht => ?_⟩
      have hlt : i < cs.length := by rw [← h1]; exact (List.getElem?_eq_some_iff.1 ht).1
      obtain ⟨t', j, g1, g2, g3⟩ := h2 i _ (List.getElem?_eq_getElem hlt)
      rw [ht] at g2; obtain rfl := Option.some.inj g2
      obtain ⟨m, hm, hr⟩ := r.2 i _ (List.getElem?_eq_getElem hlt)
      exact ⟨m, hm, ihV _ _ _ _ g1 hr fun b hb => hi b (g3 b hb)⟩
    have val : ∀ (v t : V) (m : Value) (ids : List Nat), snap (d + 1) H v = some (t, ids) → Rep φ St w v m → (∀ b ∈ ids, ∀ β o k, φ b = some (β, o, k) → St' β) → RO St' w t m := by
      intro v t m ids h r hi
      cases v <;> simp only [snap] at h
      case im x => obtain ⟨rfl, rfl⟩ := Prod.mk.inj (Option.some.inj h); simpa [Rep, RO] using r
      case st cs =>
        split at h
        case h_2 => cases h
        rename_i ts i hts
        obtain ⟨rfl, rfl⟩ := Prod.mk.inj (Option.some.inj h)
        simp only [Rep] at r
        obtain ⟨ms, e, r⟩ := r
        simp only [RO]
        exact ⟨ms, e, lst _ _ _ _ hts r hi⟩
      case tu cs =>
        split at h
        case h_2 => cases h
        rename_i ts i hts
        obtain ⟨rfl, rfl⟩ := Prod.mk.inj (Option.some.inj h)
        simp only [Rep] at r
        obtain ⟨ms, e, r⟩ := r
        simp only [RO]
        exact ⟨ms, e, lst _ _ _ _ hts r hi⟩
      case cl f cs =>
        split at h
        case h_2 => cases h
        rename_i ts i hts
        obtain ⟨rfl, rfl⟩ := Prod.mk.inj (Option.some.inj h)
        simp only [Rep] at r
        obtain ⟨ms, e, r⟩ := r
        simp only [RO]
        exact ⟨ms, e, lst _ _ _ _ hts r hi⟩
      case sl es => obtain ⟨rfl, rfl⟩ := Prod.mk.inj (Option.some.inj h); simp only [Rep] at r; exact RO.mono hS (fun _ _ => rfl) _ _ r
      case rp v => obtain ⟨rfl, rfl⟩ := Prod.mk.inj (Option.some.inj h); simp only [Rep] at r; exact RO.mono hS (fun _ _ => rfl) _ _ r
      case e0 =>
        obtain ⟨rfl, rfl⟩ := Prod.mk.inj (Option.some.inj h)
        simp only [Rep] at r
        obtain ⟨a, e⟩ := r
        simp only [RO]
        exact ⟨a, 0, e, by simp, by simp⟩
      case hs b off n c =>
        split at h
        · rename_i hn0
          obtain ⟨rfl, rfl⟩ := Prod.mk.inj (Option.some.inj h)
          simp only [Rep] at r
          obtain ⟨a, c', e, _⟩ := r
          simp only [RO]
          exact ⟨a, c', by rw [e, hn0]; rfl, by simp, by simp⟩
        split at h
        case h_2 => cases h
        rename_i B hB
        split at h
        case isFalse => cases h
        rename_i hle
        split at h
        case h_2 => cases h
        rename_i ts i hts
        obtain ⟨rfl, rfl⟩ := Prod.mk.inj (Option.some.inj h)
        simp only [Rep] at r
        obtain ⟨a, c', e, r1, r2, r3⟩ := r
        obtain ⟨h1, h2⟩ := overL_spec hts
        have hlen : ((B.es.drop off).take n).length = n := by simp; omega
        rw [hlen] at h1
        simp only [RO]
        refine ⟨a, c', by rw [h1]; exact e, by omega, ?_⟩
        by_cases hn : n = 0
        · left; exact List.eq_nil_of_length_eq_zero (by omega)
        · rcases r3 with rfl | ⟨β, o, k, hp, rfl, _⟩
          · omega
          rcases q.blk b B hB with ⟨_, g4⟩ | ⟨β', o', g4, _, _, _, g6, g7⟩
          · rw [g4] at hp; cases hp
          rw [g4] at hp; cases hp
          have hsz : ∀ t ∈ ts, t.size = B.k := by
            intro t ht
            obtain ⟨x, hx⟩ := List.mem_iff_getElem?.1 ht
            have hlt : x < ((B.es.drop off).take n).length := by rw [hlen, ← h1]; exact (List.getElem?_eq_some_iff.1 hx).1
            obtain ⟨t', j, s1, s2, _⟩ := h2 x _ (List.getElem?_eq_getElem hlt)
            rw [hx] at s2; obtain rfl := Option.some.inj s2
            rw [snap_size s1]
            exact g6 _ (List.mem_of_mem_drop (List.mem_of_mem_take (List.getElem_mem hlt)))
          refine .inr ⟨β, _, B.k, rfl, hi b (by simp) β o B.k g4, hsz, ROE_of hsz fun x t ht => ?_⟩
          have hlt : x < ((B.es.drop off).take n).length := by rw [hlen, ← h1]; exact (List.getElem?_eq_some_iff.1 ht).1
          obtain ⟨t', j, s1, s2, s3⟩ := h2 x _ (List.getElem?_eq_getElem hlt)
          rw [ht] at s2; obtain rfl := Option.some.inj s2
          refine ihA _ _ _ _ _ s1 ?_ fun b' hb' => hi b' (by simp [s3 b' hb'])
          have hx : B.es[off + x]? = some ((B.es.drop off).take n)[x] := by
            have := List.getElem?_eq_getElem hlt
            rw [List.getElem?_take] at this
            split at this
            · rwa [List.getElem?_drop] at this
            · cases this
          have := g7 _ _ hx
          rwa [Nat.add_mul, ← Nat.add_assoc] at this
      case hp b i =>
        split at h
        case h_2 => cases h
        rename_i B hB
        split at h
        case h_2 => cases h
        rename_i v hv
        split at h
        case h_2 => cases h
        rename_i t' j ht
        obtain ⟨rfl, rfl⟩ := Prod.mk.inj (Option.some.inj h)
        simp only [Rep] at r
        obtain ⟨β, o, k, hp, e⟩ := r
        rcases q.blk b B hB with ⟨g4, _⟩ | ⟨β', o', g4, _, _, _, g6, g7⟩
        · rw [g4] at hv; simp at hv
        rw [g4] at hp; cases hp
        rw [RO_rp]
        exact ⟨β, _, e, hi b (by simp) β o B.k g4, ihA _ _ _ _ _ ht (g7 i v hv) fun b' hb' => hi b' (by simp [hb'])⟩
      case hf b i j =>
        split at h
        case h_2 => cases h
        rename_i B hB
        split at h
        case h_2 => cases h
        rename_i cs hcs
        split at h
        case h_2 => cases h
        rename_i v hv
        split at h
        case isFalse => cases h
        rename_i hok
        split at h
        case h_2 => cases h
        rename_i t' j' ht
        obtain ⟨rfl, rfl⟩ := Prod.mk.inj (Option.some.inj h)
        simp only [Rep] at r
        obtain ⟨β, o, k, hp, e⟩ := r
        rcases q.blk b B hB with ⟨g4, _⟩ | ⟨β', o', g4, _, _, _, g6, g7⟩
        · rw [g4] at hcs; simp at hcs
        rw [g4] at hp; cases hp
        rw [RO_rp]
        refine ⟨β, _, e, hi b (by simp) β o B.k g4, ihA v t' _ _ _ ht ?_ fun b' hb' => hi b' (by simp [hb'])⟩
        rw [okc_cells hok]
        obtain ⟨u, hu, hr⟩ := RepC_get (g7 i _ hcs) hv
        exact ⟨⟨u, hu, hr⟩, trivial⟩
      all_goals cases h
    refine ⟨val, fun v t β o ids h r hi => ?_⟩
    rcases snap_shape h with ⟨cs, ts, d', hd, rfl, rfl, h2⟩ | ⟨h1, h2⟩
    · obtain rfl : d = d' := by omega
      obtain ⟨h3, h4⟩ := overL_spec h2
      simp only [cellsOf] at r ⊢
      rw [ROC_iff]
      intro j t ht
      have hlt : j < cs.length := by rw [← h3]; exact (List.getElem?_eq_some_iff.1 ht).1
      obtain ⟨t', j', g1, g2, g3⟩ := h4 j _ (List.getElem?_eq_getElem hlt)
      rw [ht] at g2; obtain rfl := Option.some.inj g2
      obtain ⟨u, hu, hr⟩ := RepC_get r (List.getElem?_eq_getElem hlt)
      exact ⟨u, hu, ihV _ _ _ _ g1 hr fun b hb => hi b (g3 b hb)⟩
    · rw [h1] at r; rw [h2]
      obtain ⟨⟨u, hu, hr⟩, _⟩ := r
      exact ⟨⟨u, hu, val v t u ids h hr hi⟩, trivial⟩

/-- Of what is read, each block is one of the frame's own. -/
theorem snap_alive {H : Nat → Option Blk} : ∀ (d : Nat) (v t : V) (ids : List Nat), snap d H v = some (t, ids) → ∀ b ∈ ids, ∃ B, H b = some B
  | 0, _, _, _, h => by simp [snap] at h
  | d + 1, v, t, ids, h => by
    have lst : ∀ (cs ts : List V) (ids : List Nat), overL (snap d H) cs = some (ts, ids) → ∀ b ∈ ids, ∃ B, H b = some B := by
      intro cs
      induction cs with
      | nil => intro ts ids h; simp only [overL, Option.some.injEq, Prod.mk.injEq] at h; obtain ⟨_, rfl⟩ := h; simp
      | cons c cs ih =>
        intro ts ids h
        obtain ⟨t, ts', i, j, h1, h2, rfl, rfl⟩ := overL_cons h
        intro b hb
        rcases List.mem_append.1 hb with hb | hb
        · exact snap_alive d _ _ _ h1 b hb
        · exact ih _ _ h2 b hb
    cases v <;> simp only [snap] at h
    case st cs => split at h
                  · rename_i hts; obtain ⟨_, rfl⟩ := Prod.mk.inj (Option.some.inj h); exact lst _ _ _ hts
                  · cases h
    case tu cs => split at h
                  · rename_i hts; obtain ⟨_, rfl⟩ := Prod.mk.inj (Option.some.inj h); exact lst _ _ _ hts
                  · cases h
    case cl f cs => split at h
                    · rename_i hts; obtain ⟨_, rfl⟩ := Prod.mk.inj (Option.some.inj h); exact lst _ _ _ hts
                    · cases h
    case hs b off n c =>
      split at h
      · obtain ⟨_, rfl⟩ := Prod.mk.inj (Option.some.inj h); simp
      split at h <;> try (cases h; done)
      rename_i B hB
      split at h <;> try (cases h; done)
      split at h <;> try (cases h; done)
      rename_i hts
      obtain ⟨_, rfl⟩ := Prod.mk.inj (Option.some.inj h)
      intro b' hb'
      rcases List.mem_cons.1 hb' with rfl | hb'
      · exact ⟨B, hB⟩
      · exact lst _ _ _ hts b' hb'
    case hp b i =>
      split at h <;> try (cases h; done)
      rename_i B hB
      split at h <;> try (cases h; done)
      split at h <;> try (cases h; done)
      rename_i hts
      obtain ⟨_, rfl⟩ := Prod.mk.inj (Option.some.inj h)
      intro b' hb'
      rcases List.mem_cons.1 hb' with rfl | hb'
      · exact ⟨B, hB⟩
      · exact snap_alive d _ _ _ hts b' hb'
    case hf b i j =>
      split at h <;> try (cases h; done)
      rename_i B hB
      split at h <;> try (cases h; done)
      split at h <;> try (cases h; done)
      split at h <;> try (cases h; done)
      split at h <;> try (cases h; done)
      rename_i hts
      obtain ⟨_, rfl⟩ := Prod.mk.inj (Option.some.inj h)
      intro b' hb'
      rcases List.mem_cons.1 hb' with rfl | hb'
      · exact ⟨B, hB⟩
      · exact snap_alive d _ _ _ hts b' hb'
    case im x => obtain ⟨_, rfl⟩ := Prod.mk.inj (Option.some.inj h); simp
    case sl x => obtain ⟨_, rfl⟩ := Prod.mk.inj (Option.some.inj h); simp
    case rp x => obtain ⟨_, rfl⟩ := Prod.mk.inj (Option.some.inj h); simp
    case e0 => obtain ⟨_, rfl⟩ := Prod.mk.inj (Option.some.inj h); simp
    all_goals cases h

end Go.Am

/- The A-machine, part 13: what is handed over with its memory. -/
namespace Go.Am
variable {P : Program} {φ : Phi} {St Mine : Nat → Prop} {w : World}

/-- The machine's blocks of some of the frame's. -/
def Lof (φ : Phi) (ids : List Nat) : List Nat := ids.flatMap fun b => match φ b with | some (β, _, _) => [β] | none => []

theorem Lof_append (φ : Phi) (i j : List Nat) : Lof φ (i ++ j) = Lof φ i ++ Lof φ j := by simp [Lof]
theorem Lof_cons (φ : Phi) (b : Nat) (j : List Nat) : Lof φ (b :: j) = Lof φ [b] ++ Lof φ j := by simp [Lof]
theorem Lof_nil (φ : Phi) : Lof φ [] = [] := rfl
theorem Lof_some {φ : Phi} {b β o k : Nat} (h : φ b = some (β, o, k)) : Lof φ [b] = [β] := by simp [Lof, h]
theorem mem_Lof {φ : Phi} {ids : List Nat} {β : Nat} : β ∈ Lof φ ids ↔ ∃ b ∈ ids, ∃ o k, φ b = some (β, o, k) := by
  unfold Lof
  rw [List.mem_flatMap]
  constructor
  · rintro ⟨b, hb, hm⟩
    refine ⟨b, hb, ?_⟩
    cases h : φ b with
    | none => rw [h] at hm; simp at hm
    | some x => obtain ⟨β', o, k⟩ := x; rw [h] at hm; simp at hm; subst hm; exact ⟨o, k, rfl⟩
  · rintro ⟨b, hb, o, k, h⟩
    exact ⟨b, hb, by rw [h]; simp⟩

theorem give_shape {d : Nat} {H : Nat → Option Blk} {v t : V} {ids : List Nat} (h : give d H v = some (t, ids)) :
    (∃ cs ts d', d = d' + 1 ∧ v = .st cs ∧ t = .st ts ∧ overL (give d' H) cs = some (ts, ids)) ∨ (cellsOf v = [v] ∧ cellsOf t = [t]) := by
  cases d with
  | zero => simp [give] at h
  | succ d =>
    cases v <;> simp only [give] at h
    case st cs =>
      split at h
      case h_2 => cases h
      rename_i ts i hts
      obtain ⟨rfl, rfl⟩ := Prod.mk.inj (Option.some.inj h)
      exact .inl ⟨cs, ts, d, rfl, rfl, rfl, hts⟩
    all_goals refine .inr ⟨rfl, ?_⟩
    case im x => obtain ⟨rfl, rfl⟩ := Prod.mk.inj (Option.some.inj h); rfl
    case tu cs => split at h
                  · obtain ⟨rfl, rfl⟩ := Prod.mk.inj (Option.some.inj h); rfl
                  · cases h
    case cl f cs => split at h
                    · obtain ⟨rfl, rfl⟩ := Prod.mk.inj (Option.some.inj h); rfl
                    · cases h
    case sl es => obtain ⟨rfl, rfl⟩ := Prod.mk.inj (Option.some.inj h); rfl
    case rp v => obtain ⟨rfl, rfl⟩ := Prod.mk.inj (Option.some.inj h); rfl
    case e0 => obtain ⟨rfl, rfl⟩ := Prod.mk.inj (Option.some.inj h); rfl
    case hs b off n c =>
      split at h <;> try (cases h; done)
      split at h <;> try (cases h; done)
      split at h <;> try (cases h; done)
      obtain ⟨rfl, rfl⟩ := Prod.mk.inj (Option.some.inj h); rfl
    case hp b i =>
      split at h <;> try (cases h; done)
      split at h <;> try (cases h; done)
      split at h <;> try (cases h; done)
      obtain ⟨rfl, rfl⟩ := Prod.mk.inj (Option.some.inj h); rfl
    all_goals cases h

theorem give_size {d : Nat} {H : Nat → Option Blk} {v t : V} {ids : List Nat} (h : give d H v = some (t, ids)) : t.size = v.size := by
  rcases give_shape h with ⟨cs, ts, d', _, rfl, rfl, h2⟩ | ⟨h1, h2⟩
  · exact (overL_spec h2).1
  · rw [← size_cellsOf, ← size_cellsOf, h1, h2]; rfl

theorem give_spec {H : Nat → Option Blk} {nx : Nat} (q : WR φ St Mine w H nx) : ∀ (d : Nat),
    (∀ (v t : V) (m : Value) (ids : List Nat), give d H v = some (t, ids) → Rep φ St w v m → RepT St w t m (Lof φ ids)) ∧
    (∀ (v t : V) (β o : Nat) (ids : List Nat), give d H v = some (t, ids) → RepC φ St w β o (cellsOf v) → RepTC St w β o (cellsOf t) (Lof φ ids))
  | 0 => ⟨fun _ _ _ _ h => by simp [give] at h, fun _ _ _ _ _ h => by simp [give] at h⟩
  | d + 1 => by
    obtain ⟨ihV, ihA⟩ := give_spec q d
    have lst : ∀ (cs ts : List V) (ms : List Value) (ids : List Nat), overL (give d H) cs = some (ts, ids) → RepL φ St w cs ms → RepTL St w ts ms (Lof φ ids) := by
      intro cs
      induction cs with
      | nil =>
        intro ts ms ids h r
        simp only [overL, Option.some.injEq, Prod.mk.injEq] at h
        obtain ⟨rfl, rfl⟩ := h
        simp only [RepL] at r
        subst r
        simp [RepTL, Lof]
      | cons c cs ih =>
        intro ts ms ids h r
        obtain ⟨t, ts', i, j, h1, h2, rfl, rfl⟩ := overL_cons h
        simp only [RepL] at r
        obtain ⟨m, ms', rfl, r1, r2⟩ := r
        simp only [RepTL]
        exact ⟨m, ms', _, _, rfl, Lof_append _ _ _, ihV _ _ _ _ h1 r1, ih _ _ _ h2 r2⟩
    have cel : ∀ (cs ts : List V) (β o : Nat) (ids : List Nat), overL (give d H) cs = some (ts, ids) → RepC φ St w β o cs → RepTC St w β o ts (Lof φ ids) := by
      intro cs
      induction cs with
      | nil =>
        intro ts β o ids h r
        simp only [overL, Option.some.injEq, Prod.mk.injEq] at h
        obtain ⟨rfl, rfl⟩ := h
        simp [RepTC, Lof]
      | cons c cs ih =>
        intro ts β o ids h r
        obtain ⟨t, ts', i, j, h1, h2, rfl, rfl⟩ := overL_cons h
        obtain ⟨⟨u, hu, r1⟩, r2⟩ := r
        simp only [RepTC]
        exact ⟨_, _, Lof_append _ _ _, ⟨u, hu, ihV _ _ _ _ h1 r1⟩, ih _ _ _ _ h2 r2⟩
    have els : ∀ (es ts : List V) (β o k : Nat) (ids : List Nat), overL (give d H) es = some (ts, ids) → (∀ e ∈ es, e.size = k) → (∀ (i : Nat) e, es[i]? = some e → RepC φ St w β (o + i * k) (cellsOf e)) → RepTE St w β o ts (Lof φ ids) := by
      intro es
      induction es with
      | nil =>
        intro ts β o k ids h _ _
        simp only [overL, Option.some.injEq, Prod.mk.injEq] at h
        obtain ⟨rfl, rfl⟩ := h
        simp [RepTE, Lof]
      | cons e es ih =>
        intro ts β o k ids h hk r
        obtain ⟨t, ts', i, j, h1, h2, rfl, rfl⟩ := overL_cons h
        rw [RepTE_cons]
        refine ⟨_, _, Lof_append _ _ _, ihA _ _ _ _ _ h1 (by simpa using r 0 e rfl), ?_⟩
        refine ih _ _ _ k _ h2 (fun x hx => hk x (by simp [hx])) fun i x hi => ?_
        have := r (i + 1) x (by simpa using hi)
        rw [give_size h1, hk e (by simp)]
        rwa [show o + k + i * k = o + (i + 1) * k by rw [Nat.succ_mul]; omega]
    have val : ∀ (v t : V) (m : Value) (ids : List Nat), give (d + 1) H v = some (t, ids) → Rep φ St w v m → RepT St w t m (Lof φ ids) := by
      intro v t m ids h r
      cases v <;> simp only [give] at h
      case im x => obtain ⟨rfl, rfl⟩ := Prod.mk.inj (Option.some.inj h); simpa [Rep, RepT, Lof] using r
      case st cs =>
        split at h
        case h_2 => cases h
        rename_i ts i hts
        obtain ⟨rfl, rfl⟩ := Prod.mk.inj (Option.some.inj h)
        simp only [Rep] at r
        obtain ⟨ms, e, r⟩ := r
        simp only [RepT]
        exact ⟨ms, e, lst _ _ _ _ hts r⟩
      case tu cs =>
        split at h
        case h_2 => cases h
        rename_i ts i hts
        obtain ⟨rfl, rfl⟩ := Prod.mk.inj (Option.some.inj h)
        simp only [Rep] at r
        obtain ⟨ms, e, r⟩ := r
        simp only [RepT]
        exact ⟨ms, e, lst _ _ _ _ hts r⟩
      case cl f cs =>
        split at h
        case h_2 => cases h
        rename_i ts i hts
        obtain ⟨rfl, rfl⟩ := Prod.mk.inj (Option.some.inj h)
        simp only [Rep] at r
        obtain ⟨ms, e, r⟩ := r
        simp only [RepT]
        exact ⟨ms, e, lst _ _ _ _ hts r⟩
      case sl es => obtain ⟨rfl, rfl⟩ := Prod.mk.inj (Option.some.inj h); simp only [Rep] at r; simp only [RepT]; exact ⟨r, rfl⟩
      case rp v => obtain ⟨rfl, rfl⟩ := Prod.mk.inj (Option.some.inj h); simp only [Rep] at r; simp only [RepT]; exact ⟨r, rfl⟩
      case e0 => obtain ⟨rfl, rfl⟩ := Prod.mk.inj (Option.some.inj h); simp only [Rep] at r; simp only [RepT]; exact ⟨r, rfl⟩
      case hs b off n c =>
        split at h
        case h_2 => cases h
        rename_i B hB
        split at h
        case isFalse => cases h
        rename_i hle
        split at h
        case h_2 => cases h
        rename_i ts i hts
        obtain ⟨rfl, rfl⟩ := Prod.mk.inj (Option.some.inj h)
        simp only [Rep] at r
        obtain ⟨a, c', e, r1, r2, r3⟩ := r
        obtain ⟨h1, _⟩ := overL_spec hts
        have hlen : ((B.es.drop off).take n).length = n := by simp; omega
        rw [hlen] at h1
        simp only [RepT]
        refine ⟨a, c', by rw [h1]; exact e, by omega, ?_⟩
        by_cases hc0 : c' = 0
        · left
          refine ⟨hc0, ?_⟩
          have hn : n = 0 := by omega
          subst hn
          simp only [List.take_zero, overL, Option.some.injEq, Prod.mk.injEq] at hts
          obtain ⟨_, rfl⟩ := hts
          unfold Lof
          simp only [List.flatMap_cons, List.flatMap_nil, List.append_nil]
          split <;> simp
        · right
          rcases r3 with h0 | ⟨β, o, k, hp, rfl, hroom⟩
          · omega
          rcases q.blk b B hB with ⟨_, g4⟩ | ⟨β', o', g4, _, _, g5, g6, g7⟩
          · rw [g4] at hp; cases hp
          rw [g4] at hp; cases hp
          have hwin : ∀ (x : Nat) e, ((B.es.drop off).take n)[x]? = some e → B.es[off + x]? = some e := by
            intro x e hx
            rw [List.getElem?_take] at hx
            split at hx
            · rwa [List.getElem?_drop] at hx
            · cases hx
          refine ⟨β, o + off * B.k, Lof φ i, rfl, by rw [Lof_cons, Lof_some g4]; rfl, ?_, ?_, ?_⟩
          · obtain ⟨cs, ty, c1, c2⟩ := g5
            obtain ⟨cs', ty', fz, d1, d2⟩ := hroom
            rw [c1] at d1
            obtain ⟨rfl, rfl, rfl⟩ := Obj.cells.inj (Option.some.inj d1)
            exact ⟨cs, ty, c1, by rw [Nat.add_mul] at d2; omega⟩
          · intro t ht
            obtain ⟨x, hx⟩ := List.mem_iff_getElem?.1 ht
            obtain ⟨_, h2⟩ := overL_spec hts
            have hlt : x < ((B.es.drop off).take n).length := by rw [hlen, ← h1]; exact (List.getElem?_eq_some_iff.1 hx).1
            obtain ⟨t', j, s1, s2, _⟩ := h2 x _ (List.getElem?_eq_getElem hlt)
            rw [hx] at s2; obtain rfl := Option.some.inj s2
            rw [give_size s1]
            exact g6 _ (List.mem_of_mem_drop (List.mem_of_mem_take (List.getElem_mem hlt)))
          · refine els _ _ _ _ B.k _ hts (fun e he => g6 e (List.mem_of_mem_drop (List.mem_of_mem_take he))) fun x e hx => ?_
            have := g7 _ _ (hwin x e hx)
            rwa [Nat.add_mul, ← Nat.add_assoc] at this
      case hp b i =>
        split at h
        case h_2 => cases h
        rename_i B hB
        split at h
        case isFalse => cases h
        rename_i hcond
        obtain ⟨rfl, hlen⟩ := hcond
        split at h
        case h_2 => cases h
        rename_i t' j hts
        obtain ⟨rfl, rfl⟩ := Prod.mk.inj (Option.some.inj h)
        simp only [Rep] at r
        obtain ⟨β, o, k, hp, e⟩ := r
        obtain ⟨v0, hv0⟩ : ∃ v0, B.es = [v0] := by
          match hes : B.es, hlen with
          | [v0], _ => exact ⟨v0, rfl⟩
        rw [hv0] at hts
        obtain ⟨t2, ts2, i2, j2, s1, s2, s3, s4⟩ := overL_cons hts
        simp only [overL, Option.some.injEq, Prod.mk.injEq] at s2
        obtain ⟨rfl, rfl⟩ := s2
        obtain rfl : t' = t2 := by simpa using s3
        rw [List.append_nil] at s4
        subst s4
        rcases q.blk b B hB with ⟨g4, _⟩ | ⟨β', o', g4, _, _, g5, g6, g7⟩
        · rw [g4] at hv0; simp at hv0
        rw [g4] at hp; cases hp
        rw [RepT_op]
        refine ⟨β, o, Lof φ j, by simpa using e, by rw [Lof_cons, Lof_some g4]; rfl, ?_, ?_⟩
        · rw [give_size s1]
          have : v0.size = B.k := g6 v0 (by rw [hv0]; simp)
          rw [this]
          exact g5.mono (by rw [hlen]; omega)
        · exact ihA _ _ _ _ _ s1 (by simpa using g7 0 v0 (by rw [hv0]; rfl))
      all_goals cases h
    refine ⟨val, fun v t β o ids h r => ?_⟩
    rcases give_shape h with ⟨cs, ts, d', hd, rfl, rfl, h2⟩ | ⟨h1, h2⟩
    · obtain rfl : d = d' := by omega
      simp only [cellsOf] at r ⊢
      exact cel _ _ _ _ _ h2 r
    · rw [h1] at r; rw [h2]
      obtain ⟨⟨u, hu, hr⟩, _⟩ := r
      simp only [RepTC]
      exact ⟨_, [], by simp, ⟨u, hu, val v t u ids h hr⟩, rfl⟩

/-- Of what is handed over, each block is one of the frame's own. -/
theorem give_alive {H : Nat → Option Blk} : ∀ (d : Nat) (v t : V) (ids : List Nat), give d H v = some (t, ids) → ∀ b ∈ ids, ∃ B, H b = some B
  | 0, _, _, _, h => by simp [give] at h
  | d + 1, v, t, ids, h => by
    have lst : ∀ (cs ts : List V) (ids : List Nat), overL (give d H) cs = some (ts, ids) → ∀ b ∈ ids, ∃ B, H b = some B := by
      intro cs
      induction cs with
      | nil => intro ts ids h; simp only [overL, Option.some.injEq, Prod.mk.injEq] at h; obtain ⟨_, rfl⟩ := h; simp
      | cons c cs ih =>
        intro ts ids h
        obtain ⟨t, ts', i, j, h1, h2, rfl, rfl⟩ := overL_cons h
        intro b hb
        rcases List.mem_append.1 hb with hb | hb
        · exact give_alive d _ _ _ h1 b hb
        · exact ih _ _ h2 b hb
    cases v <;> simp only [give] at h
    case st cs => split at h
                  · rename_i hts; obtain ⟨_, rfl⟩ := Prod.mk.inj (Option.some.inj h); exact lst _ _ _ hts
                  · cases h
    case tu cs => split at h
                  · rename_i hts; obtain ⟨_, rfl⟩ := Prod.mk.inj (Option.some.inj h); exact lst _ _ _ hts
                  · cases h
    case cl f cs => split at h
                    · rename_i hts; obtain ⟨_, rfl⟩ := Prod.mk.inj (Option.some.inj h); exact lst _ _ _ hts
                    · cases h
    case hs b off n c =>
      split at h <;> try (cases h; done)
      rename_i B hB
      split at h <;> try (cases h; done)
      split at h <;> try (cases h; done)
      rename_i hts
      obtain ⟨_, rfl⟩ := Prod.mk.inj (Option.some.inj h)
      intro b' hb'
      rcases List.mem_cons.1 hb' with rfl | hb'
      · exact ⟨B, hB⟩
      · exact lst _ _ _ hts b' hb'
    case hp b i =>
      split at h <;> try (cases h; done)
      rename_i B hB
      split at h <;> try (cases h; done)
      split at h <;> try (cases h; done)
      rename_i hts
      obtain ⟨_, rfl⟩ := Prod.mk.inj (Option.some.inj h)
      intro b' hb'
      rcases List.mem_cons.1 hb' with rfl | hb'
      · exact ⟨B, hB⟩
      · exact lst _ _ _ hts b' hb'
    case im x => obtain ⟨_, rfl⟩ := Prod.mk.inj (Option.some.inj h); simp
    case sl x => obtain ⟨_, rfl⟩ := Prod.mk.inj (Option.some.inj h); simp
    case rp x => obtain ⟨_, rfl⟩ := Prod.mk.inj (Option.some.inj h); simp
    case e0 => obtain ⟨_, rfl⟩ := Prod.mk.inj (Option.some.inj h); simp
    all_goals cases h

end Go.Am

/- The A-machine, part 14: what is taken over becomes blocks of the frame's own. -/
namespace Go.Am
variable {P : Program} {St Mine : Nat → Prop} {w : World}

/-- An empty block without memory. -/
theorem WR.empty {φ : Phi} {H : Nat → Option Blk} {nx k : Nat} (q : WR φ St Mine w H nx) : WR φ St Mine w (upd H nx (some { k := k, es := [] })) (nx + 1) := by
  have old : ∀ b B, upd H nx (some { k := k, es := [] }) b = some B → (b = nx ∧ B = { k := k, es := [] }) ∨ (b ≠ nx ∧ H b = some B) := by
    intro b B h
    by_cases e : b = nx
    · subst e; rw [upd_same] at h; exact .inl ⟨rfl, (Option.some.inj h).symm⟩
    · rw [upd_ne _ _ e] at h; exact .inr ⟨e, h⟩
  have hd := q.dom nx (Nat.le_refl _)
  refine ⟨fun b hb => by rw [upd_ne _ _ (by omega)]; exact q.bnd b (by omega), fun b hb => q.dom b (by omega), fun b B hB => ?_, ?_, ?_, q.stB, q.mine⟩
  · rcases old b B hB with ⟨rfl, rfl⟩ | ⟨_, h⟩
    · exact .inl ⟨rfl, hd⟩
    · exact q.blk b B h
  · intro b b' B B' β o k o' k' h1 h2 p1 p2
    rcases old b B h1 with ⟨rfl, _⟩ | ⟨_, g1⟩
    · rw [hd] at p1; cases p1
    rcases old b' B' h2 with ⟨rfl, _⟩ | ⟨_, g2⟩
    · rw [hd] at p2; cases p2
    exact q.inj b b' B B' β o k o' k' g1 g2 p1 p2
  · intro b B β o k h1 p1
    rcases old b B h1 with ⟨rfl, _⟩ | ⟨_, g1⟩
    · rw [hd] at p1; cases p1
    exact q.own b B β o k g1 p1

/-- A machine's block that nobody else holds becomes a block of the frame. -/
theorem WR.adopt {φ : Phi} {H : Nat → Option Blk} {nx k β o : Nat} {es : List V} (q : WR φ St Mine w H nx) (hfree : ∀ b B o' k', H b = some B → φ b = some (β, o', k') → False)
    (hS : ¬ St β) (hM : Mine β) (ho : Own w β (o + es.length * k)) (hk : ∀ e ∈ es, e.size = k) (hr : RepE φ St w β o k es) :
    WR (upd φ nx (some (β, o, k))) St Mine w (upd H nx (some { k := k, es := es })) (nx + 1) := by
  have hφ : ∀ b x, φ b = some x → upd φ nx (some (β, o, k)) b = some x := fun b x hx => by
    rw [upd_ne]; · exact hx
    rintro rfl; rw [q.dom b (Nat.le_refl _)] at hx; cases hx
  have old : ∀ b B, upd H nx (some { k := k, es := es }) b = some B → (b = nx ∧ B = { k := k, es := es }) ∨ (b ≠ nx ∧ H b = some B) := by
    intro b B h
    by_cases e : b = nx
    · subst e; rw [upd_same] at h; exact .inl ⟨rfl, (Option.some.inj h).symm⟩
    · rw [upd_ne _ _ e] at h; exact .inr ⟨e, h⟩
  refine ⟨fun b hb => by rw [upd_ne _ _ (by omega)]; exact q.bnd b (by omega), fun b hb => by rw [upd_ne _ _ (by omega)]; exact q.dom b (by omega), fun b B hB => ?_, ?_, ?_, q.stB, q.mine⟩
  · rcases old b B hB with ⟨rfl, rfl⟩ | ⟨e, h⟩
    · exact .inr ⟨β, o, upd_same _ _ _, fun _ => hS, fun h => (by simp at h), ho, hk, RepE.mono hφ (fun _ h => h) (fun _ _ => rfl) (fun _ _ h => h) (fun _ => rfl) hr⟩
    · exact BlkOK.mono hφ (fun hn => by rw [upd_ne _ _ e]; exact hn) (fun _ _ => rfl) (fun _ _ h => h) (fun _ _ _ _ => rfl) (q.blk b B h)
  · intro b b' B B' β1 o1 k1 o2 k2 h1 h2 p1 p2
    rcases old b B h1 with ⟨rfl, _⟩ | ⟨e1, g1⟩ <;> rcases old b' B' h2 with ⟨rfl, _⟩ | ⟨e2, g2⟩
    · rfl
    · rw [upd_same] at p1; cases p1
      rw [upd_ne _ _ e2] at p2
      exact (hfree b' B' _ _ g2 p2).elim
    · rw [upd_same] at p2; cases p2
      rw [upd_ne _ _ e1] at p1
      exact (hfree b B _ _ g1 p1).elim
    · rw [upd_ne _ _ e1] at p1; rw [upd_ne _ _ e2] at p2
      exact q.inj b b' B B' β1 o1 k1 o2 k2 g1 g2 p1 p2
  · intro b B β1 o1 k1 h1 p1
    rcases old b B h1 with ⟨rfl, _⟩ | ⟨e1, g1⟩
    · rw [upd_same] at p1; cases p1; exact hM
    · rw [upd_ne _ _ e1] at p1; exact q.own b B β1 o1 k1 g1 p1

theorem takeL_cons {f : V → S → Option (V × S)} {t : V} {ts vs : List V} {s s2 : S} (h : takeL f (t :: ts) s = some (vs, s2)) :
    ∃ v vs' s1, f t s = some (v, s1) ∧ takeL f ts s1 = some (vs', s2) ∧ vs = v :: vs' := by
  simp only [takeL] at h
  split at h
  case h_2 => cases h
  rename_i v s1 hv
  split at h
  case h_2 => cases h
  rename_i vs' s2' hvs
  obtain ⟨rfl, rfl⟩ := Prod.mk.inj (Option.some.inj h)
  exact ⟨v, vs', s1, hv, hvs, rfl⟩

theorem takeL_len {f : V → S → Option (V × S)} : ∀ {ts vs : List V} {s s2 : S}, takeL f ts s = some (vs, s2) → vs.length = ts.length
  | [], vs, s, s2, h => by simp only [takeL, Option.some.injEq, Prod.mk.injEq] at h; obtain ⟨rfl, _⟩ := h; rfl
  | t :: ts, vs, s, s2, h => by
    obtain ⟨v, vs', s1, _, h2, rfl⟩ := takeL_cons h
    simp [takeL_len h2]

theorem take_shape {d : Nat} {t v : V} {s s1 : S} (h : takeIn d t s = some (v, s1)) :
    (∃ cs vs d', d = d' + 1 ∧ t = .st cs ∧ v = .st vs ∧ takeL (takeIn d') cs s = some (vs, s1)) ∨ (cellsOf t = [t] ∧ cellsOf v = [v]) := by
  cases d with
  | zero => simp [takeIn] at h
  | succ d =>
    cases t <;> simp only [takeIn] at h
    case st cs =>
      split at h
      case h_2 => cases h
      rename_i vs s2 hts
      obtain ⟨rfl, rfl⟩ := Prod.mk.inj (Option.some.inj h)
      exact .inl ⟨cs, vs, d, rfl, rfl, rfl, hts⟩
    all_goals refine .inr ⟨rfl, ?_⟩
    case im x => obtain ⟨rfl, rfl⟩ := Prod.mk.inj (Option.some.inj h); rfl
    case tu cs => split at h
                  · obtain ⟨rfl, rfl⟩ := Prod.mk.inj (Option.some.inj h); rfl
                  · cases h
    case cl f cs => split at h
                    · obtain ⟨rfl, rfl⟩ := Prod.mk.inj (Option.some.inj h); rfl
                    · cases h
    case sl es => obtain ⟨rfl, rfl⟩ := Prod.mk.inj (Option.some.inj h); rfl
    case rp v => obtain ⟨rfl, rfl⟩ := Prod.mk.inj (Option.some.inj h); rfl
    case e0 => obtain ⟨rfl, rfl⟩ := Prod.mk.inj (Option.some.inj h); rfl
    case ow k es => split at h
                    · obtain ⟨rfl, rfl⟩ := Prod.mk.inj (Option.some.inj h); rfl
                    · cases h
    case op v => split at h
                 · obtain ⟨rfl, rfl⟩ := Prod.mk.inj (Option.some.inj h); rfl
                 · cases h
    all_goals cases h

theorem take_size {d : Nat} {t v : V} {s s1 : S} (h : takeIn d t s = some (v, s1)) : v.size = t.size := by
  rcases take_shape h with ⟨cs, vs, d', _, rfl, rfl, h2⟩ | ⟨h1, h2⟩
  · exact takeL_len h2
  · rw [← size_cellsOf, ← size_cellsOf, h1, h2]; rfl

/-- From s to s1 blocks have come, all out of L; nothing else has turned. -/
structure Tk (φ φ' : Phi) (s s1 : S) (L : List Nat) : Prop where
  ext : Ext φ φ' s.nx
  e : s1.e = s.e
  nx : s.nx ≤ s1.nx
  old : ∀ b, b < s.nx → s1.H b = s.H b
  new : ∀ b B β o k, s.nx ≤ b → s1.H b = some B → φ' b = some (β, o, k) → β ∈ L
  fz : s1.fz = s.fz
  fr : ∀ b B, s.nx ≤ b → s1.H b = some B → B.fr = false

theorem Tk.refl {φ : Phi} {s : S} {H : Nat → Option Blk} (q : WR φ St Mine w H s.nx) (hH : s.H = H) (L : List Nat) : Tk φ φ s s L :=
  ⟨Ext.refl _ _, rfl, Nat.le_refl _, fun _ _ => rfl, fun b B β o k hb _ hp => (by rw [q.dom b hb] at hp; cases hp), rfl, fun b B hb hB => (by rw [hH, q.bnd b hb] at hB; cases hB)⟩

theorem Tk.trans {φ φ1 φ2 : Phi} {s s1 s2 : S} {L1 L2 L : List Nat} (h : Tk φ φ1 s s1 L1) (k : Tk φ1 φ2 s1 s2 L2) (h1 : ∀ β ∈ L1, β ∈ L) (h2 : ∀ β ∈ L2, β ∈ L) : Tk φ φ2 s s2 L :=
  ⟨h.ext.trans k.ext h.nx, k.e.trans h.e, Nat.le_trans h.nx k.nx, fun b hb => (k.old b (Nat.lt_of_lt_of_le hb h.nx)).trans (h.old b hb), fun b B β o k' hb hB hp => by
    by_cases hlt : b < s1.nx
    · rw [k.old b hlt] at hB
      rw [k.ext b hlt] at hp
      exact h1 _ (h.new b B β o k' hb hB hp)
    · exact h2 _ (k.new b B β o k' (by omega) hB hp), k.fz.trans h.fz, fun b B hb hB => by
    by_cases hlt : b < s1.nx
    · rw [k.old b hlt] at hB; exact h.fr b B hb hB
    · exact k.fr b B (by omega) hB⟩

theorem Tk.some {φ φ' : Phi} {s s1 : S} {L : List Nat} (h : Tk φ φ' s s1 L) {H : Nat → Option Blk} (q : WR φ St Mine w H s.nx) : ∀ b x, φ b = some x → φ' b = some x := h.ext.some q

/-- What may be taken over. -/
structure Can (φ : Phi) (St Mine : Nat → Prop) (s : S) (L : List Nat) : Prop where
  nd : L.Nodup
  ns : ∀ β ∈ L, ¬ St β
  mi : ∀ β ∈ L, Mine β
  fr : ∀ b B β o k, s.H b = some B → φ b = some (β, o, k) → β ∉ L

theorem Can.left {φ : Phi} {s : S} {L1 L2 : List Nat} (h : Can φ St Mine s (L1 ++ L2)) : Can φ St Mine s L1 :=
  ⟨(List.nodup_append.1 h.nd).1, fun β hb => h.ns β (by simp [hb]), fun β hb => h.mi β (by simp [hb]), fun b B β o k h1 h2 h3 => h.fr b B β o k h1 h2 (by simp [h3])⟩

theorem Can.right {φ φ1 : Phi} {s s1 : S} {L1 L2 : List Nat} (h : Can φ St Mine s (L1 ++ L2)) (t : Tk φ φ1 s s1 L1) {H : Nat → Option Blk} (q : WR φ St Mine w H s.nx) (hH : s.H = H) : Can φ1 St Mine s1 L2 := by
  refine ⟨(List.nodup_append.1 h.nd).2.1, fun β hb => h.ns β (by simp [hb]), fun β hb => h.mi β (by simp [hb]), fun b B β o k h1 h2 h3 => ?_⟩
  by_cases hlt : b < s.nx
  · rw [t.old b hlt] at h1
    rw [t.ext b hlt] at h2
    exact h.fr b B β o k h1 h2 (by simp [h3])
  · have := t.new b B β o k (by omega) h1 h2
    exact (List.nodup_append.1 h.nd).2.2 β this β h3 rfl

theorem mono_same {φ φ' : Phi} {v : V} {m : Value} (hφ : ∀ b x, φ b = some x → φ' b = some x) (h : Rep φ St w v m) : Rep φ' St w v m := Rep.mono hφ (fun _ h => h) (fun _ _ => rfl) (fun _ _ h => h) v m h
theorem monoC_same {φ φ' : Phi} {vs : List V} {β o : Nat} (hφ : ∀ b x, φ b = some x → φ' b = some x) (h : RepC φ St w β o vs) : RepC φ' St w β o vs := RepC.mono hφ (fun _ h => h) (fun _ _ => rfl) (fun _ _ h => h) (fun _ => rfl) vs o h

theorem take_spec : ∀ (d : Nat),
    (∀ (φ : Phi) (t v : V) (m : Value) (L : List Nat) (s s1 : S), takeIn d t s = some (v, s1) → RepT St w t m L → Can φ St Mine s L → WR φ St Mine w s.H s.nx →
      ∃ φ', Tk φ φ' s s1 L ∧ Rep φ' St w v m ∧ WR φ' St Mine w s1.H s1.nx) ∧
    (∀ (φ : Phi) (t v : V) (β o : Nat) (L : List Nat) (s s1 : S), takeIn d t s = some (v, s1) → RepTC St w β o (cellsOf t) L → Can φ St Mine s L → WR φ St Mine w s.H s.nx →
      ∃ φ', Tk φ φ' s s1 L ∧ RepC φ' St w β o (cellsOf v) ∧ WR φ' St Mine w s1.H s1.nx)
  | 0 => ⟨fun _ _ _ _ _ _ _ h => by simp [takeIn] at h, fun _ _ _ _ _ _ _ _ h => by simp [takeIn] at h⟩
  | d + 1 => by
    obtain ⟨ihV, ihA⟩ := take_spec d
    have lst : ∀ (ts vs : List V) (φ : Phi) (ms : List Value) (L : List Nat) (s s1 : S), takeL (takeIn d) ts s = some (vs, s1) → RepTL St w ts ms L → Can φ St Mine s L → WR φ St Mine w s.H s.nx →
        ∃ φ', Tk φ φ' s s1 L ∧ RepL φ' St w vs ms ∧ WR φ' St Mine w s1.H s1.nx := by
      intro ts
      induction ts with
      | nil =>
        intro vs φ ms L s s1 h r c q
        simp only [takeL, Option.some.injEq, Prod.mk.injEq] at h
        obtain ⟨rfl, rfl⟩ := h
        simp only [RepTL] at r
        obtain ⟨rfl, rfl⟩ := r
        exact ⟨φ, Tk.refl q rfl _, by simp [RepL], q⟩
      | cons t ts ih =>
        intro vs φ ms L s s2 h r c q
        obtain ⟨v, vs', s1, h1, h2, rfl⟩ := takeL_cons h
        simp only [RepTL] at r
        obtain ⟨m, ms', L1, L2, rfl, rfl, r1, r2⟩ := r
        obtain ⟨φ1, k1, p1, q1⟩ := ihV φ _ _ _ _ _ _ h1 r1 c.left q
        obtain ⟨φ2, k2, p2, q2⟩ := ih _ φ1 _ _ _ _ h2 r2 (c.right k1 q rfl) q1
        refine ⟨φ2, k1.trans k2 (by simp +contextual) (by simp +contextual), ?_, q2⟩
        simp only [RepL]
        exact ⟨m, ms', rfl, mono_same (k2.some q1) p1, p2⟩
    have cel : ∀ (ts vs : List V) (φ : Phi) (β o : Nat) (L : List Nat) (s s1 : S), takeL (takeIn d) ts s = some (vs, s1) → RepTC St w β o ts L → Can φ St Mine s L → WR φ St Mine w s.H s.nx →
        ∃ φ', Tk φ φ' s s1 L ∧ RepC φ' St w β o vs ∧ WR φ' St Mine w s1.H s1.nx := by
      intro ts
      induction ts with
      | nil =>
        intro vs φ β o L s s1 h r c q
        simp only [takeL, Option.some.injEq, Prod.mk.injEq] at h
        obtain ⟨rfl, rfl⟩ := h
        exact ⟨φ, Tk.refl q rfl _, trivial, q⟩
      | cons t ts ih =>
        intro vs φ β o L s s2 h r c q
        obtain ⟨v, vs', s1, h1, h2, rfl⟩ := takeL_cons h
        simp only [RepTC] at r
        obtain ⟨L1, L2, rfl, ⟨u, hu, r1⟩, r2⟩ := r
        obtain ⟨φ1, k1, p1, q1⟩ := ihV φ _ _ _ _ _ _ h1 r1 c.left q
        obtain ⟨φ2, k2, p2, q2⟩ := ih _ φ1 _ _ _ _ _ h2 r2 (c.right k1 q rfl) q1
        exact ⟨φ2, k1.trans k2 (by simp +contextual) (by simp +contextual), ⟨⟨u, hu, mono_same (k2.some q1) p1⟩, p2⟩, q2⟩
    have els : ∀ (ts vs : List V) (φ : Phi) (β o k : Nat) (L : List Nat) (s s1 : S), takeL (takeIn d) ts s = some (vs, s1) → (∀ e ∈ ts, e.size = k) → RepTE St w β o ts L → Can φ St Mine s L → WR φ St Mine w s.H s.nx →
        ∃ φ', Tk φ φ' s s1 L ∧ RepE φ' St w β o k vs ∧ WR φ' St Mine w s1.H s1.nx ∧ ∀ e ∈ vs, e.size = k := by
      intro ts
      induction ts with
      | nil =>
        intro vs φ β o k L s s1 h _ r c q
        simp only [takeL, Option.some.injEq, Prod.mk.injEq] at h
        obtain ⟨rfl, rfl⟩ := h
        exact ⟨φ, Tk.refl q rfl _, fun i e hi => (by simp at hi), q, by simp⟩
      | cons t ts ih =>
        intro vs φ β o k L s s2 h hk r c q
        obtain ⟨v, vs', s1, h1, h2, rfl⟩ := takeL_cons h
        rw [RepTE_cons] at r
        obtain ⟨L1, L2, rfl, r1, r2⟩ := r
        obtain ⟨φ1, k1, p1, q1⟩ := ihA φ _ _ _ _ _ _ _ h1 r1 c.left q
        have ht : t.size = k := hk t (by simp)
        rw [ht] at r2
        obtain ⟨φ2, k2, p2, q2, z2⟩ := ih _ φ1 _ _ k _ _ _ h2 (fun e he => hk e (by simp [he])) r2 (c.right k1 q rfl) q1
        refine ⟨φ2, k1.trans k2 (by simp +contextual) (by simp +contextual), fun i e hi => ?_, q2, fun e he => ?_⟩
        · cases i with
          | zero =>
            obtain rfl : v = e := by simpa using hi
            simpa using monoC_same (k2.some q1) p1
          | succ i =>
            have := p2 i e (by simpa using hi)
            rwa [show o + k + i * k = o + (i + 1) * k by rw [Nat.succ_mul]; omega] at this
        · rcases List.mem_cons.1 he with rfl | he
          · rw [take_size h1, ht]
          · exact z2 e he
    have val : ∀ (φ : Phi) (t v : V) (m : Value) (L : List Nat) (s s1 : S), takeIn (d + 1) t s = some (v, s1) → RepT St w t m L → Can φ St Mine s L → WR φ St Mine w s.H s.nx →
        ∃ φ', Tk φ φ' s s1 L ∧ Rep φ' St w v m ∧ WR φ' St Mine w s1.H s1.nx := by
      intro φ t v m L s s1 h r c q
      cases t <;> simp only [takeIn] at h
      case im x => obtain ⟨rfl, rfl⟩ := Prod.mk.inj (Option.some.inj h); simp only [RepT] at r; exact ⟨φ, Tk.refl q rfl _, by simpa [Rep] using r.1, q⟩
      case sl x => obtain ⟨rfl, rfl⟩ := Prod.mk.inj (Option.some.inj h); simp only [RepT] at r; exact ⟨φ, Tk.refl q rfl _, by simpa only [Rep] using r.1, q⟩
      case rp x => obtain ⟨rfl, rfl⟩ := Prod.mk.inj (Option.some.inj h); simp only [RepT] at r; exact ⟨φ, Tk.refl q rfl _, by simpa only [Rep] using r.1, q⟩
      case e0 => obtain ⟨rfl, rfl⟩ := Prod.mk.inj (Option.some.inj h); simp only [RepT] at r; exact ⟨φ, Tk.refl q rfl _, by simpa only [Rep] using r.1, q⟩
      case st cs =>
        split at h
        case h_2 => cases h
        rename_i vs s2 hts
        obtain ⟨rfl, rfl⟩ := Prod.mk.inj (Option.some.inj h)
        simp only [RepT] at r
        obtain ⟨ms, e, r⟩ := r
        obtain ⟨φ1, k1, p1, q1⟩ := lst _ _ φ _ _ _ _ hts r c q
        exact ⟨φ1, k1, by simp only [Rep]; exact ⟨ms, e, p1⟩, q1⟩
      case tu cs =>
        split at h
        case h_2 => cases h
        rename_i vs s2 hts
        obtain ⟨rfl, rfl⟩ := Prod.mk.inj (Option.some.inj h)
        simp only [RepT] at r
        obtain ⟨ms, e, r⟩ := r
        obtain ⟨φ1, k1, p1, q1⟩ := lst _ _ φ _ _ _ _ hts r c q
        exact ⟨φ1, k1, by simp only [Rep]; exact ⟨ms, e, p1⟩, q1⟩
      case cl f cs =>
        split at h
        case h_2 => cases h
        rename_i vs s2 hts
        obtain ⟨rfl, rfl⟩ := Prod.mk.inj (Option.some.inj h)
        simp only [RepT] at r
        obtain ⟨ms, e, r⟩ := r
        obtain ⟨φ1, k1, p1, q1⟩ := lst _ _ φ _ _ _ _ hts r c q
        exact ⟨φ1, k1, by simp only [Rep]; exact ⟨ms, e, p1⟩, q1⟩
      case ow k es =>
        split at h
        case h_2 => cases h
        rename_i vs s2 hts
        obtain ⟨rfl, rfl⟩ := Prod.mk.inj (Option.some.inj h)
        have hvl := takeL_len hts
        simp only [RepT] at r
        obtain ⟨a, c', e, hle, r⟩ := r
        rcases r with ⟨hc0, _⟩ | ⟨β, o, L', rfl, rfl, ho, hk, r⟩
        · have hes : es = [] := List.eq_nil_of_length_eq_zero (by omega)
          subst hes
          simp only [takeL, Option.some.injEq, Prod.mk.injEq] at hts
          obtain ⟨rfl, rfl⟩ := hts
          have hd := q.dom s.nx (Nat.le_refl _)
          refine ⟨φ, ⟨Ext.refl _ _, rfl, by simp [S.new], fun b hb => upd_ne _ _ (by omega), fun b B β o k' hb hB hp => ?_, rfl, fun b B hb hB => ?_⟩, ?_, q.empty⟩
          · rw [q.dom b hb] at hp; cases hp
          · simp only [S.new] at hB
            by_cases e : b = s.nx
            · subst e; rw [upd_same] at hB; obtain rfl := Option.some.inj hB; rfl
            · rw [upd_ne _ _ e, q.bnd b hb] at hB; cases hB
          · simp only [Rep]
            exact ⟨a, c', by rw [e], by simp, by omega, .inl hc0⟩
        · have c1 : Can φ St Mine s L' := ⟨(List.nodup_cons.1 c.nd).2, fun β hb => c.ns β (by simp [hb]), fun β hb => c.mi β (by simp [hb]), fun b B β o k h1 h2 h3 => c.fr b B β o k h1 h2 (by simp [h3])⟩
          obtain ⟨φ1, k1, p1, q1, z1⟩ := els _ _ φ _ _ k _ _ _ hts hk r c1 q
          have hlen : o + vs.length * k ≤ o + c' * k := Nat.add_le_add_left (Nat.mul_le_mul_right _ (by omega)) _
          have q2 := q1.adopt (β := β) (o := o) (k := k) (es := vs) (fun b B o' k' hB hp => by
            by_cases hlt : b < s.nx
            · rw [k1.old b hlt] at hB
              rw [k1.ext b hlt] at hp
              exact c.fr b B β o' k' hB hp (by simp)
            · exact (List.nodup_cons.1 c.nd).1 (k1.new b B β o' k' (by omega) hB hp)) (c.ns β (by simp)) (c.mi β (by simp)) (ho.mono hlen) z1 p1
          have ex : Ext φ1 (upd φ1 s2.nx (some (β, o, k))) s2.nx := ext_upd _
          refine ⟨_, ⟨k1.ext.trans ex k1.nx, k1.e, by have := k1.nx; simp [S.new]; omega, fun b hb => ?_, fun b B β' o' k' hb hB hp => ?_, k1.fz, fun b B hb hB => ?_⟩, ?_, q2⟩
          · have := k1.nx
            simp only [S.new]
            rw [upd_ne _ _ (by omega)]; exact k1.old b hb
          · simp only [S.new] at hB
            by_cases e : b = s2.nx
            · subst e; rw [upd_same] at hp; cases hp; simp
            · rw [upd_ne _ _ e] at hB hp
              exact List.mem_cons_of_mem _ (k1.new b B β' o' k' hb hB hp)
          · simp only [S.new] at hB
            by_cases e : b = s2.nx
            · subst e; rw [upd_same] at hB; obtain rfl := Option.some.inj hB; rfl
            · rw [upd_ne _ _ e] at hB; exact k1.fr b B hb hB
          · simp only [Rep]
            refine ⟨some ⟨β, o, none⟩, c', by rw [e, hvl], by omega, by omega, .inr ⟨β, o, k, upd_same _ _ _, by simp, ?_⟩⟩
            simpa using ho.room
      case op v0 =>
        split at h
        case h_2 => cases h
        rename_i v1 s2 hv
        obtain ⟨rfl, rfl⟩ := Prod.mk.inj (Option.some.inj h)
        rw [RepT_op] at r
        obtain ⟨β, o, L', e, rfl, ho, r⟩ := r
        have c1 : Can φ St Mine s L' := ⟨(List.nodup_cons.1 c.nd).2, fun β hb => c.ns β (by simp [hb]), fun β hb => c.mi β (by simp [hb]), fun b B β o k h1 h2 h3 => c.fr b B β o k h1 h2 (by simp [h3])⟩
        obtain ⟨φ1, k1, p1, q1⟩ := ihA φ _ _ _ _ _ _ _ hv r c1 q
        have hsz := take_size hv
        have q2 := q1.adopt (β := β) (o := o) (k := v1.size) (es := [v1]) (fun b B o' k' hB hp => by
          by_cases hlt : b < s.nx
          · rw [k1.old b hlt] at hB
            rw [k1.ext b hlt] at hp
            exact c.fr b B β o' k' hB hp (by simp)
          · exact (List.nodup_cons.1 c.nd).1 (k1.new b B β o' k' (by omega) hB hp)) (c.ns β (by simp)) (c.mi β (by simp)) (ho.mono (by simp [hsz])) (by simp) (fun i x hi => by
            cases i with
            | zero => obtain rfl : v1 = x := by simpa using hi
                      simpa using p1
            | succ i => simp at hi)
        have ex : Ext φ1 (upd φ1 s2.nx (some (β, o, v1.size))) s2.nx := ext_upd _
        refine ⟨_, ⟨k1.ext.trans ex k1.nx, k1.e, by have := k1.nx; simp [S.new]; omega, fun b hb => ?_, fun b B β' o' k' hb hB hp => ?_, k1.fz, fun b B hb hB => ?_⟩, ?_, q2⟩
        · have := k1.nx
          simp only [S.new]
          rw [upd_ne _ _ (by omega)]; exact k1.old b hb
        · simp only [S.new] at hB
          by_cases e : b = s2.nx
          · subst e; rw [upd_same] at hp; cases hp; simp
          · rw [upd_ne _ _ e] at hB hp
            exact List.mem_cons_of_mem _ (k1.new b B β' o' k' hb hB hp)
        · simp only [S.new] at hB
          by_cases e : b = s2.nx
          · subst e; rw [upd_same] at hB; obtain rfl := Option.some.inj hB; rfl
          · rw [upd_ne _ _ e] at hB; exact k1.fr b B hb hB
        · simp only [Rep]
          exact ⟨β, o, v1.size, upd_same _ _ _, by rw [e]; simp⟩
      all_goals cases h
    refine ⟨val, fun φ t v β o L s s1 h r c q => ?_⟩
    rcases take_shape h with ⟨cs, vs, d', hd, rfl, rfl, h2⟩ | ⟨h1, h2⟩
    · obtain rfl : d = d' := by omega
      simp only [cellsOf] at r ⊢
      exact cel _ _ φ _ _ _ _ _ h2 r c q
    · rw [h1] at r; rw [h2]
      simp only [RepTC] at r
      obtain ⟨L1, L2, rfl, ⟨u, hu, hr⟩, rfl⟩ := r
      rw [List.append_nil] at c ⊢
      obtain ⟨φ1, k1, p1, q1⟩ := val φ t v u L1 s s1 h hr c q
      exact ⟨φ1, k1, ⟨⟨u, hu, p1⟩, trivial⟩, q1⟩

end Go.Am
