/- The A-machine, part 7: each operation that neither calls nor appends. -/
import Derived.Test.YthpaolkonlhjfaaAm6
set_option linter.all false
namespace Go.Am
variable {P : Program} {φ : Phi} {St Mine : Nat → Prop} {w : World} {s : S} {act : Act} {o : Oper} {v : V} {s' : S}

theorem run_v {x : Sem Value} {m : Value} {w' : World} (h : x.run P w = .ok m w') : (do pure (Next.value (← x)) : Sem Next).run P w = .ok (.value m) w' := by
  rw [run_bind, h]; rfl

theorem op_mv {x : Operand} (ho : o.op = .move x ∨ o.op = .assign x) {y : O} (hx : toO x = some y) (q : WR φ St Mine w s.H s.nx) (env : EnvR φ St w s.e act.tmps) :
    OpTo φ St Mine w s (val s.e y) s ((execOp act.eval o).run P w) := by
  have : (execOp act.eval o).run P w = .ok (.value (act.eval x)) w := by
    unfold execOp
    rcases ho with ho | ho <;> rw [ho] <;> rfl
  rw [this]
  exact OpTo.pure q (rep_toO env hx)

theorem op_pk {c a b : Operand} (ho : o.op = .pick c a b) {c' a' b' : O} (hc : toO c = some c') (ha : toO a = some a') (hb : toO b = some b') (q : WR φ St Mine w s.H s.nx) (env : EnvR φ St w s.e act.tmps)
    {ca : V → List V → S → Option (V × S)} (h : opA ca s (.pk c' a' b') = some (v, s')) : OpTo φ St Mine w s v s' ((execOp act.eval o).run P w) := by
  have rc := rep_toO env hc
  simp only [opA] at h
  split at h
  · rename_i b0 hv
    rw [hv] at rc
    simp only [Rep] at rc
    obtain ⟨rfl, rfl⟩ := Prod.mk.inj (Option.some.inj h)
    have : (execOp act.eval o).run P w = .ok (.value (if b0 then act.eval a else act.eval b)) w := by
      unfold execOp
      rw [ho]
      simp only
      rw [run_bind, rc]
      rfl
    rw [this]
    refine OpTo.pure q ?_
    cases b0
    · exact rep_toO env hb
    · exact rep_toO env ha
  · cases h

theorem rep_mapM {φ : Phi} {St : Nat → Prop} {w : World} : ∀ {l : List Value} {vs : List V}, l.mapM immV = some vs → RepL φ St w vs l
  | [], vs, h => by simp at h; subst h; simp [RepL]
  | x :: l, vs, h => by
    simp only [List.mapM_cons, Option.bind_eq_bind, Option.pure_def] at h
    obtain ⟨y, hy, h⟩ := Option.bind_eq_some_iff.1 h
    obtain ⟨ys', hys, h⟩ := Option.bind_eq_some_iff.1 h
    obtain rfl := Option.some.inj h
    simp only [RepL]
    exact ⟨_, _, rfl, rep_immV hy, rep_mapM hys⟩

theorem rep_zV {x : Value} {z : V} (h : zV x = some z) : Rep φ St w z x := by
  unfold zV at h
  split at h
  · rename_i cs
    simp only [Option.map_eq_some_iff] at h
    obtain ⟨vs, hv, rfl⟩ := h
    simp only [Rep]
    exact ⟨cs.toList, by simp, rep_mapM hv⟩
  · exact rep_immV h

theorem zeroV_spec {t : TypeId} {z : V} (h : zeroV P t = some z) : ∃ x, (∀ w, (zeroValue t).run P w = .ok x w) ∧ ∀ φ St w, Rep φ St w z x := by
  unfold zeroV at h
  split at h
  · rename_i i hi
    obtain ⟨x, hx, hz⟩ := Option.bind_eq_some_iff.1 h
    refine ⟨x, fun w => ?_, fun φ St w => rep_zV hz⟩
    unfold zeroValue
    rw [run_bind, run_typeInfo hi]
    simp only [hx]
    rfl
  · cases h

/-- A variable made: a block of one element. -/
theorem op_var {t : TypeId} {q' : Option Nat} {z : V} {m : Value} (hf : z.fits q' = true) (hr : Rep φ St w z m) (q : WR φ St Mine w s.H s.nx)
    {x : Sem Next} (hx : x.run P w = .ok (.value (.pointer (some ⟨w.heap.size, 0, none⟩))) (Push w (.cells m.cells t))) :
    OpTo φ St Mine w s (.hp s.nx 0) (s.new (ksz q') [z]) (x.run P w) := by
  obtain ⟨h1, h2, h3⟩ := rep_cells hf hr
  rw [hx]
  refine ⟨_, _, upd φ s.nx (some (w.heap.size, 0, ksz q')), .inl rfl, ?_, ?_, rfl, ext_upd _, by simp [S.new], Stp.push q.stB _⟩
  · simp only [Rep]
    exact ⟨w.heap.size, 0, ksz q', upd_same _ _ _, by simp⟩
  · refine q.row (q := q') (es := [z]) (ms := [m]) (by simpa using hf) (by simp [RepL, hr]) (by simp [h2]) fun i u hi j c hj => ?_
    cases i with
    | zero => simp only [List.getElem?_cons_zero, Option.some.injEq] at hi; subst hi; simpa using hj
    | succ i => simp at hi

theorem op_al {t : TypeId} (ho : o.op = .alloc t) {z : V} {q' : Option Nat} (hz : zeroV P t = some z) (q : WR φ St Mine w s.H s.nx)
    {ca : V → List V → S → Option (V × S)} (h : opA ca s (.al z q') = some (v, s')) : OpTo φ St Mine w s v s' ((execOp act.eval o).run P w) := by
  simp only [opA] at h
  split at h
  · rename_i hf
    obtain ⟨rfl, rfl⟩ := Prod.mk.inj (Option.some.inj h)
    obtain ⟨x, hx, hr⟩ := zeroV_spec hz
    refine op_var (t := t) hf (hr φ St w) q ?_
    unfold execOp
    rw [ho]
    refine run_v ?_
    unfold Instr.alloc
    rw [run_bind, hx]
    simp only [newVar]
    rw [run_bind, run_newRow]
    rfl
  · cases h

theorem op_bx {t : TypeId} {x : Operand} (ho : o.op = .box t x) {y : O} {q' : Option Nat} (hx : toO x = some y) (q : WR φ St Mine w s.H s.nx) (env : EnvR φ St w s.e act.tmps)
    {ca : V → List V → S → Option (V × S)} (h : opA ca s (.bx q' y) = some (v, s')) : OpTo φ St Mine w s v s' ((execOp act.eval o).run P w) := by
  simp only [opA] at h
  split at h
  · rename_i hf
    obtain ⟨rfl, rfl⟩ := Prod.mk.inj (Option.some.inj h)
    refine op_var (t := t) hf (rep_toO env hx) q ?_
    unfold execOp
    rw [ho]
    refine run_v ?_
    unfold Instr.box newVar
    rw [run_bind, run_newRow]
    rfl
  · cases h

theorem op_ld {t : TypeId} {x : Operand} (ho : o.op = .load t x) {y : O} {q' : Option Nat} (hx : toO x = some y) (ht : shp P t = some q') (q : WR φ St Mine w s.H s.nx) (env : EnvR φ St w s.e act.tmps)
    {ca : V → List V → S → Option (V × S)} (h : opA ca s (.ld q' y) = some (v, s')) : OpTo φ St Mine w s v s' ((execOp act.eval o).run P w) := by
  simp only [opA] at h
  split at h
  · rename_i u hu
    split at h
    · rename_i hf
      obtain ⟨rfl, rfl⟩ := Prod.mk.inj (Option.some.inj h)
      obtain ⟨β, off, e, hr⟩ := deref_spec q (rep_toO env hx) hu
      obtain ⟨m, hm, hrep⟩ := run_loadVar ht hf hr
      have : (execOp act.eval o).run P w = .ok (.value m) w := by
        unfold execOp
        rw [ho]
        refine run_v ?_
        unfold Instr.loadAt Instr.sureAddr
        rw [e]
        simp only [pure_bind]
        exact hm
      rw [this]
      exact OpTo.pure q hrep
    · cases h
  · cases h

theorem op_so {t : TypeId} {p x : Operand} (ho : o.op = .store t p x) {p' x' : O} {q' : Option Nat} (hp : toO p = some p') (hx : toO x = some x') (ht : shp P t = some q') (q : WR φ St Mine w s.H s.nx) (env : EnvR φ St w s.e act.tmps)
    {ca : V → List V → S → Option (V × S)} (h : opA ca s (.so q' p' x') = some (v, s')) : OpTo φ St Mine w s v s' ((execOp act.eval o).run P w) := by
  simp only [opA] at h
  split at h
  · rename_i H hH
    obtain ⟨rfl, rfl⟩ := Prod.mk.inj (Option.some.inj h)
    have rp := rep_toO env hp
    have rx := rep_toO env hx
    suffices hs : ∃ β off, act.eval p = .pointer (some ⟨β, off, none⟩) ∧ (storeVar t ⟨β, off, none⟩ (act.eval x)).run P w = .ok () (setCells w β off (act.eval x).cells.toList) ∧
        WR φ St Mine (setCells w β off (act.eval x).cells.toList) H s.nx ∧ Stp St Mine w (setCells w β off (act.eval x).cells.toList) by
      obtain ⟨β, off, e, h1, h2, h3⟩ := hs
      have : (execOp act.eval o).run P w = .ok .skip (setCells w β off (act.eval x).cells.toList) := by
        unfold execOp
        rw [ho]
        simp only
        unfold Instr.storeAt Instr.sureAddr
        rw [e]
        simp only [pure_bind]
        rw [run_bind, h1]
        rfl
      rw [this]
      exact ⟨undef, _, φ, .inr ⟨rfl, rfl⟩, by simp [Rep], h2, rfl, Ext.refl _ _, Nat.le_refl _, h3⟩
    unfold storeAt at hH
    split at hH
    · rename_i b i hpv
      rw [hpv] at rp
      split at hH
      · rename_i B hB
        split at hH
        · rename_i hc
          obtain ⟨c1, c2, c3, c4⟩ := hc
          obtain rfl := Option.some.inj hH
          simp only [Rep] at rp
          obtain ⟨β, o', k, hp', e⟩ := rp
          obtain ⟨h1, h2, h3⟩ := rep_cells c4 rx
          rcases q.blk b B hB with ⟨g1, _⟩ | ⟨β', o'', g1, _, _, ho', _⟩
          · rw [g1] at c2; simp at c2
          rw [g1] at hp'; cases hp'
          have hroom : Own w β (o' + i * B.k + ksz q') := ho'.mono (by
            have : (i + 1) * B.k ≤ B.es.length * B.k := Nat.mul_le_mul_right _ c2
            rw [Nat.succ_mul] at this; omega)
          obtain ⟨w1, w2⟩ := q.store (e := val s.e x') (j := 0) (us := (act.eval x).cells.toList) hB c1 g1 c2 (by rw [c3]; exact fits_size c4) (by simp [h2, c3])
            fun a c hac => by
              obtain ⟨u, hu, hru⟩ := h1.get hac
              exact .inl ⟨Nat.zero_le _, by simpa using (List.getElem?_eq_some_iff.1 hu).1, u, by simpa using hu, hru⟩
          exact ⟨β, _, e, run_storeVar ht c4 rx hroom, by simpa using w1, by simpa using w2⟩
        · cases hH
      · cases hH
    · rename_i b i j hpv
      rw [hpv] at rp
      split at hH
      · rename_i B hB
        split at hH
        · rename_i cs hcs
          split at hH
          · rename_i hc
            obtain ⟨c1, c2, rfl, c4⟩ := hc
            obtain rfl := Option.some.inj hH
            simp only [Rep] at rp
            obtain ⟨β, o', k, hp', e⟩ := rp
            have hfit : (val s.e x').fits none = true := by simpa [V.fits] using c4
            obtain ⟨h1, h2, h3⟩ := rep_cells hfit rx
            have hi : i < B.es.length := (List.getElem?_eq_some_iff.1 hcs).1
            rcases q.blk b B hB with ⟨g1, _⟩ | ⟨β', o'', g1, _, _, ho', hsz, _⟩
            · rw [g1] at hi; simp at hi
            rw [g1] at hp'; cases hp'
            have hk : cs.length = B.k := by have := hsz _ (List.mem_of_getElem? hcs); simpa [V.size] using this
            have hroom : Own w β (o' + i * B.k + j + 1) := ho'.mono (by
              have : (i + 1) * B.k ≤ B.es.length * B.k := Nat.mul_le_mul_right _ hi
              rw [Nat.succ_mul] at this; omega)
            have hus : (act.eval x).cells.toList.length = 1 := by simp [h2, ksz]
            obtain ⟨w1, w2⟩ := q.store (e := .st (cs.set j (val s.e x'))) (j := j) (us := (act.eval x).cells.toList) hB c1 g1 hi (by simp [V.size, hk]) (by rw [hus]; omega)
              fun a c hac => by
                simp only [cellsOf] at hac
                rw [List.getElem?_set] at hac
                split at hac
                · rename_i hja
                  subst hja
                  simp only [Option.some.injEq] at hac
                  subst hac
                  rw [okc_cells c4] at h1
                  obtain ⟨u, hu, hru⟩ := h1.get (i := 0) (v := val s.e x') rfl
                  exact .inl ⟨Nat.le_refl _, by omega, u, by simpa using hu, hru⟩
                · exact .inr ⟨by omega, .st cs, hcs, hac⟩
            exact ⟨β, _, e, run_storeVar ht hfit rx hroom, w1, w2⟩
          · cases hH
        · cases hH
      · cases hH
    · cases hH
  · cases h

end Go.Am
