/- The A-machine, part 17: one operation of a region, and a region in the order of the text. -/
import Derived.Test.YthpaolkonlhjfaaAm16
set_option linter.all false
namespace Go.Am
variable {P : Program} {St Mine : Nat → Prop} {w : World}

theorem opA_noca {ca ca' : V → List V → S → Option (V × S)} {s : S} {a : A} (h : ∀ f xs, a ≠ .ca f xs) : opA ca s a = opA ca' s a := by
  cases a <;> first | rfl | exact absurd rfl (h _ _)

theorem appendTo_fz {s s' : S} {q : Option Nat} {x v : V} {src : List V} (h : appendTo s q x src = some (v, s')) : s'.fz = s.fz := by
  unfold appendTo at h
  simp only at h
  split at h
  · split at h
    · obtain ⟨_, rfl⟩ := Prod.mk.inj (Option.some.inj h); rfl
    · split at h
      · obtain ⟨_, rfl⟩ := Prod.mk.inj (Option.some.inj h); rfl
      · cases h
  · split at h <;> try (cases h; done)
    split at h <;> try (cases h; done)
    split at h
    · split at h
      · obtain ⟨_, rfl⟩ := Prod.mk.inj (Option.some.inj h); rfl
      · cases h
    · split at h
      · obtain ⟨_, rfl⟩ := Prod.mk.inj (Option.some.inj h); rfl
      · cases h
  · cases h

theorem opA_fz {s s' : S} {a : A} {v : V} (h : opA (fun _ _ _ => none) s a = some (v, s')) : s'.fz = s.fz := by
  have map1 : ∀ {α : Type} {o : Option α} {f : α → V}, (o.map fun z => (f z, s)) = some (v, s') → s'.fz = s.fz := by
    intro α o f h
    obtain ⟨_, _, e⟩ := Option.map_eq_some_iff.1 h
    rw [← (Prod.mk.inj e).2]
  have one : ∀ {u : V}, some (u, s) = some (v, s') → s'.fz = s.fz := by
    intro u h; rw [← (Prod.mk.inj (Option.some.inj h)).2]
  have nw : ∀ {u : V} {k : Nat} {es : List V}, some (u, s.new k es) = some (v, s') → s'.fz = s.fz := by
    intro u k es h; rw [← (Prod.mk.inj (Option.some.inj h)).2]; rfl
  cases a <;> simp only [opA] at h
  case mv => exact one h
  case pk => split at h <;> first | exact one h | cases h
  case al => split at h <;> first | exact nw h | cases h
  case bx => split at h <;> first | exact nw h | cases h
  case ld => split at h
             · split at h <;> first | exact one h | cases h
             · cases h
  case so => split at h
             · rw [← (Prod.mk.inj (Option.some.inj h)).2]
             · cases h
  case bi => split at h <;> first | exact map1 h | cases h
  case be => split at h <;> first | exact one h | cases h
  case un => split at h <;> first | exact map1 h | cases h
  case cv => split at h <;> first | exact one h | cases h
  case fd => split at h <;> first | exact map1 h | cases h
  case fa =>
    split at h
    · obtain ⟨c, _, h⟩ := Option.bind_eq_some_iff.1 h
      split at h <;> first | exact one h | cases h
    · exact one h
    · cases h
  case ia =>
    split at h
    · split at h
      · split at h <;> first | exact one h | cases h
      · cases h
    · split at h
      · split at h <;> first | exact one h | cases h
      · cases h
    · cases h
  case ix =>
    split at h
    · split at h <;> first | exact one h | cases h
    · cases h
  case ss =>
    split at h
    · split at h
      · split at h <;> first | exact one h | cases h
      · cases h
    · cases h
  case sc =>
    split at h
    · split at h
      · exact map1 h
      · split at h
        · split at h <;> first | exact map1 h | cases h
        · cases h
    · split at h <;> first | exact map1 h | cases h
    · exact map1 h
    · cases h
  case bs => split at h <;> first | exact nw h | cases h
  case bd => split at h <;> first | exact one h | cases h
  case ms =>
    split at h
    · split at h <;> first | exact nw h | cases h
    · cases h
  case mf => split at h <;> first | exact one h | cases h
  case ca => cases h
  case ap =>
    split at h
    · split at h <;> first | exact appendTo_fz h | cases h
    · cases h
  case az =>
    split at h
    · split at h <;> first | exact appendTo_fz h | cases h
    · cases h
  case cr =>
    split at h
    · exact one h
    · split at h
      · split at h
        · obtain ⟨_, rfl⟩ := Prod.mk.inj (Option.some.inj h); rfl
        · cases h
      · cases h
    · cases h
  case cp => split at h <;> first | exact one h | cases h
  case ln => split at h <;> first | exact one h | cases h
  case ls => split at h <;> first | exact one h | cases h
  case mm => split at h <;> first | exact one h | cases h
  case et => split at h <;> first | exact map1 h | cases h
  case sb =>
    split at h
    · split at h <;> first | exact one h | cases h
    · cases h
  case no => cases h

/-- Where a call comes from. -/
theorem comp_ca {op : Op} {f : O} {xs : List O} (h : compA P op = .ca f xs) : ∃ (g : Operand) (args : Array Operand) (ts : Array TypeId), op = .call { callee := .value g, args := args, argTypes := ts } ∧ toO g = some f ∧ toOs args.toList = some xs := by
  cases op <;> simp only [compA] at h
  case call cal =>
    obtain ⟨callee, args, ats⟩ := cal
    cases callee with
    | value g =>
      simp only at h
      split at h
      · obtain ⟨rfl, rfl⟩ := A.ca.inj h
        exact ⟨g, args, ats, rfl, ‹_›, ‹_›⟩
      · cases h
    | invoke r m => cases h
    | builtin b =>
      exfalso
      cases b <;> simp only at h <;> repeat' (split at h)
      all_goals cases h
  case makeFunc fn first caps =>
    exfalso
    cases fn <;> simp only at h
    case func => split at h <;> cases h
    all_goals cases h
  all_goals
    exfalso
    repeat' (split at h)
    all_goals cases h

/-- One operation in the machine. -/
theorem step_sound {Γ : Env} (hΓ : EnvOK P Γ) {k : Nat} (hk : ExOK P Γ k) {o : Oper} {a : Act} {φ : Phi} {s s' : S} {v : V} (h : opA (callV Γ (ex Γ k)) s (compA P o.op) = some (v, s'))
    (q : WR φ St Mine w s.H s.nx) (env : EnvR φ St w s.e a.tmps) {next : Act → World → Prop} {Q : Exit → Act → World → Prop}
    (hn : ∀ m w' φ' St', Goes φ φ' St St' Mine w w' s s' → Rep φ' St' w' v m → next (a.put o.dst m) w') : o.wp P a w next Q ∧ s'.e = s.e := by
  by_cases hca : ∃ f xs, compA P o.op = .ca f xs
  · obtain ⟨f, xs, hc⟩ := hca
    rw [hc] at h
    simp only [opA] at h
    obtain ⟨g, args, ts, ho, hg, hxs⟩ := comp_ca hc
    obtain ⟨fn, cms, ef, ent, he, hcall⟩ := callV_sound hΓ hk h q (rep_toO env hg) (rep_toOs env hxs)
    refine ⟨?_, he⟩
    unfold Oper.wp
    have hrun : (execOp a.eval o).run P w = .ok (.enter fn ((args.toList.map a.eval) ++ cms).toArray) w := by
      unfold execOp
      rw [ho]
      simp only [resolve, ef, Deferred.ofValue, pure_bind, invoke]
      rw [run_callFunc ent]
      simp [map_toList args a.eval]
    rw [hrun, Oper.upon_enter]
    refine hcall.mono ?_
    rintro e w' ⟨m, φ', St', rfl, g', hrep⟩
    exact hn m w' φ' St' g' hrep
  · have hno : ∀ f xs, compA P o.op ≠ .ca f xs := fun f xs hh => hca ⟨f, xs, hh⟩
    rw [opA_noca (ca' := fun _ _ _ => none) hno] at h
    obtain ⟨m, w', φ', hr, h2, h3, h4, h5, h6, h7⟩ := op_sound h q env
    have g : Goes φ φ' St St Mine w w' s s' := Goes.of_op (v := v) (m := m) h3 h5 h6 h7 (opA_fz h)
    refine ⟨?_, h4⟩
    unfold Oper.wp
    rcases hr with hr | ⟨hr, rfl⟩
    · rw [hr, Oper.upon_value]; exact hn m w' φ' St g h2
    · rw [hr, Oper.upon_skip]; exact hn undef w' φ' St g h2

/-- The guard of an operation. -/
def guardA (e : Nat → V) (g : Option (Nat × Bool)) : Option Bool :=
  match g with
  | none => some true
  | some (t, w) => match e t with | .im (.bool b) => some (b == w) | _ => none

theorem guard_sound {ops : Array Oper} {o : Oper} {i : I} (hc : compI P ops o = some i) {φ : Phi} {e : Nat → V} {tmps : Array Value} (env : EnvR φ St w e tmps) {b : Bool} (h : guardA e i.g = some b) :
    Region.wanted o (yielded ops tmps) = b ∧ i.d = o.dst ∧ i.a = compA P o.op := by
  unfold compI at hc
  unfold Region.wanted
  split at hc
  · rename_i hg
    obtain rfl := Option.some.inj hc
    simp only [guardA, Option.some.injEq] at h
    subst h
    rw [hg]
    exact ⟨rfl, rfl, rfl⟩
  · rename_i j want hg
    split at hc
    case h_2 => cases hc
    rename_i t ht
    obtain rfl := Option.some.inj hc
    simp only [guardA] at h
    split at h
    case h_2 => cases h
    rename_i b0 he
    obtain rfl := Option.some.inj h
    have r := env t
    rw [he] at r
    simp only [Rep] at r
    have hy : yielded ops tmps j = some b0 := by
      unfold yielded
      rw [ht]
      simp only [Option.bind_some]
      rw [Array.getD_eq_getD_getElem?] at r
      cases hx : tmps[t]? with
      | none => rw [hx] at r; simp [undef] at r
      | some y => rw [hx] at r; simp only [Option.getD_some] at r; subst r; rfl
    rw [hg]
    refine ⟨?_, rfl, rfl⟩
    simp only
    rw [hy]
    cases b0 <;> cases want <;> rfl

theorem runI_cons {ca : V → List V → S → Option (V × S)} {i : I} {l : List I} {s : S} : runI ca (i :: l) s = match guardA s.e i.g with
    | some true => match opA ca s i.a with | some (v, s1) => runI ca l (s1.put i.d v) | none => none
    | some false => runI ca l (s.put i.d .un)
    | none => none := rfl

/-- A state's variables behind an operation. -/
theorem put_env {φ : Phi} {s s1 : S} {a : Act} {d : Option Nat} {v : V} {m : Value} (he : s1.e = s.e) (env : EnvR φ St w s.e a.tmps) (hd : ∀ x, d = some x → x < a.tmps.size) (r : Rep φ St w v m) :
    EnvR φ St w (s1.put d v).e (a.put d m).tmps ∧ (a.put d m).tmps.size = a.tmps.size ∧ (a.put d m).defers = a.defers ∧ (s1.put d v).H = s1.H ∧ (s1.put d v).nx = s1.nx ∧ (s1.put d v).fz = s1.fz := by
  cases d with
  | none => exact ⟨by simpa [S.put, Act.put, he] using env, rfl, rfl, rfl, rfl, rfl⟩
  | some x =>
    refine ⟨?_, by simp [Act.put], rfl, rfl, rfl, rfl⟩
    simp only [S.put, Act.put]
    rw [he]
    exact env.put (hd x rfl) r

theorem Goes.put {φ φ' : Phi} {St' : Nat → Prop} {w' : World} {s s1 : S} (g : Goes φ φ' St St' Mine w w' s s1) (d : Option Nat) (v : V) : Goes φ φ' St St' Mine w w' s (s1.put d v) := by
  cases d with
  | none => exact g
  | some x => exact ⟨g.wr, g.ext, g.nx, g.st, g.stp, g.fz, g.nf⟩

/-- Where a piece of code has come from its start. -/
structure At (φ0 φ : Phi) (St0 St Mine : Nat → Prop) (w0 w : World) (s0 s : S) (a0 a : Act) : Prop where
  g : Goes φ0 φ St0 St Mine w0 w s0 s
  env : EnvR φ St w s.e a.tmps
  sz : a.tmps.size = a0.tmps.size
  df : a.defers = a0.defers

theorem At.post {φ0 φ : Phi} {St0 : Nat → Prop} {w0 : World} {s0 s : S} {a0 a : Act} (h : At φ0 φ St0 St Mine w0 w s0 s a0 a) : Post φ0 St0 Mine w0 s0 a0 (.n s) .normal a w := ⟨φ, St, h.g, h.env, h.sz, h.df⟩

/-- One operation, from where the code has come. -/
theorem At.step {Γ : Env} (hΓ : EnvOK P Γ) {k : Nat} (hk : ExOK P Γ k) {ops : Array Oper} {o : Oper} {i : I} (hi : compI P ops o = some i) {φ0 φ : Phi} {St0 : Nat → Prop} {w0 : World} {s0 s : S} {a0 a : Act}
    (h : At φ0 φ St0 St Mine w0 w s0 s a0 a) (hd : ∀ d, i.d = some d → d < a0.tmps.size) {s1 : S}
    (hx : (guardA s.e i.g = some true ∧ ∃ v s2, opA (callV Γ (ex Γ k)) s i.a = some (v, s2) ∧ s1 = s2.put i.d v) ∨ (guardA s.e i.g = some false ∧ s1 = s.put i.d .un))
    {K : Act → World → Prop} {Q : Exit → Act → World → Prop} (hK : ∀ φ' St' w' a', At φ0 φ' St0 St' Mine w0 w' s0 s1 a0 a' → K a' w') :
    if Region.wanted o (yielded ops a.tmps) then o.wp P a w K Q else K (a.put o.dst undef) w := by
  rcases hx with ⟨hg, v, s2, hop, rfl⟩ | ⟨hg, rfl⟩
  · obtain ⟨hw, e1, e2⟩ := guard_sound hi h.env hg
    rw [if_pos hw]
    rw [e2] at hop
    have key := step_sound (Q := Q) (next := K) hΓ hk hop h.g.wr h.env
    have he : s2.e = s.e := (step_sound (Q := fun _ _ _ => True) (next := fun _ _ => True) hΓ hk hop h.g.wr h.env (fun _ _ _ _ _ _ => trivial)).2
    refine (key ?_).1
    intro m w' φ' St' g hrep
    obtain ⟨p1, p2, p3, p4, p5, p6⟩ := put_env (d := i.d) (v := v) (m := m) he (g.env h.g.wr h.env) (by rw [h.sz]; exact hd) hrep
    rw [← e1]
    exact hK φ' St' w' _ ⟨(h.g.trans g).put _ _, p1, p2.trans h.sz, p3.trans h.df⟩
  · obtain ⟨hw, e1, _⟩ := guard_sound hi h.env hg
    rw [if_neg (by rw [hw]; simp)]
    obtain ⟨p1, p2, p3, p4, p5, p6⟩ := put_env (s := s) (s1 := s) (d := i.d) (v := .un) (m := undef) rfl h.env (by rw [h.sz]; exact hd) (by simp [Rep])
    rw [← e1]
    exact hK φ St w _ ⟨h.g.put _ _, p1, p2.trans h.sz, p3.trans h.df⟩

theorem runI_step {ca : V → List V → S → Option (V × S)} {i : I} {l : List I} {s s' : S} (h : runI ca (i :: l) s = some s') :
    ∃ s1, ((guardA s.e i.g = some true ∧ ∃ v s2, opA ca s i.a = some (v, s2) ∧ s1 = s2.put i.d v) ∨ (guardA s.e i.g = some false ∧ s1 = s.put i.d .un)) ∧ runI ca l s1 = some s' := by
  rw [runI_cons] at h
  split at h
  · rename_i hg
    split at h
    · rename_i v s2 hv; exact ⟨_, .inl ⟨hg, v, s2, hv, rfl⟩, h⟩
    · cases h
  · rename_i hg; exact ⟨_, .inr ⟨hg, rfl⟩, h⟩
  · cases h

theorem list_sound {Γ : Env} (hΓ : EnvOK P Γ) {k : Nat} (hk : ExOK P Γ k) {ops : Array Oper} {φ0 : Phi} {St0 : Nat → Prop} {w0 : World} {s0 : S} {a0 : Act} : ∀ (l : List Oper) (is : List I) (s s' : S) (φ : Phi) (St : Nat → Prop) (w : World) (a : Act), l.mapM (compI P ops) = some is →
    runI (callV Γ (ex Γ k)) is s = some s' → (∀ i ∈ is, ∀ d, i.d = some d → d < a0.tmps.size) → At φ0 φ St0 St Mine w0 w s0 s a0 a → wpList P ops (Post φ0 St0 Mine w0 s0 a0 (.n s')) l a w
  | [], is, s, s', φ, St, w, a, hc, h, _, hat => by
    simp at hc; subst hc
    simp only [runI, Option.some.injEq] at h; subst h
    exact wpList_nil hat.post
  | o :: l, is, s, s', φ, St, w, a, hc, h, hd, hat => by
    simp only [List.mapM_cons, Option.bind_eq_bind, Option.pure_def] at hc
    obtain ⟨i, hi, hc⟩ := Option.bind_eq_some_iff.1 hc
    obtain ⟨is', his, hc⟩ := Option.bind_eq_some_iff.1 hc
    obtain rfl := Option.some.inj hc
    obtain ⟨s1, hx, h⟩ := runI_step h
    refine wpList_step fun K hK => ?_
    exact hat.step hΓ hk hi (hd i (by simp)) hx fun φ' St' w' a' hat' => hK _ _ (list_sound hΓ hk l is' s1 s' φ' St' w' a' his h (fun j hj => hd j (by simp [hj])) hat')

end Go.Am
