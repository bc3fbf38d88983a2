/- The A-machine, part 16: calls. -/
import Derived.Test.YthpaolkonlhjfaaAm15
import Derived.LoopN
set_option linter.all false
namespace Go.Am
variable {P : Program} {St Mine : Nat → Prop} {w : World}

/-- What a call on trees comes to in the machine: from any world in which the arguments read so, the function returns what reads as the result; nothing that was there has turned but what was handed over. -/
def IsoOK (P : Program) (f : Nat) (ms : List M) (args : List V) (res : V) (us : List V) : Prop :=
  ∀ (w : World) (St : Nat → Prop) (vals : List Value) (L : List Nat), RepTL St w args vals L → L.Nodup → (∀ β ∈ L, ¬ St β ∧ β < w.heap.size) → (∀ β, St β → β < w.heap.size) →
    Calls P f vals.toArray w fun e w' => ∃ m L1 L2, e = .returned m ∧ Stp St (fun β => β ∈ L ∨ w.heap.size ≤ β) w w' ∧ RepT St w' res m L1 ∧ RepTL St w' us (lent ms vals) L2 ∧
      (L1 ++ L2).Nodup ∧ ∀ β ∈ L1 ++ L2, ¬ St β ∧ (β ∈ L ∨ w.heap.size ≤ β) ∧ β < w'.heap.size

/-- A function that has a body of Go. -/
def Ent (P : Program) (f : Nat) : Prop := ∃ fn, P.funcs[f]? = some fn ∧ (fn.name == "runtime.NumGoroutine") = false ∧ fn.body.isNone = false

structure EnvOK (P : Program) (Γ : Env) : Prop where
  tab : ∀ f F, Γ.T f = some F → Am.tab P Γ.md f = some F
  pr : ∀ f p ms args r us, Γ.pr f = some p → Γ.md f = some ms → p args = some (r, us) → IsoOK P f ms args r us ∧ Ent P f
  mixed : P.follows .mixedOrders = true

theorem run_callFunc {f : Nat} (h : Ent P f) (args : Array Value) (w : World) : (callFunc f args).run P w = .ok (.enter f args) w := by
  obtain ⟨fn, h1, h2, h3⟩ := h
  unfold callFunc
  rw [run_bind]
  simp only [program, Sem.run, h1, h2, h3, Bool.false_eq_true, if_false]
  rfl

/-- From one state of a frame to a later one. -/
structure Goes (φ φ' : Phi) (St St' Mine : Nat → Prop) (w w' : World) (s s' : S) : Prop where
  wr : WR φ' St' Mine w' s'.H s'.nx
  ext : Ext φ φ' s.nx
  nx : s.nx ≤ s'.nx
  st : ∀ β, St β → St' β
  stp : Stp St Mine w w'
  fz : s.fz = true → s'.fz = true
  nf : s'.fz = false → ∀ β, St' β → St β

theorem Goes.refl {φ : Phi} {s : S} (q : WR φ St Mine w s.H s.nx) : Goes φ φ St St Mine w w s s := ⟨q, Ext.refl _ _, Nat.le_refl _, fun _ h => h, Stp.refl _ _ _, fun h => h, fun _ _ h => h⟩
theorem Goes.trans {φ φ1 φ2 : Phi} {St1 St2 : Nat → Prop} {w1 w2 : World} {s s1 s2 : S} (h : Goes φ φ1 St St1 Mine w w1 s s1) (k : Goes φ1 φ2 St1 St2 Mine w1 w2 s1 s2) : Goes φ φ2 St St2 Mine w w2 s s2 :=
  ⟨k.wr, h.ext.trans k.ext h.nx, Nat.le_trans h.nx k.nx, fun β hb => k.st β (h.st β hb), h.stp.trans h.st k.stp, fun g => k.fz (h.fz g), fun g β hb => h.nf (by
    cases e : s1.fz with
    | false => rfl
    | true => rw [k.fz e] at g; cases g) β (k.nf g β hb)⟩
theorem Goes.env {φ φ' : Phi} {St' : Nat → Prop} {w' : World} {s s' : S} (h : Goes φ φ' St St' Mine w w' s s') (q : WR φ St Mine w s.H s.nx) {e : Nat → V} {tmps : Array Value} (r : EnvR φ St w e tmps) : EnvR φ' St' w' e tmps :=
  r.mono (h.ext.some q) h.st h.stp.stab h.stp.room
theorem Goes.rep {φ φ' : Phi} {St' : Nat → Prop} {w' : World} {s s' : S} (h : Goes φ φ' St St' Mine w w' s s') (q : WR φ St Mine w s.H s.nx) {v : V} {m : Value} (r : Rep φ St w v m) : Rep φ' St' w' v m :=
  Rep.mono (h.ext.some q) h.st h.stp.stab h.stp.room v m r
theorem Goes.of_op {φ : Phi} {s s' : S} {v : V} {m : Value} {w' : World} {φ' : Phi} (h3 : WR φ' St Mine w' s'.H s'.nx) (h5 : Ext φ φ' s.nx) (h6 : s.nx ≤ s'.nx) (h7 : Stp St Mine w w') (hf : s'.fz = s.fz) : Goes φ φ' St St Mine w w' s s' :=
  ⟨h3, h5, h6, fun _ h => h, h7, fun g => by rw [hf]; exact g, fun _ _ h => h⟩

theorem EnvR.put {φ : Phi} {e : Nat → V} {tmps : Array Value} (r : EnvR φ St w e tmps) {d : Nat} (hd : d < tmps.size) {v : V} {m : Value} (h : Rep φ St w v m) : EnvR φ St w (upd e d v) (tmps.setIfInBounds d m) := by
  intro t
  by_cases ht : t = d
  · subst ht
    rw [upd_same]
    simpa [Array.getD_eq_getD_getElem?, hd] using h
  · rw [upd_ne _ _ ht]
    have := r t
    simpa [Array.getD_eq_getD_getElem?, Array.getElem?_setIfInBounds_ne (Ne.symm ht)] using this

/-- What a piece of code comes to. -/
def Post (φ : Phi) (St Mine : Nat → Prop) (w : World) (s : S) (a : Act) (r : R) : Exit → Act → World → Prop := fun e a' w' =>
  match r, e with
  | .n s', .normal | .r s', .ret => ∃ φ' St', Goes φ φ' St St' Mine w w' s s' ∧ EnvR φ' St' w' s'.e a'.tmps ∧ a'.tmps.size = a.tmps.size ∧ a'.defers = a.defers
  | .x i s', .exit j => i = j ∧ ∃ φ' St', Goes φ φ' St St' Mine w w' s s' ∧ EnvR φ' St' w' s'.e a'.tmps ∧ a'.tmps.size = a.tmps.size ∧ a'.defers = a.defers
  | _, _ => False

/-- All that the evaluation with fuel k says of code is so in the machine. -/
def ExOK (P : Program) (Γ : Env) (k : Nat) : Prop :=
  ∀ (c : Code) (s : S) (r : R) (φ : Phi) (St Mine : Nat → Prop) (w : World) (a : Act), ex Γ k (compC P Γ.md c) s = some r → dstsOk a.tmps.size (compC P Γ.md c) = true →
    WR φ St Mine w s.H s.nx → EnvR φ St w s.e a.tmps → c.wp P (Post φ St Mine w s a r) a w

theorem env_of {φ : Phi} {vs : List V} {ms : List Value} (r : RepL φ St w vs ms) (n : Nat) : EnvR φ St w (envOf vs) (ms.toArray ++ Array.replicate n undef) := by
  intro t
  unfold envOf
  rw [List.getD_eq_getElem?_getD, Array.getD_eq_getD_getElem?]
  rw [RepL_iff] at r
  by_cases ht : t < vs.length
  · obtain ⟨m, hm, hr⟩ := r.2 t _ (List.getElem?_eq_getElem ht)
    rw [List.getElem?_eq_getElem ht]
    rw [Array.getElem?_append_left (by simpa using (List.getElem?_eq_some_iff.1 hm).1)]
    simpa [hm] using hr
  · rw [List.getElem?_eq_none (by omega)]
    rw [Array.getElem?_append_right (by simp; omega)]
    simp only [Option.getD_none]
    rw [Array.getElem?_replicate]
    split <;> simp [Rep, undef]

def rvM (tmps : Array Value) : ResultVar → Sem Value
  | .tmp t => pure (tmps.getD t undef)
  | .cell a t => do loadVar t (← asAddr (tmps.getD a undef))

theorem results_eq (fn : Func) (tmps : Array Value) : results fn tmps = (do let vs ← fn.results.mapM (rvM tmps); pure (if h : vs.size = 1 then vs[0] else .tuple vs)) := by
  unfold results
  congr 2

/-- The results of a frame. -/
theorem results_spec {φ : Phi} {s : S} {rs : List (Nat × Option (Option Nat))} {fn : Func} (hrs : fn.results.toList.mapM (compR P) = some rs) {v : V} (hv : resOf s rs = some v) (q : WR φ St Mine w s.H s.nx) {tmps : Array Value} (r : EnvR φ St w s.e tmps) :
    ∃ m, (results fn tmps).run P w = .ok m w ∧ Rep φ St w v m := by
  have lst : ∀ (l : List ResultVar) (rs : List (Nat × Option (Option Nat))) (vs : List V), l.mapM (compR P) = some rs → resL s rs = some vs →
      ∃ ms : List Value, (l.mapM (rvM tmps)).run P w = .ok ms w ∧ RepL φ St w vs ms := by
    intro l
    induction l with
    | nil =>
      intro rs vs h1 h2
      simp at h1; subst h1
      simp only [resL, Option.some.injEq] at h2; subst h2
      exact ⟨[], rfl, by simp [RepL]⟩
    | cons x l ih =>
      intro rs vs h1 h2
      simp only [List.mapM_cons, Option.bind_eq_bind, Option.pure_def] at h1
      obtain ⟨y, hy, h1⟩ := Option.bind_eq_some_iff.1 h1
      obtain ⟨ys, hys, h1⟩ := Option.bind_eq_some_iff.1 h1
      obtain rfl := Option.some.inj h1
      simp only [resL] at h2
      split at h2
      case h_2 => cases h2
      rename_i v0 vs0 hv0 hvs0
      obtain rfl := Option.some.inj h2
      obtain ⟨ms, h3, h4⟩ := ih ys vs0 hys hvs0
      have hx : ∃ m, (rvM tmps x).run P w = .ok m w ∧ Rep φ St w v0 m := by
        cases x with
        | tmp t =>
          simp only [compR, Option.some.injEq] at hy; subst hy
          simp only [resV, Option.some.injEq] at hv0; subst hv0
          exact ⟨_, rfl, r t⟩
        | cell a t =>
          simp only [compR, Option.map_eq_some_iff] at hy
          obtain ⟨qq, hq, rfl⟩ := hy
          simp only [resV] at hv0
          split at hv0
          case h_2 => cases hv0
          rename_i u hu
          split at hv0
          case isFalse => cases hv0
          rename_i hf
          obtain rfl := Option.some.inj hv0
          obtain ⟨β, off, e, hr⟩ := deref_spec q (r a) hu
          obtain ⟨m, hm, hrep⟩ := run_loadVar hq hf hr
          refine ⟨m, ?_, hrep⟩
          simp only [rvM, e, asAddr, pure_bind]
          exact hm
      obtain ⟨m, h5, h6⟩ := hx
      refine ⟨m :: ms, ?_, by simp only [RepL]; exact ⟨m, ms, rfl, h6, h4⟩⟩
      simp only [List.mapM_cons]
      rw [run_bind, h5]
      simp only
      rw [run_bind, h3]
      rfl
  unfold resOf at hv
  have key : ∃ vs, resL s rs = some vs := by
    split at hv
    · rename_i h; exact ⟨_, h⟩
    · rename_i h; exact ⟨_, h⟩
    · cases hv
  obtain ⟨vs, hvs⟩ := key
  obtain ⟨ms, h1, h2⟩ := lst _ _ _ hrs hvs
  rw [hvs] at hv
  have hrun : (results fn tmps).run P w = .ok (if h : ms.toArray.size = 1 then ms.toArray[0] else .tuple ms.toArray) w := by
    rw [results_eq, run_bind, Array.mapM_eq_mapM_toList]
    rw [← bind_pure_comp, run_bind, h1]
    rfl
  rw [hrun]
  refine ⟨_, rfl, ?_⟩
  split at hv
  · rename_i v1 hh
    obtain rfl := Option.some.inj hh
    obtain rfl := Option.some.inj hv
    simp only [RepL] at h2
    obtain ⟨m, _, rfl, h3, rfl⟩ := h2
    simpa using h3
  · rename_i vs1 hne hh
    obtain rfl := Option.some.inj hh
    obtain rfl := Option.some.inj hv
    have hl := h2.len
    rw [dif_neg]
    · simp only [Rep]; exact ⟨ms, rfl, h2⟩
    · intro h1'
      have : vs.length = 1 := by rw [hl]; simpa using h1'
      match vs, this with
      | [v1], _ => exact hne v1 rfl
  · cases hv

/-! ### A call on trees -/

theorem lent_rep {φ : Phi} : ∀ {ms : List M} {vs : List V} {vals : List Value}, RepL φ St w vs vals → RepL φ St w (lent ms vs) (lent ms vals)
  | ms, [], vals, r => by simp only [RepL] at r; subst r; simp [lent, RepL]
  | ms, v :: vs, vals, r => by
    simp only [RepL] at r
    obtain ⟨m, vals', rfl, r1, r2⟩ := r
    simp only [lent]
    split
    · simp only [RepL]; exact ⟨m, _, rfl, r1, lent_rep r2⟩
    · exact lent_rep r2

theorem give_lst {φ : Phi} {H : Nat → Option Blk} {nx : Nat} (q : WR φ St Mine w H nx) : ∀ (cs ts : List V) (ms : List Value) (ids : List Nat), overL (give DEP H) cs = some (ts, ids) → RepL φ St w cs ms → RepTL St w ts ms (Lof φ ids)
  | [], ts, ms, ids, h, r => by
    simp only [overL, Option.some.injEq, Prod.mk.injEq] at h
    obtain ⟨rfl, rfl⟩ := h
    simp only [RepL] at r
    subst r
    simp [RepTL, Lof]
  | c :: cs, ts, ms, ids, h, r => by
    obtain ⟨t, ts', i, j, h1, h2, rfl, rfl⟩ := overL_cons h
    simp only [RepL] at r
    obtain ⟨m, ms', rfl, r1, r2⟩ := r
    simp only [RepTL]
    exact ⟨m, ms', _, _, rfl, Lof_append _ _ _, (give_spec q DEP).1 _ _ _ _ h1 r1, give_lst q cs _ _ _ h2 r2⟩

theorem take_lst : ∀ (ts vs : List V) (φ : Phi) (ms : List Value) (L : List Nat) (s s1 : S), takeL (takeIn DEP) ts s = some (vs, s1) → RepTL St w ts ms L → Can φ St Mine s L → WR φ St Mine w s.H s.nx →
    ∃ φ', Tk φ φ' s s1 L ∧ RepL φ' St w vs ms ∧ WR φ' St Mine w s1.H s1.nx
  | [], vs, φ, ms, L, s, s1, h, r, c, q => by
    simp only [takeL, Option.some.injEq, Prod.mk.injEq] at h
    obtain ⟨rfl, rfl⟩ := h
    simp only [RepTL] at r
    obtain ⟨rfl, rfl⟩ := r
    exact ⟨φ, Tk.refl q rfl _, by simp [RepL], q⟩
  | t :: ts, vs, φ, ms, L, s, s2, h, r, c, q => by
    obtain ⟨v, vs', s1, h1, h2, rfl⟩ := takeL_cons h
    simp only [RepTL] at r
    obtain ⟨m, ms', L1, L2, rfl, rfl, r1, r2⟩ := r
    obtain ⟨φ1, k1, p1, q1⟩ := (take_spec DEP).1 φ _ _ _ _ _ _ h1 r1 c.left q
    obtain ⟨φ2, k2, p2, q2⟩ := take_lst ts _ φ1 _ _ _ _ h2 r2 (c.right k1 q rfl) q1
    refine ⟨φ2, k1.trans k2 (by simp +contextual) (by simp +contextual), ?_, q2⟩
    simp only [RepL]
    exact ⟨m, ms', rfl, mono_same (k2.some q1) p1, p2⟩

theorem mapM_results {P : Program} {fn : Func} {F : F} {md : Nat → Option (List M)} (h : compF P md fn = some F) : ∃ c, fn.body = some c ∧ F.body = compC P md c ∧ fn.results.toList.mapM (compR P) = some F.res ∧
    (fn.name == "runtime.NumGoroutine") = false ∧ dstsOk fn.ntmps F.body = true ∧ F.np ≤ fn.ntmps := by
  unfold compF at h
  split at h
  · rename_i c rs hb hr
    split at h
    · rename_i hc
      obtain rfl := Option.some.inj h
      exact ⟨c, hb, rfl, hr, hc.1, hc.2.1, hc.2.2⟩
    · cases h
  · cases h

/-- A frame is entered, runs, and is left. -/
theorem frame_run {Γ : Env} {k f : Nat} {F : F} (hk : ExOK P Γ k) (hT : Am.tab P Γ.md f = some F) {φ : Phi} {vs : List V} {vals : List Value} {s0 : S} (he : s0.e = envOf vs) (hn : vs.length = F.np) (hr : RepL φ St w vs vals)
    (q : WR φ St Mine w s0.H s0.nx) {s1 : S} (hx : ex Γ k F.body s0 = some (.n s1) ∨ ex Γ k F.body s0 = some (.r s1)) {v : V} (hv : resOf s1 F.res = some v) :
    Calls P f vals.toArray w (fun e w' => ∃ m φ' St', e = .returned m ∧ Goes φ φ' St St' Mine w w' s0 s1 ∧ Rep φ' St' w' v m) ∧ Ent P f := by
  unfold Am.tab at hT
  obtain ⟨fn, hfn, hcomp⟩ := Option.bind_eq_some_iff.1 hT
  obtain ⟨c, hb, hbody, hres, hname, hd, hnp⟩ := mapM_results hcomp
  refine ⟨?_, fn, hfn, hname, by rw [hb]; rfl⟩
  refine calls_of_wp hfn hb ?_
  have hlen : vals.length = F.np := by rw [← hr.len, hn]
  let a : Act := { tmps := vals.toArray ++ Array.replicate (fn.ntmps - vals.toArray.size) undef, defers := [] }
  have hsz : a.tmps.size = fn.ntmps := by simp [a, hlen]; omega
  have env : EnvR φ St w s0.e a.tmps := by rw [he]; exact env_of hr _
  rw [hbody] at hx hd
  have fin : ∀ (a' : Act) (w' : World), (∃ φ' St', Goes φ φ' St St' Mine w w' s0 s1 ∧ EnvR φ' St' w' s1.e a'.tmps ∧ a'.tmps.size = a.tmps.size ∧ a'.defers = a.defers) →
      a'.defers = [] ∧ ∃ m, (results fn a'.tmps).run P w' = .ok m w' ∧ ∃ m' φ' St', Ending.returned m = .returned m' ∧ Goes φ φ' St St' Mine w w' s0 s1 ∧ Rep φ' St' w' v m' := by
    rintro a' w' ⟨φ', St', g, henv, _, hdf⟩
    obtain ⟨m, hm, hrep⟩ := results_spec hres hv g.wr henv
    exact ⟨hdf, m, hm, m, φ', St', rfl, g, hrep⟩
  rcases hx with hx | hx
  · refine Code.wp_mono ?_ (hk c s0 _ φ St Mine w a hx (by rw [hsz]; exact hd) q env)
    intro e a' w' hp
    cases e with
    | normal => exact fin a' w' hp
    | _ => exact hp.elim
  · refine Code.wp_mono ?_ (hk c s0 _ φ St Mine w a hx (by rw [hsz]; exact hd) q env)
    intro e a' w' hp
    cases e with
    | ret => exact fin a' w' hp
    | _ => exact hp.elim

/-- The call of a function on trees: what its code comes to. -/
theorem iso_sound {Γ : Env} (hΓ : EnvOK P Γ) {k f : Nat} (hk : ExOK P Γ k) {ms : List M} (hmd : Γ.md f = some ms) {args : List V} {res : V} {us : List V} (h : isoCall Γ (ex Γ k) f ms args = some (res, us)) : IsoOK P f ms args res us ∧ Ent P f := by
  unfold isoCall at h
  split at h
  · rename_i p hp
    exact hΓ.pr f p ms args res us hp hmd h
  split at h
  case h_2 => cases h
  rename_i F hF
  split at h
  case isFalse => cases h
  rename_i hnp
  split at h
  case h_2 => cases h
  rename_i vals0 s0 htake
  have core : ∀ s1, (ex Γ k F.body { e := envOf vals0, H := s0.H, nx := s0.nx } = some (.n s1) ∨ ex Γ k F.body { e := envOf vals0, H := s0.H, nx := s0.nx } = some (.r s1)) →
      (match resOf s1 F.res with
        | some v =>
          match give DEP s1.H v, overL (give DEP s1.H) (lent ms vals0) with
          | some (t, i), some (ts, j) => if (i ++ j).Nodup ∧ (s1.fz = false ∨ (free DEP t = true ∧ allL (free DEP) ts = true)) then some (t, ts) else none
          | _, _ => none
        | none => none) = some (res, us) → IsoOK P f ms args res us ∧ Ent P f := by
    intro s1 hx h
    split at h
    case h_2 => cases h
    rename_i v hv
    split at h
    case h_2 => cases h
    rename_i t i ts j hgt hgts
    split at h
    case isFalse => cases h
    rename_i hcond
    obtain ⟨hnd, hfz⟩ := hcond
    obtain ⟨rfl, rfl⟩ := Prod.mk.inj (Option.some.inj h)
    have ent : Ent P f := by
      have hT := hΓ.tab f F hF
      unfold Am.tab at hT
      obtain ⟨fn, hfn, hcomp⟩ := Option.bind_eq_some_iff.1 hT
      obtain ⟨c, hb, _, _, hname, _, _⟩ := mapM_results hcomp
      exact ⟨fn, hfn, hname, by rw [hb]; rfl⟩
    refine ⟨?_, ent⟩
    intro w St vals L hargs hLn hL hSt
    -- the arguments become blocks of the frame
    let Mine : Nat → Prop := fun β => β ∈ L ∨ w.heap.size ≤ β
    let φ0 : Phi := fun _ => none
    let z : S := { e := fun _ => .un, H := fun _ => none, nx := 0 }
    have q0 : WR φ0 St Mine w z.H z.nx := ⟨fun _ _ => rfl, fun _ _ => rfl, fun b B hB => (by cases hB), fun _ _ _ _ _ _ _ _ _ hB => (by cases hB), fun _ _ _ _ _ hB => (by cases hB), hSt, fun β hb => .inr hb⟩
    have c0 : Can φ0 St Mine z L := ⟨hLn, fun β hb => (hL β hb).1, fun β hb => .inl hb, fun _ _ _ _ _ hB => (by cases hB)⟩
    obtain ⟨φ1, k1, p1, q1⟩ := take_lst args vals0 φ0 vals L z s0 htake hargs c0 q0
    have hlen : vals0.length = F.np := by rw [takeL_len htake]; exact hnp
    obtain ⟨hcall, _⟩ := frame_run (s0 := { e := envOf vals0, H := s0.H, nx := s0.nx }) hk (hΓ.tab f F hF) rfl hlen p1 q1 hx hv
    refine hcall.mono ?_
    rintro e w' ⟨m, φ2, St2, rfl, g, hrep⟩
    have p2 : RepL φ2 St2 w' vals0 vals := RepL.mono (g.ext.some q1) g.st g.stp.stab g.stp.room _ _ p1
    have r1 : RepT St2 w' t m (Lof φ2 i) := (give_spec g.wr DEP).1 _ _ _ _ hgt hrep
    have r2 : RepTL St2 w' ts (lent ms vals) (Lof φ2 j) := give_lst g.wr _ _ _ _ hgts (lent_rep p2)
    have alive : ∀ b ∈ i ++ j, ∃ B, s1.H b = some B := by
      have hov : ∀ (cs ts : List V) (ids : List Nat), overL (give DEP s1.H) cs = some (ts, ids) → ∀ b ∈ ids, ∃ B, s1.H b = some B := by
        intro cs
        induction cs with
        | nil => intro ts ids h; simp only [overL, Option.some.injEq, Prod.mk.injEq] at h; obtain ⟨_, rfl⟩ := h; simp
        | cons c cs ih =>
          intro ts ids h
          obtain ⟨t, ts', i, j, h1, h2, rfl, rfl⟩ := overL_cons h
          intro b hb
          rcases List.mem_append.1 hb with hb | hb
          · exact give_alive _ _ _ _ h1 b hb
          · exact ih _ _ h2 b hb
      intro b hb
      rcases List.mem_append.1 hb with hb | hb
      · exact give_alive _ _ _ _ hgt b hb
      · exact hov _ _ _ hgts b hb
    have mem : ∀ β ∈ Lof φ2 i ++ Lof φ2 j, Mine β ∧ β < w'.heap.size := by
      intro β hb
      rw [← Lof_append] at hb
      obtain ⟨b, hb, o, kk, hp⟩ := mem_Lof.1 hb
      obtain ⟨B, hB⟩ := alive b hb
      refine ⟨g.wr.own b B β o kk hB hp, ?_⟩
      rcases g.wr.blk b B hB with ⟨_, h2⟩ | ⟨β', o', h1, _, _, h4, _⟩
      · rw [h2] at hp; cases hp
      · rw [h1] at hp; cases hp; exact h4.lt
    refine ⟨m, Lof φ2 i, Lof φ2 j, rfl, g.stp, ?_, ?_, ?_, fun β hb => ⟨?_, (mem β hb).1, (mem β hb).2⟩⟩
    · rcases hfz with hfz | hfz
      · exact RepT.st (g.nf hfz) _ _ _ r1
      · exact (free_spec DEP).1 _ _ _ hfz.1 r1
    · rcases hfz with hfz | hfz
      · exact RepTL.st (g.nf hfz) _ _ _ r2
      · exact free_list _ _ _ hfz.2 r2
    · rw [← Lof_append]; exact Lof_nodup g.wr hnd alive
    · intro hs
      rcases (mem β hb).1 with hm | hm
      · exact (hL β hm).1 hs
      · exact absurd (hSt β hs) (by omega)
  split at h
  · rename_i s1 hx; exact core s1 (.inl hx) h
  · rename_i s1 hx; exact core s1 (.inr hx) h
  · cases h

/-! ### A call out of a frame -/

theorem Stp.weaken {St1 St2 M1 M2 : Nat → Prop} {w' : World} (h : Stp St1 M1 w w') (hS : ∀ β, St2 β → St1 β) (hM : ∀ β, β < w.heap.size → M1 β → M2 β) : Stp St2 M2 w w' :=
  ⟨h.os, h.tape, h.output, h.size, fun β hb hm => h.keep β hb fun h1 => hm (hM β hb h1), fun β hb => h.stab β (hS β hb), h.room⟩

/-- What a function value calls. -/
def fnOf : V → Option (Nat × List V)
  | .cl f caps => some (f, caps)
  | .im (.func (.func f) first caps) => if first = #[] ∧ caps = #[] then some (f, []) else none
  | _ => none

theorem callV_eq (Γ : Env) (exk : C → S → Option R) (fv : V) (args : List V) (s : S) : callV Γ exk fv args s = match fnOf fv with
    | none => none
    | some (f, caps) =>
      match Γ.md f with
      | none =>
        match Γ.T f with
        | some F =>
          if (args ++ caps).length = F.np then
            match exk F.body { s with e := envOf (args ++ caps) } with
            | some (.n s1) | some (.r s1) =>
              match resOf s1 F.res with
              | some v => some (v, { s with H := s1.H, nx := s1.nx, fz := s1.fz })
              | none => none
            | _ => none
          else none
        | none => none
      | some ms =>
        match handL s.H ms (args ++ caps) with
        | some (ts, rs, os) =>
          if os.Nodup ∧ (∀ b ∈ os, b ∉ rs) ∧ os.all (fun b => match s.H b with | some B => !B.fr | none => true) = true then
            match isoCall Γ exk f ms ts with
            | some (t, us) =>
              match backL s.H (lent ms (args ++ caps)) us (if free DEP t = true ∧ allL (free DEP) us = true then s.mem (kill s.H os) else { s with H := freeze (kill s.H os) rs, fz := s.fz || !rs.isEmpty }) with
              | some s1 => takeIn DEP t s1
              | none => none
            | none => none
          else none
        | none => none := by
  unfold callV fnOf
  cases fv <;> rfl

theorem RepL.append {φ : Phi} : ∀ {vs us : List V} {ms ns : List Value}, RepL φ St w vs ms → RepL φ St w us ns → RepL φ St w (vs ++ us) (ms ++ ns)
  | [], us, ms, ns, h, k => by simp only [RepL] at h; subst h; exact k
  | v :: vs, us, ms, ns, h, k => by
    simp only [RepL] at h
    obtain ⟨m, ms', rfl, h1, h2⟩ := h
    simp only [List.cons_append, RepL]
    exact ⟨m, _, rfl, h1, h2.append k⟩

theorem fnOf_spec {φ : Phi} {fv : V} {fm : Value} {f : Nat} {caps : List V} (h : fnOf fv = some (f, caps)) (r : Rep φ St w fv fm) : ∃ cms : List Value, fm = .func (.func f) #[] cms.toArray ∧ RepL φ St w caps cms := by
  unfold fnOf at h
  split at h
  · obtain ⟨rfl, rfl⟩ := Prod.mk.inj (Option.some.inj h)
    simpa only [Rep] using r
  · split at h
    · rename_i hc
      obtain ⟨rfl, rfl⟩ := Prod.mk.inj (Option.some.inj h)
      obtain ⟨rfl, rfl⟩ := hc
      simp only [Rep] at r
      exact ⟨[], r, by simp [RepL]⟩
    · cases h
  · cases h

theorem take_e : ∀ (d : Nat) (t v : V) (s s1 : S), takeIn d t s = some (v, s1) → s1.e = s.e
  | 0, _, _, _, _, h => by simp [takeIn] at h
  | d + 1, t, v, s, s1, h => by
    have lst : ∀ (ts vs : List V) (s s1 : S), takeL (takeIn d) ts s = some (vs, s1) → s1.e = s.e := by
      intro ts
      induction ts with
      | nil => intro vs s s1 h; simp only [takeL, Option.some.injEq, Prod.mk.injEq] at h; rw [h.2]
      | cons t ts ih =>
        intro vs s s2 h
        obtain ⟨v, vs', s1, h1, h2, rfl⟩ := takeL_cons h
        rw [ih _ _ _ h2, take_e d _ _ _ _ h1]
    cases t <;> simp only [takeIn] at h
    case st cs => split at h
                  · rename_i hts; obtain ⟨_, rfl⟩ := Prod.mk.inj (Option.some.inj h); exact lst _ _ _ _ hts
                  · cases h
    case tu cs => split at h
                  · rename_i hts; obtain ⟨_, rfl⟩ := Prod.mk.inj (Option.some.inj h); exact lst _ _ _ _ hts
                  · cases h
    case cl f cs => split at h
                    · rename_i hts; obtain ⟨_, rfl⟩ := Prod.mk.inj (Option.some.inj h); exact lst _ _ _ _ hts
                    · cases h
    case ow k cs => split at h
                    · rename_i hts; obtain ⟨_, rfl⟩ := Prod.mk.inj (Option.some.inj h); have := lst _ _ _ _ hts; simpa [S.new] using this
                    · cases h
    case op v0 => split at h
                  · rename_i hts; obtain ⟨_, rfl⟩ := Prod.mk.inj (Option.some.inj h); have := take_e d _ _ _ _ hts; simpa [S.new] using this
                  · cases h
    case im x => obtain ⟨_, rfl⟩ := Prod.mk.inj (Option.some.inj h); rfl
    case sl x => obtain ⟨_, rfl⟩ := Prod.mk.inj (Option.some.inj h); rfl
    case rp x => obtain ⟨_, rfl⟩ := Prod.mk.inj (Option.some.inj h); rfl
    case e0 => obtain ⟨_, rfl⟩ := Prod.mk.inj (Option.some.inj h); rfl
    all_goals cases h

theorem takeL_e {d : Nat} : ∀ (ts vs : List V) (s s1 : S), takeL (takeIn d) ts s = some (vs, s1) → s1.e = s.e
  | [], vs, s, s1, h => by simp only [takeL, Option.some.injEq, Prod.mk.injEq] at h; rw [h.2]
  | t :: ts, vs, s, s2, h => by
    obtain ⟨v, vs', s1, h1, h2, rfl⟩ := takeL_cons h
    rw [takeL_e _ _ _ _ h2, take_e d _ _ _ _ h1]

theorem backV_e {old : Nat → Option Blk} {v t : V} {s s1 : S} (h : backV old v t s = some s1) : s1.e = s.e := by
  unfold backV at h
  split at h
  · split at h
    · split at h
      · obtain rfl := Option.some.inj h; rfl
      · cases h
    split at h <;> try (cases h; done)
    split at h <;> try (cases h; done)
    split at h <;> try (cases h; done)
    rename_i hts
    obtain rfl := Option.some.inj h
    have := takeL_e _ _ _ _ hts
    simpa [S.blk] using this
  · split at h <;> try (cases h; done)
    split at h <;> try (cases h; done)
    split at h <;> try (cases h; done)
    rename_i hts
    obtain rfl := Option.some.inj h
    have := take_e _ _ _ _ _ hts
    simpa [S.blk] using this
  · split at h
    · obtain rfl := Option.some.inj h; rfl
    · cases h
  all_goals first | (obtain rfl := Option.some.inj h; rfl) | cases h

theorem backVs_e {old : Nat → Option Blk} : ∀ (vs ts : List V) (s s1 : S), backVs old vs ts s = some s1 → s1.e = s.e
  | [], [], s, s1, h => by simp only [backVs, Option.some.injEq] at h; rw [h]
  | [], t :: ts, s, s1, h => by simp [backVs] at h
  | v :: vs, [], s, s1, h => by simp [backVs] at h
  | v :: vs, t :: ts, s, s1, h => by
    simp only [backVs] at h
    split at h
    · rename_i h1; rw [backVs_e vs ts _ _ h, backV_e h1]
    · cases h

theorem backL_e {old : Nat → Option Blk} : ∀ (vs ts : List V) (s s1 : S), backL old vs ts s = some s1 → s1.e = s.e
  | [], [], s, s1, h => by simp only [backL, Option.some.injEq] at h; rw [h]
  | [], t :: ts, s, s1, h => by simp [backL] at h
  | v :: vs, [], s, s1, h => by simp [backL] at h
  | v :: vs, t :: ts, s, s1, h => by
    simp only [backL] at h
    split at h
    · rename_i h1
      rw [backL_e vs ts _ _ h]
      unfold back1 at h1
      split at h1
      · exact backVs_e _ _ _ _ h1
      · exact backV_e h1
    · cases h

/-- **A call out of a frame.** -/
theorem callV_sound {Γ : Env} (hΓ : EnvOK P Γ) {k : Nat} (hk : ExOK P Γ k) {φ : Phi} {fv : V} {args : List V} {fm : Value} {ams : List Value} {s s' : S} {v : V} (h : callV Γ (ex Γ k) fv args s = some (v, s'))
    (q : WR φ St Mine w s.H s.nx) (rf : Rep φ St w fv fm) (ra : RepL φ St w args ams) :
    ∃ (f : Nat) (cms : List Value), fm = .func (.func f) #[] cms.toArray ∧ Ent P f ∧ s'.e = s.e ∧
      Calls P f (ams ++ cms).toArray w (fun e w' => ∃ m φ' St', e = .returned m ∧ Goes φ φ' St St' Mine w w' s s' ∧ Rep φ' St' w' v m) := by
  rw [callV_eq] at h
  split at h
  case h_1 => cases h
  rename_i f caps hf
  obtain ⟨cms, rfl, rc⟩ := fnOf_spec hf rf
  have rall := ra.append rc
  refine ⟨f, cms, rfl, ?_⟩
  split at h
  · -- in the caller's own memory
    split at h
    case h_2 => cases h
    rename_i F hF
    split at h
    case isFalse => cases h
    rename_i hnp
    have core : ∀ s1, (ex Γ k F.body { s with e := envOf (args ++ caps) } = some (.n s1) ∨ ex Γ k F.body { s with e := envOf (args ++ caps) } = some (.r s1)) →
        (match resOf s1 F.res with | some v => some (v, ({ s with H := s1.H, nx := s1.nx, fz := s1.fz } : S)) | none => none) = some (v, s') →
        Ent P f ∧ s'.e = s.e ∧ Calls P f (ams ++ cms).toArray w (fun e w' => ∃ m φ' St', e = .returned m ∧ Goes φ φ' St St' Mine w w' s s' ∧ Rep φ' St' w' v m) := by
      intro s1 hx h
      split at h
      case h_2 => cases h
      rename_i v1 hv
      obtain ⟨rfl, rfl⟩ := Prod.mk.inj (Option.some.inj h)
      obtain ⟨hc, he⟩ := frame_run (s0 := { s with e := envOf (args ++ caps) }) hk (hΓ.tab f F hF) rfl hnp rall q hx hv
      refine ⟨he, rfl, hc.mono ?_⟩
      rintro e w' ⟨m, φ', St', rfl, g, hrep⟩
      exact ⟨m, φ', St', rfl, ⟨g.wr, g.ext, g.nx, g.st, g.stp, g.fz, g.nf⟩, hrep⟩
    split at h
    · rename_i s1 hx; exact core s1 (.inl hx) h
    · rename_i s1 hx; exact core s1 (.inr hx) h
    · cases h
  · -- on trees
    rename_i ms hmd
    split at h
    case h_2 => cases h
    rename_i ts rs os hhand
    split at h
    case isFalse => cases h
    rename_i hcond
    obtain ⟨hond, hdisj, hofr⟩ := hcond
    split at h
    case h_2 => cases h
    rename_i t us hiso
    split at h
    case h_2 => cases h
    rename_i s1 hback
    obtain ⟨iso, ent⟩ := iso_sound hΓ hk hmd hiso
    obtain ⟨ars, aos⟩ := hand_alive ms _ ts rs os hhand
    -- St of the callee: what is kept, and what is only read
    let St1 : Nat → Prop := fun β => St β ∨ β ∈ Lof φ rs
    have hrep := hand_spec q (St' := St1) (fun β hb => .inl hb) ms _ ts _ rs os hhand rall fun b hb β o kk hp => .inr (mem_Lof.2 ⟨b, hb, o, kk, hp⟩)
    have lt_of : ∀ {b B β o kk}, s.H b = some B → φ b = some (β, o, kk) → β < w.heap.size := by
      intro b B β o kk hB hp
      rcases q.blk b B hB with ⟨_, h2⟩ | ⟨β', o', h1, _, _, h4, _⟩
      · rw [h2] at hp; cases hp
      · rw [h1] at hp; cases hp; exact h4.lt
    have hLn : (Lof φ os).Nodup := Lof_nodup q hond aos
    have unf : ∀ b ∈ os, ∀ B β o kk, s.H b = some B → φ b = some (β, o, kk) → ¬ St β := by
      intro b hb B β o kk hB hp
      simp only [List.all_eq_true] at hofr
      have := hofr b hb
      rw [hB] at this
      have hfr : B.fr = false := by simpa using this
      rcases q.blk b B hB with ⟨_, h2⟩ | ⟨β', o', h1, h3, _⟩
      · rw [h2] at hp; cases hp
      · rw [h1] at hp; cases hp; exact h3 hfr
    have hL : ∀ β ∈ Lof φ os, ¬ St1 β ∧ β < w.heap.size := by
      intro β hβ
      obtain ⟨b, hb, o, kk, hp⟩ := mem_Lof.1 hβ
      obtain ⟨B, hB⟩ := aos b hb
      refine ⟨?_, lt_of hB hp⟩
      rintro (hs | hs)
      · exact unf b hb B β o kk hB hp hs
      · obtain ⟨b', hb', o', k', hp'⟩ := mem_Lof.1 hs
        obtain ⟨B', hB'⟩ := ars b' hb'
        have := q.inj b b' B B' β o kk o' k' hB hB' hp hp'
        subst this
        exact hdisj b hb hb'
    have hSt1 : ∀ β, St1 β → β < w.heap.size := by
      rintro β (hs | hs)
      · exact q.stB β hs
      · obtain ⟨b', hb', o', k', hp'⟩ := mem_Lof.1 hs
        obtain ⟨B', hB'⟩ := ars b' hb'
        exact lt_of hB' hp'
    refine ⟨ent, ?_, (iso w St1 _ _ hrep hLn hL hSt1).mono ?_⟩
    · -- the frame's own variables have not turned
      rw [take_e _ _ _ _ _ h, backL_e _ _ _ _ hback]
      split <;> rfl
    rintro e w' ⟨m, L1, L2, rfl, stp, rt, rus, hnd, hmem⟩
    have minew : ∀ β, w.heap.size ≤ β → Mine β := q.mine
    have mineL : ∀ β ∈ Lof φ os, Mine β := by
      intro β hβ
      obtain ⟨b, hb, o, kk, hp⟩ := mem_Lof.1 hβ
      obtain ⟨B, hB⟩ := aos b hb
      exact q.own b B β o kk hB hp
    have stp1 : Stp St Mine w w' := stp.weaken (fun β hb => .inl hb) fun β _ hm => by
      rcases hm with hm | hm
      · exact mineL β hm
      · exact minew β hm
    have stpS1 : Stp St1 Mine w w' := stp.weaken (fun β hb => hb) fun β _ hm => by
      rcases hm with hm | hm
      · exact mineL β hm
      · exact minew β hm
    -- behind the call, before anything comes back
    have hkill : ∀ b B, kill s.H os b = some B → s.H b = some B ∧ b ∉ os := by
      intro b B hB
      unfold kill at hB
      split at hB
      · cases hB
      · rename_i hb; exact ⟨hB, hb⟩
    have qk : WR φ St Mine w' (kill s.H os) s.nx := (q.kill fun b B hB => (hkill b B hB).1).later stp1 fun b B β o kk hB hp => by
      obtain ⟨hB', hb'⟩ := hkill b B hB
      refine stp.keep β (lt_of hB' hp) ?_
      rintro (hm | hm)
      · obtain ⟨b2, hb2, o2, k2, hp2⟩ := mem_Lof.1 hm
        obtain ⟨B2, hB2⟩ := aos b2 hb2
        have := q.inj b b2 B B2 β o kk o2 k2 hB' hB2 hp hp2
        subst this
        exact hb' hb2
      · exact absurd (lt_of hB' hp) (by omega)
    have rall' : RepL φ St w' (args ++ caps) (ams ++ cms) := RepL.mono (fun _ _ h => h) (fun _ h => h) stp1.stab stp1.room _ _ rall
    have hns1 : ∀ β ∈ L1 ++ L2, ¬ St1 β := fun β hb => (hmem β hb).1
    have hmi : ∀ β ∈ L1 ++ L2, Mine β := fun β hb => by
      rcases (hmem β hb).2.1 with hm | hm
      · exact mineL β hm
      · exact minew β hm
    have hfrk : ∀ b B β o kk, kill s.H os b = some B → φ b = some (β, o, kk) → β ∉ L1 ++ L2 := by
      intro b B β o kk hB hp hβ
      obtain ⟨hB', hb'⟩ := hkill b B hB
      rcases (hmem β hβ).2.1 with hm | hm
      · obtain ⟨b2, hb2, o2, k2, hp2⟩ := mem_Lof.1 hm
        obtain ⟨B2, hB2⟩ := aos b2 hb2
        have := q.inj b b2 B B2 β o kk o2 k2 hB' hB2 hp hp2
        subst this
        exact hb' hb2
      · exact absurd (lt_of hB' hp) (by omega)
    -- what comes back, and the result
    have hnd' : (L2 ++ L1).Nodup := (List.perm_append_comm.nodup_iff).1 hnd
    have fin : ∀ (St2 : Nat → Prop) (sk : S), (∀ β, St β → St2 β) → (∀ β, St2 β → St1 β) → sk.nx = s.nx → (∀ b B, sk.H b = some B → ∃ C, kill s.H os b = some C) → WR φ St2 Mine w' sk.H sk.nx →
        backL s.H (lent ms (args ++ caps)) us sk = some s1 → RepTL St2 w' us (lent ms (ams ++ cms)) L2 → RepT St2 w' t m L1 → (s.fz = true → sk.fz = true) → (sk.fz = false → ∀ β, St2 β → St β) →
        ∃ m' φ' St', Ending.returned m = .returned m' ∧ Goes φ φ' St St' Mine w w' s s' ∧ Rep φ' St' w' v m' := by
      intro St2 sk hS2 hS21 hnx hal qsk hb rus2 rt2 hf1 hf2
      have can : Can φ St2 Mine sk (L2 ++ L1) := ⟨hnd', fun β hb hs => hns1 β (by simpa [or_comm] using hb) (hS21 β hs), fun β hb => hmi β (by simpa [or_comm] using hb), fun b B β o kk hB hp hβ => by
        obtain ⟨C, hC⟩ := hal b B hB
        exact hfrk b C β o kk hC hp (by simpa [or_comm] using hβ)⟩
      have hold : OldOK φ s.H sk.nx := fun b B hB => by
        refine ⟨?_, fun β o kk hp => ?_⟩
        · rw [hnx]
          rcases Nat.lt_or_ge b s.nx with g | g
          · exact g
          · rw [q.bnd b g] at hB; cases hB
        · rcases q.blk b B hB with ⟨_, h2⟩ | ⟨β', o', h1, _⟩
          · rw [h2] at hp; cases hp
          · rw [h1] at hp; cases hp; rfl
      have rl : RepL φ St2 w' (lent ms (args ++ caps)) (lent ms (ams ++ cms)) := RepL.mono (fun _ _ h => h) hS2 (fun _ _ => rfl) (fun _ _ h => h) _ _ (lent_rep rall')
      obtain ⟨φ1, k1, q1, _⟩ := backL_spec _ _ φ _ L2 sk s1 hb rl rus2 can.left qsk hold
      obtain ⟨φ2, k2, p2, q2⟩ := (take_spec DEP).1 φ1 t v m L1 s1 s' h rt2 (can.bk k1 qsk) q1
      refine ⟨m, φ2, St2, rfl, ⟨q2, ?_, ?_, hS2, stp1, fun g => ?_, fun g => ?_⟩, p2⟩
      · exact (hnx ▸ k1.ext).trans k2.ext (by have := k1.nx; omega)
      · have := k1.nx; have := k2.nx; omega
      · rw [k2.fz, k1.fz]; exact hf1 g
      · rw [k2.fz, k1.fz] at g; exact hf2 g
    by_cases hfree : free DEP t = true ∧ allL (free DEP) us = true
    · rw [if_pos hfree] at hback
      exact fin St (s.mem (kill s.H os)) (fun _ h => h) (fun _ h => .inl h) rfl (fun b B hB => ⟨B, hB⟩) qk hback (free_list _ _ _ hfree.2 rus) ((free_spec DEP).1 _ _ _ hfree.1 rt) (fun g => g) (fun _ _ h => h)
    · rw [if_neg hfree] at hback
      have hark : ∀ b ∈ rs, ∃ B, kill s.H os b = some B := by
        intro b hb
        obtain ⟨B, hB⟩ := ars b hb
        refine ⟨B, ?_⟩
        unfold kill
        rw [if_neg (fun ho => hdisj b ho hb)]; exact hB
      refine fin St1 { s with H := freeze (kill s.H os) rs, fz := s.fz || !rs.isEmpty } (fun _ h => .inl h) (fun _ h => h) rfl (fun b B hB => ?_) (qk.freeze hark) hback rus rt (fun g => by simp [g]) (fun g β hb => ?_)
      · simp only [freeze] at hB
        split at hB
        · obtain ⟨C, hC, _⟩ := Option.map_eq_some_iff.1 hB; exact ⟨C, hC⟩
        · exact ⟨B, hB⟩
      · have hrs : rs = [] := by
          simp only [Bool.or_eq_false_iff, Bool.not_eq_false'] at g
          simpa using g.2
        subst hrs
        rcases hb with hb | hb
        · exact hb
        · simp [Lof] at hb

end Go.Am
