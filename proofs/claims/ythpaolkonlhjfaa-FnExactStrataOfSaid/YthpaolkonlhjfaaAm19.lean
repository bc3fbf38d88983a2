/- The A-machine, part 19: regions whose order is open. -/
import Derived.Test.YthpaolkonlhjfaaAm18
set_option linter.all false
namespace Go.Am
variable {P : Program} {St Mine : Nat → Prop} {w : World}

def putE (e : Nat → V) (d : Option Nat) (v : V) : Nat → V := match d with | some d => upd e d v | none => e
theorem put_wi (s : S) (d : Option Nat) (v : V) : s.put d v = s.wi (putE s.e d v) := by cases d <;> rfl
theorem putE_off {e : Nat → V} {d : Option Nat} {v : V} {t : Nat} (h : d ≠ some t) : putE e d v t = e t := by
  cases d with
  | none => rfl
  | some d => exact upd_ne _ _ fun hh => h (by rw [hh])
theorem putE_comm {e : Nat → V} {d d' : Option Nat} {v u : V} (h : ∀ x, d = some x → d' ≠ some x) : putE (putE e d v) d' u = putE (putE e d' u) d v := by
  cases d with
  | none => rfl
  | some d =>
    cases d' with
    | none => rfl
    | some d' =>
      have hne : d' ≠ d := fun hh => h d rfl (by rw [hh])
      funext t
      simp only [putE, upd]
      by_cases h1 : t = d
      · subst h1; rw [if_neg (Ne.symm hne)]; simp
      · by_cases h2 : t = d'
        · simp [h2, hne]
        · simp [h1, h2]

/-- What an operation leaves, with its guard. -/
def res (ca : V → List V → S → Option (V × S)) (i : I) (s : S) : Option (V × S) :=
  match guardA s.e i.g with
  | some true => opA ca s i.a
  | some false => some (.un, s)
  | none => none

theorem runI_res {ca : V → List V → S → Option (V × S)} {i : I} {l : List I} {s : S} : runI ca (i :: l) s = match res ca i s with | some (v, s1) => runI ca l (s1.put i.d v) | none => none := by
  rw [runI_cons]
  unfold res
  cases guardA s.e i.g with
  | none => rfl
  | some b => cases b <;> rfl

theorem guardA_wi {e e' : Nat → V} {i : I} (h : ∀ t ∈ i.rd, e' t = e t) : guardA e' i.g = guardA e i.g := by
  unfold guardA
  cases hg : i.g with
  | none => rfl
  | some g =>
    obtain ⟨t, w⟩ := g
    simp only
    rw [h t (by simp [I.rd, hg])]

section
variable {ca : V → List V → S → Option (V × S)}

theorem res_wi (hca : CaE ca) {i : I} {s : S} {e : Nat → V} (h : ∀ t ∈ i.rd, e t = s.e t) : res ca i (s.wi e) = (res ca i s).map (wiR e) := by
  unfold res
  rw [show (s.wi e).e = e from rfl, guardA_wi h]
  split
  · exact opA_wi hca fun t ht => h t (List.mem_append_right _ ht)
  · rfl
  · rfl

theorem res_same (hca : CaE ca) {i : I} {s s1 : S} {v : V} (h : res ca i s = some (v, s1)) : s1.e = s.e := by
  unfold res at h
  split at h
  · exact opA_same hca h
  · obtain ⟨_, rfl⟩ := Prod.mk.inj (Option.some.inj h); rfl
  · cases h

theorem res_pure {i : I} {s s1 : S} {v : V} (hp : isPure i.a = true) (h : res ca i s = some (v, s1)) : s1 = s ∧ ∀ s', s'.e = s.e → res ca i s' = some (v, s') := by
  unfold res at h
  split at h
  · rename_i hg
    obtain ⟨h1, h2⟩ := opA_pure hp h
    exact ⟨h1, fun s' he => by unfold res; rw [he, hg]; exact h2 s' he⟩
  · rename_i hg
    obtain ⟨rfl, rfl⟩ := Prod.mk.inj (Option.some.inj h)
    exact ⟨rfl, fun s' he => by unfold res; rw [he, hg]⟩
  · cases h

theorem res_quiet {i : I} {s s1 : S} {v : V} (hp : isQuiet i.a = true) (h : res ca i s = some (v, s1)) : s1 = s ∧ ∀ s', s'.e = s.e → Sub s.H s'.H → res ca i s' = some (v, s') := by
  unfold res at h
  split at h
  · rename_i hg
    obtain ⟨h1, h2⟩ := opA_quiet hp h
    exact ⟨h1, fun s' he hs => by unfold res; rw [he, hg]; exact h2 s' he hs⟩
  · rename_i hg
    obtain ⟨rfl, rfl⟩ := Prod.mk.inj (Option.some.inj h)
    exact ⟨rfl, fun s' he _ => by unfold res; rw [he, hg]⟩
  · cases h

theorem res_loadT {i : I} {s s' s1 : S} {v : V} (hp : isLoadT i.a = true) (g : Grow s s') (hl : ∀ t ∈ i.a.rd, Low s.nx (s.e t)) (he : s'.e = s.e) (h : res ca i s' = some (v, s1)) : s1 = s' ∧ res ca i s = some (v, s) := by
  unfold res at h ⊢
  rw [he] at h
  split at h
  · rename_i hg; exact opA_loadT hp g hl he h
  · obtain ⟨rfl, rfl⟩ := Prod.mk.inj (Option.some.inj h); exact ⟨rfl, rfl⟩
  · cases h
end

theorem res_make {Γ : Env} {exk : C → S → Option R} {i : I} {s s1 : S} {v : V} (hp : isMake Γ.md i.a = true) (hb : Bd s) (h : res (callV Γ exk) i s = some (v, s1)) : Grow s s1 := by
  unfold res at h
  split at h
  · exact opA_make hp hb h
  · obtain ⟨rfl, rfl⟩ := Prod.mk.inj (Option.some.inj h); exact Grow.refl hb
  · cases h

theorem apartI_spec {md : Nat → Option (List M)} {x y : I} (h : apartI md x y = true) : (∀ d, x.d = some d → d ∉ y.rd) ∧ (∀ d, x.d = some d → y.d ≠ some d) ∧ (∀ d, y.d = some d → d ∉ x.rd) ∧ apartA md x.a y.a = true := by
  unfold apartI at h
  simp only [Bool.and_eq_true] at h
  obtain ⟨⟨h1, h2⟩, h3⟩ := h
  refine ⟨fun d hd => ?_, fun d hd => ?_, fun d hd => ?_, h3⟩
  · rw [hd] at h1; simp at h1; exact h1.1
  · rw [hd] at h1; simp at h1; exact h1.2
  · rw [hd] at h2; simp at h2; exact h2

/-- What is kept of the start when an operation y is drawn ahead. -/
def Ahd (y : I) (s : S) : Prop := isPure y.a = true ∨ (Bd s ∧ (isLoadT y.a = true ∨ isScT y.a = true → ∀ t ∈ y.a.rd, Low s.nx (s.e t)))

theorem quiet_of_pure {a : A} (h : isPure a = true) : isQuiet a = true := by cases a <;> simp_all [isPure, isQuiet]
theorem quiet_of_loadT {a : A} (h : isLoadT a = true) : isQuiet a = true := by cases a <;> simp_all [isLoadT, isQuiet]

theorem quiet_of_scT {a : A} (h : isScT a = true) : isQuiet a = true := by cases a <;> simp_all [isScT, isQuiet]
theorem res_scT {ca : V → List V → S → Option (V × S)} {i : I} {s s' s1 : S} {v : V} (hp : isScT i.a = true) (hg : ∀ b B, b < s.nx → s'.H b = some B → ∃ B0, s.H b = some B0 ∧ B0.k = B.k) (hl : ∀ t ∈ i.a.rd, Low s.nx (s.e t)) (he : s'.e = s.e) (h : res ca i s' = some (v, s1)) : s1 = s' ∧ res ca i s = some (v, s) := by
  unfold res at h ⊢
  rw [he] at h
  split at h
  · rename_i hg'; exact opA_scT hp hg hl he h
  · obtain ⟨rfl, rfl⟩ := Prod.mk.inj (Option.some.inj h); exact ⟨rfl, rfl⟩
  · cases h
theorem res_app {ca : V → List V → S → Option (V × S)} {i : I} {s s1 : S} {v : V} (hp : isApp i.a = true) (hb : Bd s) (h : res ca i s = some (v, s1)) : Bd s1 ∧ s.nx ≤ s1.nx ∧ ∀ b B, b < s.nx → s1.H b = some B → ∃ B0, s.H b = some B0 ∧ B0.k = B.k := by
  unfold res at h
  split at h
  · exact opA_app hp hb h
  · obtain ⟨rfl, rfl⟩ := Prod.mk.inj (Option.some.inj h); exact ⟨hb, Nat.le_refl _, fun b B _ hB => ⟨B, hB, rfl⟩⟩
  · cases h
theorem put_put (s : S) {d d' : Option Nat} {v u : V} (h : ∀ x, d = some x → d' ≠ some x) (s1 s2 : S) (h1 : s1 = s.wi (putE s.e d v)) (h2 : s2 = s.wi (putE s.e d' u)) : s2.put d v = s1.put d' u := by
  subst h1 h2
  rw [put_wi, put_wi]
  show s.wi _ = s.wi _
  rw [show (s.wi (putE s.e d v)).e = putE s.e d v from rfl, show (s.wi (putE s.e d' u)).e = putE s.e d' u from rfl, putE_comm h]

theorem swap {Γ : Env} {exk : C → S → Option R} {x y : I} (hap : apartI Γ.md x y = true) {s s1 s2 : S} {v u : V} (ha : Ahd y s) (hx : res (callV Γ exk) x s = some (v, s1)) (hy : res (callV Γ exk) y (s1.put x.d v) = some (u, s2)) :
    ∃ s1' s2', res (callV Γ exk) y s = some (u, s1') ∧ res (callV Γ exk) x (s1'.put y.d u) = some (v, s2') ∧ s2'.put x.d v = s2.put y.d u := by
  have hca := callV_wi Γ exk
  obtain ⟨a1, a2, a3, a4⟩ := apartI_spec hap
  have ex : s1.e = s.e := res_same hca hx
  have caseX : isQuiet x.a = true → (∀ sy, res (callV Γ exk) y s = some (u, sy) → isPure x.a = true ∨ Sub s.H sy.H) →
      ∃ s1' s2', res (callV Γ exk) y s = some (u, s1') ∧ res (callV Γ exk) x (s1'.put y.d u) = some (v, s2') ∧ s2'.put x.d v = s2.put y.d u := by
    intro hq hsub
    obtain ⟨rfl, hq2⟩ := res_quiet hq hx
    rw [put_wi, res_wi hca (fun t ht => putE_off fun hh => a1 t hh ht)] at hy
    obtain ⟨⟨u', sy⟩, hsy, hh⟩ := Option.map_eq_some_iff.1 hy
    obtain ⟨rfl, rfl⟩ := Prod.mk.inj hh
    have es : sy.e = s1.e := res_same hca hsy
    have hxs : res (callV Γ exk) x sy = some (v, sy) := by
      rcases hsub sy hsy with hp | hs
      · exact (res_pure hp hx).2 sy es
      · exact hq2 sy es hs
    refine ⟨sy, sy.wi (putE sy.e y.d u'), hsy, ?_, ?_⟩
    · rw [put_wi, res_wi hca (fun t ht => by rw [putE_off fun hh => a3 t hh ht]), hxs]; rfl
    · exact put_put sy a2 _ _ (by rw [es]) rfl
  have caseY : isQuiet y.a = true → (∀ sy, res (callV Γ exk) y s1 = some (u, sy) → res (callV Γ exk) y s = some (u, s)) →
      ∃ s1' s2', res (callV Γ exk) y s = some (u, s1') ∧ res (callV Γ exk) x (s1'.put y.d u) = some (v, s2') ∧ s2'.put x.d v = s2.put y.d u := by
    intro hq hback
    obtain ⟨rfl, _⟩ := res_quiet hq hy
    rw [put_wi, res_wi hca (fun t ht => putE_off fun hh => a1 t hh ht)] at hy
    obtain ⟨⟨u', sy⟩, hsy, hh⟩ := Option.map_eq_some_iff.1 hy
    obtain ⟨rfl, _⟩ := Prod.mk.inj hh
    refine ⟨s, s1.wi (putE s.e y.d u'), hback sy hsy, ?_, ?_⟩
    · rw [put_wi, res_wi hca (fun t ht => putE_off fun hh => a3 t hh ht), hx]; rfl
    · exact put_put s1 a2 _ _ (by rw [put_wi]) (by rw [ex])
  unfold apartA at a4
  simp only [Bool.or_eq_true, Bool.and_eq_true] at a4
  rcases a4 with (((hp | hp) | ⟨hq, hq2 | hm⟩) | ⟨hm, hl⟩) | ⟨hm, hsc⟩
  · exact caseX (quiet_of_pure hp) fun _ _ => .inl hp
  · exact caseY (quiet_of_pure hp) fun sy hsy => (res_pure hp hsy).2 s ex.symm
  · exact caseX hq fun sy hsy => .inr (by obtain ⟨rfl, _⟩ := res_quiet hq2 hsy; exact Sub.refl _)
  · rcases ha with hp | ⟨hb, _⟩
    · exact caseY (quiet_of_pure hp) fun sy hsy => (res_pure hp hsy).2 s ex.symm
    · exact caseX hq fun sy hsy => .inr (res_make hm hb hsy).sub
  · rcases ha with hp | ⟨hb, hlow⟩
    · exact caseY (quiet_of_pure hp) fun sy hsy => (res_pure hp hsy).2 s ex.symm
    · exact caseY (quiet_of_loadT hl) fun sy hsy => (res_loadT hl (res_make hm hb hx) (hlow (.inl hl)) ex hsy).2
  · rcases ha with hp | ⟨hb, hlow⟩
    · exact caseY (quiet_of_pure hp) fun sy hsy => (res_pure hp hsy).2 s ex.symm
    · exact caseY (quiet_of_scT hsc) fun sy hsy => (res_scT hsc (res_app hm hb hx).2.2 (hlow (.inr hsc)) ex hsy).2

theorem Ahd.step {Γ : Env} {exk : C → S → Option R} {x y : I} (hap : apartI Γ.md x y = true) {s s1 : S} {v : V} (ha : Ahd y s) (hx : res (callV Γ exk) x s = some (v, s1)) : Ahd y (s1.put x.d v) := by
  rcases ha with hp | ⟨hb, hlow⟩
  · exact .inl hp
  obtain ⟨a1, a2, a3, a4⟩ := apartI_spec hap
  have ex : s1.e = s.e := res_same (callV_wi Γ exk) hx
  have fin : Bd s1 → s.nx ≤ s1.nx → Ahd y (s1.put x.d v) := by
    intro h1 h2
    rw [put_wi]
    refine .inr ⟨h1, fun hl t ht => ?_⟩
    show Low s1.nx (putE s1.e x.d v t)
    rw [putE_off fun hh => a1 t hh (List.mem_append_right _ ht), ex]
    exact Low.mono h2 (hlow hl t ht)
  have q : isQuiet x.a = true → Ahd y (s1.put x.d v) := fun hq => by
    obtain ⟨rfl, _⟩ := res_quiet hq hx
    exact fin hb (Nat.le_refl _)
  unfold apartA at a4
  simp only [Bool.or_eq_true, Bool.and_eq_true] at a4
  rcases a4 with (((hp | hp) | ⟨hq, _⟩) | ⟨hm, _⟩) | ⟨hm, _⟩
  · exact q (quiet_of_pure hp)
  · exact .inl hp
  · exact q hq
  · have g := res_make hm hb hx
    exact fin g.bd g.nx
  · have g := res_app hm hb hx
    exact fin g.1 g.2.1

/-- An operation that is apart from all that stand before it may come first. -/
theorem pull {Γ : Env} {exk : C → S → Option R} {y : I} {post : List I} : ∀ (pre : List I) (s s' : S), (∀ x ∈ pre, apartI Γ.md x y = true) → Ahd y s → runI (callV Γ exk) (pre ++ y :: post) s = some s' →
    ∃ u s1, res (callV Γ exk) y s = some (u, s1) ∧ runI (callV Γ exk) (pre ++ post) (s1.put y.d u) = some s'
  | [], s, s', _, _, h => by
    rw [List.nil_append, runI_res] at h
    split at h
    · rename_i v s1 h1; exact ⟨v, s1, h1, h⟩
    · cases h
  | x :: pre, s, s', hap, ha, h => by
    rw [List.cons_append, runI_res] at h
    split at h
    case h_2 => cases h
    rename_i v sx hx
    have hxy := hap x (by simp)
    obtain ⟨u, s2, hy, hr⟩ := pull pre _ s' (fun z hz => hap z (by simp [hz])) (ha.step hxy hx) h
    obtain ⟨s1', s2', g1, g2, g3⟩ := swap hxy ha hx hy
    refine ⟨u, s1', g1, ?_⟩
    rw [List.cons_append, runI_res, g2]
    simp only
    rw [g3]; exact hr


theorem mapM_get {α β : Type} {f : α → Option β} : ∀ {l : List α} {r : List β}, l.mapM f = some r → r.length = l.length ∧ ∀ (j : Nat) (x : α), l[j]? = some x → ∃ y, r[j]? = some y ∧ f x = some y
  | [], r, h => by simp at h; subst h; exact ⟨rfl, fun j x hx => by simp at hx⟩
  | x :: l, r, h => by
    simp only [List.mapM_cons, Option.bind_eq_bind, Option.pure_def] at h
    obtain ⟨y, hy, h⟩ := Option.bind_eq_some_iff.1 h
    obtain ⟨ys, hys, h⟩ := Option.bind_eq_some_iff.1 h
    obtain rfl := Option.some.inj h
    obtain ⟨h1, h2⟩ := mapM_get hys
    refine ⟨by simp [h1], fun j z hz => ?_⟩
    cases j with
    | zero => simp at hz; subst hz; exact ⟨y, rfl, hy⟩
    | succ j => exact h2 j z (by simpa using hz)

theorem low_of_rep {φ : Phi} {H : Nat → Option Blk} {nx : Nat} (q : WR φ St Mine w H nx) {v : V} {m : Value} (r : Rep φ St w v m) : Low nx v := by
  have lt : ∀ b x, φ b = some x → b < nx := fun b x hx => by
    rcases Nat.lt_or_ge b nx with h | h
    · exact h
    · rw [q.dom b h] at hx; cases hx
  cases v <;> simp only [Low]
  case hs b off n c =>
    simp only [Rep] at r
    obtain ⟨a, c', _, h1, _, h3 | ⟨β, o, k, hp, _⟩⟩ := r
    · left; omega
    · exact .inr (lt _ _ hp)
  case hp b i => simp only [Rep] at r; obtain ⟨β, o, k, hp, _⟩ := r; exact lt _ _ hp
  case hf b i j => simp only [Rep] at r; obtain ⟨β, o, k, hp, _⟩ := r; exact lt _ _ hp

theorem effB_spec {md : Nat → Option (List M)} {ops : Array Oper} {l : List I} (h : effB md ops l = true) : ∃ b : Nat → Nat → Bool, ∀ j o, ops[j]? = some o →
    (∀ e ∈ o.after, Region.binds .any e = true → e.on < j) ∧ (∀ i, b j i = true → ∃ e ∈ o.after, Region.binds .any e = true ∧ (e.on = i ∨ b e.on i = true)) ∧
    (∀ i, i < j → b j i = false → ∃ x y, l[i]? = some x ∧ l[j]? = some y ∧ apartI md x y = true) := by
  unfold effB at h
  simp only at h
  generalize befL ops.toList = b at h
  refine ⟨fun j i => (b.getD j []).contains i, fun j o ho => ?_⟩
  rw [List.all_eq_true] at h
  have hm : (o, j) ∈ ops.toList.zipIdx := by
    rw [List.mk_mem_zipIdx_iff_getElem?]
    simpa using ho
  have h1 := h _ hm
  simp only [Bool.and_eq_true] at h1
  obtain ⟨⟨h1, h2⟩, h3⟩ := h1
  refine ⟨fun e he hb => ?_, fun i hi => ?_, fun i hij hi => ?_⟩
  · have := List.all_eq_true.1 h1 e (by simpa using he)
    simpa [hb] using this
  · have := List.all_eq_true.1 h2 i (by simpa using hi)
    obtain ⟨e, he, hh⟩ := List.any_eq_true.1 this
    simp only [Bool.and_eq_true, Bool.or_eq_true, beq_iff_eq] at hh
    exact ⟨e, by simpa using he, hh.1, hh.2⟩
  · have := List.all_eq_true.1 h3 i (by simpa using hij)
    simp only [Bool.or_eq_true] at this
    simp only at hi
    rw [hi] at this
    rcases this with this | this
    · cases this
    · cases hx : l[i]? with
      | none => rw [hx] at this; cases this
      | some x =>
        cases hy : l[j]? with
        | none => rw [hx, hy] at this; cases this
        | some y => rw [hx, hy] at this; exact ⟨x, y, rfl, rfl, this⟩

theorem At.ahd {φ0 φ : Phi} {St0 : Nat → Prop} {w0 : World} {s0 s : S} {a0 a : Act} (h : At φ0 φ St0 St Mine w0 w s0 s a0 a) (y : I) : Ahd y s :=
  .inr ⟨fun b hb => h.g.wr.bnd b hb, fun _ t _ => low_of_rep h.g.wr (h.env t)⟩

theorem draw_sound {Γ : Env} (hΓ : EnvOK P Γ) {k : Nat} (hk : ExOK P Γ k) {ops : Array Oper} {is : List I} (hc : ops.toList.mapM (compI P ops) = some is) (he : effB Γ.md ops is = true)
    {φ0 : Phi} {St0 : Nat → Prop} {w0 : World} {s0 : S} {a0 : Act} {s' : S} (hd : ∀ i ∈ is, ∀ d, i.d = some d → d < a0.tmps.size) :
    ∀ (n : Nat) (listed : Array Bool) (U : List Nat) (s : S) (φ : Phi) (St : Nat → Prop) (w : World) (a : Act), listed.size = ops.size → (∀ j, j ∈ U ↔ j < ops.size ∧ listed.getD j true = false) → U.Pairwise (· < ·) → U.length ≤ n →
      (∀ j i (b : Nat → Nat → Bool), (∀ j o, ops[j]? = some o → (∀ i, b j i = true → ∃ e ∈ o.after, Region.binds .any e = true ∧ (e.on = i ∨ b e.on i = true))) → j < ops.size → listed.getD j true = true → b j i = true → i < ops.size → listed.getD i true = true) →
      runI (callV Γ (ex Γ k)) (U.filterMap (is[·]?)) s = some s' → At φ0 φ St0 St Mine w0 w s0 s a0 a → wpAny P .any ops (Post φ0 St0 Mine w0 s0 a0 (.n s')) n listed a w := by
  obtain ⟨hlen, hget⟩ := mapM_get hc
  obtain ⟨b, hb⟩ := effB_spec he
  have hbs : ∀ j o, ops[j]? = some o → (∀ i, b j i = true → ∃ e ∈ o.after, Region.binds .any e = true ∧ (e.on = i ∨ b e.on i = true)) := fun j o ho => (hb j o ho).2.1
  have listedT : ∀ {listed : Array Bool} {j : Nat}, listed.size = ops.size → listed.getD j false = true → listed.getD j true = true := by
    intro listed j hsz h
    cases hx : listed[j]? with
    | none => simp [hx] at h
    | some x => simpa [hx] using h
  have listedF : ∀ {listed : Array Bool} {j : Nat}, listed.size = ops.size → j < ops.size → listed.getD j true = true → listed.getD j false = true := by
    intro listed j hsz hj h
    cases hx : listed[j]? with
    | none => rw [Array.getElem?_eq_none_iff] at hx; omega
    | some x => simpa [hx] using h
  intro n
  induction n with
  | zero =>
    intro listed U s φ St w a hsz hU hp hl hdn hr hat
    obtain rfl : U = [] := List.length_eq_zero_iff.1 (by omega)
    simp only [List.filterMap_nil, runI, Option.some.injEq] at hr
    subst hr
    refine ⟨?_, hat.post⟩
    rw [List.eq_nil_iff_forall_not_mem]
    intro j hj
    obtain ⟨h0, o, ho, _⟩ := mem_ready.1 hj
    have := (hU j).2 ⟨(Array.getElem?_eq_some_iff.1 ho).1, h0⟩
    simp at this
  | succ n ih =>
    intro listed U s φ St w a hsz hU hp hl hdn hr hat
    refine ⟨fun hnil => ?_, fun i hi => ?_⟩
    · cases U with
      | nil =>
        simp only [List.filterMap_nil, runI, Option.some.injEq] at hr
        subst hr
        exact hat.post
      | cons j U =>
        exfalso
        obtain ⟨hj, hj0⟩ := (hU j).1 (by simp)
        have ho : ops[j]? = some ops[j] := Array.getElem?_eq_getElem hj
        have : j ∈ Region.ready .any ops listed := mem_ready.2 ⟨hj0, _, ho, fun e he hbd => by
          have hlt := (hb j _ ho).1 e he hbd
          refine listedF hsz (by omega) ?_
          cases hx : listed.getD e.on true with
          | true => rfl
          | false =>
            have := (hU e.on).2 ⟨by omega, hx⟩
            rcases List.mem_cons.1 this with h | h
            · omega
            · have := (List.pairwise_cons.1 hp).1 _ h; omega⟩
        rw [hnil] at this; cases this
    · obtain ⟨h0, o, ho, hall⟩ := mem_ready.1 hi
      have hiN : i < ops.size := (Array.getElem?_eq_some_iff.1 ho).1
      obtain ⟨pre, post, rfl⟩ := List.append_of_mem ((hU i).2 ⟨hiN, h0⟩)
      obtain ⟨y, hy, hcy⟩ := hget i o (by simpa using ho)
      have hmem : y ∈ is := List.mem_of_getElem? hy
      rw [List.filterMap_append, List.filterMap_cons, hy] at hr
      simp only at hr
      have hpre : ∀ p ∈ pre, p < i := fun p hp' => (List.pairwise_append.1 hp).2.2 p hp' i (by simp)
      have hap : ∀ x ∈ pre.filterMap (is[·]?), apartI Γ.md x y = true := by
        intro x hx
        obtain ⟨p, hp', hxp⟩ := List.mem_filterMap.1 hx
        obtain ⟨hpN, hpl⟩ := (hU p).1 (by simp [hp'])
        have hbf : b i p = false := by
          cases hbt : b i p with
          | false => rfl
          | true =>
            exfalso
            obtain ⟨e, he1, he2, he3⟩ := hbs i o ho p hbt
            have hel := hall e he1 he2
            have heN : e.on < ops.size := by have := (hb i o ho).1 e he1 he2; omega
            rcases he3 with rfl | he3
            · rw [listedT hsz hel] at hpl; cases hpl
            · rw [hdn e.on p b hbs heN (listedT hsz hel) he3 hpN] at hpl; cases hpl
        obtain ⟨x', y', hx', hy', hap⟩ := (hb i o ho).2.2 p (hpre p hp') hbf
        rw [hxp] at hx'; obtain rfl := Option.some.inj hx'
        rw [hy] at hy'; obtain rfl := Option.some.inj hy'
        exact hap
      obtain ⟨u, s1, hres, hr'⟩ := pull _ s s' hap (hat.ahd y) hr
      unfold wpOp
      rw [ho]
      simp only
      have hstep := hat.step (Q := Post φ0 St0 Mine w0 s0 a0 (.n s')) (K := wpAny P .any ops (Post φ0 St0 Mine w0 s0 a0 (.n s')) n (listed.setIfInBounds i true)) hΓ hk hcy (hd y hmem) (s1 := s1.put y.d u) (by
        unfold res at hres
        split at hres
        · exact .inl ⟨‹_›, u, s1, hres, rfl⟩
        · obtain ⟨rfl, rfl⟩ := Prod.mk.inj (Option.some.inj hres)
          exact .inr ⟨‹_›, rfl⟩
        · cases hres) (fun φ' St' w' a' hat' => by
        refine ih _ (pre ++ post) _ φ' St' w' a' (by simp [hsz]) (fun j => ?_) ?_ ?_ ?_ (by rw [List.filterMap_append]; exact hr') hat'
        · by_cases hji : j = i
          · subst hji
            have h1 : j ∉ pre ++ post := by
              intro hm
              rcases List.mem_append.1 hm with hm | hm
              · exact absurd (hpre j hm) (by omega)
              · have := (List.pairwise_cons.1 (List.pairwise_append.1 hp).2.1).1 j hm; omega
            have h2 : (listed.setIfInBounds j true).getD j true = true := by simp
            simp only [h1, h2, false_iff, not_and, Bool.true_eq_false, not_false_eq_true, implies_true]
          · rw [getD_set_ne true (Ne.symm hji)]
            rw [← hU j]
            simp [hji]
        · have := hp.sublist (l₁ := pre ++ post) (List.Sublist.append (List.Sublist.refl _) (List.sublist_cons_self _ _))
          exact this
        · simp only [List.length_append, List.length_cons] at hl ⊢; omega
        · intro j p bb hbb hj hjl hbj hpN
          by_cases hji : j = i
          · subst hji
            obtain ⟨e, he1, he2, he3⟩ := hbb j o ho p hbj
            have hel := hall e he1 he2
            have heN : e.on < ops.size := by have := (hb j o ho).1 e he1 he2; omega
            refine listedT (by simp [hsz]) (getD_set_true (listedF hsz hpN ?_))
            rcases he3 with rfl | he3
            · exact listedT hsz hel
            · exact hdn e.on p bb hbb heN (listedT hsz hel) he3 hpN
          · rw [getD_set_ne true (Ne.symm hji)] at hjl
            exact listedT (by simp [hsz]) (getD_set_true (listedF hsz hpN (hdn j p bb hbb hj hjl hbj hpN))))
      split
      · rename_i hw; rw [if_pos hw] at hstep; exact .inl hstep
      · rename_i hw; rw [if_neg hw] at hstep; exact hstep

end Go.Am
