/- The B-machine, part 20: a law's frame: the table of codes, the arguments' types. -/
import Derived.Test.YthpaolkonlhjfaaAm42
set_option linter.all false
namespace Go.Am

def lookL : List (Nat × FB) → Nat → Option FB
  | [], _ => none
  | (k, x) :: l, f => bif Nat.beq f k then some x else lookL l f
theorem lookL_mem : ∀ {l : List (Nat × FB)} {f : Nat} {x : FB}, lookL l f = some x → (f, x) ∈ l
  | [], _, _, h => by simp [lookL] at h
  | (k, y) :: l, f, x, h => by
    unfold lookL at h
    cases hb : Nat.beq f k with
    | true => rw [hb] at h; obtain rfl := Nat.eq_of_beq_eq_true hb; cases h; simp
    | false => rw [hb] at h; exact List.mem_cons_of_mem _ (lookL_mem h)
/-- So it is of each row of the table. -/
def AllT (P : Program) (md : Nat → Option (List M)) : List (Nat × FB) → Prop
  | [] => True
  | (k, x) :: l => (tab P md k = some x.er ∧ x.body.sok = true) ∧ AllT P md l
theorem AllT_mem {P : Program} {md : Nat → Option (List M)} : ∀ {l : List (Nat × FB)} {f : Nat} {x : FB}, AllT P md l → (f, x) ∈ l → tab P md f = some x.er ∧ x.body.sok = true
  | [], _, _, _, h => by simp at h
  | (k, y) :: l, f, x, h, hm => by
    rcases List.mem_cons.1 hm with h1 | h1
    · cases h1; exact h.1
    · exact AllT_mem h.2 h1
theorem tab_of {P : Program} {md : Nat → Option (List M)} {k : Nat} {fn : Func} {x : FB} (hf : P.funcs[k]? = some fn) (h : compF P md fn = some x.er) : tab P md k = some x.er := by rw [tab, hf]; exact h
theorem envOK_of {P : Program} {TL : List (Nat × FB)} {md : Nat → Option (List M)} {pr : Nat → Option (List V → Option (V × List V))} (h : AllT P md TL) (hp : ∀ f p ms args r us, pr f = some p → md f = some ms → p args = some (r, us) → IsoOK P f ms args r us ∧ Ent P f) (hm : P.follows .mixedOrders = true) :
    EnvOK P ⟨fun f => (lookL TL f).map FB.er, md, pr⟩ := by
  refine ⟨fun f F hF => ?_, hp, hm⟩
  obtain ⟨x, hx, rfl⟩ := Option.map_eq_some_iff.1 hF
  exact (AllT_mem h (lookL_mem hx)).1
theorem envB_of {P : Program} {TL : List (Nat × FB)} {md : Nat → Option (List M)} {pr : Nat → Option (List V → Option (V × List V))} (h : AllT P md TL) (hp : ∀ f p args r us, pr f = some p → p args = some (r, us) → PurL args → Pur r ∧ PurL us) : EnvB ⟨fun f => (lookL TL f).map FB.er, md, pr⟩ (lookL TL) :=
  ⟨fun f x hx => ⟨by show (lookL TL f).map FB.er = _; rw [hx]; rfl, (AllT_mem h (lookL_mem hx)).2⟩, hp⟩

/-! What lies in the arguments. -/
section
variable {P : Program} {d : Nat} {t : TypeId} {v : V}
theorem listMap {α : Type} {f : α → V} {Q : α → Prop} : ∀ {es : List V}, (∀ x ∈ es, ∃ y, x = f y ∧ Q y) → ∃ l : List α, es = l.map f ∧ ∀ y ∈ l, Q y
  | [], _ => ⟨[], rfl, by simp⟩
  | x :: es, h => by
    obtain ⟨y, rfl, hy⟩ := h x (by simp)
    obtain ⟨l, rfl, hl⟩ := listMap (es := es) fun z hz => h z (by simp [hz])
    exact ⟨y :: l, rfl, by simpa using ⟨hy, hl⟩⟩
/-- A type's values are the codes of a Lean type's. -/
def Dec (P : Program) (d : Nat) (t : TypeId) {α : Type} [Bnd α] (f : α → V) : Prop := ∀ v, TY P d t v → ∃ a : α, v = f a ∧ Bnd.wf a
theorem dec_b (hu : P.underlying t = some .bool) : Dec P (d + 1) t V.b := fun v h => by simp only [TY, hu] at h; obtain ⟨b, rfl⟩ := h; exact ⟨b, rfl, trivial⟩
theorem dec_i (hu : P.underlying t = some (.int .i64)) : Dec P (d + 1) t V.i := fun v h => by simp only [TY, hu] at h; obtain ⟨n, rfl, _⟩ := h; exact ⟨n, rfl, trivial⟩
theorem dec_u (hu : P.underlying t = some (.int .u8)) : Dec P (d + 1) t V.u := fun v h => by simp only [TY, hu] at h; obtain ⟨n, rfl, _⟩ := h; exact ⟨n, rfl, trivial⟩
theorem dec_s (hu : P.underlying t = some .string) : Dec P (d + 1) t V.s := fun v h => by simp only [TY, hu] at h; obtain ⟨s, rfl, hs⟩ := h; exact ⟨s, rfl, show s.size ≤ 9223372036854775807 by simpa [maxLen] using hs⟩
theorem dec_L {e : TypeId} {α : Type} [Bnd α] {f : α → V} (hu : P.underlying t = some (.slice e)) (hd : Dec P d e f) : Dec P (d + 1) t (fun l : List α => V.sl (l.map f)) := fun v h => by
  simp only [TY, hu] at h
  obtain ⟨es, rfl, hl, he⟩ := h
  obtain ⟨l, rfl, hq⟩ := listMap (Q := fun a => Bnd.wf a) fun x hx => hd x (he x hx)
  exact ⟨l, rfl, show l.length ≤ 9223372036854775807 by simpa [maxLen] using hl, hq⟩
theorem st_cells {fs : Array Field} (hu : P.underlying t = some (.struct fs)) (h : TY P (d + 1) t v) : ∃ cs, v = .st cs ∧ cs.length = fs.size ∧ ∀ (i : Nat) (f : Field), fs[i]? = some f → ∃ c, cs[i]? = some c ∧ TY P d f.type c := by simp only [TY, hu] at h; exact h
theorem dec_1 {fs : Array Field} {t0 : TypeId} {α : Type} [Bnd α] {f : α → V} (hu : P.underlying t = some (.struct fs)) (hf : fs.toList.map (·.type) = [t0]) (h0 : Dec P d t0 f) : Dec P (d + 1) t (fun a => V.st [f a]) := fun v h => by
  obtain ⟨cs, rfl, hl, hc⟩ := st_cells hu h
  obtain ⟨fs⟩ := fs
  match fs, hf, cs, hl with
  | [g], hf, [c], _ =>
    obtain rfl : g.type = t0 := by simpa using hf
    obtain ⟨c', h1, h2⟩ := hc 0 g rfl
    obtain rfl : c = c' := by simpa using h1
    obtain ⟨a, rfl, ha⟩ := h0 _ h2
    exact ⟨a, rfl, ha⟩
theorem dec_2 {fs : Array Field} {t0 t1 : TypeId} {α β : Type} [Bnd α] [Bnd β] {f : α → V} {g : β → V} (hu : P.underlying t = some (.struct fs)) (hf : fs.toList.map (·.type) = [t0, t1]) (h0 : Dec P d t0 f) (h1 : Dec P d t1 g) : Dec P (d + 1) t (fun a : α × β => V.st [f a.1, g a.2]) := fun v h => by
  obtain ⟨cs, rfl, hl, hc⟩ := st_cells hu h
  obtain ⟨fs⟩ := fs
  match fs, hf, cs, hl with
  | [g0, g1], hf, [c0, c1], _ =>
    obtain ⟨rfl, rfl⟩ : g0.type = t0 ∧ g1.type = t1 := by simpa using hf
    obtain ⟨c', e0, k0⟩ := hc 0 g0 rfl
    obtain rfl : c0 = c' := by simpa using e0
    obtain ⟨c', e1, k1⟩ := hc 1 g1 rfl
    obtain rfl : c1 = c' := by simpa using e1
    obtain ⟨a, rfl, ha⟩ := h0 _ k0
    obtain ⟨b, rfl, hb⟩ := h1 _ k1
    exact ⟨(a, b), rfl, ha, hb⟩
theorem dec_3 {fs : Array Field} {t0 t1 t2 : TypeId} {α β γ : Type} [Bnd α] [Bnd β] [Bnd γ] {f : α → V} {g : β → V} {k : γ → V} (hu : P.underlying t = some (.struct fs)) (hf : fs.toList.map (·.type) = [t0, t1, t2]) (h0 : Dec P d t0 f) (h1 : Dec P d t1 g) (h2 : Dec P d t2 k) : Dec P (d + 1) t (fun a : α × β × γ => V.st [f a.1, g a.2.1, k a.2.2]) := fun v h => by
  obtain ⟨cs, rfl, hl, hc⟩ := st_cells hu h
  obtain ⟨fs⟩ := fs
  match fs, hf, cs, hl with
  | [g0, g1, g2], hf, [c0, c1, c2], _ =>
    obtain ⟨rfl, rfl, rfl⟩ : g0.type = t0 ∧ g1.type = t1 ∧ g2.type = t2 := by simpa using hf
    obtain ⟨c', e0, k0⟩ := hc 0 g0 rfl
    obtain rfl : c0 = c' := by simpa using e0
    obtain ⟨c', e1, k1⟩ := hc 1 g1 rfl
    obtain rfl : c1 = c' := by simpa using e1
    obtain ⟨c', e2, k2⟩ := hc 2 g2 rfl
    obtain rfl : c2 = c' := by simpa using e2
    obtain ⟨a, rfl, ha⟩ := h0 _ k0
    obtain ⟨b, rfl, hb⟩ := h1 _ k1
    obtain ⟨c, rfl, hcc⟩ := h2 _ k2
    exact ⟨(a, b, c), rfl, ha, hb, hcc⟩
theorem dec_4 {fs : Array Field} {t0 t1 t2 t3 : TypeId} {α β γ δ : Type} [Bnd α] [Bnd β] [Bnd γ] [Bnd δ] {f : α → V} {g : β → V} {k : γ → V} {m : δ → V} (hu : P.underlying t = some (.struct fs)) (hf : fs.toList.map (·.type) = [t0, t1, t2, t3]) (h0 : Dec P d t0 f) (h1 : Dec P d t1 g) (h2 : Dec P d t2 k) (h3 : Dec P d t3 m) :
    Dec P (d + 1) t (fun a : α × β × γ × δ => V.st [f a.1, g a.2.1, k a.2.2.1, m a.2.2.2]) := fun v h => by
  obtain ⟨cs, rfl, hl, hc⟩ := st_cells hu h
  obtain ⟨fs⟩ := fs
  match fs, hf, cs, hl with
  | [g0, g1, g2, g3], hf, [c0, c1, c2, c3], _ =>
    obtain ⟨rfl, rfl, rfl, rfl⟩ : g0.type = t0 ∧ g1.type = t1 ∧ g2.type = t2 ∧ g3.type = t3 := by simpa using hf
    obtain ⟨c', e0, k0⟩ := hc 0 g0 rfl
    obtain rfl : c0 = c' := by simpa using e0
    obtain ⟨c', e1, k1⟩ := hc 1 g1 rfl
    obtain rfl : c1 = c' := by simpa using e1
    obtain ⟨c', e2, k2⟩ := hc 2 g2 rfl
    obtain rfl : c2 = c' := by simpa using e2
    obtain ⟨c', e3, k3⟩ := hc 3 g3 rfl
    obtain rfl : c3 = c' := by simpa using e3
    obtain ⟨a, rfl, ha⟩ := h0 _ k0
    obtain ⟨b, rfl, hb⟩ := h1 _ k1
    obtain ⟨c, rfl, hcc⟩ := h2 _ k2
    obtain ⟨e, rfl, he⟩ := h3 _ k3
    exact ⟨(a, b, c, e), rfl, ha, hb, hcc, he⟩
end
end Go.Am
