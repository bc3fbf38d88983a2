/- The B-machine, part 3: states that stand to one another, and what keeps it. -/
import Derived.Test.YthpaolkonlhjfaaAm23
set_option linter.all false
namespace Go.Am

abbrev Omg := Nat → Option (Nat × Nat)

/-- An element of a block; its packed blocks belong to this place. -/
def Elt (β : Bet) (ω : Omg) (H : Nat → Option Blk) (b i : Nat) (v a : V) : Prop := v = V.dd ∨ ∃ L, Lk β H v a L ∧ L.Nodup ∧ ∀ y ∈ L, ω y = some (b, i) ∧ ∀ b2, β b2 ≠ some y

/-- A state of B, a state of A. 'ep': places of which nothing is said. -/
structure Sim (β : Bet) (ω : Omg) (ep : Nat → Nat → Prop) (sB sA : S) : Prop where
  fzB : sB.fz = false
  fzA : sA.fz = false
  nofr : ∀ x A, sA.H x = some A → A.fr = false
  inj : ∀ b b2 x, β b = some x → β b2 = some x → b = b2
  dom : ∀ b, sB.nx ≤ b → β b = none
  rng : ∀ b x, β b = some x → x < sA.nx
  bdA : Bd sA
  bdB : Bd sB
  env : ∀ t, isUn (sB.e t) = true ∨ Lk β sA.H (sB.e t) (sA.e t) []
  blk : ∀ b B, sB.H b = some B → B.fr = false ∧ ∃ x A, β b = some x ∧ sA.H x = some A ∧ A.k = B.k ∧ A.es.length = B.es.length ∧ ∀ i v a, ¬ ep b i → B.es[i]? = some v → A.es[i]? = some a → Elt β ω sA.H b i v a

def no2 : Nat → Nat → Prop := fun _ _ => False

theorem Elt.nil {β : Bet} {ω : Omg} {H H' : Nat → Option Blk} {b i : Nat} {v a : V} (h : Lk β H v a []) : Elt β ω H' b i v a := .inr ⟨[], Lk.nil (fun _ _ h => h) h, List.nodup_nil, by simp⟩

theorem Elt.frame {β β' : Bet} {ω ω' : Omg} {H H' : Nat → Option Blk} {b i b' i' : Nat} {v a : V} (h : Elt β ω H b i v a) (hβ : ∀ b x, β b = some x → β' b = some x)
    (hH : ∀ y, H y ≠ none → ω y = some (b, i) → (∀ b2, β b2 ≠ some y) → H' y = H y ∧ ω' y = some (b', i') ∧ ∀ b2, β' b2 ≠ some y) : Elt β' ω' H' b' i' v a := by
  rcases h with h | ⟨L, h1, h2, h3⟩
  · exact .inl h
  right
  have hall : ∀ y ∈ L, H' y = H y ∧ ω' y = some (b', i') ∧ ∀ b2, β' b2 ≠ some y := fun y hy => hH y (Lk.there v a L h1 y hy) (h3 y hy).1 (h3 y hy).2
  exact ⟨L, Lk.frame hβ v a L h1 fun x hx => (hall x hx).1, h2, fun y hy => (hall y hy).2⟩

/-- The variables may change. -/
theorem Sim.wi {β : Bet} {ω : Omg} {ep : Nat → Nat → Prop} {sB sA : S} (q : Sim β ω ep sB sA) {eB eA : Nat → V} (h : ∀ t, isUn (eB t) = true ∨ Lk β sA.H (eB t) (eA t) []) : Sim β ω ep (sB.wi eB) (sA.wi eA) :=
  ⟨q.fzB, q.fzA, q.nofr, q.inj, q.dom, q.rng, q.bdA, q.bdB, h, q.blk⟩

theorem Sim.put {β : Bet} {ω : Omg} {ep : Nat → Nat → Prop} {sB sA : S} (q : Sim β ω ep sB sA) {d : Option Nat} {v a : V} (h : isUn v = true ∨ Lk β sA.H v a []) : Sim β ω ep (sB.put d v) (sA.put d a) := by
  rw [put_wi, put_wi]
  refine q.wi fun t => ?_
  cases d with
  | none => exact q.env t
  | some d =>
    simp only [putE, upd]
    split
    · exact h
    · exact q.env t

theorem Sim.lt {β : Bet} {ω : Omg} {ep : Nat → Nat → Prop} {sB sA : S} (q : Sim β ω ep sB sA) {b x : Nat} (h : β b = some x) : b < sB.nx := by
  rcases Nat.lt_or_ge b sB.nx with h' | h'
  · exact h'
  · rw [q.dom b h'] at h; cases h

theorem Sim.there {β : Bet} {ω : Omg} {ep : Nat → Nat → Prop} {sB sA : S} (q : Sim β ω ep sB sA) {y : Nat} (h : sA.H y ≠ none) : y < sA.nx := by
  rcases Nat.lt_or_ge y sA.nx with h' | h'
  · exact h'
  · exact absurd (q.bdA y h') h

theorem upd_beta {β : Bet} {b x : Nat} (h : β b = none) : ∀ b2 y, β b2 = some y → upd β b (some x) b2 = some y := by
  intro b2 y hy
  rw [upd_ne]
  · exact hy
  · rintro rfl; rw [h] at hy; cases hy

/-- A new block on either side. 'ω' may give the new place what no other place has. -/
theorem Sim.new {β : Bet} {ω ω' : Omg} {ep : Nat → Nat → Prop} {sB sA : S} (q : Sim β ω ep sB sA) {k : Nat} {es as : List V} (hl : as.length = es.length)
    (he : ∀ i v a, es[i]? = some v → as[i]? = some a → Elt β ω' sA.H sB.nx i v a) (hω : ∀ y p, ω y = some p → (∀ b2, β b2 ≠ some y) → sA.H y ≠ none → sB.H p.1 ≠ none → ¬ ep p.1 p.2 → ω' y = some p) :
    Sim (upd β sB.nx (some sA.nx)) ω' ep (sB.new k es) (sA.new k as) := by
  have hd := q.dom sB.nx (Nat.le_refl _)
  have hβ := upd_beta (x := sA.nx) hd
  have hn : ∀ y, y < sA.nx → (∀ b2, β b2 ≠ some y) → ∀ b2, upd β sB.nx (some sA.nx) b2 ≠ some y := by
    intro y hy h b2 hh
    by_cases e : b2 = sB.nx
    · subst e; rw [upd_same] at hh; cases hh; omega
    · rw [upd_ne _ _ e] at hh; exact h b2 hh
  refine ⟨q.fzB, q.fzA, fun x A hA => ?_, fun b b2 x h1 h2 => ?_, fun b hb => ?_, fun b x hx => ?_, fun x hx => ?_, fun b hb => ?_, fun t => ?_, fun b B hB => ?_⟩
  · simp only [S.new] at hA
    by_cases e : x = sA.nx
    · subst e; rw [upd_same] at hA; obtain rfl := Option.some.inj hA; rfl
    · rw [upd_ne _ _ e] at hA; exact q.nofr x A hA
  · by_cases e1 : b = sB.nx <;> by_cases e2 : b2 = sB.nx
    · rw [e1, e2]
    · subst e1; rw [upd_same] at h1; obtain rfl := Option.some.inj h1
      rw [upd_ne _ _ e2] at h2
      have := q.rng b2 _ h2; omega
    · subst e2; rw [upd_same] at h2; obtain rfl := Option.some.inj h2
      rw [upd_ne _ _ e1] at h1
      have := q.rng b _ h1; omega
    · rw [upd_ne _ _ e1] at h1; rw [upd_ne _ _ e2] at h2; exact q.inj b b2 x h1 h2
  · simp only [S.new] at hb
    rw [upd_ne _ _ (by omega)]; exact q.dom b (by omega)
  · show x < sA.nx + 1
    by_cases e : b = sB.nx
    · subst e; rw [upd_same] at hx; obtain rfl := Option.some.inj hx; omega
    · rw [upd_ne _ _ e] at hx; have := q.rng b x hx; omega
  · simp only [S.new] at hx ⊢; rw [upd_ne _ _ (by omega)]; exact q.bdA x (by omega)
  · simp only [S.new] at hb ⊢; rw [upd_ne _ _ (by omega)]; exact q.bdB b (by omega)
  · rcases q.env t with h | h
    · exact .inl h
    · exact .inr (Lk.nil hβ h)
  · simp only [S.new] at hB ⊢
    by_cases e : b = sB.nx
    · subst e
      rw [upd_same] at hB
      obtain rfl := Option.some.inj hB
      refine ⟨rfl, sA.nx, { k, es := as }, upd_same _ _ _, upd_same _ _ _, rfl, hl, fun i v a _ hv ha => ?_⟩
      refine (he i v a hv ha).frame hβ fun y hy h1 h2 => ⟨?_, h1, hn y (q.there hy) h2⟩
      rw [upd_ne]; have := q.there hy; omega
    · rw [upd_ne _ _ e] at hB
      obtain ⟨h0, x, A, h1, h2, h3, h4, h5⟩ := q.blk b B hB
      refine ⟨h0, x, A, hβ _ _ h1, ?_, h3, h4, fun i v a hep hv ha => ?_⟩
      · rw [upd_ne]; · exact h2
        have := q.rng b x h1; omega
      · refine (h5 i v a hep hv ha).frame hβ fun y hy h6 h7 => ⟨?_, hω y _ h6 h7 hy (by rw [hB]; simp) hep, hn y (q.there hy) h7⟩
        rw [upd_ne]; have := q.there hy; omega

/-- A block on either side gets other elements. -/
theorem Sim.set {β : Bet} {ω ω' : Omg} {ep ep' : Nat → Nat → Prop} {sB sA : S} (q : Sim β ω ep sB sA) {b x : Nat} {B A : Blk} (hB : sB.H b = some B) (hx : β b = some x) (hA : sA.H x = some A) {es as : List V} (hl : as.length = es.length)
    (he : ∀ i v a, ¬ ep' b i → es[i]? = some v → as[i]? = some a → Elt β ω' sA.H b i v a) (hω : ∀ y p, ω y = some p → p.1 ≠ b → ¬ ep p.1 p.2 → ω' y = some p) (hep : ∀ b2 i, b2 ≠ b → ¬ ep' b2 i → ¬ ep b2 i) :
    Sim β ω' ep' { sB with H := upd sB.H b (some { B with es := es }) } { sA with H := upd sA.H x (some { A with es := as }) } := by
  have keep : ∀ y, (∀ b2, β b2 ≠ some y) → upd sA.H x (some { A with es := as }) y = sA.H y := fun y h => by
    rw [upd_ne]; rintro rfl; exact h b hx
  refine ⟨q.fzB, q.fzA, fun y A' hA' => ?_, q.inj, q.dom, q.rng, fun y hy => ?_, fun b2 hb => ?_, fun t => ?_, fun b2 B2 hB2 => ?_⟩
  · by_cases e : y = x
    · subst e; simp only [upd_same, Option.some.injEq] at hA'; subst hA'; exact q.nofr y A hA
    · simp only [upd_ne _ _ e] at hA'; exact q.nofr y A' hA'
  · show upd sA.H x _ y = none
    rw [upd_ne]; · exact q.bdA y hy
    rintro rfl; have := q.rng b y hx; exact absurd hy (by simp only; omega)
  · show upd sB.H b _ b2 = none
    rw [upd_ne]; · exact q.bdB b2 hb
    rintro rfl; have := q.lt hx; exact absurd hb (by simp only; omega)
  · rcases q.env t with h | h
    · exact .inl h
    · exact .inr (Lk.nil (fun _ _ h => h) h)
  · by_cases e : b2 = b
    · subst e
      simp only [upd_same, Option.some.injEq] at hB2
      subst hB2
      obtain ⟨h0, x', A', h1, h2, h3, h4, h5⟩ := q.blk b2 B hB
      rw [hx] at h1; obtain rfl := Option.some.inj h1
      rw [hA] at h2; obtain rfl := Option.some.inj h2
      refine ⟨h0, x, { A with es := as }, hx, upd_same _ _ _, h3, hl, fun i v a hi hv ha => ?_⟩
      exact (he i v a hi hv ha).frame (fun _ _ h => h) fun y hy h6 h7 => ⟨keep y h7, h6, h7⟩
    · simp only [upd_ne _ _ e] at hB2
      obtain ⟨h0, x', A', h1, h2, h3, h4, h5⟩ := q.blk b2 B2 hB2
      refine ⟨h0, x', A', h1, ?_, h3, h4, fun i v a hi hv ha => ?_⟩
      · show upd sA.H x _ x' = _
        rw [upd_ne]; · exact h2
        rintro rfl; exact e (q.inj _ _ _ h1 hx)
      · exact (h5 i v a (hep b2 i e hi) hv ha).frame (fun _ _ h => h) fun y hy h6 h7 => ⟨keep y h7, hω y _ h6 e (hep b2 i e hi), h7⟩

/-- Blocks go, on either side. -/
theorem Sim.kill {β : Bet} {ω : Omg} {ep : Nat → Nat → Prop} {sB sA : S} (q : Sim β ω ep sB sA) {os xs : List Nat} (h : ∀ x ∈ xs, ∃ b ∈ os, β b = some x ∨ ((∀ b2, β b2 ≠ some x) ∧ ∃ i, ω x = some (b, i))) :
    Sim β ω ep (sB.mem (kill sB.H os)) (sA.mem (kill sA.H xs)) := by
  have keep : ∀ y b i, ω y = some (b, i) → (∀ b2, β b2 ≠ some y) → b ∉ os → Am.kill sA.H xs y = sA.H y := fun y b i h1 h2 h3 => by
    unfold Am.kill
    rw [if_neg]
    intro hy
    obtain ⟨b', hb', h4 | ⟨_, j, h4⟩⟩ := h y hy
    · exact h2 _ h4
    · rw [h1] at h4; cases h4; exact h3 hb'
  refine ⟨q.fzB, q.fzA, fun y A hA => ?_, q.inj, q.dom, q.rng, fun y hy => ?_, fun b hb => ?_, fun t => ?_, fun b B hB => ?_⟩
  · simp only [S.mem, Am.kill] at hA
    split at hA
    · cases hA
    · exact q.nofr y A hA
  · simp only [S.mem, Am.kill]; split
    · rfl
    · exact q.bdA y hy
  · simp only [S.mem, Am.kill]; split
    · rfl
    · exact q.bdB b hb
  · rcases q.env t with h | h
    · exact .inl h
    · exact .inr (Lk.nil (fun _ _ h => h) h)
  · simp only [S.mem, Am.kill] at hB ⊢
    split at hB
    · cases hB
    · rename_i hbo
      obtain ⟨h0, x, A, h1, h2, h3, h4, h5⟩ := q.blk b B hB
      refine ⟨h0, x, A, h1, ?_, h3, h4, fun i v a hi hv ha => ?_⟩
      · rw [if_neg]; · exact h2
        intro hx
        obtain ⟨b', hb', h6 | ⟨h6, _⟩⟩ := h x hx
        · rw [q.inj _ _ _ h1 h6] at hbo; exact hbo hb'
        · exact h6 b h1
      · exact (h5 i v a hi hv ha).frame (fun _ _ h => h) fun y hy h6 h7 => ⟨keep y b i h6 h7 hbo, h6, h7⟩

/-- Of more places nothing is said. -/
theorem Sim.less {β : Bet} {ω : Omg} {ep ep' : Nat → Nat → Prop} {sB sA : S} (q : Sim β ω ep sB sA) (h : ∀ b i, ep b i → ep' b i) : Sim β ω ep' sB sA :=
  ⟨q.fzB, q.fzA, q.nofr, q.inj, q.dom, q.rng, q.bdA, q.bdB, q.env, fun b B hB => by
    obtain ⟨h0, x, A, h1, h2, h3, h4, h5⟩ := q.blk b B hB
    exact ⟨h0, x, A, h1, h2, h3, h4, fun i v a hi => h5 i v a fun hh => hi (h b i hh)⟩⟩

end Go.Am
