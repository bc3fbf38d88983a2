/- The B-machine, part 4: every operation but loads and calls. -/
import Derived.Test.YthpaolkonlhjfaaAm24
set_option linter.all false
namespace Go.Am

variable {β : Bet} {ω : Omg} {sB sA : S}

theorem Lk_im {H : Nat → Option Blk} {x : Value} {a : V} (h : Lk β H (.im x) a []) : a = .im x := by simpa [Lk] using h
theorem Lk_im' {H : Nat → Option Blk} {x : Value} : Lk β H (.im x) (.im x) [] := by simp [Lk]
theorem Lk_st {H : Nat → Option Blk} {cs : List V} {a : V} (h : Lk β H (.st cs) a []) : ∃ as, a = .st as ∧ LkL β H cs as [] := by simpa [Lk] using h
theorem Lk_hs {H : Nat → Option Blk} {b off n c : Nat} {a : V} (h : Lk β H (.hs b off n c) a []) : ∃ x, β b = some x ∧ a = .hs x off n c := by simpa [Lk] using h
theorem Lk_hp {H : Nat → Option Blk} {b i : Nat} {a : V} (h : Lk β H (.hp b i) a []) : ∃ x, β b = some x ∧ a = .hp x i := by simpa [Lk] using h
theorem Lk_hf {H : Nat → Option Blk} {b i j : Nat} {a : V} (h : Lk β H (.hf b i j) a []) : ∃ x, β b = some x ∧ a = .hf x i j := by simpa [Lk] using h
theorem Lk_sl {H : Nat → Option Blk} {es : List V} {a : V} (h : Lk β H (.sl es) a []) : a = .sl es ∧ RorL es := by simpa [Lk] using h
theorem Lk_rp {H : Nat → Option Blk} {v a : V} (h : Lk β H (.rp v) a []) : a = .rp v ∧ Ror v := by simpa [Lk] using h
theorem Lk_e0 {H : Nat → Option Blk} {a : V} (h : Lk β H .e0 a []) : a = .e0 := by simpa [Lk] using h

theorem isUn_iff {v : V} : isUn v = true ↔ v = .un := by
  unfold isUn
  split
  · rename_i x
    simp only [beq_iff_eq, V.im.injEq, V.un, undef]
    constructor
    · intro h; simp only [Value.tuple.injEq]; exact Array.eq_empty_of_size_eq_zero h
    · intro h; simp only [V.im.injEq, Value.tuple.injEq] at h; subst h; rfl
  · rename_i h
    constructor
    · intro hh; cases hh
    · rintro rfl; exact absurd rfl (h #[])

theorem un_okc : V.okc .un = false := rfl
theorem un_fits (q : Option Nat) : V.fits q .un = false := by cases q <;> rfl

/-- An operand. -/
theorem Sim.val {ep : Nat → Nat → Prop} (q : Sim β ω ep sB sA) {o : O} (ho : o.kok = true) : isUn (val sB.e o) = true ∨ Lk β sA.H (val sB.e o) (val sA.e o) [] := by
  cases o with
  | t n => exact q.env n
  | n z => exact .inr (by simp [Am.val, Lk])
  | k v =>
    right
    simp only [Am.val]
    simp only [O.kok] at ho
    split at ho
    · simp [Lk]
    · simp [Lk]
    · simp [Lk, LkL]
    · cases ho

theorem Sim.val' {ep : Nat → Nat → Prop} (q : Sim β ω ep sB sA) {o : O} (ho : o.kok = true) (h : isUn (Am.val sB.e o) = false) : Lk β sA.H (Am.val sB.e o) (Am.val sA.e o) [] := by
  rcases q.val ho with h' | h'
  · rw [h] at h'; cases h'
  · exact h'

theorem asI_un {v : V} {n : Int} (h : asI v = some n) : ∃ k, v = .im (.int k n) := by
  unfold asI at h
  split at h
  · rename_i k m; obtain rfl := Option.some.inj h; exact ⟨k, rfl⟩
  · cases h

theorem Sim.asI {ep : Nat → Nat → Prop} (q : Sim β ω ep sB sA) {o : O} (ho : o.kok = true) {n : Int} (h : Am.asI (Am.val sB.e o) = some n) : Am.asI (Am.val sA.e o) = some n := by
  obtain ⟨k, hk⟩ := asI_un h
  have := q.val' ho (by rw [hk]; rfl)
  rw [hk] at this
  rw [Lk_im this]; rfl

theorem Sim.bnd {ep : Nat → Nat → Prop} (q : Sim β ω ep sB sA) {d : Nat} {o : Option O} (ho : ∀ x ∈ o.toList, x.kok = true) {n : Int} (h : bndOf d (o.map (Am.val sB.e)) = some n) : bndOf d (o.map (Am.val sA.e)) = some n := by
  cases o with
  | none => exact h
  | some x => exact q.asI (ho x (by simp)) h

theorem okc_rel {H : Nat → Option Blk} {v a : V} (h : Lk β H v a []) (hv : v.okc = true) : a.okc = true := by
  cases v <;> simp only [V.okc, Bool.false_eq_true] at hv
  case im x => rw [Lk_im h]; exact hv
  case hs => obtain ⟨x, _, rfl⟩ := Lk_hs h; rfl
  case hp => obtain ⟨x, _, rfl⟩ := Lk_hp h; rfl
  case hf => obtain ⟨x, _, rfl⟩ := Lk_hf h; rfl
  case sl => rw [(Lk_sl h).1]; rfl
  case rp => rw [(Lk_rp h).1]; rfl
  case e0 => rw [Lk_e0 h]; rfl
  case cl f cs => simp only [Lk] at h; obtain ⟨⟨as, rfl, _⟩, _⟩ := h; rfl

theorem all_rel {H : Nat → Option Blk} {f : V → Bool} (hf : ∀ v a, Lk β H v a [] → f v = true → f a = true) : ∀ {vs as : List V}, LkL β H vs as [] → vs.all f = true → as.all f = true := by
  intro vs as h hv
  obtain ⟨hl, hh⟩ := LkL_nil_iff.1 h
  rw [List.all_eq_true] at hv ⊢
  intro a ha
  obtain ⟨i, hi⟩ := List.mem_iff_getElem?.1 ha
  have hlt : i < vs.length := by rw [← hl]; exact (List.getElem?_eq_some_iff.1 hi).1
  exact hf _ _ (hh i vs[i] a (List.getElem?_eq_getElem hlt) hi) (hv _ (List.getElem_mem hlt))

theorem fits_rel {H : Nat → Option Blk} {q : Option Nat} {v a : V} (h : Lk β H v a []) (hv : v.fits q = true) : a.fits q = true := by
  cases q with
  | none => exact okc_rel h hv
  | some n =>
    cases v <;> simp only [V.fits, Bool.false_eq_true] at hv
    obtain ⟨as, rfl, hl⟩ := Lk_st h
    simp only [V.fits, Bool.and_eq_true, beq_iff_eq] at hv ⊢
    exact ⟨by rw [(LkL_nil_iff.1 hl).1]; exact hv.1, all_rel (fun _ _ => okc_rel) hl hv.2⟩

theorem okc_nopk {H : Nat → Option Blk} {v a : V} {L : List Nat} (h : Lk β H v a L) (hv : v.okc = true) : L = [] := by
  cases v <;> simp only [V.okc, Bool.false_eq_true] at hv <;> simp only [Lk] at h
  case sl => exact h.2.1
  case rp => exact h.2.1
  all_goals exact h.2

/-- What an operation comes to on either side. -/
def Out (β : Bet) (sA : S) (sB' : S) (v : V) (rA : Option (V × S)) : Prop :=
  ∃ β' ω' a sA', rA = some (a, sA') ∧ Sim β' ω' no2 sB' sA' ∧ (isUn v = true ∨ Lk β' sA'.H v a []) ∧ ∀ b x, β b = some x → β' b = some x

theorem Out.same (q : Sim β ω no2 sB sA) {v a : V} {rA : Option (V × S)} (h : rA = some (a, sA)) (hl : isUn v = true ∨ Lk β sA.H v a []) : Out β sA sB v rA := ⟨β, ω, a, sA, h, q, hl, fun _ _ h => h⟩

/-- A new block of values without packed memory. -/
theorem Out.new (q : Sim β ω no2 sB sA) {k : Nat} {es as : List V} (h : LkL β sA.H es as []) {v a : V} {rA : Option (V × S)} (hr : rA = some (a, sA.new k as))
    (hv : Lk (upd β sB.nx (some sA.nx)) (sA.new k as).H v a []) : Out β sA (sB.new k es) v rA := by
  obtain ⟨hl, hh⟩ := LkL_nil_iff.1 h
  exact ⟨_, ω, a, _, hr, q.new hl (fun i v a h1 h2 => Elt.nil (hh i v a h1 h2)) (fun y p h _ _ _ _ => h), .inr hv, upd_beta (q.dom _ (Nat.le_refl _))⟩

theorem LkL_map {H : Nat → Option Blk} {ep : Nat → Nat → Prop} (q : Sim β ω ep sB sA) {xs : List O} (hk : ∀ x ∈ xs, x.kok = true) (hu : ∀ x ∈ xs, isUn (Am.val sB.e x) = false) : LkL β H (xs.map (Am.val sB.e)) (xs.map (Am.val sA.e)) [] := by
  refine LkL_nil_iff.2 ⟨by simp, fun i v a hv ha => ?_⟩
  rw [List.getElem?_map] at hv ha
  obtain ⟨x, hx, rfl⟩ := Option.map_eq_some_iff.1 hv
  obtain ⟨x', hx', rfl⟩ := Option.map_eq_some_iff.1 ha
  rw [hx] at hx'; obtain rfl := Option.some.inj hx'
  exact Lk.nil (fun _ _ h => h) (q.val' (hk x (List.mem_of_getElem? hx)) (hu x (List.mem_of_getElem? hx)))

theorem LkL_rep {H : Nat → Option Blk} {v a : V} (h : Lk β H v a []) (n : Nat) : LkL β H (List.replicate n v) (List.replicate n a) [] := by
  refine LkL_nil_iff.2 ⟨by simp, fun i u b hu hb => ?_⟩
  rw [List.getElem?_replicate] at hu hb
  split at hu
  · rename_i hi
    rw [if_pos hi] at hb
    cases hu; cases hb; exact h
  · cases hu

theorem pln_lk {H : Nat → Option Blk} {z : V} (h : pln z = true) : Lk β H z z [] := by
  cases z <;> simp only [pln, Bool.false_eq_true] at h
  case im => simp [Lk]
  case e0 => simp [Lk]
  case st cs =>
    simp only [Lk]
    refine ⟨cs, rfl, LkL_nil_iff.2 ⟨rfl, fun i v a hv ha => ?_⟩⟩
    rw [hv] at ha; obtain rfl := Option.some.inj ha
    have := List.all_eq_true.1 h v (List.mem_of_getElem? hv)
    cases v <;> simp_all [Lk]

theorem Sim.get {ep : Nat → Nat → Prop} (q : Sim β ω ep sB sA) {b x : Nat} {B : Blk} (hB : sB.H b = some B) (hx : β b = some x) : ∃ A, sA.H x = some A ∧ A.k = B.k ∧ A.fr = false ∧ B.fr = false ∧ A.es.length = B.es.length ∧
    ∀ i v a, ¬ ep b i → B.es[i]? = some v → A.es[i]? = some a → Elt β ω sA.H b i v a := by
  obtain ⟨h0, x', A, h1, h2, h3, h4, h5⟩ := q.blk b B hB
  rw [hx] at h1; obtain rfl := Option.some.inj h1
  exact ⟨A, h2, h3, q.nofr _ _ h2, h0, h4, h5⟩

theorem LkL_cons_inv {H : Nat → Option Blk} {v : V} {vs as : List V} {L : List Nat} (h : LkL β H (v :: vs) as L) : ∃ a as' L1 L2, as = a :: as' ∧ L = L1 ++ L2 ∧ Lk β H v a L1 ∧ LkL β H vs as' L2 := by simpa [LkL] using h

theorem okcs_nopk {H : Nat → Option Blk} : ∀ {vs as : List V} {L : List Nat}, LkL β H vs as L → vs.all V.okc = true → L = []
  | [], as, L, h, _ => by simp only [LkL] at h; exact h.2
  | v :: vs, as, L, h, hv => by
    obtain ⟨a, as', L1, L2, rfl, rfl, h1, h2⟩ := LkL_cons_inv h
    simp only [List.all_cons, Bool.and_eq_true] at hv
    rw [okc_nopk h1 hv.1, okcs_nopk h2 hv.2]; rfl

theorem fits_nopk {H : Nat → Option Blk} {q : Option Nat} {v a : V} {L : List Nat} (h : Lk β H v a L) (hv : v.fits q = true) : L = [] := by
  cases q with
  | none => exact okc_nopk h hv
  | some n =>
    cases v <;> simp only [V.fits, Bool.false_eq_true] at hv
    simp only [Lk] at h
    obtain ⟨as, rfl, hl⟩ := h
    simp only [Bool.and_eq_true] at hv
    exact okcs_nopk hl hv.2

theorem Elt.fits {b i : Nat} {H : Nat → Option Blk} {q : Option Nat} {v a : V} (h : Elt β ω H b i v a) (hv : v.fits q = true) : Lk β H v a [] := by
  rcases h with rfl | ⟨L, h1, _, _⟩
  · cases q <;> cases hv
  rw [fits_nopk h1 hv] at h1; exact h1

theorem elems_rel (qs : Sim β ω no2 sB sA) {q : Option Nat} {v a : V} {src : List V} (h : elems sB.H v = some src) (hl : Lk β sA.H v a []) (hf : src.all (·.fits q) = true) : ∃ src', elems sA.H a = some src' ∧ LkL β sA.H src src' [] := by
  cases v <;> simp only [elems] at h <;> try (cases h; done)
  case sl es =>
    obtain rfl := Option.some.inj h
    obtain ⟨rfl, hr⟩ := Lk_sl hl
    exact ⟨es, rfl, RorL.lk es hr⟩
  case e0 =>
    obtain rfl := Option.some.inj h
    rw [Lk_e0 hl]
    exact ⟨[], rfl, by simp [LkL]⟩
  case hs b off n c =>
    obtain ⟨x, hx, rfl⟩ := Lk_hs hl
    simp only [elems]
    split at h
    · rename_i hn
      obtain rfl := Option.some.inj h
      rw [if_pos hn]
      exact ⟨[], rfl, by simp [LkL]⟩
    · rename_i hn
      rw [if_neg hn]
      split at h
      · rename_i B hB
        split at h
        · rename_i hle
          obtain rfl := Option.some.inj h
          obtain ⟨A, hA, _, _, _, hlen, he⟩ := qs.get hB hx
          simp only [hA]
          rw [if_pos (by omega)]
          refine ⟨_, rfl, LkL_nil_iff.2 ⟨by simp [hlen], fun i u w hu hw => ?_⟩⟩
          rw [List.getElem?_take] at hu hw
          split at hu
          · rename_i hi
            rw [if_pos hi] at hw
            rw [List.getElem?_drop] at hu hw
            refine (he _ u w (fun h => h) hu hw).fits (q := q) ?_
            exact List.all_eq_true.1 hf u (List.mem_of_getElem? (i := i) (by rw [List.getElem?_take, if_pos hi, List.getElem?_drop]; exact hu))
          · cases hu
        · cases h
      · cases h

theorem LkL_app {H : Nat → Option Blk} {vs as us bs : List V} {L1 L2 : List Nat} (h1 : LkL β H vs as L1) (h2 : LkL β H us bs L2) : LkL β H (vs ++ us) (as ++ bs) (L1 ++ L2) := by
  induction vs generalizing as L1 with
  | nil => simp only [LkL] at h1; obtain ⟨rfl, rfl⟩ := h1; simpa using h2
  | cons v vs ih =>
    obtain ⟨a, as', K1, K2, rfl, rfl, h3, h4⟩ := LkL_cons_inv h1
    simp only [List.cons_append, LkL]
    exact ⟨a, as' ++ bs, K1, K2 ++ L2, rfl, by simp, h3, ih h4⟩

/-- Appending. -/
theorem append_sim (qs : Sim β ω no2 sB sA) {q : Option Nat} {v a : V} {src src' : List V} {r : V} {sB' : S} (hl : Lk β sA.H v a []) (hs : LkL β sA.H src src' []) (h : appendTo sB q v src = some (r, sB')) :
    Out β sA sB' r (appendTo sA q a src') := by
  have hlen : src'.length = src.length := (LkL_nil_iff.1 hs).1
  have hget := (LkL_nil_iff.1 hs).2
  cases v <;> simp only [appendTo] at h <;> try (cases h; done)
  case e0 =>
    rw [Lk_e0 hl]
    split at h
    · rename_i hn
      obtain ⟨rfl, rfl⟩ := Prod.mk.inj (Option.some.inj h)
      subst hn
      simp only [LkL] at hs
      obtain ⟨rfl, _⟩ := hs
      exact Out.same qs (a := .e0) (by simp [appendTo]) (.inr (by simp [Lk]))
    · rename_i hn
      split at h
      · rename_i hle
        obtain ⟨rfl, rfl⟩ := Prod.mk.inj (Option.some.inj h)
        refine Out.new qs hs (a := .hs sA.nx 0 src.length src.length) ?_ ?_
        · simp only [appendTo]
          rw [if_neg, if_pos]
          · rw [hlen]
          · omega
          · intro e; subst e; simp at hlen; exact hn (List.length_eq_zero_iff.1 hlen.symm)
        · simp only [Lk, and_true]; exact ⟨_, upd_same _ _ _, rfl⟩
      · cases h
  case hs b off n c =>
    obtain ⟨x, hx, rfl⟩ := Lk_hs hl
    split at h
    case h_2 => cases h
    rename_i B hB
    obtain ⟨A, hA, hk, hfr, hfrB, hal, he⟩ := qs.get hB hx
    split at h
    case isFalse => cases h
    rename_i hc
    simp only [appendTo, hA]
    rw [if_pos ⟨hk.trans hc.1, hfr, by rw [hlen]; exact hc.2.2⟩]
    simp only [hlen]
    split at h
    · rename_i hcap
      rw [if_pos hcap]
      split at h
      · rename_i hle
        rw [if_pos (by omega)]
        obtain ⟨rfl, rfl⟩ := Prod.mk.inj (Option.some.inj h)
        have q2 := qs.set (ω' := ω) (ep' := no2) hB hx hA (es := splice B.es (off + n) src) (as := splice A.es (off + n) src') (by simp [splice, hal, hlen]) (fun i u w _ hu hw => ?_) (fun y p h _ _ => h) (fun _ _ _ _ h => h)
        · exact ⟨β, ω, _, _, rfl, q2, .inr (by simp only [Lk, and_true]; exact ⟨x, hx, rfl⟩), fun _ _ h => h⟩
        · have h1 : (A.es.take (off + n)).length = (B.es.take (off + n)).length := by simp [hal]
          simp only [splice, List.append_assoc] at hu hw
          rcases Nat.lt_or_ge i (off + n) with hi | hi
          · rw [List.getElem?_append_left (by simp; omega)] at hu hw
            rw [List.getElem?_take, if_pos hi] at hu hw
            exact he i u w (fun h => h) hu hw
          · rw [List.getElem?_append_right (by simp; omega)] at hu hw
            have e1 : (B.es.take (off + n)).length = off + n := by simp; omega
            have e2 : (A.es.take (off + n)).length = off + n := by simp; omega
            rw [e1] at hu; rw [e2] at hw
            rcases Nat.lt_or_ge (i - (off + n)) src.length with hj | hj
            · rw [List.getElem?_append_left (by omega)] at hu hw
              exact Elt.nil (hget _ _ _ hu hw)
            · rw [List.getElem?_append_right (by omega)] at hu hw
              rw [List.getElem?_drop] at hu hw
              rw [show off + n + src.length + (i - (off + n) - src.length) = i by omega] at hu
              rw [hlen, show off + n + src.length + (i - (off + n) - src.length) = i by omega] at hw
              exact he i u w (fun h => h) hu hw
      · cases h
    · rename_i hcap
      rw [if_neg hcap]
      split at h
      · rename_i hex
        rw [if_pos (by omega)]
        obtain ⟨rfl, rfl⟩ := Prod.mk.inj (Option.some.inj h)
        have hkl : ∀ (H : Nat → Option Blk) (b : Nat), upd H b none = kill H [b] := by
          intro H b; funext y; simp only [upd, kill, List.mem_singleton]
        have q1 := qs.kill (os := [b]) (xs := [x]) (by simp [hx])
        have q2 := q1.new (ω' := fun y => match ω y with | some (b', i) => if b' = b then some (sB.nx, i - off) else some (b', i) | none => none) (k := ksz q) (es := B.es.drop off ++ src) (as := A.es.drop off ++ src') (by simp [hal, hlen]) (fun i u w hu hw => ?_) (fun y p h1 h2 h3 h4 _ => ?_)
        · refine ⟨upd β sB.nx (some sA.nx), (fun y => match ω y with | some (b', i) => if b' = b then some (sB.nx, i - off) else some (b', i) | none => none), .hs sA.nx 0 (n + src.length) (n + src.length), (sA.blk x none).new (ksz q) (A.es.drop off ++ src'), rfl, ?_, .inr (by simp only [Lk, and_true]; exact ⟨_, upd_same _ _ _, rfl⟩), upd_beta (qs.dom _ (Nat.le_refl _))⟩
          simpa only [S.mem, S.blk, hkl] using q2
        · have e1 : (B.es.drop off).length = n := by simp; omega
          have e2 : (A.es.drop off).length = n := by simp; omega
          rcases Nat.lt_or_ge i n with hi | hi
          · rw [List.getElem?_append_left (by omega)] at hu hw
            rw [List.getElem?_drop] at hu hw
            refine (he (off + i) u w (fun h => h) hu hw).frame (fun _ _ h => h) fun y hy h1 h2 => ⟨?_, ?_, h2⟩
            · simp only [S.mem, kill, List.mem_singleton]
              rw [if_neg]; rintro rfl; exact h2 b hx
            · rw [h1]
              simp only [if_true]
              rw [show off + i - off = i by omega]; rfl
          · rw [List.getElem?_append_right (by omega)] at hu hw
            rw [e1] at hu; rw [e2] at hw
            exact Elt.nil (hget _ _ _ hu hw)
        · obtain ⟨b', i⟩ := p
          simp only [h1]
          rw [if_neg]
          rintro rfl
          apply h4
          simp [S.mem, kill]
      · cases h


theorem opA_un {ca : V → List V → S → Option (V × S)} {s : S} {a : A} {r : V × S} (hca : ∀ f xs, a ≠ .ca f xs) (h : opA ca s a = some r) : ∀ x ∈ a.os, isUn (Am.val s.e x) = false := by
  have bnd0 : ∀ {d : Nat} {o : Option O} {n : Int}, bndOf d (o.map (Am.val s.e)) = some n → ∀ x ∈ o.toList, isUn (Am.val s.e x) = false := by
    intro d o n h x hx
    cases o with
    | none => simp at hx
    | some y =>
      simp at hx; subst hx
      obtain ⟨k, hk⟩ := asI_un h
      rw [hk]; rfl
  have fits0 : ∀ {q : Option Nat} {v : V}, v.fits q = true → isUn v = false := by
    intro q v hv
    cases hu : isUn v with
    | false => rfl
    | true => rw [isUn_iff.1 hu, un_fits] at hv; cases hv
  have okc0 : ∀ {v : V}, v.okc = true → isUn v = false := by
    intro v hv
    cases hu : isUn v with
    | false => rfl
    | true => rw [isUn_iff.1 hu, un_okc] at hv; cases hv
  cases a <;> simp only [A.os, List.mem_cons, List.mem_append, List.not_mem_nil, or_false, forall_eq_or_imp, forall_eq, false_implies, implies_true, List.mem_map] <;> simp only [opA] at h <;> try (cases h; done)
  case bx q x => split at h <;> first | exact fits0 ‹_› | cases h
  case ld q x =>
    split at h
    · rename_i y hy
      generalize Am.val s.e x = z at *
      cases z <;> first | rfl | simp [deref] at hy
    · cases h
  case so q p x =>
    split at h
    · rename_i H hH
      unfold storeAt at hH
      split at hH
      · rename_i b i hp
        rw [hp]
        split at hH
        · split at hH
          · rename_i hc; exact ⟨rfl, fits0 hc.2.2.2⟩
          · cases hH
        · cases hH
      · rename_i b i j hp
        rw [hp]
        split at hH
        · split at hH
          · split at hH
            · rename_i hc; exact ⟨rfl, okc0 hc.2.2.2⟩
            · cases hH
          · cases hH
        · cases hH
      · cases hH
    · cases h
  case bi op x y =>
    split at h
    · rename_i u w hu hw
      obtain ⟨z, hz, _⟩ := Option.map_eq_some_iff.1 h
      rw [hu, hw]
      unfold abin at hz
      split at hz <;> first | exact ⟨rfl, rfl⟩ | cases hz
    · cases h
  case be n x y =>
    split at h
    · rename_i u w hu hw; rw [hu, hw]; exact ⟨rfl, rfl⟩
    · cases h
  case un op x =>
    split at h
    · rename_i u hu
      obtain ⟨z, hz, _⟩ := Option.map_eq_some_iff.1 h
      rw [hu]
      unfold aun at hz
      split at hz <;> first | rfl | cases hz
    · cases h
  case cv k x => split at h <;> first | (rename_i hu; rw [hu]; rfl) | cases h
  case fd j x => split at h <;> first | (rename_i hu; rw [hu]; rfl) | cases h
  case fa j x => split at h <;> first | (rename_i hu; rw [hu]; rfl) | cases h
  case ia q x i =>
    split at h
    · rename_i z es hi hx; obtain ⟨k, hk⟩ := asI_un hi; rw [hx, hk]; exact ⟨rfl, rfl⟩
    · rename_i z b off n c hi hx; obtain ⟨k, hk⟩ := asI_un hi; rw [hx, hk]; exact ⟨rfl, rfl⟩
    · cases h
  case ix x i =>
    split at h
    · rename_i z u hi hx; obtain ⟨k, hk⟩ := asI_un hi; rw [hx, hk]; exact ⟨rfl, rfl⟩
    · cases h
  case ss x lo hi =>
    split at h
    · rename_i u hu
      split at h
      · rename_i l r hl hr
        refine ⟨by rw [hu]; rfl, fun y hy => ?_⟩
        rcases hy with hy | hy
        · exact bnd0 hl y hy
        · exact bnd0 hr y hy
      · cases h
    · cases h
  case sc q x lo hi mx =>
    have slc : ∀ {v w : V}, sliceOf v (lo.map (Am.val s.e)) (hi.map (Am.val s.e)) (mx.map (Am.val s.e)) = some w → isUn v = false ∧ ∀ y, (y ∈ lo.toList ∨ y ∈ hi.toList) ∨ y ∈ mx.toList → isUn (Am.val s.e y) = false := by
      intro v w hw
      unfold sliceOf at hw
      split at hw
      · rename_i m hm
        have hmx : ∀ y ∈ mx.toList, asI m = some 0 → isUn (Am.val s.e y) = false := by
          intro y hy h0
          cases mx with
          | none => simp at hy
          | some z =>
            simp at hy hm; subst hy
            obtain ⟨k, hk⟩ := asI_un h0
            rw [hm, hk]; rfl
        have hz : isZ (hi.map (Am.val s.e)) = true → ∀ y ∈ hi.toList, isUn (Am.val s.e y) = false := by
          intro h0 y hy
          cases hi with
          | none => simp at hy
          | some z =>
            simp at hy; subst hy
            simp only [Option.map_some, isZ, beq_iff_eq] at h0
            obtain ⟨k, hk⟩ := asI_un h0
            rw [hk]; rfl
        split at hw
        all_goals first
          | (split at hw
             · rename_i hc
               refine ⟨rfl, fun y hy => ?_⟩
               rcases hy with (hy | hy) | hy
               · exact bnd0 hc.1 y hy
               · exact hz hc.2.1 y hy
               · exact hmx y hy hc.2.2
             · cases hw)
          | cases hw
      · rename_i hm
        have hmx : mx.toList = [] := by cases mx <;> simp_all
        rw [hmx]
        split at hw
        · split at hw
          · rename_i hc
            refine ⟨rfl, fun y hy => ?_⟩
            rcases hy with (hy | hy) | hy
            · exact bnd0 hc.1 y hy
            · exact bnd0 hc.2 y hy
            · simp at hy
          · cases hw
        · split at hw
          · rename_i h1 h2
            refine ⟨rfl, fun y hy => ?_⟩
            rcases hy with (hy | hy) | hy
            · exact bnd0 h1 y hy
            · exact bnd0 h2 y hy
            · simp at hy
          · cases hw
        · split at hw
          · rename_i h1 h2
            refine ⟨rfl, fun y hy => ?_⟩
            rcases hy with (hy | hy) | hy
            · exact bnd0 h1 y hy
            · exact bnd0 h2 y hy
            · simp at hy
          · cases hw
        · cases hw
    split at h
    · rename_i b off n c hx
      split at h
      · obtain ⟨u, hu, _⟩ := Option.map_eq_some_iff.1 h
        rw [hx]; exact slc hu
      · split at h
        · split at h
          · obtain ⟨u, hu, _⟩ := Option.map_eq_some_iff.1 h
            rw [hx]; exact slc hu
          · cases h
        · cases h
    · rename_i es hx
      split at h
      · obtain ⟨u, hu, _⟩ := Option.map_eq_some_iff.1 h
        rw [hx]; exact slc hu
      · cases h
    · rename_i hx
      obtain ⟨u, hu, _⟩ := Option.map_eq_some_iff.1 h
      rw [hx]; exact slc hu
    · cases h
  case bs q xs =>
    split at h
    · rename_i hc
      intro x hx
      exact fits0 (List.all_eq_true.1 hc _ (List.mem_map.2 ⟨x, hx, rfl⟩))
    · cases h
  case bd z ps =>
    split at h
    · rename_i hc
      rintro x ⟨p, hp, rfl⟩
      exact okc0 (List.all_eq_true.1 hc _ (List.mem_map.2 ⟨p, hp, rfl⟩))
    · cases h
  case ms z q l c =>
    split at h
    · rename_i u w hu hw; rw [hu, hw]; exact ⟨rfl, rfl⟩
    · cases h
  case mf f xs =>
    split at h
    · rename_i hc
      intro x hx
      exact okc0 (List.all_eq_true.1 hc _ (List.mem_map.2 ⟨x, hx, rfl⟩))
    · cases h
  case ca f xs => exact absurd rfl (hca f xs)
  case ap q x y =>
    split at h
    · rename_i src hs
      split at h
      · refine ⟨?_, ?_⟩
        · generalize Am.val s.e x = z at *
          cases z <;> first | rfl | simp [appendTo] at h
        · generalize Am.val s.e y = z at *
          cases z <;> first | rfl | simp [elems] at hs
      · cases h
    · cases h
  case az q z x n =>
    split at h
    · rename_i k m hn
      split at h
      · refine ⟨?_, by rw [hn]; rfl⟩
        generalize Am.val s.e x = z at *
        cases z <;> first | rfl | simp [appendTo] at h
      · cases h
    · cases h
  case ln x =>
    split at h
    · rename_i n hn
      generalize Am.val s.e x = z at *
      cases z <;> first | rfl | simp [vlen] at hn
    · cases h
  case cr q z x => split at h <;> first | (rename_i hu; rw [hu]; rfl) | cases h
  case cp x => split at h <;> first | (rename_i hu; rw [hu]; rfl) | cases h
  case ls x => split at h <;> first | (rename_i hu; rw [hu]; rfl) | cases h
  case mm mx xs =>
    have two : ∀ l : List V, xs.map (Am.val s.e) = l → (∀ v ∈ l, isUn v = false) → ∀ x ∈ xs, isUn (Am.val s.e x) = false := by
      rintro l rfl hl x hx; exact hl _ (List.mem_map.2 ⟨x, hx, rfl⟩)
    split at h
    · rename_i hx; exact two _ hx (by simp [isUn])
    · rename_i hx; exact two _ hx (by simp [isUn])
    · cases h
  case et x i => split at h <;> first | (rename_i hu; rw [hu]; rfl) | cases h
  case sb x =>
    split at h
    · rename_i src hs
      generalize Am.val s.e x = z at *
      cases z <;> first | rfl | simp [elems] at hs
    · cases h

end Go.Am
