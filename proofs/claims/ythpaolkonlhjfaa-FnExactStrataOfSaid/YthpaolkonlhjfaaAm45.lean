/- The B-machine, part 22: functions that write an argument, and their calls. -/
import Derived.Test.YthpaolkonlhjfaaAm44
set_option linter.all false
namespace Go.Am
/-- The front of A, the rest of B. -/
def mx {α : Type} (i : Nat) (A B : List α) : List α := A.take i ++ B.drop i
section
variable {α : Type} {i : Nat} {A B : List α}
theorem mx_0 : mx 0 A B = B := by simp [mx]
theorem mx_end (h : A.length = B.length) : mx B.length A B = A := by simp [mx, ← h]
theorem mx_len (h : A.length = B.length) : (mx i A B).length = B.length := by simp [mx]; omega
theorem mx_get (h : A.length = B.length) (hi : i < B.length) : (mx i A B)[i]? = B[i]? := by
  unfold mx
  rw [List.getElem?_append_right (by simp; omega), List.getElem?_drop]
  congr 1; simp; omega
theorem mx_set (h : A.length = B.length) {a : α} (ha : A[i]? = some a) : (mx i A B).set i a = mx (i + 1) A B := by
  have hi : i < A.length := (List.getElem?_eq_some_iff.1 ha).1
  have e : a = A[i] := ((List.getElem?_eq_some_iff.1 ha).2).symm
  unfold mx
  rw [List.set_append, if_neg (by simp; omega), List.take_succ_eq_append_getElem hi, List.append_assoc]
  have : i - (A.take i).length = 0 := by simp; omega
  rw [this, List.drop_eq_getElem_cons (by omega : i < B.length), List.set_cons_zero, e]; rfl
end
/-- A list of the frame's own, as it is lent. -/
def ioT {α : Type} (k : Nat) (f : α → V) : List α → V
  | [] => .sl []
  | a :: l => .ow k ((a :: l).map f)
theorem ioT_ne {α : Type} {k : Nat} {f : α → V} {l : List α} (h : l ≠ []) : ioT k f l = .ow k (l.map f) := by cases l with | nil => exact absurd rfl h | cons => rfl
/-- The end of a function that writes an argument. -/
def IoS (t : V) (us : List V) (np : Nat) (ms : List M) (res : List (Nat × Option (Option Nat))) (s : S) : Prop :=
  ∃ v o i j, resOfB s res = some (v, o) ∧ giveB DEP s.H v = some (t, i) ∧ overL (giveB DEP s.H) (lentB np ms s.e) = some (us, j) ∧ (o ++ i ++ j).Nodup ∧ ((lentB np ms s.e).all fun v => !isUn v) = true
def IoQ (t : V) (us : List V) (np : Nat) (ms : List M) (res : List (Nat × Option (Option Nat))) : R → Prop
  | .n s | .r s => IoS t us np ms res s
  | _ => False
section
variable {Γ : Env} {T : Nat → Option FB} {e : Nat → V} {H : Nat → Option Blk} {n : Nat} {z : Bool} {l : List I} {K : S → Prop} {Q : R → Prop} {d : Nat}
theorem io_n {t : V} {us : List V} {np : Nat} {ms : List M} {res : List (Nat × Option (Option Nat))} {s : S} (h : IoS t us np ms res s) : IoQ t us np ms res (.n s) := h
theorem io_r {t : V} {us : List V} {np : Nat} {ms : List M} {res : List (Nat × Option (Option Nat))} {s : S} (h : IoS t us np ms res s) : IoQ t us np ms res (.r s) := h
theorem call_io {f : Nat} {ms : List M} {args vals us : List V} {t : V} {x : FB} {H : Nat → Option Blk} {n : Nat} (hp : Γ.pr f = none) (hT : T f = some x) (hn : args.length = x.np) (hk : x.body.keeps (lent ms (List.range x.np)) = true)
    (ht : takeL (takeB DEP) args ⟨fun _ => .un, fun _ => none, 0, false⟩ = some (vals, ⟨fun _ => .un, H, n, false⟩)) (h : WP Γ T x.body ⟨envOf vals, H, n, false⟩ (IoQ t us x.np ms x.res)) : CALLB Γ T f ms args = some (t, us) := by
  refine call_of hp hT hn ht (wp_mono h fun r hr => ?_)
  cases r with
  | n s => obtain ⟨v, o, i, j, g1, g2, g3, g4, g5⟩ := hr; exact ⟨v, o, i, j, g1, g2, g3, g4, by rw [hk, g5]; simp⟩
  | r s => obtain ⟨v, o, i, j, g1, g2, g3, g4, g5⟩ := hr; exact ⟨v, o, i, j, g1, g2, g3, g4, by rw [hk, g5]; simp⟩
  | x i s => exact hr.elim
/-- A whole number comes back, and one list. -/
theorem fioN {x y : Int} {v t : V} {j : List Nat} {np : Nat} {ms : List M} {res : List (Nat × Option (Option Nat))} {s : S} (h : x = y) (hl : lentB np ms s.e = [v]) (g : giveB DEP s.H v = some (t, j)) (hr : resOfB s res = some (.i x, []) := by rfl) (hn : ndB j = true := by rfl) (hu : isUn v = false := by rfl) : IoS (.i y) [t] np ms res s := by
  subst h
  refine ⟨_, [], [], j, hr, rfl, by rw [hl]; exact (by rw [overL_mk (L1 := j) (L2 := []) g rfl, List.append_nil]), by simpa using nd_of hn, by rw [hl]; simp [hu]⟩

/-- A result, and one list that comes back. -/
theorem fioV {v w t u : V} {o i j : List Nat} {np : Nat} {ms : List M} {res : List (Nat × Option (Option Nat))} {s : S} (g : giveB DEP s.H v = some (t, i)) (g2 : giveB DEP s.H w = some (u, j)) (hr : resOfB s res = some (v, o) := by rfl) (hl : lentB np ms s.e = [w] := by rfl) (hn : ndB (o ++ i ++ j) = true := by rfl) (hu : isUn w = false := by rfl) : IoS t [u] np ms res s :=
  ⟨v, o, i, j, hr, g, by rw [hl]; exact (by rw [overL_mk (L1 := j) (L2 := []) g2 rfl, List.append_nil]), nd_of hn, by rw [hl]; simp [hu]⟩
theorem gv_sl {es : List V} : giveB (d + 1) H (.sl es) = some (.sl es, []) := rfl
/-- A whole number comes back, and a list that is only read. -/
theorem fioS {x y : Int} {es : List V} {np : Nat} {ms : List M} {res : List (Nat × Option (Option Nat))} {s : S} (h : x = y) (hl : lentB np ms s.e = [.sl es] := by rfl) (hr : resOfB s res = some (.i x, []) := by rfl) : IoS (.i y) [.sl es] np ms res s :=
  fioN h hl gv_sl hr
/-! Lending. -/
theorem okD_mono : ∀ {d : Nat} {v : V}, okD d v = true → okD (d + 1) v = true
  | 0, v, h => by simp [okD] at h
  | d + 1, v, h => by
    have lst : ∀ {cs : List V}, allL (okD d) cs = true → allL (okD (d + 1)) cs = true := fun h => allL_iff.2 fun v hv => okD_mono (allL_iff.1 h v hv)
    cases v <;> simp only [okD] at h ⊢ <;> first | exact h | exact lst h | exact okD_mono h
theorem le_hs {α : Type} {f : α → V} {ll : List α} {k b m c : Nat} {fr : Bool} (hB : H b = some ⟨k, ll.map f, fr⟩) (hm : m = ll.length) (h : ∀ a, okD 7 (f a) = true) : lendB H (.hs b 0 m c) = some (ioT k f ll, if ll = [] then [] else [b]) := by
  subst hm
  show lendB1 H (.hs b 0 ll.length c) = _
  unfold lendB1
  cases ll with
  | nil => rfl
  | cons a ll => exact gv_hs (f := f) (c := c) (l := a :: ll) (l' := a :: ll) ⟨rfl⟩ hB rfl h
theorem hio {v w t u : V} {i j : List Nat} (h1 : lendB H v = some (t, i)) (h2 : snapB DEP H w = some (u, j)) : handB H [.io, .ro] [v, w] = some ([t, u], j, i) := by
  simp only [handB, List.headD_cons, h1, Option.map_some, List.tail_cons, h2, List.nil_append, List.append_nil]
theorem kill_nil' : kill H [] = H := by funext b; simp [kill]
/-- A list of the frame's own is lent to a function, with a whole number. -/
theorem ci {α β : Type} {f : Nat} {fo : O} {xs : List O} {g : α → V} {g' : β → V} {ll : List α} {ll' : List β} {b m c kk : Nat} {k r : Int} (hc : CALLB Γ T f [.io, .ro] [ioT kk g ll, .i k] = some (.i r, [ioT kk g' ll'])) (hl : ll'.length = ll.length)
    (k0 : WL Γ T l ⟨up e d (.i r), up H b (some ⟨kk, ll'.map g', false⟩), n, z⟩ K)
    (hf : fnOf (val e fo) = some (f, []) := by rfl) (hv : xs.map (val e) = [.hs b 0 m c, .i k] := by first | exact frcL | fail) (hu : (xs.all fun x => !isUn (val e x)) = true := by rfl) (hm : Γ.md f = some [.io, .ro] := by first | rfl | assumption)
    (hB : H b = some ⟨kk, ll.map g, false⟩ := by rfl) (hml : m = ll.length := by rfl) (ok : ∀ a, okD 7 (g a) = true := by exact fun _ => okA) (ok' : ∀ a, okD 7 (g' a) = true := by exact fun _ => okA) : WL Γ T (o d (.ca fo xs) :: l) ⟨e, H, n, z⟩ K := by
  have h1 := hio (w := .i k) (u := .i k) (j := []) (le_hs (c := c) hB hml ok) rfl
  by_cases h0 : ll = []
  · have h0' : ll' = [] := List.length_eq_zero_iff.1 (by rw [hl, h0]; rfl)
    subst h0; subst h0'
    rw [up_id H b (some ⟨kk, ([] : List β).map g', false⟩) (by rw [hB]; rfl)] at k0
    simp only [List.length_nil] at hml
    subst hml
    refine g_of (wo_callv (s1 := ⟨e, H, n, z⟩) hf hu (by rw [hv]; rfl) hm h1 ⟨by simp, by simp⟩ hc rfl ?_ rfl ⟨rfl, rfl⟩) k0
    simp only [if_true]
    show backLB H [.hs b 0 0 c] [.sl []] _ = _
    simp only [backLB, back1B, backVB, if_true, and_self, S.mem, kill_nil']
  · have h0' : ll' ≠ [] := by intro h; rw [h] at hl; exact h0 (List.length_eq_zero_iff.1 hl.symm)
    rw [ioT_ne h0] at h1 hc
    rw [ioT_ne h0'] at hc
    rw [if_neg h0] at h1
    refine g_of (wo_callv (s1 := ⟨e, up H b (some ⟨kk, ll'.map g', false⟩), n, z⟩) hf hu (by rw [hv]; rfl) hm h1 (by simp) hc rfl ?_ rfl ⟨rfl, rfl⟩) k0
    show backLB H [.hs b 0 m c] [.ow kk (ll'.map g')] _ = _
    have he : ll'.map g' ≠ [] := by simpa using h0'
    have hok : allL (okD DEP) (ll'.map g') = true := allL_iff.2 fun v hv => by
      obtain ⟨a, _, rfl⟩ := List.mem_map.1 hv
      exact okD_mono (ok' a)
    simp only [backLB, back1B, backVB, if_neg he, hB]
    rw [if_pos ⟨trivial, by simpa using hml, by simp [hml, hl], trivial, hok⟩]
    simp only [S.blk, S.mem, killU_eq, killU, up_eq]
    refine congrArg some ?_
    have : up (up H b none) b (some ⟨kk, ll'.map g', false⟩) = up H b (some ⟨kk, ll'.map g', false⟩) := by
      funext j; unfold up; cases Nat.beq j b <;> rfl
    rw [this]
/-- Nothing is lent to a function, with a whole number. -/
theorem ci0 {f : Nat} {fo : O} {xs : List O} {k r : Int} (hc : CALLB Γ T f [.io, .ro] [.e0, .i k] = some (.i r, [.e0]))
    (k0 : WL Γ T l ⟨up e d (.i r), H, n, z⟩ K)
    (hf : fnOf (val e fo) = some (f, []) := by rfl) (hv : xs.map (val e) = [.e0, .i k] := by first | exact frcL | fail) (hu : (xs.all fun x => !isUn (val e x)) = true := by rfl) (hm : Γ.md f = some [.io, .ro] := by first | rfl | assumption) : WL Γ T (o d (.ca fo xs) :: l) ⟨e, H, n, z⟩ K := by
  have h1 : handB H [.io, .ro] [.e0, .i k] = some ([.e0, .i k], [], []) := hio (i := []) (j := []) rfl rfl
  refine g_of (wo_callv (s1 := ⟨e, H, n, z⟩) hf hu (by rw [hv]; rfl) hm h1 (by simp) hc rfl ?_ rfl ⟨rfl, rfl⟩) k0
  show backLB H [.e0] [.e0] _ = _
  simp only [backLB, back1B, backVB, S.mem, kill_nil']
/-! Packed lists, loaded: each comes to lie in a block of its own. -/
theorem at_map {α : Type} {f : α → V} {ll : List α} {i : Nat} {a : α} (h : ll[i]? = some a) : (ll.map f)[i]? = some (f a) := by rw [List.getElem?_map, h]; rfl
theorem at_set {es : List V} {i : Nat} {v : V} (h : i < es.length) : (es.set i v)[i]? = some v := by rw [List.getElem?_set_self h]
theorem g_ldf {α : Type} {f : α → V} {ll : List α} {es cs vs : List V} {x : O} {b i j k1 kk : Nat} (hx : val e x = .hf b i j) (hB : H b = some ⟨k1, es, false⟩) (hi : es[i]? = some (.st cs)) (hj : cs[j]? = some (.ow kk (ll.map f))) (hb : Nat.beq b n = false)
    (hs : cs.set j (.hs n 0 ll.length ll.length) = vs)
    (k : WL Γ T l ⟨up e d (.hs n 0 ll.length ll.length), up (up H n (some ⟨kk, ll.map f, false⟩)) b (some ⟨k1, es.set i (.st vs), false⟩), n + 1, z⟩ K) : WL Γ T (o d (.ld none x) :: l) ⟨e, H, n, z⟩ K := by
  refine g_op (v := .hs n 0 ll.length ll.length) ?_ k
  have hne : b ≠ n := fun h => by rw [h] at hb; simp at hb
  subst hs
  simp only [opB, ldB, hx, derefB, hB, Option.bind_some, hi, hj, V.fits, V.okc, Bool.false_eq_true, if_false, V.fitsB, V.pkc, pkd, Bool.or_true, if_true, unp, unp1, List.length_map, S.new, putB, upd_ne _ _ hne]
  rw [up_eq, up_eq]
theorem g_ldp {α : Type} {f : α → V} {ll : List α} {es : List V} {x : O} {b i k1 kk : Nat} (hx : val e x = .hp b i) (hB : H b = some ⟨k1, es, false⟩) (hi : es[i]? = some (.ow kk (ll.map f))) (hb : Nat.beq b n = false)
    (k : WL Γ T l ⟨up e d (.hs n 0 ll.length ll.length), up (up H n (some ⟨kk, ll.map f, false⟩)) b (some ⟨k1, es.set i (.hs n 0 ll.length ll.length), false⟩), n + 1, z⟩ K) : WL Γ T (o d (.ld none x) :: l) ⟨e, H, n, z⟩ K := by
  refine g_op (v := .hs n 0 ll.length ll.length) ?_ k
  have hne : b ≠ n := fun h => by rw [h] at hb; simp at hb
  simp only [opB, ldB, hx, derefB, hB, Option.bind_some, hi, V.fits, V.okc, Bool.false_eq_true, if_false, V.fitsB, V.pkc, pkd, Bool.or_true, if_true, unp, unp1, List.length_map, S.new, putB, upd_ne _ _ hne]
  rw [up_eq, up_eq]
theorem g_lds {α : Type} {f : α → V} {ll : List α} {es : List V} {x : O} {b i k1 kk : Nat} (hx : val e x = .hp b i) (hB : H b = some ⟨k1, es, false⟩) (hi : es[i]? = some (.st [.ow kk (ll.map f)])) (hb : Nat.beq b n = false)
    (k : WL Γ T l ⟨up e d (.st [.hs n 0 ll.length ll.length]), up (up H n (some ⟨kk, ll.map f, false⟩)) b (some ⟨k1, es.set i (.st [.hs n 0 ll.length ll.length]), false⟩), n + 1, z⟩ K) : WL Γ T (o d (.ld (some 1) x) :: l) ⟨e, H, n, z⟩ K := by
  refine g_op (v := .st [.hs n 0 ll.length ll.length]) ?_ k
  have hne : b ≠ n := fun h => by rw [h] at hb; simp at hb
  have h1 : V.fits (some 1) (.st [.ow kk (ll.map f)]) = false := rfl
  have h2 : V.fitsB (some 1) (.st [.ow kk (ll.map f)]) = true := rfl
  simp only [opB, ldB, hx, derefB, hB, Option.bind_some, hi, h1, h2, Bool.false_eq_true, if_false, if_true, unp, takeL, unp1, List.length_map, S.new, putB, upd_ne _ _ hne]
  rw [up_eq, up_eq]
/-- The same, found by the walker. -/
theorem u0 {α : Type} {f : α → V} {ll : List α} {es cs vs : List V} {x : O} {b i j k1 kk : Nat}
    (k : WL Γ T l ⟨up e d (.hs n 0 ll.length ll.length), up (up H n (some ⟨kk, ll.map f, false⟩)) b (some ⟨k1, es.set i (.st vs), false⟩), n + 1, z⟩ K)
    (hx : val e x = .hf b i j := by rfl) (hB : H b = some ⟨k1, es, false⟩ := by rfl) (hi : es[i]? = some (.st cs) := by first | (apply at_map; assumption) | fail) (hj : cs[j]? = some (.ow kk (ll.map f)) := by rfl) (hb : Nat.beq b n = false := by rfl)
    (hs : cs.set j (.hs n 0 ll.length ll.length) = vs := by first | exact frcS | fail) : WL Γ T (o d (.ld none x) :: l) ⟨e, H, n, z⟩ K := g_ldf hx hB hi hj hb hs k
theorem u1 {α : Type} {f : α → V} {ll : List α} {es cs vs : List V} {x : O} {b i j k1 kk : Nat}
    (k : WL Γ T l ⟨up e d (.hs n 0 ll.length ll.length), up (up H n (some ⟨kk, ll.map f, false⟩)) b (some ⟨k1, es.set i (.st vs), false⟩), n + 1, z⟩ K)
    (hx : val e x = .hf b i j := by rfl) (hB : H b = some ⟨k1, es.set i (.st cs), false⟩ := by rfl) (hi : i < es.length := by first | assumption | (simp only [List.length_map]; omega) | fail) (hj : cs[j]? = some (.ow kk (ll.map f)) := by rfl) (hb : Nat.beq b n = false := by rfl)
    (hs : cs.set j (.hs n 0 ll.length ll.length) = vs := by first | exact frcS | fail) : WL Γ T (o d (.ld none x) :: l) ⟨e, H, n, z⟩ K :=
  g_ldf hx hB (at_set hi) hj hb hs (by rw [List.set_set]; exact k)
theorem u2 {α : Type} {f : α → V} {ll : List α} {es : List V} {x : O} {b i k1 kk : Nat}
    (k : WL Γ T l ⟨up e d (.hs n 0 ll.length ll.length), up (up H n (some ⟨kk, ll.map f, false⟩)) b (some ⟨k1, es.set i (.hs n 0 ll.length ll.length), false⟩), n + 1, z⟩ K)
    (hx : val e x = .hp b i := by rfl) (hB : H b = some ⟨k1, es, false⟩ := by rfl) (hi : es[i]? = some (.ow kk (ll.map f)) := by first | (apply at_map; assumption) | fail) (hb : Nat.beq b n = false := by rfl) : WL Γ T (o d (.ld none x) :: l) ⟨e, H, n, z⟩ K := g_ldp hx hB hi hb k
theorem u3 {α : Type} {f : α → V} {ll : List α} {es : List V} {x : O} {b i k1 kk : Nat}
    (k : WL Γ T l ⟨up e d (.st [.hs n 0 ll.length ll.length]), up (up H n (some ⟨kk, ll.map f, false⟩)) b (some ⟨k1, es.set i (.st [.hs n 0 ll.length ll.length]), false⟩), n + 1, z⟩ K)
    (hx : val e x = .hp b i := by rfl) (hB : H b = some ⟨k1, es, false⟩ := by rfl) (hi : es[i]? = some (.st [.ow kk (ll.map f)]) := by first | (apply at_map; assumption) | fail) (hb : Nat.beq b n = false := by rfl) : WL Γ T (o d (.ld (some 1) x) :: l) ⟨e, H, n, z⟩ K := g_lds hx hB hi hb k
/-- A list of the frame's own is lent to a function that reads it (and may share what else it reads). -/
theorem cp {α : Type} {f : Nat} {fo : O} {xs : List O} {g : α → V} {ll : List α} {a w t v : V} {b m c kk : Nat} {H' : Nat → Option Blk} {n' : Nat} (hc : CALLB Γ T f [.ro, .io] [a, ioT kk g ll] = some (t, [ioT kk g ll]))
    (k0 : WL Γ T l ⟨up e d v, H', n', z⟩ K)
    (hf : fnOf (val e fo) = some (f, []) := by rfl) (hv : xs.map (val e) = [w, .hs b 0 m c] := by first | exact frcL | fail) (hu : (xs.all fun x => !isUn (val e x)) = true := by rfl) (hm : Γ.md f = some [.ro, .io] := by first | rfl | assumption)
    (hB : H b = some ⟨kk, ll.map g, false⟩ := by rfl) (hml : m = ll.length := by first | rfl | assumption) (hs : snapB DEP H w = some (a, []) := by first | exact snA | fail) (ht : takeB DEP t ⟨e, H, n, z⟩ = some (v, ⟨e, H', n', z⟩) := by first | exact tkA | fail) (ok : ∀ a, okD 7 (g a) = true := by exact fun _ => okA) : WL Γ T (o d (.ca fo xs) :: l) ⟨e, H, n, z⟩ K := by
  have h1 : handB H [.ro, .io] [w, .hs b 0 m c] = some ([a, ioT kk g ll], [], if ll = [] then [] else [b]) := by
    simp only [handB, List.headD_cons, hs, Option.map_some, List.tail_cons, le_hs (c := c) hB hml ok, List.append_nil, List.nil_append]
  by_cases h0 : ll = []
  · subst h0
    simp only [List.length_nil] at hml
    subst hml
    refine g_of (wo_callv (s1 := ⟨e, H, n, z⟩) hf hu (by rw [hv]; rfl) hm h1 ⟨by simp, by simp⟩ hc rfl ?_ ht ⟨rfl, rfl⟩) k0
    simp only [if_true]
    show backLB H [.hs b 0 0 c] [.sl []] _ = _
    simp only [backLB, back1B, backVB, if_true, and_self, S.mem, kill_nil']
  · rw [ioT_ne h0] at h1 hc
    rw [if_neg h0] at h1
    refine g_of (wo_callv (s1 := ⟨e, H, n, z⟩) hf hu (by rw [hv]; rfl) hm h1 (by simp) hc rfl ?_ ht ⟨rfl, rfl⟩) k0
    show backLB H [.hs b 0 m c] [.ow kk (ll.map g)] _ = _
    have he : ll.map g ≠ [] := by simpa using h0
    have hok : allL (okD DEP) (ll.map g) = true := allL_iff.2 fun v hv => by
      obtain ⟨a, _, rfl⟩ := List.mem_map.1 hv
      exact okD_mono (ok a)
    simp only [backLB, back1B, backVB, if_neg he, hB]
    rw [if_pos ⟨trivial, by simpa using hml, by simp [hml], trivial, hok⟩]
    simp only [S.blk, S.mem, killU_eq, killU, up_eq]
    refine congrArg some ?_
    have : up (up H b none) b (some ⟨kk, ll.map g, false⟩) = H := by
      have h2 : up (up H b none) b (some ⟨kk, ll.map g, false⟩) = up H b (some ⟨kk, ll.map g, false⟩) := by
        funext j; unfold up; cases Nat.beq j b <;> rfl
      rw [h2, up_id H b _ hB]
    rw [this]
end
attribute [irreducible] IoQ IoS
end Go.Am
