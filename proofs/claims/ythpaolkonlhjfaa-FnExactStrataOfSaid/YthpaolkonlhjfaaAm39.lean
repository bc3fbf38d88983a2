/- The B-machine, part 16: one operation at a time, on states written out. -/
import Derived.Test.YthpaolkonlhjfaaAm38
import Derived.Lib.Strings
set_option linter.all false
namespace Go.Am

/-- As 'upd', told by a test that is computed. -/
def up {α : Type} (f : Nat → α) (i : Nat) (v : α) : Nat → α := fun j => bif Nat.beq j i then v else f j
theorem up_eq {α : Type} (f : Nat → α) (i : Nat) (v : α) : upd f i v = up f i v := by
  funext j
  unfold upd up
  by_cases h : j = i
  · subst h; simp
  · have : Nat.beq j i = false := by
      cases hb : Nat.beq j i with
      | false => rfl
      | true => exact absurd (Nat.eq_of_beq_eq_true hb) h
    rw [if_neg h, this]; rfl
theorem up_id {α : Type} (f : Nat → α) (i : Nat) (v : α) (h : f i = v) : up f i v = f := by
  rw [← up_eq]; funext j; unfold upd; split <;> simp_all

/-- Two ways. -/
structure Br (p q A B : Prop) : Prop where
  l : p → A
  r : q → B

section
variable {Γ : Env} {T : Nat → Option FB} {e : Nat → V} {H : Nat → Option Blk} {n : Nat} {z : Bool} {l : List I} {K : S → Prop} {Q : R → Prop} {d : Nat}

theorem g_op {a : A} {v : V} {H' : Nat → Option Blk} {n' : Nat} (h : opB (callB Γ T (EXB Γ T)) ⟨e, H, n, z⟩ a = some (v, ⟨e, H', n', z⟩)) (k : WL Γ T l ⟨up e d v, H', n', z⟩ K) : WL Γ T (o d a :: l) ⟨e, H, n, z⟩ K :=
  wr_op (wo_of h (by rw [← up_eq] at k; exact k))
theorem g_of {a : A} {v : V} {H' : Nat → Option Blk} {n' : Nat} (h : WO Γ T a ⟨e, H, n, z⟩ fun w s => w = v ∧ s = ⟨e, H', n', z⟩) (k : WL Γ T l ⟨up e d v, H', n', z⟩ K) : WL Γ T (o d a :: l) ⟨e, H, n, z⟩ K := by
  refine wr_op ?_
  rw [← up_eq] at k
  have h' := h
  unfold WO at h' ⊢
  obtain ⟨w, s, h1, rfl, rfl⟩ := h'
  exact ⟨_, _, h1, k⟩
theorem g_op0 {a : A} {v : V} {H' : Nat → Option Blk} {n' : Nat} (h : opB (callB Γ T (EXB Γ T)) ⟨e, H, n, z⟩ a = some (v, ⟨e, H', n', z⟩)) (k : WL Γ T l ⟨e, H', n', z⟩ K) : WL Γ T (oo a :: l) ⟨e, H, n, z⟩ K :=
  wr_op (wo_of h k)

/-! Guards. -/
theorem g_gt {t : Nat} {w : Bool} {a : A} (hb : e t = .b w) (k : WL Γ T (o d a :: l) ⟨e, H, n, z⟩ K) : WL Γ T (og d t w a :: l) ⟨e, H, n, z⟩ K := by
  unfold WL at k ⊢
  obtain ⟨s1, h1, h2⟩ := k
  refine ⟨s1, ?_, h2⟩
  rw [runB_cons] at h1 ⊢
  simpa only [guardA, hb, beq_self_eq_true] using h1
theorem g_gf {t : Nat} {w : Bool} {a : A} (hb : e t = .b (!w)) (k : WL Γ T l ⟨up e d .un, H, n, z⟩ K) : WL Γ T (og d t w a :: l) ⟨e, H, n, z⟩ K :=
  wr_gf hb rfl (by rw [← up_eq] at k; exact k)
theorem g_gt0 {t : Nat} {w : Bool} {a : A} (hb : e t = .b w) (k : WL Γ T (oo a :: l) ⟨e, H, n, z⟩ K) : WL Γ T (oog t w a :: l) ⟨e, H, n, z⟩ K := by
  unfold WL at k ⊢
  obtain ⟨s1, h1, h2⟩ := k
  refine ⟨s1, ?_, h2⟩
  rw [runB_cons] at h1 ⊢
  simpa only [guardA, hb, beq_self_eq_true] using h1
theorem g_gf0 {t : Nat} {w : Bool} {a : A} (hb : e t = .b (!w)) (k : WL Γ T l ⟨e, H, n, z⟩ K) : WL Γ T (oog t w a :: l) ⟨e, H, n, z⟩ K :=
  wr_gf hb rfl k

/-- What a truth value says. -/
structure Says (c : Bool) (p q : Prop) : Prop where
  t : c = true → p
  f : c = false → q
theorem says_d {p : Prop} [Decidable p] : Says (decide p) p (¬ p) := ⟨of_decide_eq_true, of_decide_eq_false⟩
theorem says_e {α : Type} [DecidableEq α] {x y : α} : Says (x == y) (x = y) (x ≠ y) := ⟨by simp, by simp⟩
theorem says_n {c : Bool} {p q : Prop} (h : Says c p q) : Says (!c) q p := ⟨fun h1 => h.f (by simpa using h1), fun h1 => h.t (by simpa using h1)⟩
theorem says_b {c : Bool} : Says c (c = true) (c = false) := ⟨id, id⟩
/-- A guard: the cases. -/
theorem g_gc {a : List I} {t : Nat} {c : Bool} {p q : Prop} (hb : e t = .b c) (hs : Says c p q) (k : Br p q (WL Γ T a ⟨up e t (.b true), H, n, z⟩ K) (WL Γ T a ⟨up e t (.b false), H, n, z⟩ K)) : WL Γ T a ⟨e, H, n, z⟩ K := by
  cases c with
  | true => have := k.l (hs.t rfl); rwa [up_id e t _ hb] at this
  | false => have := k.r (hs.f rfl); rwa [up_id e t _ hb] at this
theorem g_gcg {t : Nat} {w : Bool} {a : A} {c : Bool} {p q : Prop} (hb : e t = .b c) (hs : Says c p q) (k : Br p q (WL Γ T (og d t w a :: l) ⟨up e t (.b true), H, n, z⟩ K) (WL Γ T (og d t w a :: l) ⟨up e t (.b false), H, n, z⟩ K)) : WL Γ T (og d t w a :: l) ⟨e, H, n, z⟩ K := g_gc hb hs k
theorem g_gcg0 {t : Nat} {w : Bool} {a : A} {c : Bool} {p q : Prop} (hb : e t = .b c) (hs : Says c p q) (k : Br p q (WL Γ T (oog t w a :: l) ⟨up e t (.b true), H, n, z⟩ K) (WL Γ T (oog t w a :: l) ⟨up e t (.b false), H, n, z⟩ K)) : WL Γ T (oog t w a :: l) ⟨e, H, n, z⟩ K := g_gc hb hs k
theorem g_cond {x : O} {a b : CB} {c : Bool} {p q : Prop} (hc : val e x = .b c) (hs : Says c p q) (k : Br p q (WP Γ T a ⟨e, H, n, z⟩ Q) (WP Γ T b ⟨e, H, n, z⟩ Q)) : WP Γ T (.cond x a b) ⟨e, H, n, z⟩ Q :=
  wp_cond hc (fun h => k.l (hs.t h)) fun h => k.r (hs.f h)
theorem g_condT {x : O} {a b : CB} (hc : val e x = .b true) (k : WP Γ T a ⟨e, H, n, z⟩ Q) : WP Γ T (.cond x a b) ⟨e, H, n, z⟩ Q :=
  wp_cond hc (fun _ => k) fun h => by cases h
theorem g_condF {x : O} {a b : CB} (hc : val e x = .b false) (k : WP Γ T b ⟨e, H, n, z⟩ Q) : WP Γ T (.cond x a b) ⟨e, H, n, z⟩ Q :=
  wp_cond hc (fun h => by cases h) fun _ => k

theorem ibeq (a b : Int) : (a == b) = decide (a = b) := by by_cases h : a = b <;> simp [h]
/-! Operations. -/
theorem g_mv {x : O} {v : V} (h : val e x = v) (k : WL Γ T l ⟨up e d v, H, n, z⟩ K) : WL Γ T (o d (.mv x) :: l) ⟨e, H, n, z⟩ K := g_op (by rw [← h]; rfl) k
theorem g_ld {q : Option Nat} {x : O} {v : V} (h : derefB H (val e x) = some v) (hf : v.fits q = true) (k : WL Γ T l ⟨up e d v, H, n, z⟩ K) : WL Γ T (o d (.ld q x) :: l) ⟨e, H, n, z⟩ K :=
  g_op (by simp only [opB, ldB, h, hf, if_true]) k
theorem g_fah {x : O} {j b i : Nat} (h : val e x = .hp b i) (k : WL Γ T l ⟨up e d (.hf b i j), H, n, z⟩ K) : WL Γ T (o d (.fa j x) :: l) ⟨e, H, n, z⟩ K := g_op (by simp only [opB, opA, h]) k
theorem g_far {x : O} {j : Nat} {cs : List V} {c : V} (h : val e x = .rp (.st cs)) (hc : cs[j]? = some c) (ho : c.okc = true) (k : WL Γ T l ⟨up e d (.rp c), H, n, z⟩ K) : WL Γ T (o d (.fa j x) :: l) ⟨e, H, n, z⟩ K :=
  g_op (by simp only [opB, opA, h, hc, Option.bind_some, ho, if_true]) k
theorem g_fd {x : O} {j : Nat} {cs : List V} {c : V} (h : val e x = .st cs) (hc : cs[j]? = some c) (k : WL Γ T l ⟨up e d c, H, n, z⟩ K) : WL Γ T (o d (.fd j x) :: l) ⟨e, H, n, z⟩ K :=
  g_op (by simp only [opB, opA, h, hc, Option.map_some]) k
theorem g_lnL {α : Type} {f : α → V} {xs : List α} {x : O} (h : val e x = .sl (xs.map f)) (k : WL Γ T l ⟨up e d (.i (xs.length : Nat)), H, n, z⟩ K) : WL Γ T (o d (.ln x) :: l) ⟨e, H, n, z⟩ K :=
  g_op (by simp only [opB, opA, h, vlen, List.length_map]) k
theorem g_ln {x : O} {m : Nat} (h : vlen (val e x) = some m) (k : WL Γ T l ⟨up e d (.i (m : Nat)), H, n, z⟩ K) : WL Γ T (o d (.ln x) :: l) ⟨e, H, n, z⟩ K :=
  g_op (by simp only [opB, opA, h]) k
theorem g_ls {x : O} {s : ByteArray} (h : val e x = .s s) (k : WL Γ T l ⟨up e d (.i (s.size : Nat)), H, n, z⟩ K) : WL Γ T (o d (.ls x) :: l) ⟨e, H, n, z⟩ K :=
  g_op (by simp only [opB, opA, h]) k
theorem g_bi {op : BinOp} {x y : O} {u w r : Value} (hx : val e x = .im u) (hy : val e y = .im w) (h : abin op u w = some r) (k : WL Γ T l ⟨up e d (.im r), H, n, z⟩ K) : WL Γ T (o d (.bi op x y) :: l) ⟨e, H, n, z⟩ K :=
  g_op (by simp only [opB, opA, hx, hy, h, Option.map_some]) k
section
variable {x y : O} {a b : Int} (hx : val e x = .i a) (hy : val e y = .i b)
include hx hy
theorem g_lss (k : WL Γ T l ⟨up e d (.b (decide (a < b))), H, n, z⟩ K) : WL Γ T (o d (.bi .lss x y) :: l) ⟨e, H, n, z⟩ K := g_bi hx hy rfl k
theorem g_leq (k : WL Γ T l ⟨up e d (.b (decide (a ≤ b))), H, n, z⟩ K) : WL Γ T (o d (.bi .leq x y) :: l) ⟨e, H, n, z⟩ K := g_bi hx hy rfl k
theorem g_gtr (k : WL Γ T l ⟨up e d (.b (decide (b < a))), H, n, z⟩ K) : WL Γ T (o d (.bi .gtr x y) :: l) ⟨e, H, n, z⟩ K := g_bi hx hy rfl k
theorem g_geq (k : WL Γ T l ⟨up e d (.b (decide (b ≤ a))), H, n, z⟩ K) : WL Γ T (o d (.bi .geq x y) :: l) ⟨e, H, n, z⟩ K := g_bi hx hy rfl k
theorem g_eql (k : WL Γ T l ⟨up e d (.b (decide (a = b))), H, n, z⟩ K) : WL Γ T (o d (.bi .eql x y) :: l) ⟨e, H, n, z⟩ K := g_bi hx hy (by simp only [abin, if_true, aint, ibeq]) k
theorem g_neq (k : WL Γ T l ⟨up e d (.b (!decide (a = b))), H, n, z⟩ K) : WL Γ T (o d (.bi .neq x y) :: l) ⟨e, H, n, z⟩ K := g_bi hx hy (by simp only [abin, if_true, aint, bne, ibeq]) k
theorem g_add (h : -9223372036854775808 ≤ a + b ∧ a + b ≤ 9223372036854775807) (k : WL Γ T l ⟨up e d (.i (a + b)), H, n, z⟩ K) : WL Γ T (o d (.bi .add x y) :: l) ⟨e, H, n, z⟩ K :=
  g_bi hx hy (by simp only [abin, if_true, aint]; rw [wrap_id h.1 h.2]) k
theorem g_sub (h : -9223372036854775808 ≤ a - b ∧ a - b ≤ 9223372036854775807) (k : WL Γ T l ⟨up e d (.i (a - b)), H, n, z⟩ K) : WL Γ T (o d (.bi .sub x y) :: l) ⟨e, H, n, z⟩ K :=
  g_bi hx hy (by simp only [abin, if_true, aint]; rw [wrap_id h.1 h.2]) k
theorem g_mul (h : -9223372036854775808 ≤ a * b ∧ a * b ≤ 9223372036854775807) (k : WL Γ T l ⟨up e d (.i (a * b)), H, n, z⟩ K) : WL Γ T (o d (.bi .mul x y) :: l) ⟨e, H, n, z⟩ K :=
  g_bi hx hy (by simp only [abin, if_true, aint]; rw [wrap_id h.1 h.2]) k
end
theorem g_inc {x : O} {a : Nat} (hx : val e x = .i (a : Nat)) (h : a < 9223372036854775807) (k : WL Γ T l ⟨up e d (.i ((a + 1 : Nat) : Int)), H, n, z⟩ K) : WL Γ T (o d (.bi .add x (.n 1)) :: l) ⟨e, H, n, z⟩ K :=
  g_add hx rfl (by omega) k
theorem toList_inj {a b : ByteArray} (h : a.toList = b.toList) : a = b := by
  rw [Lib.toList_data, Lib.toList_data] at h
  cases a; cases b
  simpa using h
section
variable {x y : O} {a b : ByteArray} (hx : val e x = .s a) (hy : val e y = .s b)
include hx hy
theorem g_seq (k : WL Γ T l ⟨up e d (.b (decide (a = b))), H, n, z⟩ K) : WL Γ T (o d (.bi .eql x y) :: l) ⟨e, H, n, z⟩ K := g_bi hx hy (by
  simp only [abin]; congr 2
  by_cases h : a = b
  · subst h; simp
  · rw [decide_eq_false h]; simpa using fun hh => h (toList_inj hh)) k
theorem g_sne (k : WL Γ T l ⟨up e d (.b (!decide (a = b))), H, n, z⟩ K) : WL Γ T (o d (.bi .neq x y) :: l) ⟨e, H, n, z⟩ K := g_bi hx hy (by
  simp only [abin]; congr 3
  by_cases h : a = b
  · subst h; simp
  · rw [decide_eq_false h]; simpa using fun hh => h (toList_inj hh)) k
theorem g_sadd (h : a.size + b.size ≤ 9223372036854775807) (k : WL Γ T l ⟨up e d (.s (a ++ b)), H, n, z⟩ K) : WL Γ T (o d (.bi .add x y) :: l) ⟨e, H, n, z⟩ K := g_bi hx hy (by
  simp only [abin]; rw [if_neg]; show ¬ (((a.size + b.size : Nat) : Int) > 9223372036854775807); omega) k
end
section
variable {x y : O} {a b : Bool} (hx : val e x = .b a)
include hx
theorem g_not (k : WL Γ T l ⟨up e d (.b (!a)), H, n, z⟩ K) : WL Γ T (o d (.un .not x) :: l) ⟨e, H, n, z⟩ K := g_op (by simp only [opB, opA, hx, aun, Option.map_some]) k
theorem g_beq (hy : val e y = .b b) (k : WL Γ T l ⟨up e d (.b (a == b)), H, n, z⟩ K) : WL Γ T (o d (.be false x y) :: l) ⟨e, H, n, z⟩ K := g_op (by simp only [opB, opA, hx, hy]; rfl) k
theorem g_bne (hy : val e y = .b b) (k : WL Γ T l ⟨up e d (.b (!(a == b))), H, n, z⟩ K) : WL Γ T (o d (.be true x y) :: l) ⟨e, H, n, z⟩ K := g_op (by simp only [opB, opA, hx, hy, if_true]) k
end
theorem g_pkT {c x y : O} {v : V} (hc : val e c = .b true) (hv : val e x = v) (k : WL Γ T l ⟨up e d v, H, n, z⟩ K) : WL Γ T (o d (.pk c x y) :: l) ⟨e, H, n, z⟩ K := g_op (by simp only [opB, opA, hc, if_true, hv]) k
theorem g_pkF {c x y : O} {v : V} (hc : val e c = .b false) (hv : val e y = v) (k : WL Γ T l ⟨up e d v, H, n, z⟩ K) : WL Γ T (o d (.pk c x y) :: l) ⟨e, H, n, z⟩ K := g_op (by simp only [opB, opA, hc, hv]; rfl) k
theorem g_cv {x : O} {k' k2 : IntKind} {a : Int} (hx : val e x = .im (.int k2 a)) (k : WL Γ T l ⟨up e d (.im (.int k' (k'.wrap a))), H, n, z⟩ K) : WL Γ T (o d (.cv k' x) :: l) ⟨e, H, n, z⟩ K := g_op (by simp only [opB, opA, hx]) k
theorem g_et {x : O} {i : Nat} {vs : List V} {v : V} (hx : val e x = .tu vs) (hv : vs[i]? = some v) (k : WL Γ T l ⟨up e d v, H, n, z⟩ K) : WL Γ T (o d (.et x i) :: l) ⟨e, H, n, z⟩ K := g_op (by simp only [opB, opA, hx, hv, Option.map_some]) k
theorem mmx_max (a b : Int) : mmx true a b = max a b := by simp only [mmx, if_true]; omega
theorem mmx_min (a b : Int) : mmx false a b = min a b := by simp only [mmx]; split <;> simp_all <;> omega
theorem g_max {x y : O} {a b : Int} (hx : val e x = .i a) (hy : val e y = .i b) (k : WL Γ T l ⟨up e d (.i (max a b)), H, n, z⟩ K) : WL Γ T (o d (.mm true [x, y]) :: l) ⟨e, H, n, z⟩ K := g_op (by simp only [opB, opA, List.map, hx, hy, mmx_max]) k
theorem g_min {x y : O} {a b : Int} (hx : val e x = .i a) (hy : val e y = .i b) (k : WL Γ T l ⟨up e d (.i (min a b)), H, n, z⟩ K) : WL Γ T (o d (.mm false [x, y]) :: l) ⟨e, H, n, z⟩ K := g_op (by simp only [opB, opA, List.map, hx, hy, mmx_min]) k
theorem g_min3 {x y w : O} {a b c : Int} (hx : val e x = .i a) (hy : val e y = .i b) (hw : val e w = .i c) (k : WL Γ T l ⟨up e d (.i (min (min a b) c)), H, n, z⟩ K) : WL Γ T (o d (.mm false [x, y, w]) :: l) ⟨e, H, n, z⟩ K := g_op (by simp only [opB, opA, List.map, hx, hy, hw, mmx_min]) k
theorem g_max3 {x y w : O} {a b c : Int} (hx : val e x = .i a) (hy : val e y = .i b) (hw : val e w = .i c) (k : WL Γ T l ⟨up e d (.i (max (max a b) c)), H, n, z⟩ K) : WL Γ T (o d (.mm true [x, y, w]) :: l) ⟨e, H, n, z⟩ K := g_op (by simp only [opB, opA, List.map, hx, hy, hw, mmx_max]) k

/-! Memory. -/
theorem g_al {v : V} {q : Option Nat} (hf : v.fits q = true) (k : WL Γ T l ⟨up e d (.hp n 0), up H n (some ⟨ksz q, [v], false⟩), n + 1, z⟩ K) : WL Γ T (o d (.al v q) :: l) ⟨e, H, n, z⟩ K :=
  g_op (by simp only [opB, opA, hf, if_true]; rw [← up_eq]; rfl) k
theorem g_bx {x : O} {v : V} {q : Option Nat} (hx : val e x = v) (hf : v.fits q = true) (k : WL Γ T l ⟨up e d (.hp n 0), up H n (some ⟨ksz q, [v], false⟩), n + 1, z⟩ K) : WL Γ T (o d (.bx q x) :: l) ⟨e, H, n, z⟩ K :=
  g_op (by simp only [opB, opA, hx, hf, if_true]; rw [← up_eq]; rfl) k
theorem g_bs {xs : List O} {vs : List V} {q : Option Nat} (hx : xs.map (val e) = vs) (hf : vs.all (·.fits q) = true) (k : WL Γ T l ⟨up e d (.hs n 0 xs.length xs.length), up H n (some ⟨ksz q, vs, false⟩), n + 1, z⟩ K) : WL Γ T (o d (.bs q xs) :: l) ⟨e, H, n, z⟩ K :=
  g_op (by simp only [opB, opA, hx, hf, if_true]; rw [← up_eq]; rfl) k
theorem g_bd {cs vs : List V} {ps : List (Nat × O)} (ho : ((ps.map fun p => val e p.2).all V.okc) = true) (hv : ps.foldl (fun cs p => cs.set p.1 (val e p.2)) cs = vs) (k : WL Γ T l ⟨up e d (.st vs), H, n, z⟩ K) : WL Γ T (o d (.bd cs ps) :: l) ⟨e, H, n, z⟩ K :=
  g_op (by simp only [opB, opA, ho, if_true, hv]) k
theorem g_mf {f : Nat} {xs : List O} {vs : List V} (hv : xs.map (val e) = vs) (ho : vs.all V.okc = true) (k : WL Γ T l ⟨up e d (.cl f vs), H, n, z⟩ K) : WL Γ T (o d (.mf f xs) :: l) ⟨e, H, n, z⟩ K :=
  g_op (by simp only [opB, opA, hv, ho, if_true]) k
theorem g_so {q : Option Nat} {p x : O} {b i : Nat} {kk : Nat} {es es' : List V} {v : V} (hp : val e p = .hp b i) (hB : H b = some ⟨kk, es, false⟩) (hx : val e x = v) (hi : i < es.length) (hk : kk = ksz q) (hf : v.fits q = true) (he : es.set i v = es')
    (k : WL Γ T l ⟨e, up H b (some ⟨kk, es', false⟩), n, z⟩ K) : WL Γ T (oo (.so q p x) :: l) ⟨e, H, n, z⟩ K :=
  g_op0 (v := .un) (by simp only [opB, opA, hp, storeAt, hB, hx]; rw [if_pos ⟨trivial, hi, hk, hf⟩]; simp only [he, up_eq]) k
theorem g_sof {q : Option Nat} {p x : O} {b j : Nat} {kk : Nat} {cs cs' : List V} {v : V} (hp : val e p = .hf b 0 j) (hB : H b = some ⟨kk, [.st cs], false⟩) (hx : val e x = v) (hj : j < cs.length) (hq : q = none) (hf : v.okc = true) (he : cs.set j v = cs')
    (k : WL Γ T l ⟨e, up H b (some ⟨kk, [.st cs'], false⟩), n, z⟩ K) : WL Γ T (oo (.so q p x) :: l) ⟨e, H, n, z⟩ K :=
  g_op0 (v := .un) (by simp only [opB, opA, hp, storeAt, hB, hx, List.getElem?_cons_zero]; rw [if_pos ⟨trivial, hj, hq, hf⟩]; simp only [List.set_cons_zero, he, up_eq]) k
theorem g_soL {α : Type} {f : α → V} {es : List α} {a : α} {q : Option Nat} {p x : O} {b i : Nat} {kk : Nat} (hp : val e p = .hp b i) (hB : H b = some ⟨kk, es.map f, false⟩) (hx : val e x = f a) (hi : i < es.length) (hk : kk = ksz q) (hf : (f a).fits q = true)
    (k : WL Γ T l ⟨e, up H b (some ⟨kk, (es.set i a).map f, false⟩), n, z⟩ K) : WL Γ T (oo (.so q p x) :: l) ⟨e, H, n, z⟩ K :=
  g_so hp hB hx (by simpa using hi) hk hf (by rw [List.map_set]) k
theorem g_ms {v : V} {q : Option Nat} {x y : O} {m c : Nat} (hx : val e x = .i (m : Nat)) (hy : val e y = .i (c : Nat)) (h1 : m ≤ c) (h2 : c ≤ 2 ^ 36) (hf : v.fits q = true) (k : WL Γ T l ⟨up e d (.hs n 0 m c), up H n (some ⟨ksz q, List.replicate c v, false⟩), n + 1, z⟩ K) : WL Γ T (o d (.ms v q x y) :: l) ⟨e, H, n, z⟩ K :=
  g_op (by
    simp only [opB, opA, hx, hy]
    rw [if_pos ⟨by omega, by omega, by unfold LIM; omega, hf⟩, ← up_eq]
    rfl) k
theorem g_msZ {v : V} {q : Option Nat} {x y : O} {m c : Int} (hx : val e x = .i m) (hy : val e y = .i c) (h0 : 0 ≤ m) (h1 : m ≤ c) (h2 : c ≤ 2 ^ 36) (hf : v.fits q = true) (k : WL Γ T l ⟨up e d (.hs n 0 m.toNat c.toNat), up H n (some ⟨ksz q, List.replicate c.toNat v, false⟩), n + 1, z⟩ K) : WL Γ T (o d (.ms v q x y) :: l) ⟨e, H, n, z⟩ K :=
  g_ms (m := m.toNat) (c := c.toNat) (by rw [hx]; congr 2; omega) (by rw [hy]; congr 2; omega) (by omega) (by omega) hf k

/-! Indexing. -/
theorem g_iaL {α : Type} {f : α → V} {xs : List α} {q : Option Nat} {x i : O} {m : Nat} {a : α} (hx : val e x = .sl (xs.map f)) (hi : val e i = .i (m : Nat)) (he : xs[m]? = some a) (hs : (f a).size = ksz q) (k : WL Γ T l ⟨up e d (.rp (f a)), H, n, z⟩ K) : WL Γ T (o d (.ia q x i) :: l) ⟨e, H, n, z⟩ K :=
  g_of (wo_iaL hx hi he hs ⟨rfl, rfl⟩) k
theorem g_iaZ {α : Type} {f : α → V} {xs : List α} {q : Option Nat} {x i : O} {m : Int} {a : α} (hx : val e x = .sl (xs.map f)) (hi : val e i = .i m) (h0 : 0 ≤ m) (he : xs[m.toNat]? = some a) (hs : (f a).size = ksz q) (k : WL Γ T l ⟨up e d (.rp (f a)), H, n, z⟩ K) : WL Γ T (o d (.ia q x i) :: l) ⟨e, H, n, z⟩ K :=
  g_of (wo_iaZ hx hi h0 he hs ⟨rfl, rfl⟩) k
/-- An element of which is known only that it is there. -/
structure An {α : Type} (xs : List α) (m : Nat) (P : α → Prop) : Prop where
  k : ∀ a, xs[m]? = some a → P a
theorem g_iaN {α : Type} {f : α → V} {xs : List α} {q : Option Nat} {x i : O} {m : Nat} (hx : val e x = .sl (xs.map f)) (hi : val e i = .i (m : Nat)) (h : m < xs.length) (hs : ∀ a, (f a).size = ksz q) (k : An xs m fun a => WL Γ T l ⟨up e d (.rp (f a)), H, n, z⟩ K) : WL Γ T (o d (.ia q x i) :: l) ⟨e, H, n, z⟩ K :=
  g_iaL hx hi (List.getElem?_eq_getElem h) (hs _) (k.k _ (List.getElem?_eq_getElem h))
theorem g_iaM {α : Type} {f : α → V} {xs : List α} {q : Option Nat} {x i : O} {m : Int} (hx : val e x = .sl (xs.map f)) (hi : val e i = .i m) (h0 : 0 ≤ m) (h : m < xs.length) (hs : ∀ a, (f a).size = ksz q) (k : An xs m.toNat fun a => WL Γ T l ⟨up e d (.rp (f a)), H, n, z⟩ K) : WL Γ T (o d (.ia q x i) :: l) ⟨e, H, n, z⟩ K :=
  g_iaZ hx hi h0 (List.getElem?_eq_getElem (h := by omega)) (hs _) (k.k _ (List.getElem?_eq_getElem (by omega)))
theorem g_ihN {q : Option Nat} {x i : O} {b m c j : Nat} {B : Blk} (hx : val e x = .hs b 0 m c) (hi : val e i = .i (j : Nat)) (hB : H b = some B) (h : j < m) (hk : B.k = ksz q) (k : WL Γ T l ⟨up e d (.hp b j), H, n, z⟩ K) : WL Γ T (o d (.ia q x i) :: l) ⟨e, H, n, z⟩ K :=
  g_of (wo_ihN hx hi hB h hk ⟨rfl, rfl⟩) k
theorem g_ihM {q : Option Nat} {x i : O} {b m c : Nat} {j : Int} {B : Blk} (hx : val e x = .hs b 0 m c) (hi : val e i = .i j) (hB : H b = some B) (h0 : 0 ≤ j) (h : j < m) (hk : B.k = ksz q) (k : WL Γ T l ⟨up e d (.hp b j.toNat), H, n, z⟩ K) : WL Γ T (o d (.ia q x i) :: l) ⟨e, H, n, z⟩ K :=
  g_of (wo_ihM hx hi hB ⟨h0, h⟩ hk ⟨rfl, rfl⟩) k
theorem g_ldL {α : Type} {f : α → V} {es : List α} {q : Option Nat} {x : O} {b j kk : Nat} {fr : Bool} {a : α} (hx : val e x = .hp b j) (hB : H b = some ⟨kk, es.map f, fr⟩) (h : es[j]? = some a) (hf : (f a).fits q = true) (k : WL Γ T l ⟨up e d (f a), H, n, z⟩ K) : WL Γ T (o d (.ld q x) :: l) ⟨e, H, n, z⟩ K :=
  g_ld (by simp [derefB, hx, hB, h]) hf k
theorem g_ldN {α : Type} {f : α → V} {es : List α} {q : Option Nat} {x : O} {b j kk : Nat} {fr : Bool} (hx : val e x = .hp b j) (hB : H b = some ⟨kk, es.map f, fr⟩) (h : j < es.length) (hf : ∀ a, (f a).fits q = true) (k : An es j fun a => WL Γ T l ⟨up e d (f a), H, n, z⟩ K) : WL Γ T (o d (.ld q x) :: l) ⟨e, H, n, z⟩ K :=
  g_ldL hx hB (List.getElem?_eq_getElem h) (hf _) (k.k _ (List.getElem?_eq_getElem h))
theorem g_ix {x i : O} {s : ByteArray} {m : Nat} (hx : val e x = .s s) (hi : val e i = .i (m : Nat)) (h : m < s.size) (k : WL Γ T l ⟨up e d (.u (s[m]'h).toNat), H, n, z⟩ K) : WL Γ T (o d (.ix x i) :: l) ⟨e, H, n, z⟩ K := by
  refine g_op (v := .u (s[m]'h).toNat) ?_ k
  simp only [opB, opA, hx, hi, asI]
  rw [if_pos (Int.natCast_nonneg m)]
  simp only [Int.toNat_natCast, getElem?_pos s m h]
theorem g_ss {x : O} {lo hi : Option O} {s : ByteArray} {a b : Int} (hx : val e x = .s s) (hl : bndOf 0 (lo.map (val e)) = some a) (hh : bndOf s.size (hi.map (val e)) = some b) (h : 0 ≤ a ∧ a ≤ b ∧ b ≤ s.size) (k : WL Γ T l ⟨up e d (.s (s.extract a.toNat b.toNat)), H, n, z⟩ K) : WL Γ T (o d (.ss x lo hi) :: l) ⟨e, H, n, z⟩ K :=
  g_op (by simp only [opB, opA, hx, hl, hh]; rw [if_pos h]) k
theorem g_scr {α : Type} {f : α → V} {xs : List α} {q : Option Nat} {x : O} {lo hi : Option O} {a b : Int} (hx : val e x = .sl (xs.map f)) (hq : ∀ a, (f a).fits q = true) (hl : bndOf 0 (lo.map (val e)) = some a) (hh : bndOf xs.length (hi.map (val e)) = some b) (h : 0 ≤ a ∧ a ≤ b ∧ b ≤ xs.length) (k : WL Γ T l ⟨up e d (.sl (((xs.take b.toNat).drop a.toNat).map f)), H, n, z⟩ K) : WL Γ T (o d (.sc q x lo hi none) :: l) ⟨e, H, n, z⟩ K :=
  g_op (by
    simp only [opB, opA, hx, Option.map_none]
    rw [if_pos (by simp [hq])]
    simp only [sliceOf, hl, List.length_map, hh]
    rw [if_pos h]
    simp [List.map_take, List.map_drop]) k

/-! Appending. -/
theorem g_ap1 {q : Option Nat} {x y : O} {b m : Nat} {es : List V} {kk : Nat} {v : V} (hx : val e x = .hs b 0 m m) (hB : H b = some ⟨kk, es, false⟩) (hy : elems H (val e y) = some [v]) (hn : m = es.length) (hk : kk = ksz q) (hf : v.fits q = true) (hl : m < 2 ^ 36)
    (k : WL Γ T l ⟨up e d (.hs n 0 (m + 1) (m + 1)), up (up H b none) n (some ⟨kk, es ++ [v], false⟩), n + 1, z⟩ K) : WL Γ T (o d (.ap q x y) :: l) ⟨e, H, n, z⟩ K :=
  g_of (wo_ap1 hx hB hy hn hk hf hl ⟨rfl, by simp only [S.blk, S.new, up_eq]⟩) k
theorem g_apL {α : Type} {f : α → V} {es : List α} {a : α} {q : Option Nat} {x y : O} {b m : Nat} {kk : Nat} (hx : val e x = .hs b 0 m m) (hB : H b = some ⟨kk, es.map f, false⟩) (hy : elems H (val e y) = some [f a]) (hn : m = es.length) (hk : kk = ksz q) (hf : (f a).fits q = true) (hl : es.length < 2 ^ 36)
    (k : WL Γ T l ⟨up e d (.hs n 0 (es ++ [a]).length (es ++ [a]).length), up (up H b none) n (some ⟨kk, (es ++ [a]).map f, false⟩), n + 1, z⟩ K) : WL Γ T (o d (.ap q x y) :: l) ⟨e, H, n, z⟩ K :=
  g_of (wo_apL hx hB hy hn hk hf hl ⟨rfl, by simp only [S.blk, S.new, up_eq]⟩) k
theorem g_apE {q : Option Nat} {x y : O} {v : V} (hx : val e x = .e0) (hy : elems H (val e y) = some [v]) (hf : v.fits q = true)
    (k : WL Γ T l ⟨up e d (.hs n 0 1 1), up H n (some ⟨ksz q, [v], false⟩), n + 1, z⟩ K) : WL Γ T (o d (.ap q x y) :: l) ⟨e, H, n, z⟩ K :=
  g_of (wo_apE hx hy (by simp [hf]) (by simp) (by simp) ⟨rfl, by simp only [S.new, up_eq]⟩) k
theorem g_apE' {α : Type} {f : α → V} {a : α} {q : Option Nat} {x y : O} (hx : val e x = .e0) (hy : elems H (val e y) = some [f a]) (hf : (f a).fits q = true)
    (k : WL Γ T l ⟨up e d (.hs n 0 [a].length [a].length), up H n (some ⟨ksz q, [a].map f, false⟩), n + 1, z⟩ K) : WL Γ T (o d (.ap q x y) :: l) ⟨e, H, n, z⟩ K := g_apE hx hy hf k

/-! Calls. -/
theorem g_call0 {f : Nat} {xs : List O} {ts vs : List V} {t v : V} {H' : Nat → Option Blk} {n' : Nat} (hu : (xs.all fun x => !isUn (val e x)) = true) (hv : xs.map (val e) = vs) (hm : Γ.md f = some []) (hh : handB H [] vs = some (ts, [], []))
    (hc : CALLB Γ T f [] ts = some (t, [])) (ht : takeB DEP t ⟨e, H, n, z⟩ = some (v, ⟨e, H', n', z⟩)) (k : WL Γ T l ⟨up e d v, H', n', z⟩ K) :
    WL Γ T (o d (.ca (.k (.cl f [])) xs) :: l) ⟨e, H, n, z⟩ K :=
  g_of (wo_call0 hu hv hm hh hc ht ⟨rfl, rfl⟩) k
theorem g_callr {f : Nat} {fo : O} {xs : List O} {ts vs caps : List V} {rs : List Nat} {t v : V} {H' : Nat → Option Blk} {n' : Nat} (hf : fnOf (val e fo) = some (f, caps)) (hu : (xs.all fun x => !isUn (val e x)) = true) (hv : xs.map (val e) ++ caps = vs) (hm : Γ.md f = some [])
    (hh : handB H [] vs = some (ts, rs, [])) (hc : CALLB Γ T f [] ts = some (t, [])) (hr : (rs.isEmpty || free DEP t) = true) (ht : takeB DEP t ⟨e, H, n, z⟩ = some (v, ⟨e, H', n', z⟩)) (k : WL Γ T l ⟨up e d v, H', n', z⟩ K) :
    WL Γ T (o d (.ca fo xs) :: l) ⟨e, H, n, z⟩ K :=
  g_of (wo_callr hf hu hv hm hh hc hr ht ⟨rfl, rfl⟩) k
end
end Go.Am
