/- The B-machine, part 15: rules for walks whose facts are numbers and lists. -/
import Derived.Test.YthpaolkonlhjfaaAm37
set_option linter.all false
namespace Go.Am

section
variable {Γ : Env} {T : Nat → Option FB} {s : S} {K : V → S → Prop} {Q : R → Prop}

/-! Arithmetic without overflow. -/
theorem wo_add {x y : O} {a b : Int} (hx : val s.e x = .i a) (hy : val s.e y = .i b) (h : -9223372036854775808 ≤ a + b ∧ a + b ≤ 9223372036854775807) (k : K (.i (a + b)) s) : WO Γ T (.bi .add x y) s K :=
  wo_bi hx hy (by simp only [abin, if_true, aint]; rw [wrap_id h.1 h.2]) k
theorem wo_sub {x y : O} {a b : Int} (hx : val s.e x = .i a) (hy : val s.e y = .i b) (h : -9223372036854775808 ≤ a - b ∧ a - b ≤ 9223372036854775807) (k : K (.i (a - b)) s) : WO Γ T (.bi .sub x y) s K :=
  wo_bi hx hy (by simp only [abin, if_true, aint]; rw [wrap_id h.1 h.2]) k
theorem wo_mul {x y : O} {a b : Int} (hx : val s.e x = .i a) (hy : val s.e y = .i b) (h : -9223372036854775808 ≤ a * b ∧ a * b ≤ 9223372036854775807) (k : K (.i (a * b)) s) : WO Γ T (.bi .mul x y) s K :=
  wo_bi hx hy (by simp only [abin, if_true, aint]; rw [wrap_id h.1 h.2]) k
/-- One more. -/
theorem wo_inc {x : O} {a : Nat} (hx : val s.e x = .i (a : Nat)) (h : a < 9223372036854775807) (k : K (.i ((a + 1 : Nat) : Int)) s) : WO Γ T (.bi .add x (.n 1)) s K :=
  wo_add hx rfl (by omega) k

/-! Indexing of lists that are only read. -/
theorem wo_iaL {α : Type} {f : α → V} {l : List α} {q : Option Nat} {x i : O} {n : Nat} {a : α} (hx : val s.e x = .sl (l.map f)) (hi : val s.e i = .i (n : Nat)) (he : l[n]? = some a) (hs : (f a).size = ksz q) (k : K (.rp (f a)) s) : WO Γ T (.ia q x i) s K :=
  wo_ia (e := f a) hx hi (Int.natCast_nonneg n) (by simp [he]) hs k
theorem wo_iaZ {α : Type} {f : α → V} {l : List α} {q : Option Nat} {x i : O} {n : Int} {a : α} (hx : val s.e x = .sl (l.map f)) (hi : val s.e i = .i n) (h0 : 0 ≤ n) (he : l[n.toNat]? = some a) (hs : (f a).size = ksz q) (k : K (.rp (f a)) s) : WO Γ T (.ia q x i) s K :=
  wo_ia (e := f a) hx hi h0 (by simp [he]) hs k
/-- The element is named as it is met. -/
theorem wo_iaN {α : Type} {f : α → V} {l : List α} {q : Option Nat} {x i : O} {n : Nat} (hx : val s.e x = .sl (l.map f)) (hi : val s.e i = .i (n : Nat)) (h : n < l.length) (hs : ∀ a, (f a).size = ksz q) (k : ∀ a, a ∈ l → l[n]? = some a → K (.rp (f a)) s) : WO Γ T (.ia q x i) s K :=
  wo_iaL hx hi (List.getElem?_eq_getElem h) (hs _) (k _ (List.getElem_mem h) (List.getElem?_eq_getElem h))
theorem wo_iaM {α : Type} {f : α → V} {l : List α} {q : Option Nat} {x i : O} {n : Int} (hx : val s.e x = .sl (l.map f)) (hi : val s.e i = .i n) (h0 : 0 ≤ n ∧ n < l.length) (hs : ∀ a, (f a).size = ksz q) (k : ∀ a, a ∈ l → l[n.toNat]? = some a → K (.rp (f a)) s) : WO Γ T (.ia q x i) s K :=
  wo_iaZ hx hi h0.1 (List.getElem?_eq_getElem (h := by omega)) (hs _) (k _ (List.getElem_mem _) (List.getElem?_eq_getElem (by omega)))
/-- The same in a block of the frame's own. -/
theorem wo_ihN {q : Option Nat} {x i : O} {b m c n : Nat} {B : Blk} (hx : val s.e x = .hs b 0 m c) (hi : val s.e i = .i (n : Nat)) (hB : s.H b = some B) (h : n < m) (hk : B.k = ksz q) (k : K (.hp b n) s) : WO Γ T (.ia q x i) s K := wo_iah0 hx hi hB h hk k
theorem wo_ihM {q : Option Nat} {x i : O} {b m c : Nat} {n : Int} {B : Blk} (hx : val s.e x = .hs b 0 m c) (hi : val s.e i = .i n) (hB : s.H b = some B) (h : 0 ≤ n ∧ n < m) (hk : B.k = ksz q) (k : K (.hp b n.toNat) s) : WO Γ T (.ia q x i) s K :=
  wo_iah hx hi hB h.1 h.2 hk (by simpa using k)
/-- What lies there. -/
theorem wo_ldN {q : Option Nat} {x : O} {b n : Nat} {B : Blk} {v : V} (hx : val s.e x = .hp b n) (hB : s.H b = some B) (hv : B.es[n]? = some v) (hf : v.fits q = true) (k : K v s) : WO Γ T (.ld q x) s K := by
  refine wo_of (v := v) (s1 := s) ?_ k
  simp only [opB, ldB, hx, derefB, hB, Option.bind_some, hv, hf, if_true]
/-- Out of a list of plain values. -/
theorem wo_ldL {α : Type} {f : α → V} {l : List α} {q : Option Nat} {x : O} {b n : Nat} {kk : Nat} {fr : Bool} (hx : val s.e x = .hp b n) (hB : s.H b = some ⟨kk, l.map f, fr⟩) (h : n < l.length) (hf : ∀ a, (f a).fits q = true) (k : ∀ a, a ∈ l → l[n]? = some a → K (f a) s) : WO Γ T (.ld q x) s K := by
  have e : l[n]? = some l[n] := List.getElem?_eq_getElem h
  exact wo_ldN hx hB (by simp [e]) (hf _) (k _ (List.getElem_mem h) e)
theorem wo_soL {α : Type} {f : α → V} {l : List α} {a : α} {q : Option Nat} {p x : O} {b i : Nat} {kk : Nat} (hp : val s.e p = .hp b i) (hB : s.H b = some ⟨kk, l.map f, false⟩) (hx : val s.e x = f a) (hi : i < l.length) (hk : kk = ksz q) (hf : (f a).fits q = true)
    (k : K .un { s with H := upd s.H b (some ⟨kk, (l.set i a).map f, false⟩) }) : WO Γ T (.so q p x) s K :=
  wo_so hp hB rfl (by simpa using hi) hk (by rw [hx]; exact hf) (by rw [hx]; simpa [List.map_set] using k)

/-! Appending. -/
theorem wo_ap1 {q : Option Nat} {x y : O} {b n : Nat} {es : List V} {kk : Nat} {v : V} (hx : val s.e x = .hs b 0 n n) (hB : s.H b = some ⟨kk, es, false⟩) (hy : elems s.H (val s.e y) = some [v]) (hn : n = es.length) (hk : kk = ksz q) (hf : v.fits q = true) (hl : n < 2 ^ 36)
    (k : K (.hs s.nx 0 (n + 1) (n + 1)) ((s.blk b none).new kk (es ++ [v]))) : WO Γ T (.ap q x y) s K := by
  refine wo_of (v := .hs s.nx 0 (n + 1) (n + 1)) (s1 := (s.blk b none).new kk (es ++ [v])) ?_ k
  subst hk
  simp only [opB, opA, hy, List.all_cons, hf, List.all_nil, Bool.and_true, if_true, appendTo, hx, hB, List.length_singleton]
  rw [if_pos ⟨trivial, trivial, by unfold LIM; omega⟩, if_neg (by omega), if_pos (by omega)]
  simp
theorem wo_apE {q : Option Nat} {x y : O} {es : List V} (hx : val s.e x = .e0) (hy : elems s.H (val s.e y) = some es) (hf : es.all (·.fits q) = true) (hl : es.length ≤ 2 ^ 36) (h0 : es ≠ []) (k : K (.hs s.nx 0 es.length es.length) (s.new (ksz q) es)) : WO Γ T (.ap q x y) s K := by
  refine wo_of (v := .hs s.nx 0 es.length es.length) (s1 := s.new (ksz q) es) ?_ k
  simp only [opB, opA, hy, hf, if_true, appendTo, hx, h0, if_false]
  rw [if_pos (by unfold LIM; omega)]
/-- Of plain values. -/
theorem wo_apL {α : Type} {f : α → V} {l : List α} {a : α} {q : Option Nat} {x y : O} {b n : Nat} {kk : Nat} (hx : val s.e x = .hs b 0 n n) (hB : s.H b = some ⟨kk, l.map f, false⟩) (hy : elems s.H (val s.e y) = some [f a]) (hn : n = l.length) (hk : kk = ksz q) (hf : (f a).fits q = true) (hl : l.length < 2 ^ 36)
    (k : K (.hs s.nx 0 (l ++ [a]).length (l ++ [a]).length) ((s.blk b none).new kk ((l ++ [a]).map f))) : WO Γ T (.ap q x y) s K := by
  subst hn
  refine wo_ap1 hx hB hy (by simp) hk hf hl ?_
  simpa using k
theorem wo_apL0 {α : Type} {f : α → V} {a : α} {q : Option Nat} {x y : O} (hx : val s.e x = .e0) (hy : elems s.H (val s.e y) = some [f a]) (hf : (f a).fits q = true) (k : K (.hs s.nx 0 1 1) (s.new (ksz q) ([a].map f))) : WO Γ T (.ap q x y) s K :=
  wo_apE hx hy (by simp [hf]) (by simp) (by simp) k

/-! Conditions. -/
theorem wp_condD {o : O} {a b : CB} {p : Prop} [Decidable p] (hc : val s.e o = .b (decide p)) (ht : p → WP Γ T a s Q) (hf : ¬ p → WP Γ T b s Q) : WP Γ T (.cond o a b) s Q :=
  wp_cond hc (fun h => ht (of_decide_eq_true h)) fun h => hf (of_decide_eq_false h)
theorem wp_condND {o : O} {a b : CB} {p : Prop} [Decidable p] (hc : val s.e o = .b (!decide p)) (ht : ¬ p → WP Γ T a s Q) (hf : p → WP Γ T b s Q) : WP Γ T (.cond o a b) s Q :=
  wp_cond hc (fun h => ht (by simpa using h)) fun h => hf (by simpa using h)
theorem wp_condE {α : Type} [DecidableEq α] {o : O} {a b : CB} {x y : α} (hc : val s.e o = .b (x == y)) (ht : x = y → WP Γ T a s Q) (hf : x ≠ y → WP Γ T b s Q) : WP Γ T (.cond o a b) s Q :=
  wp_cond hc (fun h => ht (by simpa using h)) fun h => hf (by simpa using h)
theorem wp_condNE {α : Type} [DecidableEq α] {o : O} {a b : CB} {x y : α} (hc : val s.e o = .b (x != y)) (ht : x ≠ y → WP Γ T a s Q) (hf : x = y → WP Γ T b s Q) : WP Γ T (.cond o a b) s Q :=
  wp_cond hc (fun h => ht (by simpa using h)) fun h => hf (by simpa using h)
theorem wp_condNE' {α : Type} [DecidableEq α] {o : O} {a b : CB} {x y : α} (hc : val s.e o = .b (!(x == y))) (ht : x ≠ y → WP Γ T a s Q) (hf : x = y → WP Γ T b s Q) : WP Γ T (.cond o a b) s Q :=
  wp_cond hc (fun h => ht (by simpa using h)) fun h => hf (by simpa using h)
theorem wp_condN {o : O} {a b : CB} {c : Bool} (hc : val s.e o = .b (!c)) (ht : c = false → WP Γ T a s Q) (hf : c = true → WP Γ T b s Q) : WP Γ T (.cond o a b) s Q :=
  wp_cond hc (fun h => ht (by simpa using h)) fun h => hf (by simpa using h)

/-! Ends. -/
theorem fin_im {s : S} {l : List (Nat × Option (Option Nat))} {x y : Value} (hr : resOfB s l = some (.im y, [])) (h : y = x) : ∃ v o i, resOfB s l = some (v, o) ∧ giveB DEP s.H v = some (.im x, i) ∧ (o ++ i).Nodup := by
  subst h; exact ⟨_, _, _, hr, rfl, List.nodup_nil⟩
theorem fin_b {s : S} {l : List (Nat × Option (Option Nat))} {x y : Bool} (hr : resOfB s l = some (.b y, [])) (h : y = x) : ∃ v o i, resOfB s l = some (v, o) ∧ giveB DEP s.H v = some (.b x, i) ∧ (o ++ i).Nodup := fin_im hr (by rw [h])
theorem fin_i {s : S} {l : List (Nat × Option (Option Nat))} {x y : Int} (hr : resOfB s l = some (.i y, [])) (h : y = x) : ∃ v o i, resOfB s l = some (v, o) ∧ giveB DEP s.H v = some (.i x, i) ∧ (o ++ i).Nodup := fin_im hr (by rw [h])
theorem fin_s {s : S} {l : List (Nat × Option (Option Nat))} {x y : ByteArray} (hr : resOfB s l = some (.s y, [])) (h : y = x) : ∃ v o i, resOfB s l = some (v, o) ∧ giveB DEP s.H v = some (.s x, i) ∧ (o ++ i).Nodup := fin_im hr (by rw [h])

/-! Rounds over a list. -/
theorem rd_lt {α ρ : Type} {l : List α} {i : Nat} {F : List α → ρ} {r : ρ} (hF : F (l.drop i) = r) (h : i < l.length) : ∃ x, l[i]? = some x ∧ x ∈ l ∧ F (x :: l.drop (i + 1)) = r :=
  ⟨l[i], List.getElem?_eq_getElem h, List.getElem_mem h, by rw [← hF, List.drop_eq_getElem_cons h]⟩
theorem rd_ge {α ρ : Type} {l : List α} {i : Nat} {F : List α → ρ} {r : ρ} (hF : F (l.drop i) = r) (h : ¬ i < l.length) : F [] = r := by
  rw [← hF, List.drop_eq_nil_of_le (by omega)]
end

/-- Bounds on the length of lists, all the way down. -/
class Bnd (α : Type) where
  le : Nat → α → Prop
abbrev Bnd.ok {α : Type} [Bnd α] (a : α) : Prop := Bnd.le (2 ^ 20) a
abbrev Bnd.wf {α : Type} [Bnd α] (a : α) : Prop := Bnd.le 9223372036854775807 a
instance : Bnd Int := ⟨fun _ _ => True⟩
instance : Bnd Nat := ⟨fun _ _ => True⟩
instance : Bnd Bool := ⟨fun _ _ => True⟩
instance : Bnd UInt8 := ⟨fun _ _ => True⟩
instance : Bnd ByteArray := ⟨fun B s => s.size ≤ B⟩
instance {α : Type} [Bnd α] : Bnd (List α) := ⟨fun B l => l.length ≤ B ∧ ∀ x ∈ l, Bnd.le B x⟩
instance {α β : Type} [Bnd α] [Bnd β] : Bnd (α × β) := ⟨fun B p => Bnd.le B p.1 ∧ Bnd.le B p.2⟩
theorem ok_len {α : Type} [Bnd α] {l : List α} (h : Bnd.ok l) : l.length ≤ 2 ^ 20 := h.1
theorem wf_len {α : Type} [Bnd α] {l : List α} (h : Bnd.wf l) : l.length ≤ 9223372036854775807 := h.1
theorem ok_mem {α : Type} [Bnd α] {l : List α} {x : α} (h : Bnd.ok l) (hx : x ∈ l) : Bnd.ok x := h.2 x hx
theorem wf_mem {α : Type} [Bnd α] {l : List α} {x : α} (h : Bnd.wf l) (hx : x ∈ l) : Bnd.wf x := h.2 x hx

abbrev eI (l : List Int) : V := .sl (l.map .i)
abbrev eB (l : List Bool) : V := .sl (l.map .b)
abbrev eS (l : List ByteArray) : V := .sl (l.map .s)
abbrev eL {α : Type} (f : α → V) (l : List α) : V := .sl (l.map f)
abbrev eR (l : List Int) : V := .st [eI l]
abbrev oI (l : List Int) : V := .ow 1 (l.map .i)
abbrev oB (l : List Bool) : V := .ow 1 (l.map .b)
abbrev oS (l : List ByteArray) : V := .ow 1 (l.map .s)
abbrev oL {α : Type} (k : Nat) (f : α → V) (l : List α) : V := .ow k (l.map f)
abbrev oR (l : List Int) : V := .st [oI l]

end Go.Am
