/- The B-machine, part 23: more steps of the walker: cutting lists that are only read, appending lists. -/
import Derived.Test.YthpaolkonlhjfaaAm45
set_option linter.all false
namespace Go.Am
section
variable {Γ : Env} {T : Nat → Option FB} {e : Nat → V} {H : Nat → Option Blk} {n : Nat} {z : Bool} {l : List I} {K : S → Prop} {Q : R → Prop} {d : Nat}
theorem fitsAll {α : Type} {f : α → V} {q : Option Nat} {ll : List α} (h : ∀ a, (f a).fits q = true) : ((ll.map f).all fun e => e.fits q) = true := by
  rw [List.all_eq_true]; intro x hx; obtain ⟨a, _, rfl⟩ := List.mem_map.1 hx; exact h a
theorem g_scL {α : Type} {f : α → V} {ll : List α} {q : Option Nat} {x : O} {lo hi : Option O} {a b : Nat} (hx : val e x = .sl (ll.map f)) (hl : bndOf 0 (lo.map (val e)) = some (a : Int)) (hh : bndOf ll.length (hi.map (val e)) = some (b : Int)) (hab : a ≤ b) (hb : b ≤ ll.length) (hf : ∀ a, (f a).fits q = true)
    (k : WL Γ T l ⟨up e d (.sl (((ll.take b).drop a).map f)), H, n, z⟩ K) : WL Γ T (o d (.sc q x lo hi none) :: l) ⟨e, H, n, z⟩ K := by
  refine g_op (v := .sl (((ll.take b).drop a).map f)) ?_ k
  simp only [opB, opA, hx, fitsAll hf, if_true, Option.map_none, sliceOf]
  simp only [hl, List.length_map, hh]
  rw [if_pos ⟨by omega, by omega, by omega⟩]
  simp [List.map_take, List.map_drop]
/-- x[:b] -/
theorem u4 {α : Type} {f : α → V} {ll : List α} {q : Option Nat} {x hi : O} {b : Nat}
    (k : WL Γ T l ⟨up e d (.sl ((ll.take b).map f)), H, n, z⟩ K) (hx : val e x = .sl (ll.map f) := by rfl) (hh : val e hi = .i (b : Nat) := by rfl) (hb : b ≤ ll.length := by omega) (hf : ∀ a, (f a).fits q = true := by exact fun _ => rfl) : WL Γ T (o d (.sc q x none (some hi) none) :: l) ⟨e, H, n, z⟩ K :=
  g_scL (a := 0) (b := b) hx rfl (by rw [Option.map_some, hh]; rfl) (Nat.zero_le _) hb hf (by simpa using k)
/-- x[a:] -/
theorem u5 {α : Type} {f : α → V} {ll : List α} {q : Option Nat} {x lo : O} {a : Nat}
    (k : WL Γ T l ⟨up e d (.sl ((ll.drop a).map f)), H, n, z⟩ K) (hx : val e x = .sl (ll.map f) := by rfl) (hh : val e lo = .i (a : Nat) := by rfl) (hb : a ≤ ll.length := by omega) (hf : ∀ a, (f a).fits q = true := by exact fun _ => rfl) : WL Γ T (o d (.sc q x (some lo) none none) :: l) ⟨e, H, n, z⟩ K :=
  g_scL (a := a) (b := ll.length) hx (by rw [Option.map_some, hh]; rfl) rfl hb (Nat.le_refl _) hf (by simpa using k)
theorem el_sl {es : List V} : elems H (.sl es) = some es := rfl
theorem el_hs {es : List V} {b k m c : Nat} {fr : Bool} (hB : H b = some ⟨k, es, fr⟩) (hm : m = es.length) : elems H (.hs b 0 m c) = some es := by
  subst hm
  simp only [elems, hB]
  by_cases h : es.length = 0
  · rw [if_pos h, List.length_eq_zero_iff.1 h]
  · rw [if_neg h, if_pos (by omega)]; simp
/-- A list, appended to one of the frame's own. -/
theorem g_apM {α : Type} {f : α → V} {l1 l2 : List α} {q : Option Nat} {x y : O} {b m c kk : Nat} (hx : val e x = .hs b 0 m c) (hB : H b = some ⟨kk, l1.map f, false⟩) (hm : m = l1.length) (hc : c = m) (hy : elems H (val e y) = some (l2.map f)) (hk : kk = ksz q) (hf : ∀ a, (f a).fits q = true) (hl : l1.length + l2.length ≤ 2 ^ 36)
    (k : Br (l2 = []) (l2 ≠ []) (WL Γ T l ⟨up e d (.hs b 0 l1.length l1.length), H, n, z⟩ K) (WL Γ T l ⟨up e d (.hs n 0 (l1 ++ l2).length (l1 ++ l2).length), up (up H b none) n (some ⟨kk, (l1 ++ l2).map f, false⟩), n + 1, z⟩ K)) : WL Γ T (o d (.ap q x y) :: l) ⟨e, H, n, z⟩ K := by
  subst hc; subst hm; subst hk
  by_cases h0 : l2 = []
  · subst h0
    refine g_op (v := .hs b 0 l1.length l1.length) ?_ (k.l rfl)
    simp only [opB, opA, hy, List.map_nil, List.all_nil, if_true, appendTo, hx, hB, List.length_nil, Nat.add_zero]
    rw [if_pos ⟨trivial, trivial, by unfold LIM; simp at hl; omega⟩, if_pos (Nat.le_refl _), if_pos (by simp)]
    have : S.blk ⟨e, H, n, z⟩ b (some ⟨ksz q, splice (l1.map f) (0 + l1.length) [], false⟩) = ⟨e, H, n, z⟩ := by
      unfold S.blk
      have h2 : splice (l1.map f) (0 + l1.length) [] = l1.map f := by simp [splice]
      rw [h2, up_eq, up_id H b _ hB]
    rw [this]
  · refine g_op (v := .hs n 0 (l1 ++ l2).length (l1 ++ l2).length) ?_ (k.r h0)
    have h1 : 0 < l2.length := List.length_pos_iff.2 h0
    simp only [opB, opA, hy, fitsAll hf, if_true, appendTo, hx, hB, List.length_map]
    rw [if_pos ⟨trivial, trivial, by unfold LIM; omega⟩, if_neg (by omega), if_pos (by omega)]
    simp only [List.length_append, List.drop_zero, List.map_append, S.blk, S.new, up_eq]
theorem u6 {α : Type} {f : α → V} {l1 l2 : List α} {q : Option Nat} {x y : O} {b m c kk : Nat}
    (k : Br (l2 = []) (l2 ≠ []) (WL Γ T l ⟨up e d (.hs b 0 l1.length l1.length), H, n, z⟩ K) (WL Γ T l ⟨up e d (.hs n 0 (l1 ++ l2).length (l1 ++ l2).length), up (up H b none) n (some ⟨kk, (l1 ++ l2).map f, false⟩), n + 1, z⟩ K))
    (hy : elems H (val e y) = some (l2.map f) := by first | exact el_sl | (apply el_hs; rfl; simp only [List.length_map]) | fail) (hx : val e x = .hs b 0 m c := by rfl) (hB : H b = some ⟨kk, l1.map f, false⟩ := by rfl) (hm : m = l1.length := by first | rfl | assumption) (hc : c = m := by rfl) (hk : kk = ksz q := by rfl) (hf : ∀ a, (f a).fits q = true := by exact fun _ => rfl)
    (hl : l1.length + l2.length ≤ 2 ^ 36 := by simp only [List.length_append, List.length_take, List.length_drop, List.length_nil]; omega) : WL Γ T (o d (.ap q x y) :: l) ⟨e, H, n, z⟩ K := g_apM hx hB hm hc hy hk hf hl k
end
end Go.Am
