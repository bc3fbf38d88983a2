/-
  A machine of trees and its soundness over the model, part 10.
-/
import Derived.Test.YtocgmaekciphcaaM9
set_option linter.all false
/- The B-machine, part 19: the steps that need no thought, taken together. -/
namespace Go.Am
section
variable {Γ : Env} {T : Nat → Option FB} {e : Nat → V} {H : Nat → Option Blk} {n : Nat} {z : Bool} {l : List I} {K : S → Prop} {Q : R → Prop} {d : Nat}
theorem a_condT {x : O} {a b : CB} (k : WP Γ T a ⟨e, H, n, z⟩ Q) (hc : val e x = .b true := by rfl) : WP Γ T (.cond x a b) ⟨e, H, n, z⟩ Q := g_condT hc k
theorem a_condF {x : O} {a b : CB} (k : WP Γ T b ⟨e, H, n, z⟩ Q) (hc : val e x = .b false := by rfl) : WP Γ T (.cond x a b) ⟨e, H, n, z⟩ Q := g_condF hc k
theorem a_condDT {x : O} {a b : CB} {c : Bool} {p q : Prop} (k : WP Γ T a ⟨e, H, n, z⟩ Q) (hc : val e x = .b c := by rfl) (hs : Says c p q := by first | exact saysA | fail) (h : q → False := by exact fun _ => by omega) : WP Γ T (.cond x a b) ⟨e, H, n, z⟩ Q := g_condDT hc hs h k
theorem a_condDF {x : O} {a b : CB} {c : Bool} {p q : Prop} (k : WP Γ T b ⟨e, H, n, z⟩ Q) (hc : val e x = .b c := by rfl) (hs : Says c p q := by first | exact saysA | fail) (h : p → False := by exact fun _ => by omega) : WP Γ T (.cond x a b) ⟨e, H, n, z⟩ Q := g_condDF hc hs h k
theorem a_cond {x : O} {a b : CB} {c : Bool} {p q : Prop} (k : Br p q (WP Γ T a ⟨e, H, n, z⟩ Q) (WP Γ T b ⟨e, H, n, z⟩ Q)) (hc : val e x = .b c := by rfl) (hs : Says c p q := by first | exact saysA | fail) : WP Γ T (.cond x a b) ⟨e, H, n, z⟩ Q := g_cond hc hs k
theorem a_mv {x : O} {v : V} (k : WL Γ T l ⟨up e d v, H, n, z⟩ K) (h : val e x = v := by first | exact frc | fail) : WL Γ T (o d (.mv x) :: l) ⟨e, H, n, z⟩ K := g_mv h k
theorem a_ld {q : Option Nat} {x : O} {v : V} (k : WL Γ T l ⟨up e d v, H, n, z⟩ K) (h : derefB H (val e x) = some v := by first | exact frcO | fail) (hf : v.fits q = true := by rfl) : WL Γ T (o d (.ld q x) :: l) ⟨e, H, n, z⟩ K := g_ld h hf k
theorem a_ldL {α : Type} {f : α → V} {es : List α} {q : Option Nat} {x : O} {b j kk : Nat} {fr : Bool} {a : α} (k : WL Γ T l ⟨up e d (f a), H, n, z⟩ K) (hx : val e x = .hp b j := by rfl) (hB : H b = some ⟨kk, es.map f, fr⟩ := by rfl) (h : es[j]? = some a := by assumption) (hf : (f a).fits q = true := by rfl) : WL Γ T (o d (.ld q x) :: l) ⟨e, H, n, z⟩ K := g_ldL hx hB h hf k
theorem a_ldN {α : Type} {f : α → V} {es : List α} {q : Option Nat} {x : O} {b j kk : Nat} {fr : Bool} (k : An es j fun a => WL Γ T l ⟨up e d (f a), H, n, z⟩ K) (hx : val e x = .hp b j := by rfl) (hB : H b = some ⟨kk, es.map f, fr⟩ := by rfl) (h : j < es.length := by omega) (hf : ∀ a, (f a).fits q = true := by exact fun _ => rfl) : WL Γ T (o d (.ld q x) :: l) ⟨e, H, n, z⟩ K := g_ldN hx hB h hf k
theorem a_fah {x : O} {j b i : Nat} (k : WL Γ T l ⟨up e d (.hf b i j), H, n, z⟩ K) (h : val e x = .hp b i := by rfl) : WL Γ T (o d (.fa j x) :: l) ⟨e, H, n, z⟩ K := g_fah h k
theorem a_far {x : O} {j : Nat} {cs : List V} {c : V} (k : WL Γ T l ⟨up e d (.rp c), H, n, z⟩ K) (h : val e x = .rp (.st cs) := by rfl) (hc : cs[j]? = some c := by rfl) (ho : c.okc = true := by rfl) : WL Γ T (o d (.fa j x) :: l) ⟨e, H, n, z⟩ K := g_far h hc ho k
theorem a_fd {x : O} {j : Nat} {cs : List V} {c : V} (k : WL Γ T l ⟨up e d c, H, n, z⟩ K) (h : val e x = .st cs := by rfl) (hc : cs[j]? = some c := by first | exact frcO | fail) : WL Γ T (o d (.fd j x) :: l) ⟨e, H, n, z⟩ K := g_fd h hc k
theorem a_lnL {α : Type} {f : α → V} {xs : List α} {x : O} (k : WL Γ T l ⟨up e d (.i (xs.length : Nat)), H, n, z⟩ K) (h : val e x = .sl (xs.map f) := by rfl) : WL Γ T (o d (.ln x) :: l) ⟨e, H, n, z⟩ K := g_lnL h k
theorem a_ln {x : O} {m : Nat} (k : WL Γ T l ⟨up e d (.i (m : Nat)), H, n, z⟩ K) (h : vlen (val e x) = some m := by rfl) : WL Γ T (o d (.ln x) :: l) ⟨e, H, n, z⟩ K := g_ln h k
theorem a_ls {x : O} {s : ByteArray} (k : WL Γ T l ⟨up e d (.i (s.size : Nat)), H, n, z⟩ K) (h : val e x = .s s := by rfl) : WL Γ T (o d (.ls x) :: l) ⟨e, H, n, z⟩ K := g_ls h k
theorem a_inc {x : O} {a : Nat} (k : WL Γ T l ⟨up e d (.i ((a + 1 : Nat) : Int)), H, n, z⟩ K) (hx : val e x = .i (a : Nat) := by rfl) (h : a < 9223372036854775807 := by omega) : WL Γ T (o d (.bi .add x (.n 1)) :: l) ⟨e, H, n, z⟩ K := g_inc hx h k
theorem a_pkT {c x y : O} {v : V} (k : WL Γ T l ⟨up e d v, H, n, z⟩ K) (hc : val e c = .b true := by rfl) (hv : val e x = v := by first | exact frc | fail) : WL Γ T (o d (.pk c x y) :: l) ⟨e, H, n, z⟩ K := g_pkT hc hv k
theorem a_pkF {c x y : O} {v : V} (k : WL Γ T l ⟨up e d v, H, n, z⟩ K) (hc : val e c = .b false := by rfl) (hv : val e y = v := by first | exact frc | fail) : WL Γ T (o d (.pk c x y) :: l) ⟨e, H, n, z⟩ K := g_pkF hc hv k
theorem a_gt {t : Nat} {w : Bool} {a : A} (k : WL Γ T (o d a :: l) ⟨e, H, n, z⟩ K) (hb : e t = .b w := by rfl) : WL Γ T (og d t w a :: l) ⟨e, H, n, z⟩ K := g_gt hb k
theorem a_gf {t : Nat} {w : Bool} {a : A} (k : WL Γ T l ⟨up e d .un, H, n, z⟩ K) (hb : e t = .b (!w) := by rfl) : WL Γ T (og d t w a :: l) ⟨e, H, n, z⟩ K := g_gf hb k
theorem a_gt0 {t : Nat} {w : Bool} {a : A} (k : WL Γ T (oo a :: l) ⟨e, H, n, z⟩ K) (hb : e t = .b w := by rfl) : WL Γ T (oog t w a :: l) ⟨e, H, n, z⟩ K := g_gt0 hb k
theorem a_gf0 {t : Nat} {w : Bool} {a : A} (k : WL Γ T l ⟨e, H, n, z⟩ K) (hb : e t = .b (!w) := by rfl) : WL Γ T (oog t w a :: l) ⟨e, H, n, z⟩ K := g_gf0 hb k
theorem a_gcgT {t : Nat} {w : Bool} {a : A} {c : Bool} {p q : Prop} (k : WL Γ T (og d t w a :: l) ⟨up e t (.b true), H, n, z⟩ K) (hb : e t = .b c := by rfl) (hs : Says c p q := by first | exact saysA | fail) (h : q → False := by exact fun _ => by omega) : WL Γ T (og d t w a :: l) ⟨e, H, n, z⟩ K := g_gcgT hb hs h k
theorem a_gcgF {t : Nat} {w : Bool} {a : A} {c : Bool} {p q : Prop} (k : WL Γ T (og d t w a :: l) ⟨up e t (.b false), H, n, z⟩ K) (hb : e t = .b c := by rfl) (hs : Says c p q := by first | exact saysA | fail) (h : p → False := by exact fun _ => by omega) : WL Γ T (og d t w a :: l) ⟨e, H, n, z⟩ K := g_gcgF hb hs h k
theorem a_gcg {t : Nat} {w : Bool} {a : A} {c : Bool} {p q : Prop} (k : Br p q (WL Γ T (og d t w a :: l) ⟨up e t (.b true), H, n, z⟩ K) (WL Γ T (og d t w a :: l) ⟨up e t (.b false), H, n, z⟩ K)) (hb : e t = .b c := by rfl) (hs : Says c p q := by first | exact saysA | fail) : WL Γ T (og d t w a :: l) ⟨e, H, n, z⟩ K := g_gcg hb hs k
theorem a_gcg0 {t : Nat} {w : Bool} {a : A} {c : Bool} {p q : Prop} (k : Br p q (WL Γ T (oog t w a :: l) ⟨up e t (.b true), H, n, z⟩ K) (WL Γ T (oog t w a :: l) ⟨up e t (.b false), H, n, z⟩ K)) (hb : e t = .b c := by rfl) (hs : Says c p q := by first | exact saysA | fail) : WL Γ T (oog t w a :: l) ⟨e, H, n, z⟩ K := g_gcg0 hb hs k
theorem a_iaL {α : Type} {f : α → V} {xs : List α} {q : Option Nat} {x i : O} {m : Nat} {a : α} (k : WL Γ T l ⟨up e d (.rp (f a)), H, n, z⟩ K) (hx : val e x = .sl (xs.map f) := by rfl) (hi : val e i = .i (m : Nat) := by rfl) (he : xs[m]? = some a := by assumption) (hs : (f a).size = ksz q := by rfl) : WL Γ T (o d (.ia q x i) :: l) ⟨e, H, n, z⟩ K := g_iaL hx hi he hs k
theorem a_iaZ {α : Type} {f : α → V} {xs : List α} {q : Option Nat} {x i : O} {m : Int} {a : α} (k : WL Γ T l ⟨up e d (.rp (f a)), H, n, z⟩ K) (hx : val e x = .sl (xs.map f) := by rfl) (hi : val e i = .i m := by rfl) (h0 : 0 ≤ m := by omega) (he : xs[m.toNat]? = some a := by assumption) (hs : (f a).size = ksz q := by rfl) : WL Γ T (o d (.ia q x i) :: l) ⟨e, H, n, z⟩ K := g_iaZ hx hi h0 he hs k
theorem a_iaN {α : Type} {f : α → V} {xs : List α} {q : Option Nat} {x i : O} {m : Nat} (k : An xs m fun a => WL Γ T l ⟨up e d (.rp (f a)), H, n, z⟩ K) (hx : val e x = .sl (xs.map f) := by rfl) (hi : val e i = .i (m : Nat) := by rfl) (h : m < xs.length := by omega) (hs : ∀ a, (f a).size = ksz q := by exact fun _ => rfl) : WL Γ T (o d (.ia q x i) :: l) ⟨e, H, n, z⟩ K := g_iaN hx hi h hs k
theorem a_iaM {α : Type} {f : α → V} {xs : List α} {q : Option Nat} {x i : O} {m : Int} (k : An xs m.toNat fun a => WL Γ T l ⟨up e d (.rp (f a)), H, n, z⟩ K) (hx : val e x = .sl (xs.map f) := by rfl) (hi : val e i = .i m := by rfl) (h0 : 0 ≤ m := by omega) (h : m < xs.length := by omega) (hs : ∀ a, (f a).size = ksz q := by exact fun _ => rfl) : WL Γ T (o d (.ia q x i) :: l) ⟨e, H, n, z⟩ K := g_iaM hx hi h0 h hs k
theorem a_ihN {q : Option Nat} {x i : O} {b m c j : Nat} {B : Blk} (k : WL Γ T l ⟨up e d (.hp b j), H, n, z⟩ K) (hx : val e x = .hs b 0 m c := by rfl) (hi : val e i = .i (j : Nat) := by rfl) (hB : H b = some B := by rfl) (h : j < m := by omega) (hk : B.k = ksz q := by rfl) : WL Γ T (o d (.ia q x i) :: l) ⟨e, H, n, z⟩ K := g_ihN hx hi hB h hk k
theorem a_ihM {q : Option Nat} {x i : O} {b m c : Nat} {j : Int} {B : Blk} (k : WL Γ T l ⟨up e d (.hp b j.toNat), H, n, z⟩ K) (hx : val e x = .hs b 0 m c := by rfl) (hi : val e i = .i j := by rfl) (hB : H b = some B := by rfl) (h0 : 0 ≤ j := by omega) (h : j < m := by omega) (hk : B.k = ksz q := by rfl) : WL Γ T (o d (.ia q x i) :: l) ⟨e, H, n, z⟩ K := g_ihM hx hi hB h0 h hk k
theorem a_et {x : O} {i : Nat} {vs : List V} {v : V} (k : WL Γ T l ⟨up e d v, H, n, z⟩ K) (hx : val e x = .tu vs := by rfl) (hv : vs[i]? = some v := by first | exact frcO | fail) : WL Γ T (o d (.et x i) :: l) ⟨e, H, n, z⟩ K := g_et hx hv k
theorem a_max {x y : O} {a b : Int} (k : WL Γ T l ⟨up e d (.i (max a b)), H, n, z⟩ K) (hx : val e x = .i a := by rfl) (hy : val e y = .i b := by rfl) : WL Γ T (o d (.mm true [x, y]) :: l) ⟨e, H, n, z⟩ K := g_max hx hy k
theorem a_min {x y : O} {a b : Int} (k : WL Γ T l ⟨up e d (.i (min a b)), H, n, z⟩ K) (hx : val e x = .i a := by rfl) (hy : val e y = .i b := by rfl) : WL Γ T (o d (.mm false [x, y]) :: l) ⟨e, H, n, z⟩ K := g_min hx hy k
theorem a_min3 {x y w : O} {a b c : Int} (k : WL Γ T l ⟨up e d (.i (min (min a b) c)), H, n, z⟩ K) (hx : val e x = .i a := by rfl) (hy : val e y = .i b := by rfl) (hw : val e w = .i c := by rfl) : WL Γ T (o d (.mm false [x, y, w]) :: l) ⟨e, H, n, z⟩ K := g_min3 hx hy hw k
theorem a_max3 {x y w : O} {a b c : Int} (k : WL Γ T l ⟨up e d (.i (max (max a b) c)), H, n, z⟩ K) (hx : val e x = .i a := by rfl) (hy : val e y = .i b := by rfl) (hw : val e w = .i c := by rfl) : WL Γ T (o d (.mm true [x, y, w]) :: l) ⟨e, H, n, z⟩ K := g_max3 hx hy hw k
theorem a_cv {x : O} {k' k2 : IntKind} {a : Int} (k : WL Γ T l ⟨up e d (.im (.int k' (k'.wrap a))), H, n, z⟩ K) (hx : val e x = .im (.int k2 a) := by rfl) : WL Γ T (o d (.cv k' x) :: l) ⟨e, H, n, z⟩ K := g_cv hx k
theorem a_al {v : V} {q : Option Nat} (k : WL Γ T l ⟨up e d (.hp n 0), up H n (some ⟨ksz q, [v], false⟩), n + 1, z⟩ K) (hf : v.fits q = true := by rfl) : WL Γ T (o d (.al v q) :: l) ⟨e, H, n, z⟩ K := g_al hf k
theorem a_bx {x : O} {v : V} {q : Option Nat} (k : WL Γ T l ⟨up e d (.hp n 0), up H n (some ⟨ksz q, [v], false⟩), n + 1, z⟩ K) (hx : val e x = v := by first | exact frc | fail) (hf : v.fits q = true := by rfl) : WL Γ T (o d (.bx q x) :: l) ⟨e, H, n, z⟩ K := g_bx hx hf k
theorem a_bs {xs : List O} {vs : List V} {q : Option Nat} (k : WL Γ T l ⟨up e d (.hs n 0 xs.length xs.length), up H n (some ⟨ksz q, vs, false⟩), n + 1, z⟩ K) (hx : xs.map (val e) = vs := by first | exact frcL | fail) (hf : vs.all (·.fits q) = true := by rfl) : WL Γ T (o d (.bs q xs) :: l) ⟨e, H, n, z⟩ K := g_bs hx hf k
theorem a_bd0 {cs : List V} (k : WL Γ T l ⟨up e d (.st cs), H, n, z⟩ K) : WL Γ T (o d (.bd cs []) :: l) ⟨e, H, n, z⟩ K := g_bd0 k
theorem a_bd1 {cs vs : List V} {p : Nat × O} {v : V} (k : WL Γ T l ⟨up e d (.st vs), H, n, z⟩ K) (hv : val e p.2 = v := by first | exact frc | fail) (ho : v.okc = true := by rfl) (h : cs.set p.1 v = vs := by first | exact frcS | fail) : WL Γ T (o d (.bd cs [p]) :: l) ⟨e, H, n, z⟩ K := g_bd1 hv ho h k
theorem a_bd2 {cs vs : List V} {p p' : Nat × O} {v v' : V} (k : WL Γ T l ⟨up e d (.st vs), H, n, z⟩ K) (hv : val e p.2 = v := by first | exact frc | fail) (hv' : val e p'.2 = v' := by first | exact frc | fail) (ho : v.okc = true := by rfl) (ho' : v'.okc = true := by rfl) (h : (cs.set p.1 v).set p'.1 v' = vs := by first | exact frcS | fail) : WL Γ T (o d (.bd cs [p, p']) :: l) ⟨e, H, n, z⟩ K := g_bd2 hv hv' ho ho' h k
theorem a_bd3 {cs vs : List V} {p p' p2 : Nat × O} {v v' v2 : V} (k : WL Γ T l ⟨up e d (.st vs), H, n, z⟩ K) (hv : val e p.2 = v := by first | exact frc | fail) (hv' : val e p'.2 = v' := by first | exact frc | fail) (hv2 : val e p2.2 = v2 := by first | exact frc | fail) (ho : v.okc = true := by rfl) (ho' : v'.okc = true := by rfl) (ho2 : v2.okc = true := by rfl) (h : ((cs.set p.1 v).set p'.1 v').set p2.1 v2 = vs := by first | exact frcS | fail) : WL Γ T (o d (.bd cs [p, p', p2]) :: l) ⟨e, H, n, z⟩ K := g_bd3 hv hv' hv2 ho ho' ho2 h k
theorem a_mf {f : Nat} {xs : List O} {vs : List V} (k : WL Γ T l ⟨up e d (.cl f vs), H, n, z⟩ K) (hv : xs.map (val e) = vs := by first | exact frcL | fail) (ho : vs.all V.okc = true := by rfl) : WL Γ T (o d (.mf f xs) :: l) ⟨e, H, n, z⟩ K := g_mf hv ho k
theorem a_sof {q : Option Nat} {p x : O} {b j : Nat} {kk : Nat} {cs cs' : List V} {v : V} (k : WL Γ T l ⟨e, up H b (some ⟨kk, [.st cs'], false⟩), n, z⟩ K) (hp : val e p = .hf b 0 j := by rfl) (hB : H b = some ⟨kk, [.st cs], false⟩ := by rfl) (hx : val e x = v := by first | exact frc | fail) (hj : j < cs.length := by exact Nat.le_of_ble_eq_true rfl) (hq : q = none := by rfl) (hf : v.okc = true := by rfl) (he : cs.set j v = cs' := by first | exact frcS | fail) : WL Γ T (oo (.so q p x) :: l) ⟨e, H, n, z⟩ K := g_sof hp hB hx hj hq hf he k
theorem a_so {q : Option Nat} {p x : O} {b i : Nat} {kk : Nat} {es es' : List V} {v : V} (k : WL Γ T l ⟨e, up H b (some ⟨kk, es', false⟩), n, z⟩ K) (hp : val e p = .hp b i := by rfl) (hB : H b = some ⟨kk, es, false⟩ := by rfl) (hx : val e x = v := by first | exact frc | fail) (hi : i < es.length := by exact Nat.le_of_ble_eq_true rfl) (hk : kk = ksz q := by rfl) (hf : v.fits q = true := by rfl) (he : es.set i v = es' := by first | exact frcS | fail) : WL Γ T (oo (.so q p x) :: l) ⟨e, H, n, z⟩ K := g_so hp hB hx hi hk hf he k
theorem a_soL {α : Type} {f : α → V} {es : List α} {a : α} {q : Option Nat} {p x : O} {b i : Nat} {kk : Nat} (k : WL Γ T l ⟨e, up H b (some ⟨kk, (es.set i a).map f, false⟩), n, z⟩ K) (hp : val e p = .hp b i := by rfl) (hB : H b = some ⟨kk, es.map f, false⟩ := by rfl) (hx : val e x = f a := by rfl) (hi : i < es.length := by omega) (hk : kk = ksz q := by rfl) (hf : (f a).fits q = true := by rfl) : WL Γ T (oo (.so q p x) :: l) ⟨e, H, n, z⟩ K := g_soL hp hB hx hi hk hf k
theorem a_ms {v : V} {q : Option Nat} {x y : O} {m c : Nat} (k : WL Γ T l ⟨up e d (.hs n 0 m c), up H n (some ⟨ksz q, List.replicate c v, false⟩), n + 1, z⟩ K) (hx : val e x = .i (m : Nat) := by rfl) (hy : val e y = .i (c : Nat) := by rfl) (h1 : m ≤ c := by omega) (h2 : c ≤ 2 ^ 36 := by omega) (hf : v.fits q = true := by rfl) : WL Γ T (o d (.ms v q x y) :: l) ⟨e, H, n, z⟩ K := g_ms hx hy h1 h2 hf k
theorem a_msZ {v : V} {q : Option Nat} {x y : O} {m c : Int} (k : WL Γ T l ⟨up e d (.hs n 0 m.toNat c.toNat), up H n (some ⟨ksz q, List.replicate c.toNat v, false⟩), n + 1, z⟩ K) (hx : val e x = .i m := by rfl) (hy : val e y = .i c := by rfl) (h0 : 0 ≤ m := by omega) (h1 : m ≤ c := by omega) (h2 : c ≤ 2 ^ 36 := by omega) (hf : v.fits q = true := by rfl) : WL Γ T (o d (.ms v q x y) :: l) ⟨e, H, n, z⟩ K := g_msZ hx hy h0 h1 h2 hf k
theorem a_apL {α : Type} {f : α → V} {es : List α} {a : α} {q : Option Nat} {x y : O} {b m : Nat} {kk : Nat} (k : WL Γ T l ⟨up e d (.hs n 0 (es ++ [a]).length (es ++ [a]).length), up (up H b none) n (some ⟨kk, (es ++ [a]).map f, false⟩), n + 1, z⟩ K) (hx : val e x = .hs b 0 m m := by rfl) (hB : H b = some ⟨kk, es.map f, false⟩ := by rfl) (hy : elems H (val e y) = some [f a] := by rfl) (hn : m = es.length := by rfl) (hk : kk = ksz q := by rfl) (hf : (f a).fits q = true := by rfl) (hl : es.length < 2 ^ 36 := by omega) : WL Γ T (o d (.ap q x y) :: l) ⟨e, H, n, z⟩ K := g_apL hx hB hy hn hk hf hl k
theorem a_ap1 {q : Option Nat} {x y : O} {b m : Nat} {es : List V} {kk : Nat} {v : V} (k : WL Γ T l ⟨up e d (.hs n 0 (m + 1) (m + 1)), up (up H b none) n (some ⟨kk, es ++ [v], false⟩), n + 1, z⟩ K) (hx : val e x = .hs b 0 m m := by rfl) (hB : H b = some ⟨kk, es, false⟩ := by rfl) (hy : elems H (val e y) = some [v] := by rfl) (hn : m = es.length := by first | rfl | simp) (hk : kk = ksz q := by rfl) (hf : v.fits q = true := by rfl) (hl : m < 2 ^ 36 := by omega) : WL Γ T (o d (.ap q x y) :: l) ⟨e, H, n, z⟩ K := g_ap1 hx hB hy hn hk hf hl k
theorem a_apE {q : Option Nat} {x y : O} {v : V} (k : WL Γ T l ⟨up e d (.hs n 0 1 1), up H n (some ⟨ksz q, [v], false⟩), n + 1, z⟩ K) (hx : val e x = .e0 := by rfl) (hy : elems H (val e y) = some [v] := by rfl) (hf : v.fits q = true := by rfl) : WL Γ T (o d (.ap q x y) :: l) ⟨e, H, n, z⟩ K := g_apE hx hy hf k
theorem a_bi {op : BinOp} {x y : O} {u w r : Value} (k : WL Γ T l ⟨up e d (.im r), H, n, z⟩ K) (hx : val e x = .im u := by rfl) (hy : val e y = .im w := by rfl) (h : abin op u w = some r := by rfl) : WL Γ T (o d (.bi op x y) :: l) ⟨e, H, n, z⟩ K := g_bi hx hy h k
theorem a_lss {x y : O} {a b : Int} (k : WL Γ T l ⟨up e d (.b (decide (a < b))), H, n, z⟩ K) (hx : val e x = .i a := by rfl) (hy : val e y = .i b := by rfl) : WL Γ T (o d (.bi .lss x y) :: l) ⟨e, H, n, z⟩ K := g_lss hx hy k
theorem a_leq {x y : O} {a b : Int} (k : WL Γ T l ⟨up e d (.b (decide (a ≤ b))), H, n, z⟩ K) (hx : val e x = .i a := by rfl) (hy : val e y = .i b := by rfl) : WL Γ T (o d (.bi .leq x y) :: l) ⟨e, H, n, z⟩ K := g_leq hx hy k
theorem a_gtr {x y : O} {a b : Int} (k : WL Γ T l ⟨up e d (.b (decide (b < a))), H, n, z⟩ K) (hx : val e x = .i a := by rfl) (hy : val e y = .i b := by rfl) : WL Γ T (o d (.bi .gtr x y) :: l) ⟨e, H, n, z⟩ K := g_gtr hx hy k
theorem a_geq {x y : O} {a b : Int} (k : WL Γ T l ⟨up e d (.b (decide (b ≤ a))), H, n, z⟩ K) (hx : val e x = .i a := by rfl) (hy : val e y = .i b := by rfl) : WL Γ T (o d (.bi .geq x y) :: l) ⟨e, H, n, z⟩ K := g_geq hx hy k
theorem a_eql {x y : O} {a b : Int} (k : WL Γ T l ⟨up e d (.b (decide (a = b))), H, n, z⟩ K) (hx : val e x = .i a := by rfl) (hy : val e y = .i b := by rfl) : WL Γ T (o d (.bi .eql x y) :: l) ⟨e, H, n, z⟩ K := g_eql hx hy k
theorem a_neq {x y : O} {a b : Int} (k : WL Γ T l ⟨up e d (.b (!decide (a = b))), H, n, z⟩ K) (hx : val e x = .i a := by rfl) (hy : val e y = .i b := by rfl) : WL Γ T (o d (.bi .neq x y) :: l) ⟨e, H, n, z⟩ K := g_neq hx hy k
theorem a_add {x y : O} {a b : Int} (k : WL Γ T l ⟨up e d (.i (a + b)), H, n, z⟩ K) (hx : val e x = .i a := by rfl) (hy : val e y = .i b := by rfl) (h : -9223372036854775808 ≤ a + b ∧ a + b ≤ 9223372036854775807 := by omega) : WL Γ T (o d (.bi .add x y) :: l) ⟨e, H, n, z⟩ K := g_add hx hy h k
theorem a_sub {x y : O} {a b : Int} (k : WL Γ T l ⟨up e d (.i (a - b)), H, n, z⟩ K) (hx : val e x = .i a := by rfl) (hy : val e y = .i b := by rfl) (h : -9223372036854775808 ≤ a - b ∧ a - b ≤ 9223372036854775807 := by omega) : WL Γ T (o d (.bi .sub x y) :: l) ⟨e, H, n, z⟩ K := g_sub hx hy h k
theorem a_mul {x y : O} {a b : Int} (k : WL Γ T l ⟨up e d (.i (a * b)), H, n, z⟩ K) (hx : val e x = .i a := by rfl) (hy : val e y = .i b := by rfl) (h : -9223372036854775808 ≤ a * b ∧ a * b ≤ 9223372036854775807 := by omega) : WL Γ T (o d (.bi .mul x y) :: l) ⟨e, H, n, z⟩ K := g_mul hx hy h k
theorem a_seq {x y : O} {a b : ByteArray} (k : WL Γ T l ⟨up e d (.b (decide (a = b))), H, n, z⟩ K) (hx : val e x = .s a := by rfl) (hy : val e y = .s b := by rfl) : WL Γ T (o d (.bi .eql x y) :: l) ⟨e, H, n, z⟩ K := g_seq hx hy k
theorem a_sne {x y : O} {a b : ByteArray} (k : WL Γ T l ⟨up e d (.b (!decide (a = b))), H, n, z⟩ K) (hx : val e x = .s a := by rfl) (hy : val e y = .s b := by rfl) : WL Γ T (o d (.bi .neq x y) :: l) ⟨e, H, n, z⟩ K := g_sne hx hy k
theorem a_sadd {x y : O} {a b : ByteArray} (k : WL Γ T l ⟨up e d (.s (a ++ b)), H, n, z⟩ K) (hx : val e x = .s a := by rfl) (hy : val e y = .s b := by rfl) (h : a.size + b.size ≤ 9223372036854775807 := by first | assumption | omega) : WL Γ T (o d (.bi .add x y) :: l) ⟨e, H, n, z⟩ K := g_sadd hx hy h k
theorem a_not {x : O} {a : Bool} (k : WL Γ T l ⟨up e d (.b (!a)), H, n, z⟩ K) (hx : val e x = .b a := by rfl) : WL Γ T (o d (.un .not x) :: l) ⟨e, H, n, z⟩ K := g_not hx k
theorem a_beq {x y : O} {a b : Bool} (k : WL Γ T l ⟨up e d (.b (a == b)), H, n, z⟩ K) (hx : val e x = .b a := by rfl) (hy : val e y = .b b := by rfl) : WL Γ T (o d (.be false x y) :: l) ⟨e, H, n, z⟩ K := g_beq hx hy k
theorem a_bne {x y : O} {a b : Bool} (k : WL Γ T l ⟨up e d (.b (!(a == b))), H, n, z⟩ K) (hx : val e x = .b a := by rfl) (hy : val e y = .b b := by rfl) : WL Γ T (o d (.be true x y) :: l) ⟨e, H, n, z⟩ K := g_bne hx hy k
theorem a_ix {x i : O} {s : ByteArray} {m : Nat} (hx : val e x = .s s := by rfl) (hi : val e i = .i (m : Nat) := by rfl) (h : m < s.size := by omega) (k : WL Γ T l ⟨up e d (.u (s[m]'h).toNat), H, n, z⟩ K) : WL Γ T (o d (.ix x i) :: l) ⟨e, H, n, z⟩ K := g_ix hx hi h k
theorem afi_b {s : S} {l : List (Nat × Option (Option Nat))} {x y : Bool} (h : y = x) (hr : resOfB s l = some (.b y, []) := by rfl) : Fin (.b x) l s := fi_b hr h
theorem afi_i {s : S} {l : List (Nat × Option (Option Nat))} {x y : Int} (h : y = x) (hr : resOfB s l = some (.i y, []) := by rfl) : Fin (.i x) l s := fi_i hr h
theorem afi_s {s : S} {l : List (Nat × Option (Option Nat))} {x y : ByteArray} (h : y = x) (hr : resOfB s l = some (.s y, []) := by rfl) : Fin (.s x) l s := fi_s hr h
theorem afp_im {P : V → Prop} {s : S} {l : List (Nat × Option (Option Nat))} {y : Value} (h : P (.im y)) (hr : resOfB s l = some (.im y, []) := by rfl) : FP P l s := fp_im h hr
theorem a_soS {q : Option Nat} {p x : O} {b i : Nat} {kk : Nat} {es : List V} {v : V} (k : WL Γ T l ⟨e, up H b (some ⟨kk, es.set i v, false⟩), n, z⟩ K) (hp : val e p = .hp b i := by rfl) (hB : H b = some ⟨kk, es, false⟩ := by rfl) (hx : val e x = v := by first | exact frc | fail) (hi : i < es.length := by first | omega | (simp only [List.length_append, List.length_map, List.length_take, List.length_replicate]; omega)) (hk : kk = ksz q := by rfl) (hf : v.fits q = true := by rfl) : WL Γ T (oo (.so q p x) :: l) ⟨e, H, n, z⟩ K := g_so hp hB hx hi hk hf rfl k
theorem a_bky {s : S} {id j : Nat} (h : Q (.x j s)) (hj : j ≠ id := by decide) : BkQ id Q (.x j s) := bk_y hj h
theorem i_mv {s : S} {x : O} (k : WL Γ T (o d (.mv x) :: l) s K) : WL Γ T (o d (.mv x) :: l) s K := k
theorem i_ld {s : S} {x : O} {q : Option Nat} (k : WL Γ T (o d (.ld q x) :: l) s K) : WL Γ T (o d (.ld q x) :: l) s K := k
theorem i_ia {s : S} {x : O} {y : O} {q : Option Nat} (k : WL Γ T (o d (.ia q x y) :: l) s K) : WL Γ T (o d (.ia q x y) :: l) s K := k
theorem i_fa {s : S} {x : O} {i : Nat} (k : WL Γ T (o d (.fa i x) :: l) s K) : WL Γ T (o d (.fa i x) :: l) s K := k
theorem i_ln {s : S} {x : O} (k : WL Γ T (o d (.ln x) :: l) s K) : WL Γ T (o d (.ln x) :: l) s K := k
theorem i_og {s : S} {i : Nat} {w : Bool} {a : A} (k : WL Γ T (og d i w a :: l) s K) : WL Γ T (og d i w a :: l) s K := k
theorem i_add {s : S} {x : O} {y : O} (k : WL Γ T (o d (.bi .add x y) :: l) s K) : WL Γ T (o d (.bi .add x y) :: l) s K := k
theorem i_lss {s : S} {x : O} {y : O} (k : WL Γ T (o d (.bi .lss x y) :: l) s K) : WL Γ T (o d (.bi .lss x y) :: l) s K := k
theorem i_pk {s : S} {x : O} {y : O} {y2 : O} (k : WL Γ T (o d (.pk x y y2) :: l) s K) : WL Γ T (o d (.pk x y y2) :: l) s K := k
theorem i_un {s : S} {x : O} {op : UnOp} (k : WL Γ T (o d (.un op x) :: l) s K) : WL Γ T (o d (.un op x) :: l) s K := k
theorem i_so {s : S} {x : O} {y : O} {q : Option Nat} (k : WL Γ T (oo (.so q x y) :: l) s K) : WL Γ T (oo (.so q x y) :: l) s K := k
theorem i_bi {s : S} {x : O} {y : O} {op2 : BinOp} (k : WL Γ T (o d (.bi op2 x y) :: l) s K) : WL Γ T (o d (.bi op2 x y) :: l) s K := k
theorem i_bs {s : S} {q : Option Nat} {xs : List O} (k : WL Γ T (o d (.bs q xs) :: l) s K) : WL Γ T (o d (.bs q xs) :: l) s K := k
theorem i_ap {s : S} {x : O} {y : O} {q : Option Nat} (k : WL Γ T (o d (.ap q x y) :: l) s K) : WL Γ T (o d (.ap q x y) :: l) s K := k
theorem i_be {s : S} {x : O} {y : O} {w : Bool} (k : WL Γ T (o d (.be w x y) :: l) s K) : WL Γ T (o d (.be w x y) :: l) s K := k
theorem i_al {s : S} {q : Option Nat} {v : V} (k : WL Γ T (o d (.al v q) :: l) s K) : WL Γ T (o d (.al v q) :: l) s K := k
theorem i_bx {s : S} {x : O} {q : Option Nat} (k : WL Γ T (o d (.bx q x) :: l) s K) : WL Γ T (o d (.bx q x) :: l) s K := k
theorem i_bd {s : S} {vs : List V} {ps : List (Nat × O)} (k : WL Γ T (o d (.bd vs ps) :: l) s K) : WL Γ T (o d (.bd vs ps) :: l) s K := k
theorem i_mf {s : S} {i : Nat} {xs : List O} (k : WL Γ T (o d (.mf i xs) :: l) s K) : WL Γ T (o d (.mf i xs) :: l) s K := k
theorem i_ms {s : S} {x : O} {y : O} {q : Option Nat} {v : V} (k : WL Γ T (o d (.ms v q x y) :: l) s K) : WL Γ T (o d (.ms v q x y) :: l) s K := k
theorem i_ls {s : S} {x : O} (k : WL Γ T (o d (.ls x) :: l) s K) : WL Γ T (o d (.ls x) :: l) s K := k
theorem i_fd {s : S} {x : O} {i : Nat} (k : WL Γ T (o d (.fd i x) :: l) s K) : WL Γ T (o d (.fd i x) :: l) s K := k
theorem i_et {s : S} {x : O} {i : Nat} (k : WL Γ T (o d (.et x i) :: l) s K) : WL Γ T (o d (.et x i) :: l) s K := k
theorem i_mm {s : S} {w : Bool} {xs : List O} (k : WL Γ T (o d (.mm w xs) :: l) s K) : WL Γ T (o d (.mm w xs) :: l) s K := k
theorem i_cv {s : S} {x : O} {ik : IntKind} (k : WL Γ T (o d (.cv ik x) :: l) s K) : WL Γ T (o d (.cv ik x) :: l) s K := k
theorem i_ix {s : S} {x : O} {y : O} (k : WL Γ T (o d (.ix x y) :: l) s K) : WL Γ T (o d (.ix x y) :: l) s K := k
theorem i_oog {s : S} {i : Nat} {w : Bool} {a : A} (k : WL Γ T (oog i w a :: l) s K) : WL Γ T (oog i w a :: l) s K := k
theorem i_ca {s : S} {f : O} {xs : List O} (k : WL Γ T (o d (.ca f xs) :: l) s K) : WL Γ T (o d (.ca f xs) :: l) s K := k
theorem i_f (f : Nat) {s : S} {xs : List O} (k : WL Γ T (o d (.ca (.k (.cl f [])) xs) :: l) s K) : WL Γ T (o d (.ca (.k (.cl f [])) xs) :: l) s K := k
theorem i_cond {s : S} {c : O} {a b : CB} (k : WP Γ T (.cond c a b) s Q) : WP Γ T (.cond c a b) s Q := k
theorem wlid {s : S} (k : WL Γ T l s K) : WL Γ T l s K := k
theorem wpid {c : CB} {s : S} (k : WP Γ T c s Q) : WP Γ T c s Q := k
end
/-- The steps that need no thought, as far as they go. -/
theorem st {P G : Prop} (p : P) (h : Wr P → G := by
    intro p
    (first | (apply wlid; first | (apply i_mv; first | refine a_mv ?_) | (apply i_ld; first | refine a_ld ?_ | refine a_ldL ?_ | refine a_ldN ?_) | (apply i_ia; first | refine a_iaL ?_ | refine a_iaZ ?_ | refine a_iaN ?_ | refine a_iaM ?_ | refine a_ihN ?_ | refine a_ihM ?_) | (apply i_fa; first | refine a_fah ?_ | refine a_far ?_) | (apply i_ln; first | refine a_lnL ?_ | refine a_ln ?_) | (apply i_og; first | refine a_gt ?_ | refine a_gf ?_ | refine a_gcgT ?_ | refine a_gcgF ?_ | refine a_gcg ?_) | (apply i_add; first | refine a_inc ?_ | refine a_add ?_ | refine a_sadd ?_) | (apply i_lss; first | refine a_lss ?_) | (apply i_pk; first | refine a_pkT ?_ | refine a_pkF ?_) | (apply i_un; first | refine a_not ?_) | (apply i_so; first | refine a_sof ?_ | refine a_so ?_ | refine a_soL ?_ | refine a_soS ?_) | (apply i_bi; first | refine a_eql ?_ | refine a_neq ?_ | refine a_gtr ?_ | refine a_sub ?_ | refine a_leq ?_ | refine a_geq ?_ | refine a_seq ?_ | refine a_sne ?_ | refine a_shl ?_ | refine a_shr ?_ | refine a_bi ?_) | (apply i_bs; first | refine a_bs ?_) | (apply i_ap; first | refine a_apL ?_ | refine a_ap1 ?_ | refine a_apE ?_) | (apply i_be; first | refine a_beq ?_ | refine a_bne ?_) | (apply i_al; first | refine a_al ?_) | (apply i_bx; first | refine a_bx ?_) | (apply i_bd; first | refine a_bd0 ?_ | refine a_bd1 ?_ | refine a_bd2 ?_ | refine a_bd3 ?_) | (apply i_mf; first | refine a_mf ?_) | (apply i_ms; first | refine a_ms ?_ | refine a_msZ ?_) | (apply i_ls; first | refine a_ls ?_) | (apply i_fd; first | refine a_fd ?_) | (apply i_et; first | refine a_et ?_) | (apply i_mm; first | refine a_max ?_ | refine a_min ?_ | refine a_max3 ?_ | refine a_min3 ?_) | (apply i_cv; first | refine a_cv ?_) | (apply i_ix; first | refine a_ix (k := ?_)) | (apply i_oog; first | refine a_gt0 ?_ | refine a_gf0 ?_ | refine a_gcg0 ?_)) | refine sq_n ?_ | refine bk_n ?_ | refine wp_rg ?_ | refine wp_seq ?_ | refine wr_nil ?_ | refine wp_blk ?_ | refine bk_x ?_ | refine a_bky ?_ | refine sq_x ?_ | refine sq_r ?_ | refine bk_r ?_ | refine wp_skip ?_ | refine wp_ret ?_ | refine wp_ex ?_ | refine lp_r ?_ | refine lp_x ?_ | refine ea_r ?_ | refine ea_x ?_ | refine ei_r ?_ | refine ei_x ?_ | refine en_r ?_ | refine en_x ?_ | refine fn_r ?_ | refine fn_n ?_ | refine fp_r ?_ | refine fp_n ?_ | refine afp_im ?_ | refine afi_b ?_ | refine afi_i ?_ | refine afi_s ?_ | refine fin ?_ | (apply wpid; first | (apply i_cond; first | refine a_condT ?_ | refine a_condF ?_ | refine a_condDT ?_ | refine a_condDF ?_ | refine a_cond ?_)))
    repeat (first | (apply wlid; first | (apply i_mv; first | refine a_mv ?_) | (apply i_ld; first | refine a_ld ?_ | refine a_ldL ?_ | refine a_ldN ?_) | (apply i_ia; first | refine a_iaL ?_ | refine a_iaZ ?_ | refine a_iaN ?_ | refine a_iaM ?_ | refine a_ihN ?_ | refine a_ihM ?_) | (apply i_fa; first | refine a_fah ?_ | refine a_far ?_) | (apply i_ln; first | refine a_lnL ?_ | refine a_ln ?_) | (apply i_og; first | refine a_gt ?_ | refine a_gf ?_ | refine a_gcgT ?_ | refine a_gcgF ?_ | refine a_gcg ?_) | (apply i_add; first | refine a_inc ?_ | refine a_add ?_ | refine a_sadd ?_) | (apply i_lss; first | refine a_lss ?_) | (apply i_pk; first | refine a_pkT ?_ | refine a_pkF ?_) | (apply i_un; first | refine a_not ?_) | (apply i_so; first | refine a_sof ?_ | refine a_so ?_ | refine a_soL ?_ | refine a_soS ?_) | (apply i_bi; first | refine a_eql ?_ | refine a_neq ?_ | refine a_gtr ?_ | refine a_sub ?_ | refine a_leq ?_ | refine a_geq ?_ | refine a_seq ?_ | refine a_sne ?_ | refine a_shl ?_ | refine a_shr ?_ | refine a_bi ?_) | (apply i_bs; first | refine a_bs ?_) | (apply i_ap; first | refine a_apL ?_ | refine a_ap1 ?_ | refine a_apE ?_) | (apply i_be; first | refine a_beq ?_ | refine a_bne ?_) | (apply i_al; first | refine a_al ?_) | (apply i_bx; first | refine a_bx ?_) | (apply i_bd; first | refine a_bd0 ?_ | refine a_bd1 ?_ | refine a_bd2 ?_ | refine a_bd3 ?_) | (apply i_mf; first | refine a_mf ?_) | (apply i_ms; first | refine a_ms ?_ | refine a_msZ ?_) | (apply i_ls; first | refine a_ls ?_) | (apply i_fd; first | refine a_fd ?_) | (apply i_et; first | refine a_et ?_) | (apply i_mm; first | refine a_max ?_ | refine a_min ?_ | refine a_max3 ?_ | refine a_min3 ?_) | (apply i_cv; first | refine a_cv ?_) | (apply i_ix; first | refine a_ix (k := ?_)) | (apply i_oog; first | refine a_gt0 ?_ | refine a_gf0 ?_ | refine a_gcg0 ?_)) | refine sq_n ?_ | refine bk_n ?_ | refine wp_rg ?_ | refine wp_seq ?_ | refine wr_nil ?_ | refine wp_blk ?_ | refine bk_x ?_ | refine a_bky ?_ | refine sq_x ?_ | refine sq_r ?_ | refine bk_r ?_ | refine wp_skip ?_ | refine wp_ret ?_ | refine wp_ex ?_ | refine lp_r ?_ | refine lp_x ?_ | refine ea_r ?_ | refine ea_x ?_ | refine ei_r ?_ | refine ei_x ?_ | refine en_r ?_ | refine en_x ?_ | refine fn_r ?_ | refine fn_n ?_ | refine fp_r ?_ | refine fp_n ?_ | refine afp_im ?_ | refine afi_b ?_ | refine afi_i ?_ | refine afi_s ?_ | refine fin ?_ | (apply wpid; first | (apply i_cond; first | refine a_condT ?_ | refine a_condF ?_ | refine a_condDT ?_ | refine a_condDF ?_ | refine a_cond ?_)))
    exact p.h) : G := h ⟨p⟩
end Go.Am

/- The B-machine, part 20: a law's frame: the table of codes, the arguments' types. -/
namespace Go.Am

def lookL : List (Nat × FB) → Nat → Option FB
  | [], _ => none
  | (k, x) :: l, f => bif Nat.beq f k then some x else lookL l f
theorem lookL_mem : ∀ {l : List (Nat × FB)} {f : Nat} {x : FB}, lookL l f = some x → (f, x) ∈ l
  | [], _, _, h => by simp [lookL] at h
  | (k, y) :: l, f, x, h => by
    unfold lookL at h
    cases hb : Nat.beq f k with
    | true => rw [hb] at h; obtain rfl := Nat.eq_of_beq_eq_true hb; cases h; simp
    | false => rw [hb] at h; exact List.mem_cons_of_mem _ (lookL_mem h)
/-- So it is of each row of the table. -/
def AllT (P : Program) (md : Nat → Option (List M)) : List (Nat × FB) → Prop
  | [] => True
  | (k, x) :: l => (tab P md k = some x.er ∧ x.body.sok = true) ∧ AllT P md l
theorem AllT_mem {P : Program} {md : Nat → Option (List M)} : ∀ {l : List (Nat × FB)} {f : Nat} {x : FB}, AllT P md l → (f, x) ∈ l → tab P md f = some x.er ∧ x.body.sok = true
  | [], _, _, _, h => by simp at h
  | (k, y) :: l, f, x, h, hm => by
    rcases List.mem_cons.1 hm with h1 | h1
    · cases h1; exact h.1
    · exact AllT_mem h.2 h1
theorem tab_of {P : Program} {md : Nat → Option (List M)} {k : Nat} {fn : Func} {x : FB} (hf : P.funcs[k]? = some fn) (h : compF P md fn = some x.er) : tab P md k = some x.er := by rw [tab, hf]; exact h
theorem envOK_of {P : Program} {TL : List (Nat × FB)} {md : Nat → Option (List M)} {pr : Nat → Option (List V → Option (V × List V))} (h : AllT P md TL) (hp : ∀ f p ms args r us, pr f = some p → md f = some ms → p args = some (r, us) → IsoOK P f ms args r us ∧ Ent P f) (hm : P.follows .mixedOrders = true) :
    EnvOK P ⟨fun f => (lookL TL f).map FB.er, md, pr⟩ := by
  refine ⟨fun f F hF => ?_, hp, hm⟩
  obtain ⟨x, hx, rfl⟩ := Option.map_eq_some_iff.1 hF
  exact (AllT_mem h (lookL_mem hx)).1
theorem envB_of {P : Program} {TL : List (Nat × FB)} {md : Nat → Option (List M)} {pr : Nat → Option (List V → Option (V × List V))} (h : AllT P md TL) (hp : ∀ f p args r us, pr f = some p → p args = some (r, us) → PurL args → Pur r ∧ PurL us) : EnvB ⟨fun f => (lookL TL f).map FB.er, md, pr⟩ (lookL TL) :=
  ⟨fun f x hx => ⟨by show (lookL TL f).map FB.er = _; rw [hx]; rfl, (AllT_mem h (lookL_mem hx)).2⟩, hp⟩

/-! What lies in the arguments. -/
section
variable {P : Program} {d : Nat} {t : TypeId} {v : V}
theorem listMap {α : Type} {f : α → V} {Q : α → Prop} : ∀ {es : List V}, (∀ x ∈ es, ∃ y, x = f y ∧ Q y) → ∃ l : List α, es = l.map f ∧ ∀ y ∈ l, Q y
  | [], _ => ⟨[], rfl, by simp⟩
  | x :: es, h => by
    obtain ⟨y, rfl, hy⟩ := h x (by simp)
    obtain ⟨l, rfl, hl⟩ := listMap (es := es) fun z hz => h z (by simp [hz])
    exact ⟨y :: l, rfl, by simpa using ⟨hy, hl⟩⟩
/-- A type's values are the codes of a Lean type's. -/
def Dec (P : Program) (d : Nat) (t : TypeId) {α : Type} [Bnd α] (f : α → V) : Prop := ∀ v, TY P d t v → ∃ a : α, v = f a ∧ Bnd.wf a
theorem dec_b (hu : P.underlying t = some .bool) : Dec P (d + 1) t V.b := fun v h => by simp only [TY, hu] at h; obtain ⟨b, rfl⟩ := h; exact ⟨b, rfl, trivial⟩
theorem dec_i (hu : P.underlying t = some (.int .i64)) : Dec P (d + 1) t V.i := fun v h => by simp only [TY, hu] at h; obtain ⟨n, rfl, _⟩ := h; exact ⟨n, rfl, trivial⟩
theorem dec_u (hu : P.underlying t = some (.int .u8)) : Dec P (d + 1) t V.u := fun v h => by simp only [TY, hu] at h; obtain ⟨n, rfl, _⟩ := h; exact ⟨n, rfl, trivial⟩
theorem dec_s (hu : P.underlying t = some .string) : Dec P (d + 1) t V.s := fun v h => by simp only [TY, hu] at h; obtain ⟨s, rfl, hs⟩ := h; exact ⟨s, rfl, show s.size ≤ 9223372036854775807 by simpa [maxLen] using hs⟩
theorem dec_L {e : TypeId} {α : Type} [Bnd α] {f : α → V} (hu : P.underlying t = some (.slice e)) (hd : Dec P d e f) : Dec P (d + 1) t (fun l : List α => V.sl (l.map f)) := fun v h => by
  simp only [TY, hu] at h
  obtain ⟨es, rfl, hl, he⟩ := h
  obtain ⟨l, rfl, hq⟩ := listMap (Q := fun a => Bnd.wf a) fun x hx => hd x (he x hx)
  exact ⟨l, rfl, show l.length ≤ 9223372036854775807 by simpa [maxLen] using hl, hq⟩
theorem st_cells {fs : Array Field} (hu : P.underlying t = some (.struct fs)) (h : TY P (d + 1) t v) : ∃ cs, v = .st cs ∧ cs.length = fs.size ∧ ∀ (i : Nat) (f : Field), fs[i]? = some f → ∃ c, cs[i]? = some c ∧ TY P d f.type c := by simp only [TY, hu] at h; exact h
theorem dec_1 {fs : Array Field} {t0 : TypeId} {α : Type} [Bnd α] {f : α → V} (hu : P.underlying t = some (.struct fs)) (hf : fs.toList.map (·.type) = [t0]) (h0 : Dec P d t0 f) : Dec P (d + 1) t (fun a => V.st [f a]) := fun v h => by
  obtain ⟨cs, rfl, hl, hc⟩ := st_cells hu h
  obtain ⟨fs⟩ := fs
  match fs, hf, cs, hl with
  | [g], hf, [c], _ =>
    obtain rfl : g.type = t0 := by simpa using hf
    obtain ⟨c', h1, h2⟩ := hc 0 g rfl
    obtain rfl : c = c' := by simpa using h1
    obtain ⟨a, rfl, ha⟩ := h0 _ h2
    exact ⟨a, rfl, ha⟩
theorem dec_2 {fs : Array Field} {t0 t1 : TypeId} {α β : Type} [Bnd α] [Bnd β] {f : α → V} {g : β → V} (hu : P.underlying t = some (.struct fs)) (hf : fs.toList.map (·.type) = [t0, t1]) (h0 : Dec P d t0 f) (h1 : Dec P d t1 g) : Dec P (d + 1) t (fun a : α × β => V.st [f a.1, g a.2]) := fun v h => by
  obtain ⟨cs, rfl, hl, hc⟩ := st_cells hu h
  obtain ⟨fs⟩ := fs
  match fs, hf, cs, hl with
  | [g0, g1], hf, [c0, c1], _ =>
    obtain ⟨rfl, rfl⟩ : g0.type = t0 ∧ g1.type = t1 := by simpa using hf
    obtain ⟨c', e0, k0⟩ := hc 0 g0 rfl
    obtain rfl : c0 = c' := by simpa using e0
    obtain ⟨c', e1, k1⟩ := hc 1 g1 rfl
    obtain rfl : c1 = c' := by simpa using e1
    obtain ⟨a, rfl, ha⟩ := h0 _ k0
    obtain ⟨b, rfl, hb⟩ := h1 _ k1
    exact ⟨(a, b), rfl, ha, hb⟩
theorem dec_3 {fs : Array Field} {t0 t1 t2 : TypeId} {α β γ : Type} [Bnd α] [Bnd β] [Bnd γ] {f : α → V} {g : β → V} {k : γ → V} (hu : P.underlying t = some (.struct fs)) (hf : fs.toList.map (·.type) = [t0, t1, t2]) (h0 : Dec P d t0 f) (h1 : Dec P d t1 g) (h2 : Dec P d t2 k) : Dec P (d + 1) t (fun a : α × β × γ => V.st [f a.1, g a.2.1, k a.2.2]) := fun v h => by
  obtain ⟨cs, rfl, hl, hc⟩ := st_cells hu h
  obtain ⟨fs⟩ := fs
  match fs, hf, cs, hl with
  | [g0, g1, g2], hf, [c0, c1, c2], _ =>
    obtain ⟨rfl, rfl, rfl⟩ : g0.type = t0 ∧ g1.type = t1 ∧ g2.type = t2 := by simpa using hf
    obtain ⟨c', e0, k0⟩ := hc 0 g0 rfl
    obtain rfl : c0 = c' := by simpa using e0
    obtain ⟨c', e1, k1⟩ := hc 1 g1 rfl
    obtain rfl : c1 = c' := by simpa using e1
    obtain ⟨c', e2, k2⟩ := hc 2 g2 rfl
    obtain rfl : c2 = c' := by simpa using e2
    obtain ⟨a, rfl, ha⟩ := h0 _ k0
    obtain ⟨b, rfl, hb⟩ := h1 _ k1
    obtain ⟨c, rfl, hcc⟩ := h2 _ k2
    exact ⟨(a, b, c), rfl, ha, hb, hcc⟩
theorem dec_4 {fs : Array Field} {t0 t1 t2 t3 : TypeId} {α β γ δ : Type} [Bnd α] [Bnd β] [Bnd γ] [Bnd δ] {f : α → V} {g : β → V} {k : γ → V} {m : δ → V} (hu : P.underlying t = some (.struct fs)) (hf : fs.toList.map (·.type) = [t0, t1, t2, t3]) (h0 : Dec P d t0 f) (h1 : Dec P d t1 g) (h2 : Dec P d t2 k) (h3 : Dec P d t3 m) :
    Dec P (d + 1) t (fun a : α × β × γ × δ => V.st [f a.1, g a.2.1, k a.2.2.1, m a.2.2.2]) := fun v h => by
  obtain ⟨cs, rfl, hl, hc⟩ := st_cells hu h
  obtain ⟨fs⟩ := fs
  match fs, hf, cs, hl with
  | [g0, g1, g2, g3], hf, [c0, c1, c2, c3], _ =>
    obtain ⟨rfl, rfl, rfl, rfl⟩ : g0.type = t0 ∧ g1.type = t1 ∧ g2.type = t2 ∧ g3.type = t3 := by simpa using hf
    obtain ⟨c', e0, k0⟩ := hc 0 g0 rfl
    obtain rfl : c0 = c' := by simpa using e0
    obtain ⟨c', e1, k1⟩ := hc 1 g1 rfl
    obtain rfl : c1 = c' := by simpa using e1
    obtain ⟨c', e2, k2⟩ := hc 2 g2 rfl
    obtain rfl : c2 = c' := by simpa using e2
    obtain ⟨c', e3, k3⟩ := hc 3 g3 rfl
    obtain rfl : c3 = c' := by simpa using e3
    obtain ⟨a, rfl, ha⟩ := h0 _ k0
    obtain ⟨b, rfl, hb⟩ := h1 _ k1
    obtain ⟨c, rfl, hcc⟩ := h2 _ k2
    obtain ⟨e, rfl, he⟩ := h3 _ k3
    exact ⟨(a, b, c, e), rfl, ha, hb, hcc, he⟩
end
end Go.Am

/- The B-machine, part 21: arguments that are taken; cutting and clearing of the frame's own lists. -/
namespace Go.Am
section
variable {H : Nat → Option Blk} {d : Nat} {e : Nat → V} {n : Nat} {z : Bool}
theorem tk_sl {es : List V} : takeB (d + 1) (.sl es) ⟨e, H, n, z⟩ = some (.sl es, ⟨e, H, n, z⟩) := rfl
theorem tk_rp {v : V} : takeB (d + 1) (.rp v) ⟨e, H, n, z⟩ = some (.rp v, ⟨e, H, n, z⟩) := rfl
theorem tk_cl {f : Nat} {cs vs : List V} {s1 : S} (h : takeL (takeB d) cs ⟨e, H, n, z⟩ = some (vs, s1)) : takeB (d + 1) (.cl f cs) ⟨e, H, n, z⟩ = some (.cl f vs, s1) := by simp only [takeB, h]
theorem tkLA {ts vs : List V} {s1 : S} (h : takeL (takeB d) ts ⟨e, H, n, z⟩ = some (vs, s1) := by
    (repeat (first | exact tl_nil | apply tl_cons | exact tk_im | exact tk_e0 | exact tk_sl | exact tk_rp | (apply tk_ow; exact fun _ => okA) | apply tk_st | apply tk_tu | apply tk_cl | fail))
    done) : takeL (takeB d) ts ⟨e, H, n, z⟩ = some (vs, s1) := h
/-- A slice's front, given back. -/
theorem gv_hsT {es : List V} {k b m c : Nat} {fr : Bool} (hB : H b = some ⟨k, es, fr⟩) (hn : m ≤ es.length) (h : allL (okD d) (es.take m) = true) : giveB (d + 1) H (.hs b 0 m c) = some (.ow k (es.take m), [b]) := by
  simp only [giveB, hB]
  rw [if_pos (by omega)]
  simp only [List.drop_zero, overL_giveB h]
theorem gv_hsL {α : Type} {f : α → V} {l : List α} {k b m c : Nat} {fr : Bool} (hB : H b = some ⟨k, l.map f, fr⟩) (hn : m = l.length) (h : ∀ a, okD d (f a) = true) : giveB (d + 1) H (.hs b 0 m c) = some (.ow k (l.map f), [b]) := giveB_hs hB (allL_map h) (by simpa using hn)
/-- Handing over: the first argument taken, the others read. -/
theorem ht_cons {v t : V} {vs ts : List V} {i j : List Nat} (h1 : giveB DEP H v = some (t, i)) (h2 : handB H [.ro] vs = some (ts, j, [])) : handB H [.tk, .ro] (v :: vs) = some (t :: ts, j, i) := by
  simp only [handB, List.headD_cons, h1, Option.map_some, List.tail_cons, h2, List.nil_append, List.append_nil]
theorem hr_cons {v t : V} {vs ts : List V} {i j : List Nat} (h1 : snapB DEP H v = some (t, i)) (h2 : handB H [] vs = some (ts, j, [])) : handB H [.ro] (v :: vs) = some (t :: ts, i ++ j, []) := by
  simp only [handB, List.headD_cons, h1, Option.map_some, List.tail_cons, h2, List.append_nil]
end
def notInB (l r : List Nat) : Bool := match l with | [] => true | a :: l => bif memB a r then false else notInB l r
theorem notIn_of : ∀ {l r : List Nat}, notInB l r = true → ∀ b ∈ l, b ∉ r
  | [], _, _ => by simp
  | a :: l, r, h => by
    unfold notInB at h
    cases hb : memB a r with
    | true => rw [hb] at h; cases h
    | false =>
      rw [hb] at h
      intro b hm
      rcases List.mem_cons.1 hm with rfl | hm
      · exact memB_of hb
      · exact notIn_of h b hm
/-- Blocks that are gone. -/
def killU (H : Nat → Option Blk) : List Nat → Nat → Option Blk
  | [] => H
  | b :: l => up (killU H l) b none
theorem killU_eq (H : Nat → Option Blk) : ∀ l : List Nat, kill H l = killU H l
  | [] => by funext b; simp [kill, killU]
  | a :: l => by
    have h := killU_eq H l
    funext b
    simp only [killU, ← up_eq, ← h, kill, upd, List.mem_cons]
    by_cases e : b = a <;> simp [e]
section
variable {Γ : Env} {T : Nat → Option FB} {e : Nat → V} {H : Nat → Option Blk} {n : Nat} {z : Bool} {l : List I} {K : S → Prop} {Q : R → Prop} {d : Nat}
theorem call_md' {f : Nat} {ms : List M} {args vals : List V} {t : V} {x : FB} {H : Nat → Option Blk} {n : Nat} (hp : Γ.pr f = none) (hT : T f = some x) (hn : args.length = x.np) (hl : lent ms vals = [])
    (ht : takeL (takeB DEP) args ⟨fun _ => .un, fun _ => none, 0, false⟩ = some (vals, ⟨fun _ => .un, H, n, false⟩)) (h : WP Γ T x.body ⟨envOf vals, H, n, false⟩ (FinQ t x.res)) : CALLB Γ T f ms args = some (t, []) := by
  refine call_of hp hT hn ht (wp_mono h fun r hr => ?_)
  cases r with
  | n s => unfold FinQ Fin at hr; obtain ⟨v, o, i, g1, g2, g3⟩ := hr; exact ⟨v, o, i, [], g1, g2, by rw [lentB_nil hl ht hn]; rfl, by simpa using g3, by rw [lentB_nil hl ht hn]; rfl⟩
  | r s => unfold FinQ Fin at hr; obtain ⟨v, o, i, g1, g2, g3⟩ := hr; exact ⟨v, o, i, [], g1, g2, by rw [lentB_nil hl ht hn]; rfl, by simpa using g3, by rw [lentB_nil hl ht hn]; rfl⟩
  | x i s => unfold FinQ at hr; exact hr.elim
/-- A call whose first argument is taken: by the callee's contract. -/
theorem ct {f : Nat} {fo : O} {xs : List O} {ts vs ws caps : List V} {rs os : List Nat} {t v : V} {H' : Nat → Option Blk} {n' : Nat} (hc : CALLB Γ T f [.tk, .ro] ts = some (t, [])) (k : WL Γ T l ⟨up e d v, H', n', z⟩ K)
    (hf : fnOf (val e fo) = some (f, caps) := by rfl) (hv : xs.map (val e) = vs := by first | exact frcL | fail) (hw : vs ++ caps = ws := by first | exact frcA | fail) (hu : (xs.all fun x => !isUn (val e x)) = true := by rfl) (hm : Γ.md f = some [.tk, .ro] := by first | rfl | assumption)
    (hh : handB H [.tk, .ro] ws = some (ts, rs, os) := by
      apply ht_cons
      · (first | (apply gv_hsL; rfl; rfl; exact fun _ => okA) | fail)
      · apply hr_cons
        · (first | exact snA | fail)
        · (first | exact hdA | fail))
    (hn : ndB os = true := by rfl) (hn2 : notInB os rs = true := by rfl) (hr : (rs.isEmpty || free DEP t) = true := by first | exact rs_nil | exact rs_fr frA | fail)
    (ht : takeB DEP t ⟨e, killU H os, n, z⟩ = some (v, ⟨e, H', n', z⟩) := by first | exact tkA | fail) : WL Γ T (o d (.ca fo xs) :: l) ⟨e, H, n, z⟩ K := by
  refine g_of (wo_callv (s1 := ⟨e, killU H os, n, z⟩) hf hu (by rw [hv]; exact hw) hm hh ⟨nd_of hn, notIn_of hn2⟩ hc ?_ ?_ ht ⟨rfl, rfl⟩) k
  · simpa [allL] using hr
  · have hl : lent [M.tk, .ro] ws = [] := by
      match ws with
      | [] => rfl
      | [_] => rfl
      | _ :: _ :: r => exact lent_ro [] r rfl
    rw [hl]
    show some (S.mem _ _) = _
    rw [killU_eq]; rfl
theorem g_ldU {α : Type} {f : α → V} {es : List α} {x : O} {b kk k1 : Nat} (hx : val e x = .hp b 0) (hB : H b = some ⟨k1, [.ow kk (es.map f)], false⟩)
    (k : WL Γ T l ⟨up e d (.hs n 0 es.length es.length), up (up H n (some ⟨kk, es.map f, false⟩)) b (some ⟨k1, [.hs n 0 es.length es.length], false⟩), n + 1, z⟩ K) (hb : Nat.beq b n = false) : WL Γ T (o d (.ld none x) :: l) ⟨e, H, n, z⟩ K := by
  refine g_op (v := .hs n 0 es.length es.length) ?_ k
  have hne : b ≠ n := fun h => by rw [h] at hb; simp at hb
  simp only [opB, ldB, hx, derefB, hB, Option.bind_some, List.getElem?_cons_zero, V.fits, V.okc, Bool.false_eq_true, if_false, V.fitsB, V.pkc, pkd, Bool.or_true, if_true, unp, unp1, List.length_map, S.new, putB, upd_ne _ _ hne, List.set_cons_zero]
  rw [up_eq, up_eq]
/-- A list of the frame's own, cut. -/
theorem g_sch {q : Option Nat} {x : O} {lo hi : Option O} {b off m c : Nat} {B : Blk} {a h : Int} (hx : val e x = .hs b off m c) (hB : H b = some B) (hk : B.k = ksz q) (hl : bndOf 0 (lo.map (val e)) = some a) (hh : bndOf m (hi.map (val e)) = some h) (hc : 0 ≤ a ∧ a ≤ h ∧ h ≤ c)
    (k : WL Γ T l ⟨up e d (.hs b (off + a.toNat) (h - a).toNat (c - a.toNat)), H, n, z⟩ K) : WL Γ T (o d (.sc q x lo hi none) :: l) ⟨e, H, n, z⟩ K :=
  g_op (by
    simp only [opB, opA, hx, hB, hk, if_true, Option.map_none, sliceOf, hl, hh]
    first | (rw [if_pos hc]; split <;> rfl) | (split <;> rfl)) k
/-- A list of the frame's own, cleared. -/
theorem g_cr {q : Option Nat} {x : O} {zz : V} {b off m c kk : Nat} {es : List V} (hx : val e x = .hs b off m c) (hB : H b = some ⟨kk, es, false⟩) (hk : kk = ksz q) (hf : zz.fits q = true) (hle : off + m ≤ es.length)
    (k : WL Γ T l ⟨e, up H b (some ⟨kk, splice es off (List.replicate m zz), false⟩), n, z⟩ K) : WL Γ T (oo (.cr q zz x) :: l) ⟨e, H, n, z⟩ K :=
  g_op0 (v := .un) (by
    simp only [opB, opA, hx, hB]
    rw [if_pos ⟨trivial, hk, hf, hle⟩, up_eq]) k
end
theorem fin_gv {t v : V} {l : List (Nat × Option (Option Nat))} {s : S} {o i : List Nat} (hr : resOfB s l = some (v, o)) (g : giveB DEP s.H v = some (t, i)) (hn : ndB (o ++ i) = true) : Fin t l s := by unfold Fin; exact ⟨v, o, i, hr, g, nd_of hn⟩
/-- The front of a slice, as it is given back. -/
theorem gv_front {H : Nat → Option Blk} {d b m c k : Nat} {es ts : List V} {fr : Bool} (hB : H b = some ⟨k, es, fr⟩) (hm : m ≤ es.length) (ht : es.take m = ts) (hok : allL (okD d) ts = true) : giveB (d + 1) H (.hs b 0 m c) = some (.ow k ts, [b]) := by
  subst ht; exact gv_hsT hB hm hok
theorem splice_take {l : List V} {i : Nat} {xs : List V} (h : i ≤ l.length) : (splice l i xs).take i = l.take i := by
  unfold splice
  rw [List.append_assoc, List.take_append_of_le_length (by simp; omega), List.take_take, Nat.min_self]
end Go.Am

/- The B-machine, part 22: functions that write an argument, and their calls. -/
namespace Go.Am
/-- The front of A, the rest of B. -/
def mx {α : Type} (i : Nat) (A B : List α) : List α := A.take i ++ B.drop i
section
variable {α : Type} {i : Nat} {A B : List α}
theorem mx_0 : mx 0 A B = B := by simp [mx]
theorem mx_end (h : A.length = B.length) : mx B.length A B = A := by simp [mx, ← h]
theorem mx_len (h : A.length = B.length) : (mx i A B).length = B.length := by simp [mx]; omega
theorem mx_get (h : A.length = B.length) (hi : i < B.length) : (mx i A B)[i]? = B[i]? := by
  unfold mx
  rw [List.getElem?_append_right (by simp; omega), List.getElem?_drop]
  congr 1; simp; omega
theorem mx_set (h : A.length = B.length) {a : α} (ha : A[i]? = some a) : (mx i A B).set i a = mx (i + 1) A B := by
  have hi : i < A.length := (List.getElem?_eq_some_iff.1 ha).1
  have e : a = A[i] := ((List.getElem?_eq_some_iff.1 ha).2).symm
  unfold mx
  rw [List.set_append, if_neg (by simp; omega), List.take_succ_eq_append_getElem hi, List.append_assoc]
  have : i - (A.take i).length = 0 := by simp; omega
  rw [this, List.drop_eq_getElem_cons (by omega : i < B.length), List.set_cons_zero, e]; rfl
end
/-- A list of the frame's own, as it is lent. -/
def ioT {α : Type} (k : Nat) (f : α → V) : List α → V
  | [] => .sl []
  | a :: l => .ow k ((a :: l).map f)
theorem ioT_ne {α : Type} {k : Nat} {f : α → V} {l : List α} (h : l ≠ []) : ioT k f l = .ow k (l.map f) := by cases l with | nil => exact absurd rfl h | cons => rfl
/-- The end of a function that writes an argument. -/
def IoS (t : V) (us : List V) (np : Nat) (ms : List M) (res : List (Nat × Option (Option Nat))) (s : S) : Prop :=
  ∃ v o i j, resOfB s res = some (v, o) ∧ giveB DEP s.H v = some (t, i) ∧ overL (giveB DEP s.H) (lentB np ms s.e) = some (us, j) ∧ (o ++ i ++ j).Nodup ∧ ((lentB np ms s.e).all fun v => !isUn v) = true
def IoQ (t : V) (us : List V) (np : Nat) (ms : List M) (res : List (Nat × Option (Option Nat))) : R → Prop
  | .n s | .r s => IoS t us np ms res s
  | _ => False
section
variable {Γ : Env} {T : Nat → Option FB} {e : Nat → V} {H : Nat → Option Blk} {n : Nat} {z : Bool} {l : List I} {K : S → Prop} {Q : R → Prop} {d : Nat}
theorem io_n {t : V} {us : List V} {np : Nat} {ms : List M} {res : List (Nat × Option (Option Nat))} {s : S} (h : IoS t us np ms res s) : IoQ t us np ms res (.n s) := h
theorem io_r {t : V} {us : List V} {np : Nat} {ms : List M} {res : List (Nat × Option (Option Nat))} {s : S} (h : IoS t us np ms res s) : IoQ t us np ms res (.r s) := h
theorem call_io {f : Nat} {ms : List M} {args vals us : List V} {t : V} {x : FB} {H : Nat → Option Blk} {n : Nat} (hp : Γ.pr f = none) (hT : T f = some x) (hn : args.length = x.np) (hk : x.body.keeps (lent ms (List.range x.np)) = true)
    (ht : takeL (takeB DEP) args ⟨fun _ => .un, fun _ => none, 0, false⟩ = some (vals, ⟨fun _ => .un, H, n, false⟩)) (h : WP Γ T x.body ⟨envOf vals, H, n, false⟩ (IoQ t us x.np ms x.res)) : CALLB Γ T f ms args = some (t, us) := by
  refine call_of hp hT hn ht (wp_mono h fun r hr => ?_)
  cases r with
  | n s => obtain ⟨v, o, i, j, g1, g2, g3, g4, g5⟩ := hr; exact ⟨v, o, i, j, g1, g2, g3, g4, by rw [hk, g5]; simp⟩
  | r s => obtain ⟨v, o, i, j, g1, g2, g3, g4, g5⟩ := hr; exact ⟨v, o, i, j, g1, g2, g3, g4, by rw [hk, g5]; simp⟩
  | x i s => exact hr.elim
/-- A whole number comes back, and one list. -/
theorem fioN {x y : Int} {v t : V} {j : List Nat} {np : Nat} {ms : List M} {res : List (Nat × Option (Option Nat))} {s : S} (h : x = y) (hl : lentB np ms s.e = [v]) (g : giveB DEP s.H v = some (t, j)) (hr : resOfB s res = some (.i x, []) := by rfl) (hn : ndB j = true := by rfl) (hu : isUn v = false := by rfl) : IoS (.i y) [t] np ms res s := by
  subst h
  refine ⟨_, [], [], j, hr, rfl, by rw [hl]; exact (by rw [overL_mk (L1 := j) (L2 := []) g rfl, List.append_nil]), by simpa using nd_of hn, by rw [hl]; simp [hu]⟩

/-- A result, and one list that comes back. -/
theorem fioV {v w t u : V} {o i j : List Nat} {np : Nat} {ms : List M} {res : List (Nat × Option (Option Nat))} {s : S} (g : giveB DEP s.H v = some (t, i)) (g2 : giveB DEP s.H w = some (u, j)) (hr : resOfB s res = some (v, o) := by rfl) (hl : lentB np ms s.e = [w] := by rfl) (hn : ndB (o ++ i ++ j) = true := by rfl) (hu : isUn w = false := by rfl) : IoS t [u] np ms res s :=
  ⟨v, o, i, j, hr, g, by rw [hl]; exact (by rw [overL_mk (L1 := j) (L2 := []) g2 rfl, List.append_nil]), nd_of hn, by rw [hl]; simp [hu]⟩
theorem gv_sl {es : List V} : giveB (d + 1) H (.sl es) = some (.sl es, []) := rfl
/-- A whole number comes back, and a list that is only read. -/
theorem fioS {x y : Int} {es : List V} {np : Nat} {ms : List M} {res : List (Nat × Option (Option Nat))} {s : S} (h : x = y) (hl : lentB np ms s.e = [.sl es] := by rfl) (hr : resOfB s res = some (.i x, []) := by rfl) : IoS (.i y) [.sl es] np ms res s :=
  fioN h hl gv_sl hr
/-! Lending. -/
theorem okD_mono : ∀ {d : Nat} {v : V}, okD d v = true → okD (d + 1) v = true
  | 0, v, h => by simp [okD] at h
  | d + 1, v, h => by
    have lst : ∀ {cs : List V}, allL (okD d) cs = true → allL (okD (d + 1)) cs = true := fun h => allL_iff.2 fun v hv => okD_mono (allL_iff.1 h v hv)
    cases v <;> simp only [okD] at h ⊢ <;> first | exact h | exact lst h | exact okD_mono h
theorem le_hs {α : Type} {f : α → V} {ll : List α} {k b m c : Nat} {fr : Bool} (hB : H b = some ⟨k, ll.map f, fr⟩) (hm : m = ll.length) (h : ∀ a, okD 7 (f a) = true) : lendB H (.hs b 0 m c) = some (ioT k f ll, if ll = [] then [] else [b]) := by
  subst hm
  show lendB1 H (.hs b 0 ll.length c) = _
  unfold lendB1
  cases ll with
  | nil => rfl
  | cons a ll => exact gv_hs (f := f) (c := c) (l := a :: ll) (l' := a :: ll) ⟨rfl⟩ hB rfl h
theorem hio {v w t u : V} {i j : List Nat} (h1 : lendB H v = some (t, i)) (h2 : snapB DEP H w = some (u, j)) : handB H [.io, .ro] [v, w] = some ([t, u], j, i) := by
  simp only [handB, List.headD_cons, h1, Option.map_some, List.tail_cons, h2, List.nil_append, List.append_nil]
theorem kill_nil' : kill H [] = H := by funext b; simp [kill]
/-- A list of the frame's own is lent to a function, with a whole number. -/
theorem ci {α β : Type} {f : Nat} {fo : O} {xs : List O} {g : α → V} {g' : β → V} {ll : List α} {ll' : List β} {b m c kk : Nat} {k r : Int} (hc : CALLB Γ T f [.io, .ro] [ioT kk g ll, .i k] = some (.i r, [ioT kk g' ll'])) (hl : ll'.length = ll.length)
    (k0 : WL Γ T l ⟨up e d (.i r), up H b (some ⟨kk, ll'.map g', false⟩), n, z⟩ K)
    (hf : fnOf (val e fo) = some (f, []) := by rfl) (hv : xs.map (val e) = [.hs b 0 m c, .i k] := by first | exact frcL | fail) (hu : (xs.all fun x => !isUn (val e x)) = true := by rfl) (hm : Γ.md f = some [.io, .ro] := by first | rfl | assumption)
    (hB : H b = some ⟨kk, ll.map g, false⟩ := by rfl) (hml : m = ll.length := by rfl) (ok : ∀ a, okD 7 (g a) = true := by exact fun _ => okA) (ok' : ∀ a, okD 7 (g' a) = true := by exact fun _ => okA) : WL Γ T (o d (.ca fo xs) :: l) ⟨e, H, n, z⟩ K := by
  have h1 := hio (w := .i k) (u := .i k) (j := []) (le_hs (c := c) hB hml ok) rfl
  by_cases h0 : ll = []
  · have h0' : ll' = [] := List.length_eq_zero_iff.1 (by rw [hl, h0]; rfl)
    subst h0; subst h0'
    rw [up_id H b (some ⟨kk, ([] : List β).map g', false⟩) (by rw [hB]; rfl)] at k0
    simp only [List.length_nil] at hml
    subst hml
    refine g_of (wo_callv (s1 := ⟨e, H, n, z⟩) hf hu (by rw [hv]; rfl) hm h1 ⟨by simp, by simp⟩ hc rfl ?_ rfl ⟨rfl, rfl⟩) k0
    simp only [if_true]
    show backLB H [.hs b 0 0 c] [.sl []] _ = _
    simp only [backLB, back1B, backVB, if_true, and_self, S.mem, kill_nil']
  · have h0' : ll' ≠ [] := by intro h; rw [h] at hl; exact h0 (List.length_eq_zero_iff.1 hl.symm)
    rw [ioT_ne h0] at h1 hc
    rw [ioT_ne h0'] at hc
    rw [if_neg h0] at h1
    refine g_of (wo_callv (s1 := ⟨e, up H b (some ⟨kk, ll'.map g', false⟩), n, z⟩) hf hu (by rw [hv]; rfl) hm h1 (by simp) hc rfl ?_ rfl ⟨rfl, rfl⟩) k0
    show backLB H [.hs b 0 m c] [.ow kk (ll'.map g')] _ = _
    have he : ll'.map g' ≠ [] := by simpa using h0'
    have hok : allL (okD DEP) (ll'.map g') = true := allL_iff.2 fun v hv => by
      obtain ⟨a, _, rfl⟩ := List.mem_map.1 hv
      exact okD_mono (ok' a)
    simp only [backLB, back1B, backVB, if_neg he, hB]
    rw [if_pos ⟨trivial, by simpa using hml, by simp [hml, hl], trivial, hok⟩]
    simp only [S.blk, S.mem, killU_eq, killU, up_eq]
    refine congrArg some ?_
    have : up (up H b none) b (some ⟨kk, ll'.map g', false⟩) = up H b (some ⟨kk, ll'.map g', false⟩) := by
      funext j; unfold up; cases Nat.beq j b <;> rfl
    rw [this]
/-- Nothing is lent to a function, with a whole number. -/
theorem ci0 {f : Nat} {fo : O} {xs : List O} {k r : Int} (hc : CALLB Γ T f [.io, .ro] [.e0, .i k] = some (.i r, [.e0]))
    (k0 : WL Γ T l ⟨up e d (.i r), H, n, z⟩ K)
    (hf : fnOf (val e fo) = some (f, []) := by rfl) (hv : xs.map (val e) = [.e0, .i k] := by first | exact frcL | fail) (hu : (xs.all fun x => !isUn (val e x)) = true := by rfl) (hm : Γ.md f = some [.io, .ro] := by first | rfl | assumption) : WL Γ T (o d (.ca fo xs) :: l) ⟨e, H, n, z⟩ K := by
  have h1 : handB H [.io, .ro] [.e0, .i k] = some ([.e0, .i k], [], []) := hio (i := []) (j := []) rfl rfl
  refine g_of (wo_callv (s1 := ⟨e, H, n, z⟩) hf hu (by rw [hv]; rfl) hm h1 (by simp) hc rfl ?_ rfl ⟨rfl, rfl⟩) k0
  show backLB H [.e0] [.e0] _ = _
  simp only [backLB, back1B, backVB, S.mem, kill_nil']
/-! Packed lists, loaded: each comes to lie in a block of its own. -/
theorem at_map {α : Type} {f : α → V} {ll : List α} {i : Nat} {a : α} (h : ll[i]? = some a) : (ll.map f)[i]? = some (f a) := by rw [List.getElem?_map, h]; rfl
theorem at_set {es : List V} {i : Nat} {v : V} (h : i < es.length) : (es.set i v)[i]? = some v := by rw [List.getElem?_set_self h]
theorem g_ldf {α : Type} {f : α → V} {ll : List α} {es cs vs : List V} {x : O} {b i j k1 kk : Nat} (hx : val e x = .hf b i j) (hB : H b = some ⟨k1, es, false⟩) (hi : es[i]? = some (.st cs)) (hj : cs[j]? = some (.ow kk (ll.map f))) (hb : Nat.beq b n = false)
    (hs : cs.set j (.hs n 0 ll.length ll.length) = vs)
    (k : WL Γ T l ⟨up e d (.hs n 0 ll.length ll.length), up (up H n (some ⟨kk, ll.map f, false⟩)) b (some ⟨k1, es.set i (.st vs), false⟩), n + 1, z⟩ K) : WL Γ T (o d (.ld none x) :: l) ⟨e, H, n, z⟩ K := by
  refine g_op (v := .hs n 0 ll.length ll.length) ?_ k
  have hne : b ≠ n := fun h => by rw [h] at hb; simp at hb
  subst hs
  simp only [opB, ldB, hx, derefB, hB, Option.bind_some, hi, hj, V.fits, V.okc, Bool.false_eq_true, if_false, V.fitsB, V.pkc, pkd, Bool.or_true, if_true, unp, unp1, List.length_map, S.new, putB, upd_ne _ _ hne]
  rw [up_eq, up_eq]
theorem g_ldp {α : Type} {f : α → V} {ll : List α} {es : List V} {x : O} {b i k1 kk : Nat} (hx : val e x = .hp b i) (hB : H b = some ⟨k1, es, false⟩) (hi : es[i]? = some (.ow kk (ll.map f))) (hb : Nat.beq b n = false)
    (k : WL Γ T l ⟨up e d (.hs n 0 ll.length ll.length), up (up H n (some ⟨kk, ll.map f, false⟩)) b (some ⟨k1, es.set i (.hs n 0 ll.length ll.length), false⟩), n + 1, z⟩ K) : WL Γ T (o d (.ld none x) :: l) ⟨e, H, n, z⟩ K := by
  refine g_op (v := .hs n 0 ll.length ll.length) ?_ k
  have hne : b ≠ n := fun h => by rw [h] at hb; simp at hb
  simp only [opB, ldB, hx, derefB, hB, Option.bind_some, hi, V.fits, V.okc, Bool.false_eq_true, if_false, V.fitsB, V.pkc, pkd, Bool.or_true, if_true, unp, unp1, List.length_map, S.new, putB, upd_ne _ _ hne]
  rw [up_eq, up_eq]
theorem g_lds {α : Type} {f : α → V} {ll : List α} {es : List V} {x : O} {b i k1 kk : Nat} (hx : val e x = .hp b i) (hB : H b = some ⟨k1, es, false⟩) (hi : es[i]? = some (.st [.ow kk (ll.map f)])) (hb : Nat.beq b n = false)
    (k : WL Γ T l ⟨up e d (.st [.hs n 0 ll.length ll.length]), up (up H n (some ⟨kk, ll.map f, false⟩)) b (some ⟨k1, es.set i (.st [.hs n 0 ll.length ll.length]), false⟩), n + 1, z⟩ K) : WL Γ T (o d (.ld (some 1) x) :: l) ⟨e, H, n, z⟩ K := by
  refine g_op (v := .st [.hs n 0 ll.length ll.length]) ?_ k
  have hne : b ≠ n := fun h => by rw [h] at hb; simp at hb
  have h1 : V.fits (some 1) (.st [.ow kk (ll.map f)]) = false := rfl
  have h2 : V.fitsB (some 1) (.st [.ow kk (ll.map f)]) = true := rfl
  simp only [opB, ldB, hx, derefB, hB, Option.bind_some, hi, h1, h2, Bool.false_eq_true, if_false, if_true, unp, takeL, unp1, List.length_map, S.new, putB, upd_ne _ _ hne]
  rw [up_eq, up_eq]
/-- The same, found by the walker. -/
theorem u0 {α : Type} {f : α → V} {ll : List α} {es cs vs : List V} {x : O} {b i j k1 kk : Nat}
    (k : WL Γ T l ⟨up e d (.hs n 0 ll.length ll.length), up (up H n (some ⟨kk, ll.map f, false⟩)) b (some ⟨k1, es.set i (.st vs), false⟩), n + 1, z⟩ K)
    (hx : val e x = .hf b i j := by rfl) (hB : H b = some ⟨k1, es, false⟩ := by rfl) (hi : es[i]? = some (.st cs) := by first | (apply at_map; assumption) | fail) (hj : cs[j]? = some (.ow kk (ll.map f)) := by rfl) (hb : Nat.beq b n = false := by rfl)
    (hs : cs.set j (.hs n 0 ll.length ll.length) = vs := by first | exact frcS | fail) : WL Γ T (o d (.ld none x) :: l) ⟨e, H, n, z⟩ K := g_ldf hx hB hi hj hb hs k
theorem u1 {α : Type} {f : α → V} {ll : List α} {es cs vs : List V} {x : O} {b i j k1 kk : Nat}
    (k : WL Γ T l ⟨up e d (.hs n 0 ll.length ll.length), up (up H n (some ⟨kk, ll.map f, false⟩)) b (some ⟨k1, es.set i (.st vs), false⟩), n + 1, z⟩ K)
    (hx : val e x = .hf b i j := by rfl) (hB : H b = some ⟨k1, es.set i (.st cs), false⟩ := by rfl) (hi : i < es.length := by first | assumption | (simp only [List.length_map]; omega) | fail) (hj : cs[j]? = some (.ow kk (ll.map f)) := by rfl) (hb : Nat.beq b n = false := by rfl)
    (hs : cs.set j (.hs n 0 ll.length ll.length) = vs := by first | exact frcS | fail) : WL Γ T (o d (.ld none x) :: l) ⟨e, H, n, z⟩ K :=
  g_ldf hx hB (at_set hi) hj hb hs (by rw [List.set_set]; exact k)
theorem u2 {α : Type} {f : α → V} {ll : List α} {es : List V} {x : O} {b i k1 kk : Nat}
    (k : WL Γ T l ⟨up e d (.hs n 0 ll.length ll.length), up (up H n (some ⟨kk, ll.map f, false⟩)) b (some ⟨k1, es.set i (.hs n 0 ll.length ll.length), false⟩), n + 1, z⟩ K)
    (hx : val e x = .hp b i := by rfl) (hB : H b = some ⟨k1, es, false⟩ := by rfl) (hi : es[i]? = some (.ow kk (ll.map f)) := by first | (apply at_map; assumption) | fail) (hb : Nat.beq b n = false := by rfl) : WL Γ T (o d (.ld none x) :: l) ⟨e, H, n, z⟩ K := g_ldp hx hB hi hb k
theorem u3 {α : Type} {f : α → V} {ll : List α} {es : List V} {x : O} {b i k1 kk : Nat}
    (k : WL Γ T l ⟨up e d (.st [.hs n 0 ll.length ll.length]), up (up H n (some ⟨kk, ll.map f, false⟩)) b (some ⟨k1, es.set i (.st [.hs n 0 ll.length ll.length]), false⟩), n + 1, z⟩ K)
    (hx : val e x = .hp b i := by rfl) (hB : H b = some ⟨k1, es, false⟩ := by rfl) (hi : es[i]? = some (.st [.ow kk (ll.map f)]) := by first | (apply at_map; assumption) | fail) (hb : Nat.beq b n = false := by rfl) : WL Γ T (o d (.ld (some 1) x) :: l) ⟨e, H, n, z⟩ K := g_lds hx hB hi hb k
/-- A list of the frame's own is lent to a function that reads it (and may share what else it reads). -/
theorem cp {α : Type} {f : Nat} {fo : O} {xs : List O} {g : α → V} {ll : List α} {a w t v : V} {b m c kk : Nat} {H' : Nat → Option Blk} {n' : Nat} (hc : CALLB Γ T f [.ro, .io] [a, ioT kk g ll] = some (t, [ioT kk g ll]))
    (k0 : WL Γ T l ⟨up e d v, H', n', z⟩ K)
    (hf : fnOf (val e fo) = some (f, []) := by rfl) (hv : xs.map (val e) = [w, .hs b 0 m c] := by first | exact frcL | fail) (hu : (xs.all fun x => !isUn (val e x)) = true := by rfl) (hm : Γ.md f = some [.ro, .io] := by first | rfl | assumption)
    (hB : H b = some ⟨kk, ll.map g, false⟩ := by rfl) (hml : m = ll.length := by first | rfl | assumption) (hs : snapB DEP H w = some (a, []) := by first | exact snA | fail) (ht : takeB DEP t ⟨e, H, n, z⟩ = some (v, ⟨e, H', n', z⟩) := by first | exact tkA | fail) (ok : ∀ a, okD 7 (g a) = true := by exact fun _ => okA) : WL Γ T (o d (.ca fo xs) :: l) ⟨e, H, n, z⟩ K := by
  have h1 : handB H [.ro, .io] [w, .hs b 0 m c] = some ([a, ioT kk g ll], [], if ll = [] then [] else [b]) := by
    simp only [handB, List.headD_cons, hs, Option.map_some, List.tail_cons, le_hs (c := c) hB hml ok, List.append_nil, List.nil_append]
  by_cases h0 : ll = []
  · subst h0
    simp only [List.length_nil] at hml
    subst hml
    refine g_of (wo_callv (s1 := ⟨e, H, n, z⟩) hf hu (by rw [hv]; rfl) hm h1 ⟨by simp, by simp⟩ hc rfl ?_ ht ⟨rfl, rfl⟩) k0
    simp only [if_true]
    show backLB H [.hs b 0 0 c] [.sl []] _ = _
    simp only [backLB, back1B, backVB, if_true, and_self, S.mem, kill_nil']
  · rw [ioT_ne h0] at h1 hc
    rw [if_neg h0] at h1
    refine g_of (wo_callv (s1 := ⟨e, H, n, z⟩) hf hu (by rw [hv]; rfl) hm h1 (by simp) hc rfl ?_ ht ⟨rfl, rfl⟩) k0
    show backLB H [.hs b 0 m c] [.ow kk (ll.map g)] _ = _
    have he : ll.map g ≠ [] := by simpa using h0
    have hok : allL (okD DEP) (ll.map g) = true := allL_iff.2 fun v hv => by
      obtain ⟨a, _, rfl⟩ := List.mem_map.1 hv
      exact okD_mono (ok a)
    simp only [backLB, back1B, backVB, if_neg he, hB]
    rw [if_pos ⟨trivial, by simpa using hml, by simp [hml], trivial, hok⟩]
    simp only [S.blk, S.mem, killU_eq, killU, up_eq]
    refine congrArg some ?_
    have : up (up H b none) b (some ⟨kk, ll.map g, false⟩) = H := by
      have h2 : up (up H b none) b (some ⟨kk, ll.map g, false⟩) = up H b (some ⟨kk, ll.map g, false⟩) := by
        funext j; unfold up; cases Nat.beq j b <;> rfl
      rw [h2, up_id H b _ hB]
    rw [this]
end
attribute [irreducible] IoQ IoS
end Go.Am

/- The B-machine, part 23: more steps of the walker: cutting lists that are only read, appending lists. -/
namespace Go.Am
section
variable {Γ : Env} {T : Nat → Option FB} {e : Nat → V} {H : Nat → Option Blk} {n : Nat} {z : Bool} {l : List I} {K : S → Prop} {Q : R → Prop} {d : Nat}
/-- A guard that was itself left out. -/
theorem wr_gu {s : S} {d : Option Nat} {t : Nat} {w : Bool} {a : A} (hb : s.e t = .un) (h : WL Γ T l (s.put d .un) K) : WL Γ T (⟨d, some (t, w), a⟩ :: l) s K := by
  unfold WL at h ⊢
  obtain ⟨s2, h3, h4⟩ := h
  refine ⟨s2, ?_, h4⟩
  have hg : guardA s.e (some (t, w)) = some false := by simp only [guardA, hb]; rfl
  rw [runB_cons, hg]
  exact h3
theorem u8 {t : Nat} {w : Bool} {a : A} (k : WL Γ T l ⟨up e d .un, H, n, z⟩ K) (hb : e t = .un := by rfl) : WL Γ T (og d t w a :: l) ⟨e, H, n, z⟩ K :=
  wr_gu hb (by rw [← up_eq] at k; exact k)
theorem u9 {t : Nat} {w : Bool} {a : A} (k : WL Γ T l ⟨e, H, n, z⟩ K) (hb : e t = .un := by rfl) : WL Γ T (oog t w a :: l) ⟨e, H, n, z⟩ K :=
  wr_gu hb k
theorem fitsAll {α : Type} {f : α → V} {q : Option Nat} {ll : List α} (h : ∀ a, (f a).fits q = true) : ((ll.map f).all fun e => e.fits q) = true := by
  rw [List.all_eq_true]; intro x hx; obtain ⟨a, _, rfl⟩ := List.mem_map.1 hx; exact h a
theorem g_scL {α : Type} {f : α → V} {ll : List α} {q : Option Nat} {x : O} {lo hi : Option O} {a b : Nat} (hx : val e x = .sl (ll.map f)) (hl : bndOf 0 (lo.map (val e)) = some (a : Int)) (hh : bndOf ll.length (hi.map (val e)) = some (b : Int)) (hab : a ≤ b) (hb : b ≤ ll.length) (hf : ∀ a, (f a).fits q = true)
    (k : WL Γ T l ⟨up e d (.sl (((ll.take b).drop a).map f)), H, n, z⟩ K) : WL Γ T (o d (.sc q x lo hi none) :: l) ⟨e, H, n, z⟩ K := by
  refine g_op (v := .sl (((ll.take b).drop a).map f)) ?_ k
  simp only [opB, opA, hx, fitsAll hf, if_true, Option.map_none, sliceOf]
  simp only [hl, List.length_map, hh]
  rw [if_pos ⟨by omega, by omega, by omega⟩]
  simp [List.map_take, List.map_drop]
/-- x[:b] -/
theorem u4 {α : Type} {f : α → V} {ll : List α} {q : Option Nat} {x hi : O} {b : Nat}
    (k : WL Γ T l ⟨up e d (.sl ((ll.take b).map f)), H, n, z⟩ K) (hx : val e x = .sl (ll.map f) := by rfl) (hh : val e hi = .i (b : Nat) := by rfl) (hb : b ≤ ll.length := by omega) (hf : ∀ a, (f a).fits q = true := by exact fun _ => rfl) : WL Γ T (o d (.sc q x none (some hi) none) :: l) ⟨e, H, n, z⟩ K :=
  g_scL (a := 0) (b := b) hx rfl (by rw [Option.map_some, hh]; rfl) (Nat.zero_le _) hb hf (by simpa using k)
/-- x[a:] -/
theorem u5 {α : Type} {f : α → V} {ll : List α} {q : Option Nat} {x lo : O} {a : Nat}
    (k : WL Γ T l ⟨up e d (.sl ((ll.drop a).map f)), H, n, z⟩ K) (hx : val e x = .sl (ll.map f) := by rfl) (hh : val e lo = .i (a : Nat) := by rfl) (hb : a ≤ ll.length := by omega) (hf : ∀ a, (f a).fits q = true := by exact fun _ => rfl) : WL Γ T (o d (.sc q x (some lo) none none) :: l) ⟨e, H, n, z⟩ K :=
  g_scL (a := a) (b := ll.length) hx (by rw [Option.map_some, hh]; rfl) rfl hb (Nat.le_refl _) hf (by simpa using k)
theorem el_sl {es : List V} : elems H (.sl es) = some es := rfl
theorem el_hs {es : List V} {b k m c : Nat} {fr : Bool} (hB : H b = some ⟨k, es, fr⟩) (hm : m = es.length) : elems H (.hs b 0 m c) = some es := by
  subst hm
  simp only [elems, hB]
  by_cases h : es.length = 0
  · rw [if_pos h, List.length_eq_zero_iff.1 h]
  · rw [if_neg h, if_pos (by omega)]; simp
theorem el_tk {α : Type} {f : α → V} {ll : List α} {b k0 k c : Nat} {fr : Bool} (hB : H b = some ⟨k0, ll.map f, fr⟩) (hk : k ≤ ll.length) : elems H (.hs b 0 k c) = some ((ll.take k).map f) := by
  simp only [elems, hB]
  by_cases h : k = 0
  · rw [if_pos h, h]; simp
  · rw [if_neg h, if_pos (by simp; omega)]; simp [List.map_take]
theorem el_dr {α : Type} {f : α → V} {ll : List α} {b k0 a m c : Nat} {fr : Bool} (hB : H b = some ⟨k0, ll.map f, fr⟩) (hm : m = ll.length) (ha : a ≤ m) : elems H (.hs b a (m - a) c) = some ((ll.drop a).map f) := by
  subst hm
  simp only [elems, hB]
  by_cases h : ll.length - a = 0
  · rw [if_pos h, List.drop_eq_nil_of_le (by omega)]; rfl
  · rw [if_neg h, if_pos (by simp; omega)]
    congr 1
    rw [← List.map_drop, ← List.map_take, List.take_of_length_le (by simp)]
/-- x[:k], of a list of the frame's own. -/
theorem u10 {q : Option Nat} {x hi : O} {b m c k : Nat} {B : Blk} (k0 : WL Γ T l ⟨up e d (.hs b 0 k c), H, n, z⟩ K)
    (hx : val e x = .hs b 0 m c := by rfl) (hB : H b = some B := by rfl) (hh : val e hi = .i (k : Nat) := by rfl) (hk : k ≤ c := by omega) (hq : B.k = ksz q := by rfl) : WL Γ T (o d (.sc q x none (some hi) none) :: l) ⟨e, H, n, z⟩ K :=
  g_sch (a := 0) (h := (k : Int)) hx hB hq rfl (by rw [Option.map_some, hh]; rfl) ⟨by omega, by omega, by omega⟩ (by simpa using k0)
/-- x[a:], of a list of the frame's own. -/
theorem u11 {q : Option Nat} {x lo : O} {b m c a : Nat} {B : Blk} (k0 : WL Γ T l ⟨up e d (.hs b a (m - a) (c - a)), H, n, z⟩ K)
    (hx : val e x = .hs b 0 m c := by rfl) (hB : H b = some B := by rfl) (hh : val e lo = .i (a : Nat) := by rfl) (hk : a ≤ m ∧ m ≤ c := by omega) (hq : B.k = ksz q := by rfl) : WL Γ T (o d (.sc q x (some lo) none none) :: l) ⟨e, H, n, z⟩ K :=
  g_sch (a := (a : Int)) (h := (m : Int)) hx hB hq (by rw [Option.map_some, hh]; rfl) rfl ⟨by omega, by omega, by omega⟩ (by
    have h1 : ((m : Int) - (a : Int)).toNat = m - a := by omega
    simpa [h1] using k0)
/-- A list, appended to one of the frame's own. -/
theorem g_apM {α : Type} {f : α → V} {l1 l2 : List α} {q : Option Nat} {x y : O} {b m c kk : Nat} (hx : val e x = .hs b 0 m c) (hB : H b = some ⟨kk, l1.map f, false⟩) (hm : m = l1.length) (hc : c = m) (hy : elems H (val e y) = some (l2.map f)) (hk : kk = ksz q) (hf : ∀ a, (f a).fits q = true) (hl : l1.length + l2.length ≤ 2 ^ 36)
    (k : Br (l2 = []) (l2 ≠ []) (WL Γ T l ⟨up e d (.hs b 0 l1.length l1.length), H, n, z⟩ K) (WL Γ T l ⟨up e d (.hs n 0 (l1 ++ l2).length (l1 ++ l2).length), up (up H b none) n (some ⟨kk, (l1 ++ l2).map f, false⟩), n + 1, z⟩ K)) : WL Γ T (o d (.ap q x y) :: l) ⟨e, H, n, z⟩ K := by
  subst hc; subst hm; subst hk
  by_cases h0 : l2 = []
  · subst h0
    refine g_op (v := .hs b 0 l1.length l1.length) ?_ (k.l rfl)
    simp only [opB, opA, hy, List.map_nil, List.all_nil, if_true, appendTo, hx, hB, List.length_nil, Nat.add_zero]
    rw [if_pos ⟨trivial, trivial, by unfold LIM; simp at hl; omega⟩, if_pos (Nat.le_refl _), if_pos (by simp)]
    have : S.blk ⟨e, H, n, z⟩ b (some ⟨ksz q, splice (l1.map f) (0 + l1.length) [], false⟩) = ⟨e, H, n, z⟩ := by
      unfold S.blk
      have h2 : splice (l1.map f) (0 + l1.length) [] = l1.map f := by simp [splice]
      rw [h2, up_eq, up_id H b _ hB]
    rw [this]
  · refine g_op (v := .hs n 0 (l1 ++ l2).length (l1 ++ l2).length) ?_ (k.r h0)
    have h1 : 0 < l2.length := List.length_pos_iff.2 h0
    simp only [opB, opA, hy, fitsAll hf, if_true, appendTo, hx, hB, List.length_map]
    rw [if_pos ⟨trivial, trivial, by unfold LIM; omega⟩, if_neg (by omega), if_pos (by omega)]
    simp only [List.length_append, List.drop_zero, List.map_append, S.blk, S.new, up_eq]
theorem u6 {α : Type} {f : α → V} {l1 l2 : List α} {q : Option Nat} {x y : O} {b m c kk : Nat}
    (k : Br (l2 = []) (l2 ≠ []) (WL Γ T l ⟨up e d (.hs b 0 l1.length l1.length), H, n, z⟩ K) (WL Γ T l ⟨up e d (.hs n 0 (l1 ++ l2).length (l1 ++ l2).length), up (up H b none) n (some ⟨kk, (l1 ++ l2).map f, false⟩), n + 1, z⟩ K))
    (hy : elems H (val e y) = some (l2.map f) := by first | exact el_sl | (apply el_hs; rfl; (first | (simp only [List.length_map]; done) | (rw [List.length_map]; assumption))) | (apply el_tk; rfl; omega) | (apply el_dr; rfl; (first | rfl | assumption); omega) | fail) (hx : val e x = .hs b 0 m c := by rfl) (hB : H b = some ⟨kk, l1.map f, false⟩ := by rfl) (hm : m = l1.length := by first | rfl | assumption) (hc : c = m := by rfl) (hk : kk = ksz q := by rfl) (hf : ∀ a, (f a).fits q = true := by exact fun _ => rfl)
    (hl : l1.length + l2.length ≤ 2 ^ 36 := by first | omega | (simp only [List.length_append, List.length_take, List.length_drop, List.length_nil]; omega)) : WL Γ T (o d (.ap q x y) :: l) ⟨e, H, n, z⟩ K := g_apM hx hB hm hc hy hk hf hl k
theorem u7 {α : Type} {f : α → V} {l2 : List α} {q : Option Nat} {x y : O} {b m c kk : Nat}
    (k : Br (l2 = []) (l2 ≠ []) (WL Γ T l ⟨up e d (.hs b 0 0 0), H, n, z⟩ K) (WL Γ T l ⟨up e d (.hs n 0 l2.length l2.length), up (up H b none) n (some ⟨kk, l2.map f, false⟩), n + 1, z⟩ K))
    (hy : elems H (val e y) = some (l2.map f) := by first | exact el_sl | (apply el_hs; rfl; (first | (simp only [List.length_map]; done) | (rw [List.length_map]; assumption))) | (apply el_tk; rfl; omega) | (apply el_dr; rfl; (first | rfl | assumption); omega) | fail) (hx : val e x = .hs b 0 m c := by rfl) (hB : H b = some ⟨kk, [], false⟩ := by rfl) (hm : m = 0 := by rfl) (hc : c = m := by rfl) (hk : kk = ksz q := by rfl) (hf : ∀ a, (f a).fits q = true := by exact fun _ => rfl)
    (hl : l2.length ≤ 2 ^ 36 := by first | omega | (simp only [List.length_append, List.length_take, List.length_drop, List.length_nil]; omega)) : WL Γ T (o d (.ap q x y) :: l) ⟨e, H, n, z⟩ K :=
  g_apM (l1 := []) (f := f) hx hB hm hc hy hk hf (by simpa using hl) ⟨k.l, k.r⟩
/-- The same as 'cp', of a list that is only read. -/
theorem cps {f : Nat} {fo : O} {xs : List O} {es : List V} {a w t v : V} {H' : Nat → Option Blk} {n' : Nat} (hc : CALLB Γ T f [.ro, .io] [a, .sl es] = some (t, [.sl es]))
    (k0 : WL Γ T l ⟨up e d v, H', n', z⟩ K)
    (hf : fnOf (val e fo) = some (f, []) := by rfl) (hv : xs.map (val e) = [w, .sl es] := by first | exact frcL | fail) (hu : (xs.all fun x => !isUn (val e x)) = true := by rfl) (hm : Γ.md f = some [.ro, .io] := by first | rfl | assumption)
    (hs : snapB DEP H w = some (a, []) := by first | exact snA | fail) (ht : takeB DEP t ⟨e, H, n, z⟩ = some (v, ⟨e, H', n', z⟩) := by first | exact tkA | fail) : WL Γ T (o d (.ca fo xs) :: l) ⟨e, H, n, z⟩ K := by
  have h1 : handB H [.ro, .io] [w, .sl es] = some ([a, .sl es], [], []) := by
    simp only [handB, List.headD_cons, hs, Option.map_some, List.tail_cons, lendB, lendB1]
    rfl
  refine g_of (wo_callv (s1 := ⟨e, H, n, z⟩) hf hu (by rw [hv]; rfl) hm h1 ⟨by simp, by simp⟩ hc rfl ?_ ht ⟨rfl, rfl⟩) k0
  show backLB H [.sl es] [.sl es] _ = _
  simp only [backLB, back1B, backVB, S.mem, kill_nil']
end
end Go.Am

/- The B-machine, part 24: structs lent to functions that write them. -/
namespace Go.Am
/-- A field of a struct that is lent: a plain value; nothing; a list of the frame's own, with what it holds before and behind. -/
inductive Fd where
  | im (x : Value)
  | e0
  | ls (b k m c : Nat) (es es' : List V)
def ioV (k : Nat) : List V → V
  | [] => .sl []
  | v :: es => .ow k (v :: es)
theorem ioV_map {α : Type} {k : Nat} {f : α → V} : ∀ {l : List α}, ioV k (l.map f) = ioT k f l
  | [] => rfl
  | _ :: _ => rfl
theorem ioV_ne {k : Nat} {es : List V} (h : es ≠ []) : ioV k es = .ow k es := by cases es with | nil => exact absurd rfl h | cons => rfl
namespace Fd
def val : Fd → V
  | .im x => .im x
  | .e0 => .e0
  | .ls b _ m c _ _ => .hs b 0 m c
def tree : Fd → V
  | .im x => .im x
  | .e0 => .e0
  | .ls _ k _ _ es _ => ioV k es
def tree' : Fd → V
  | .im x => .im x
  | .e0 => .e0
  | .ls _ k _ _ _ es' => ioV k es'
def ok (H : Nat → Option Blk) : Fd → Prop
  | .ls b k m _ es es' => m = es.length ∧ H b = some ⟨k, es, false⟩ ∧ es'.length = es.length ∧ allL (okD 7) es = true ∧ allL (okD 7) es' = true
  | _ => True
def ids : Fd → List Nat
  | .ls b _ _ _ es _ => if es = [] then [] else [b]
  | _ => []
def blk : Fd → List Nat
  | .ls b _ _ _ _ _ => [b]
  | _ => []
def put (H : Nat → Option Blk) : Fd → Nat → Option Blk
  | .ls b k _ _ es es' => if es = [] then H else upd H b (some ⟨k, es', false⟩)
  | _ => H
def wr (H : Nat → Option Blk) : Fd → Nat → Option Blk
  | .ls b k _ _ _ es' => up H b (some ⟨k, es', false⟩)
  | _ => H
end Fd
theorem okL_mono {es : List V} (h : allL (okD 7) es = true) : allL (okD DEP) es = true := allL_iff.2 fun v hv => okD_mono (allL_iff.1 h v hv)
section
variable {H : Nat → Option Blk}
theorem fd_lend {fd : Fd} (h : fd.ok H) : lendB1 H fd.val = some (fd.tree, fd.ids) := by
  cases fd with
  | im x => rfl
  | e0 => rfl
  | ls b k m c es es' =>
    obtain ⟨rfl, h1, _, h2, _⟩ := h
    simp only [Fd.val, Fd.tree, Fd.ids, lendB1]
    by_cases h0 : es = []
    · subst h0; rfl
    · rw [if_neg (by simpa using h0), if_neg h0, ioV_ne h0]
      exact giveB_hs h1 h2 rfl
theorem fds_lend : ∀ {fds : List Fd}, (∀ fd ∈ fds, fd.ok H) → overL (lendB1 H) (fds.map Fd.val) = some (fds.map Fd.tree, fds.flatMap Fd.ids)
  | [], _ => rfl
  | fd :: fds, h => overL_mk (fd_lend (h fd (by simp))) (fds_lend fun x hx => h x (by simp [hx]))
theorem fd_back {fd : Fd} (h : fd.ok H) (s : S) : backVB H fd.val fd.tree' s = some (s.mem (fd.put s.H)) := by
  cases fd with
  | im x => rfl
  | e0 => rfl
  | ls b k m c es es' =>
    obtain ⟨rfl, h1, hl, _, h2⟩ := h
    simp only [Fd.val, Fd.tree', Fd.put]
    by_cases h0 : es = []
    · subst h0
      have : es' = [] := List.length_eq_zero_iff.1 (by simpa using hl)
      subst this
      rfl
    · have h0' : es' ≠ [] := by intro h; rw [h] at hl; exact h0 (List.length_eq_zero_iff.1 hl.symm)
      rw [ioV_ne h0', if_neg h0]
      simp only [backVB, if_neg h0', h1]
      rw [if_pos ⟨trivial, trivial, hl, trivial, okL_mono h2⟩]
      rfl
theorem fds_back : ∀ {fds : List Fd} (s : S), (∀ fd ∈ fds, fd.ok H) → backVsB H (fds.map Fd.val) (fds.map Fd.tree') s = some (s.mem (fds.foldl Fd.put s.H))
  | [], s, _ => rfl
  | fd :: fds, s, h => by
    simp only [List.map_cons, backVsB, fd_back (h fd (by simp)), List.foldl_cons]
    rw [fds_back _ fun x hx => h x (by simp [hx])]
    rfl
theorem fds_eq : ∀ {fds : List Fd} {H1 H2 : Nat → Option Blk}, (fds.flatMap Fd.blk).Nodup → (∀ j, j ∉ fds.flatMap Fd.ids → H1 j = H2 j) → (∀ b k m c es', Fd.ls b k m c [] es' ∈ fds → es' = [] ∧ H2 b = some ⟨k, [], false⟩) → fds.foldl Fd.put H1 = fds.foldl Fd.wr H2
  | [], H1, H2, _, h, _ => by funext j; exact h j (by simp)
  | fd :: fds, H1, H2, hn, h, he => by
    simp only [List.foldl_cons]
    rw [List.flatMap_cons, List.nodup_append] at hn
    refine fds_eq hn.2.1 (fun j hj => ?_) fun b k m c es' hm => ?_
    · cases fd with
      | im x => exact h j (by simpa [Fd.ids] using hj)
      | e0 => exact h j (by simpa [Fd.ids] using hj)
      | ls b k m c es es' =>
        simp only [Fd.put, Fd.wr]
        by_cases h0 : es = []
        · subst h0
          rw [if_pos rfl]
          obtain ⟨h1, h2⟩ := he b k m c es' (by simp)
          subst h1
          rw [up_id H2 b _ h2]
          exact h j (by simpa [Fd.ids] using hj)
        · rw [if_neg h0, ← up_eq]
          unfold upd
          split
          · rfl
          · rename_i hjb
            exact h j (by simp only [List.flatMap_cons, Fd.ids, if_neg h0, List.mem_append, List.mem_singleton, not_or]; exact ⟨hjb, hj⟩)
    · obtain ⟨h1, h2⟩ := he b k m c es' (by simp [hm])
      refine ⟨h1, ?_⟩
      cases fd with
      | im x => exact h2
      | e0 => exact h2
      | ls b' k' m' c' es2 es2' =>
        simp only [Fd.wr, ← up_eq]
        rw [upd_ne]
        · exact h2
        · rintro rfl
          exact hn.2.2 b (by simp [Fd.blk]) b (List.mem_flatMap.2 ⟨_, hm, by simp [Fd.blk]⟩) rfl
end
section
variable {Γ : Env} {T : Nat → Option FB} {e : Nat → V} {H : Nat → Option Blk} {n : Nat} {z : Bool} {l : List I} {K : S → Prop} {Q : R → Prop} {d : Nat}
theorem fds_ids {fds : List Fd} (hn : (fds.flatMap Fd.blk).Nodup) : (fds.flatMap Fd.ids).Nodup := by
  refine hn.sublist ?_
  induction fds with
  | nil => simp
  | cons fd fds ih =>
    rw [List.flatMap_cons, List.nodup_append] at hn
    rw [List.flatMap_cons, List.flatMap_cons]
    refine List.Sublist.append ?_ (ih hn.2.1)
    cases fd with
    | im x => exact List.Sublist.refl _
    | e0 => exact List.Sublist.refl _
    | ls b k m c es es' => simp only [Fd.ids, Fd.blk]; split <;> simp
/-- A struct is lent to a function, with a whole number. -/
theorem ciSt {f : Nat} {fo : O} {xs : List O} {fds : List Fd} {k r : Int} {vs ts us : List V} {H' : Nat → Option Blk} (hc : CALLB Γ T f [.io, .ro] [.st ts, .i k] = some (.i r, [.st us])) (k0 : WL Γ T l ⟨up e d (.i r), H', n, z⟩ K)
    (hok : ∀ fd ∈ fds, fd.ok H) (hnd : (fds.flatMap Fd.blk).Nodup) (hvs : fds.map Fd.val = vs) (hts : fds.map Fd.tree = ts) (hus : fds.map Fd.tree' = us) (hH : fds.foldl Fd.wr H = H')
    (hf : fnOf (val e fo) = some (f, []) := by rfl) (hv : xs.map (val e) = [.st vs, .i k] := by first | exact frcL | fail) (hu : (xs.all fun x => !isUn (val e x)) = true := by rfl) (hm : Γ.md f = some [.io, .ro] := by first | rfl | assumption) : WL Γ T (o d (.ca fo xs) :: l) ⟨e, H, n, z⟩ K := by
  subst hvs; subst hts; subst hus; subst hH
  have h1 : handB H [.io, .ro] [.st (fds.map Fd.val), .i k] = some ([.st (fds.map Fd.tree), .i k], [], fds.flatMap Fd.ids) :=
    hio (w := .i k) (u := .i k) (j := []) (by simp only [lendB, fds_lend hok]) rfl
  refine g_of (wo_callv (s1 := ⟨e, fds.foldl Fd.wr H, n, z⟩) hf hu (by rw [hv]; rfl) hm h1 ⟨fds_ids hnd, by simp⟩ hc rfl ?_ rfl ⟨rfl, rfl⟩) k0
  show backLB H [.st (fds.map Fd.val)] [.st (fds.map Fd.tree')] _ = _
  simp only [backLB, back1B, fds_back _ hok, S.mem]
  refine congrArg some ?_
  have := fds_eq (H1 := kill H (fds.flatMap Fd.ids)) (H2 := H) hnd (fun j hj => by unfold kill; rw [if_neg hj]) fun b k m c es' hm => by
    have := hok _ hm
    exact ⟨List.length_eq_zero_iff.1 (by simpa using this.2.2.1), this.2.1⟩
  rw [this]
/-- A list that is only read (an empty one) is lent. -/
theorem ciS {f : Nat} {fo : O} {xs : List O} {es : List V} {k r : Int} (hc : CALLB Γ T f [.io, .ro] [.sl es, .i k] = some (.i r, [.sl es])) (k0 : WL Γ T l ⟨up e d (.i r), H, n, z⟩ K)
    (hf : fnOf (val e fo) = some (f, []) := by rfl) (hv : xs.map (val e) = [.sl es, .i k] := by first | exact frcL | fail) (hu : (xs.all fun x => !isUn (val e x)) = true := by rfl) (hm : Γ.md f = some [.io, .ro] := by first | rfl | assumption) : WL Γ T (o d (.ca fo xs) :: l) ⟨e, H, n, z⟩ K := by
  have h1 : handB H [.io, .ro] [.sl es, .i k] = some ([.sl es, .i k], [], []) := hio (i := []) (j := []) rfl rfl
  refine g_of (wo_callv (s1 := ⟨e, H, n, z⟩) hf hu (by rw [hv]; rfl) hm h1 (by simp) hc rfl ?_ rfl ⟨rfl, rfl⟩) k0
  show backLB H [.sl es] [.sl es] _ = _
  simp only [backLB, back1B, backVB, S.mem, kill_nil']
theorem go_nil {D : Nat} : overL (giveB D H) [] = some ([], []) := rfl
theorem go_im {D : Nat} {x : Value} {vs ts : List V} {j : List Nat} (h : overL (giveB (D + 1) H) vs = some (ts, j)) : overL (giveB (D + 1) H) (.im x :: vs) = some (.im x :: ts, j) := overL_mk (L1 := []) rfl h
theorem go_sl {D : Nat} {es : List V} {vs ts : List V} {j : List Nat} (h : overL (giveB (D + 1) H) vs = some (ts, j)) : overL (giveB (D + 1) H) (.sl es :: vs) = some (.sl es :: ts, j) := overL_mk (L1 := []) rfl h
theorem go_e0 {D : Nat} {vs ts : List V} {j : List Nat} (h : overL (giveB (D + 1) H) vs = some (ts, j)) : overL (giveB (D + 1) H) (.e0 :: vs) = some (.e0 :: ts, j) := overL_mk (L1 := []) rfl h
theorem go_hs {D : Nat} {α : Type} {f : α → V} {ll : List α} {b k m c : Nat} {fr : Bool} {vs ts : List V} {j : List Nat} (hB : H b = some ⟨k, ll.map f, fr⟩) (hm : m = ll.length) (ok : ∀ a, okD D (f a) = true) (h : overL (giveB (D + 1) H) vs = some (ts, j)) : overL (giveB (D + 1) H) (.hs b 0 m c :: vs) = some (.ow k (ll.map f) :: ts, b :: j) :=
  overL_mk (L1 := [b]) (gv_hs ⟨rfl⟩ hB hm ok) h
theorem fd_ls {α β : Type} {f : α → V} {g : β → V} {l1 : List α} {l2 : List β} {b k m c : Nat} (hB : H b = some ⟨k, l1.map f, false⟩) (hm : m = l1.length) (hl : l2.length = l1.length) (ok : ∀ a, okD 7 (f a) = true) (ok' : ∀ a, okD 7 (g a) = true) : (Fd.ls b k m c (l1.map f) (l2.map g)).ok H :=
  ⟨by simpa using hm, hB, by simpa using hl, allL_map ok, allL_map ok'⟩
theorem fds_nil : ∀ fd ∈ ([] : List Fd), fd.ok H := by simp
theorem fds_cons {fd : Fd} {fds : List Fd} (h : fd.ok H) (h2 : ∀ x ∈ fds, x.ok H) : ∀ x ∈ fd :: fds, x.ok H := by
  intro x hx
  rcases List.mem_cons.1 hx with rfl | hx
  · exact h
  · exact h2 x hx
/-- An order is lent (a number, a list). -/
theorem ciO {α β : Type} {f : Nat} {fo : O} {xs : List O} {g : α → V} {g' : β → V} {l1 : List α} {l2 : List β} {x : Value} {b m c kk : Nat} {k r : Int} (hc : CALLB Γ T f [.io, .ro] [.st [.im x, ioT kk g l1], .i k] = some (.i r, [.st [.im x, ioT kk g' l2]])) (hl : l2.length = l1.length)
    (k0 : WL Γ T l ⟨up e d (.i r), up H b (some ⟨kk, l2.map g', false⟩), n, z⟩ K)
    (hf : fnOf (val e fo) = some (f, []) := by rfl) (hv : xs.map (val e) = [.st [.im x, .hs b 0 m c], .i k] := by first | exact frcL | fail) (hu : (xs.all fun x => !isUn (val e x)) = true := by rfl) (hm : Γ.md f = some [.io, .ro] := by first | rfl | assumption)
    (hB : H b = some ⟨kk, l1.map g, false⟩ := by rfl) (hml : m = l1.length := by first | rfl | assumption) (ok : ∀ a, okD 7 (g a) = true := by exact fun _ => okA) (ok' : ∀ a, okD 7 (g' a) = true := by exact fun _ => okA) : WL Γ T (o d (.ca fo xs) :: l) ⟨e, H, n, z⟩ K :=
  ciSt (fds := [.im x, .ls b kk m c (l1.map g) (l2.map g')]) hc k0 (fds_cons trivial (fds_cons (fd_ls hB hml hl ok ok') fds_nil)) (by simp [Fd.blk]) rfl (by simp [Fd.tree, ioV_map]) (by simp [Fd.tree', ioV_map]) rfl hf hv hu hm
/-- The same, of an order without a list. -/
theorem ciO0 {f : Nat} {fo : O} {xs : List O} {x : Value} {k r : Int} (hc : CALLB Γ T f [.io, .ro] [.st [.im x, .e0], .i k] = some (.i r, [.st [.im x, .e0]]))
    (k0 : WL Γ T l ⟨up e d (.i r), H, n, z⟩ K)
    (hf : fnOf (val e fo) = some (f, []) := by rfl) (hv : xs.map (val e) = [.st [.im x, .e0], .i k] := by first | exact frcL | fail) (hu : (xs.all fun x => !isUn (val e x)) = true := by rfl) (hm : Γ.md f = some [.io, .ro] := by first | rfl | assumption) : WL Γ T (o d (.ca fo xs) :: l) ⟨e, H, n, z⟩ K :=
  ciSt (fds := [.im x, .e0]) hc k0 (fds_cons trivial (fds_cons trivial fds_nil)) (by simp [Fd.blk]) rfl rfl rfl rfl hf hv hu hm
/-- The same as u0, u2, u3, of blocks that are written out. -/
theorem v0 {α : Type} {f : α → V} {ll : List α} {es cs vs : List V} {x : O} {b i j k1 kk : Nat}
    (k : WL Γ T l ⟨up e d (.hs n 0 ll.length ll.length), up (up H n (some ⟨kk, ll.map f, false⟩)) b (some ⟨k1, es.set i (.st vs), false⟩), n + 1, z⟩ K)
    (hx : val e x = .hf b i j := by rfl) (hB : H b = some ⟨k1, es, false⟩ := by rfl) (hi : es[i]? = some (.st cs) := by rfl) (hj : cs[j]? = some (.ow kk (ll.map f)) := by rfl) (hb : Nat.beq b n = false := by rfl)
    (hs : cs.set j (.hs n 0 ll.length ll.length) = vs := by first | exact frcS | fail) : WL Γ T (o d (.ld none x) :: l) ⟨e, H, n, z⟩ K := g_ldf hx hB hi hj hb hs k
theorem v2 {α : Type} {f : α → V} {ll : List α} {es : List V} {x : O} {b i k1 kk : Nat}
    (k : WL Γ T l ⟨up e d (.hs n 0 ll.length ll.length), up (up H n (some ⟨kk, ll.map f, false⟩)) b (some ⟨k1, es.set i (.hs n 0 ll.length ll.length), false⟩), n + 1, z⟩ K)
    (hx : val e x = .hp b i := by rfl) (hB : H b = some ⟨k1, es, false⟩ := by rfl) (hi : es[i]? = some (.ow kk (ll.map f)) := by rfl) (hb : Nat.beq b n = false := by rfl) : WL Γ T (o d (.ld none x) :: l) ⟨e, H, n, z⟩ K := g_ldp hx hB hi hb k
theorem v3 {α : Type} {f : α → V} {ll : List α} {es : List V} {x : O} {b i k1 kk : Nat}
    (k : WL Γ T l ⟨up e d (.st [.hs n 0 ll.length ll.length]), up (up H n (some ⟨kk, ll.map f, false⟩)) b (some ⟨k1, es.set i (.st [.hs n 0 ll.length ll.length]), false⟩), n + 1, z⟩ K)
    (hx : val e x = .hp b i := by rfl) (hB : H b = some ⟨k1, es, false⟩ := by rfl) (hi : es[i]? = some (.st [.ow kk (ll.map f)]) := by rfl) (hb : Nat.beq b n = false := by rfl) : WL Γ T (o d (.ld (some 1) x) :: l) ⟨e, H, n, z⟩ K := g_lds hx hB hi hb k
theorem g_lds2 {α : Type} {f : α → V} {ll : List α} {es : List V} {y : Value} {x : O} {b i k1 kk : Nat} (hy : okm y = true) (hx : val e x = .hp b i) (hB : H b = some ⟨k1, es, false⟩) (hi : es[i]? = some (.st [.im y, .ow kk (ll.map f)])) (hb : Nat.beq b n = false)
    (k : WL Γ T l ⟨up e d (.st [.im y, .hs n 0 ll.length ll.length]), up (up H n (some ⟨kk, ll.map f, false⟩)) b (some ⟨k1, es.set i (.st [.im y, .hs n 0 ll.length ll.length]), false⟩), n + 1, z⟩ K) : WL Γ T (o d (.ld (some 2) x) :: l) ⟨e, H, n, z⟩ K := by
  refine g_op (v := .st [.im y, .hs n 0 ll.length ll.length]) ?_ k
  have hne : b ≠ n := fun h => by rw [h] at hb; simp at hb
  have h1 : V.fits (some 2) (.st [.im y, .ow kk (ll.map f)]) = false := by simp [V.fits, V.okc]
  have h2 : V.fitsB (some 2) (.st [.im y, .ow kk (ll.map f)]) = true := by simp [V.fitsB, V.pkc, V.okc, pkd, hy]
  simp only [opB, ldB, hx, derefB, hB, Option.bind_some, hi, h1, h2, Bool.false_eq_true, if_false, if_true, unp, takeL, unp1, List.length_map, S.new, putB, upd_ne _ _ hne]
  rw [up_eq, up_eq]
theorem v4 {α : Type} {f : α → V} {ll : List α} {es : List V} {y : Value} {x : O} {b i k1 kk : Nat}
    (k : WL Γ T l ⟨up e d (.st [.im y, .hs n 0 ll.length ll.length]), up (up H n (some ⟨kk, ll.map f, false⟩)) b (some ⟨k1, es.set i (.st [.im y, .hs n 0 ll.length ll.length]), false⟩), n + 1, z⟩ K)
    (hx : val e x = .hp b i := by rfl) (hB : H b = some ⟨k1, es, false⟩ := by rfl) (hi : es[i]? = some (.st [.im y, .ow kk (ll.map f)]) := by rfl) (hb : Nat.beq b n = false := by rfl) (hy : okm y = true := by rfl) : WL Γ T (o d (.ld (some 2) x) :: l) ⟨e, H, n, z⟩ K := g_lds2 hy hx hB hi hb k
end
end Go.Am

/- The B-machine, part 25: lists of lists with elements that lie unpacked. -/
namespace Go.Am
theorem ov_set {F : V → Option (V × List Nat)} {v t : V} {i0 : List Nat} (hv : F v = some (t, i0)) : ∀ {es ts : List V} {i : Nat}, overL F es = some (ts, []) → i < es.length → overL F (es.set i v) = some (ts.set i t, i0)
  | [], ts, i, h, hi => absurd hi (by simp)
  | a :: es, ts, i, h, hi => by
    obtain ⟨t0, ts', j1, j2, h2, h3, rfl, hj⟩ := overL_cons h
    have hj' := List.append_eq_nil_iff.1 hj.symm
    obtain ⟨rfl, rfl⟩ := hj'
    cases i with
    | zero => simpa using overL_mk hv h3
    | succ i => simpa using overL_mk h2 (ov_set hv h3 (by simpa using hi))
theorem ov_set2 {F : V → Option (V × List Nat)} {v t w u : V} {i0 i1 : List Nat} (hv : F v = some (t, i0)) (hw : F w = some (u, i1)) : ∀ {es ts : List V} {i j : Nat}, overL F es = some (ts, []) → i < j → j < es.length → overL F ((es.set i v).set j w) = some ((ts.set i t).set j u, i0 ++ i1)
  | [], ts, i, j, h, hij, hj => absurd hj (by simp)
  | a :: es, ts, i, j, h, hij, hj => by
    obtain ⟨t0, ts', j1, j2, h2, h3, rfl, hj0⟩ := overL_cons h
    obtain ⟨rfl, rfl⟩ := List.append_eq_nil_iff.1 hj0.symm
    obtain ⟨j, rfl⟩ : ∃ j', j = j' + 1 := ⟨j - 1, by omega⟩
    cases i with
    | zero => simpa using overL_mk hv (ov_set hw h3 (by simpa using hj))
    | succ i => simpa using overL_mk h2 (ov_set2 hv hw h3 (by omega) (by simpa using hj))
theorem at_ne {es : List V} {i j : Nat} {v w : V} (h : i ≠ j) (k : es[j]? = some w) : (es.set i v)[j]? = some w := by rw [List.getElem?_set_ne h]; exact k
theorem at_lt {es : List V} {i j : Nat} {v w : V} (h : i < j) (k : es[j]? = some w) : (es.set i v)[j]? = some w := at_ne (by omega) k
theorem at_gt {es : List V} {i j : Nat} {v w : V} (h : j < i) (k : es[j]? = some w) : (es.set i v)[j]? = some w := at_ne (by omega) k
theorem at_sm {α : Type} {f : α → V} {ll : List α} {i : Nat} {v : V} {a : α} (h : ll[i]? = some a) : ((ll.map f).set i v)[i]? = some v := at_set (by simpa using (List.getElem?_eq_some_iff.1 h).1)
theorem at_s2 {α : Type} {f : α → V} {ll : List α} {i j : Nat} {v w : V} {a : α} (h : ll[j]? = some a) : (((ll.map f).set i w).set j v)[j]? = some v := at_set (by simpa using (List.getElem?_eq_some_iff.1 h).1)
section
variable {d : Nat} {H : Nat → Option Blk} {r : List Nat}
theorem re_set {α : Type} {f : α → V} {l : List α} {x a : α} {v : V} {k b m c j : Nat} {fr : Bool} {i : List Nat} (hr : posOf r b = none) (hB : H b = some ⟨k, (l.map f).set j v, fr⟩) (hn : m = l.length) (hc : c = m) (hj : l[j]? = some a) (h : ∀ a, okD d (f a) = true) (hv : packB d H v = some (f x, i)) : ren H r (d + 1) (.hs b 0 m c) = some (.ow k ((l.set j x).map f), b :: i) := by
  refine pk_lit hr hB (by simpa using hn) hc ?_
  rw [List.map_set]
  exact ov_set hv (overL_packB (allL_map h)) (by simpa using (List.getElem?_eq_some_iff.1 hj).1)
theorem re_setL {α : Type} {f : α → V} {l : List α} {x y a : α} {v w : V} {k b m c j j2 : Nat} {fr : Bool} {i i2 : List Nat} (hr : posOf r b = none) (hB : H b = some ⟨k, ((l.map f).set j v).set j2 w, fr⟩) (hn : m = l.length) (hc : c = m) (hl : j < j2) (hj : l[j2]? = some a) (h : ∀ a, okD d (f a) = true) (hv : packB d H v = some (f x, i)) (hw : packB d H w = some (f y, i2)) : ren H r (d + 1) (.hs b 0 m c) = some (.ow k (((l.set j x).set j2 y).map f), b :: (i ++ i2)) := by
  refine pk_lit hr hB (by simpa using hn) hc ?_
  rw [List.map_set, List.map_set]
  exact ov_set2 hv hw (overL_packB (allL_map h)) hl (by simpa using (List.getElem?_eq_some_iff.1 hj).1)
theorem re_setG {α : Type} {f : α → V} {l : List α} {x y a : α} {v w : V} {k b m c j j2 : Nat} {fr : Bool} {i i2 : List Nat} (hr : posOf r b = none) (hB : H b = some ⟨k, ((l.map f).set j v).set j2 w, fr⟩) (hn : m = l.length) (hc : c = m) (hl : j2 < j) (hj : l[j]? = some a) (h : ∀ a, okD d (f a) = true) (hv : packB d H v = some (f x, i)) (hw : packB d H w = some (f y, i2)) : ren H r (d + 1) (.hs b 0 m c) = some (.ow k (((l.set j x).set j2 y).map f), b :: (i2 ++ i)) := by
  refine pk_lit hr hB (by simpa using hn) hc ?_
  rw [List.map_set, List.map_set, List.set_comm v w (by omega), List.set_comm (f x) (f y) (by omega)]
  exact ov_set2 hw hv (overL_packB (allL_map h)) hl (by simpa using (List.getElem?_eq_some_iff.1 hj).1)
theorem reX {v t : V} {i : List Nat} (h : ren H r d v = some (t, i) := by (repeat (first | exact ov_nil | apply ov_cons | apply ov_cons0 | exact re_im | exact re_e0 | exact re_sl | exact re_rp | (apply re_rt; rfl) | (apply re_ok; exact okA) | (apply re_hs; rfl; rfl; (first | rfl | assumption); rfl; exact fun _ => okA) | apply re_st | (apply re_app; rfl; rfl; rfl; rfl; exact fun _ => okA) | (apply re_set; rfl; rfl; (first | rfl | assumption); rfl; assumption; exact fun _ => okA) | (apply re_setL; rfl; rfl; (first | rfl | assumption); rfl; assumption; assumption; exact fun _ => okA) | (apply re_setG; rfl; rfl; (first | rfl | assumption); rfl; assumption; assumption; exact fun _ => okA) | (apply pk_lit; rfl; rfl; rfl; rfl) | (apply pa_ok; exact okA) | (apply pa_hs; rfl; (first | rfl | assumption | exact (List.length_set ..).symm); rfl; exact fun _ => okA) | fail)); done) : ren H r d v = some (t, i) := h
/-- The same as 'nm', of lists of lists of which some elements lie unpacked. -/
theorem nmx {L ids rr : List Nat} {bs : List (Option Blk)} {s : S} {ev : List (Nat × V)} {m : Nat} (hr : dedup (L.flatMap fun t => refs 3 (s.e t)) = rr := by first | exact (rfl : _ = []) | exact (rfl : _ = [_]) | exact (rfl : _ = [_, _]) | exact (rfl : _ = [_, _, _]) | exact (rfl : _ = [_, _, _, _]) | exact (rfl : _ = [_, _, _, _, _]) | exact (rfl : _ = [_, _, _, _, _, _]) | exact (rfl : _ = [_, _, _, _, _, _, _]))
    (hb : renBs s.H rr rr = some (bs, ids) := by
      repeat (first | exact rb_nil | (apply rb_L; rfl; exact fun _ => okA) | (apply rb_1; rfl; exact reX) | (apply rb_rep; rfl; exact okA) | (apply rb_fill; rfl; assumption; rfl; exact fun _ => okA; exact okA; exact reX) | (apply rb_app; rfl; exact fun _ => okA; exact reX) | (apply rb_appV; rfl; exact fun _ => okA; exact reX) | (apply rb_set; rfl; exact fun _ => okA; exact reX; omega) | fail)
      done)
    (hn : (ids ++ rr).Nodup := by exact nd_of rfl) (he : (L.map fun t => (t, match ren s.H rr 3 (s.e t) with | some (v, []) => v | _ => V.dd)) = ev := by first | rfl | (simp only [List.length_append, List.length_singleton]; rfl)) (hm : rr.length = m := by rfl) : nmS L s = some ⟨envA ev, heapA bs, m, false⟩ := by
  subst hm; exact nmS_of hr hb hn he
end
section
variable {Γ : Env} {T : Nat → Option FB} {e : Nat → V} {H : Nat → Option Blk} {n : Nat} {z : Bool} {l : List I} {K : S → Prop} {Q : R → Prop} {d : Nat}
/-- An element that lies unpacked is loaded. -/
theorem x1 {es : List V} {v : V} {q : Option Nat} {x : O} {b i k1 : Nat} {fr : Bool} (k : WL Γ T l ⟨up e d v, H, n, z⟩ K)
    (hx : val e x = .hp b i := by rfl) (hB : H b = some ⟨k1, es, fr⟩ := by rfl) (hi : es[i]? = some v := by (repeat (first | (apply at_sm; assumption) | (apply at_s2; assumption) | (apply at_lt; assumption) | (apply at_gt; assumption) | (apply at_map; assumption) | fail)); done) (hf : v.fits q = true := by rfl) : WL Γ T (o d (.ld q x) :: l) ⟨e, H, n, z⟩ K :=
  g_ld (by simp only [derefB, hx, hB, Option.bind_some]; exact hi) hf k
/-- One that lies packed, beside others that lie unpacked. -/
theorem x2 {α : Type} {f : α → V} {ll : List α} {es : List V} {x : O} {b i k1 kk : Nat}
    (k : WL Γ T l ⟨up e d (.hs n 0 ll.length ll.length), up (up H n (some ⟨kk, ll.map f, false⟩)) b (some ⟨k1, es.set i (.hs n 0 ll.length ll.length), false⟩), n + 1, z⟩ K)
    (hx : val e x = .hp b i := by rfl) (hB : H b = some ⟨k1, es, false⟩ := by rfl) (hi : es[i]? = some (.ow kk (ll.map f)) := by (repeat (first | (apply at_sm; assumption) | (apply at_s2; assumption) | (apply at_lt; assumption) | (apply at_gt; assumption) | (apply at_map; assumption) | fail)); done) (hb : Nat.beq b n = false := by rfl) : WL Γ T (o d (.ld none x) :: l) ⟨e, H, n, z⟩ K := g_ldp hx hB hi hb k
end
end Go.Am
