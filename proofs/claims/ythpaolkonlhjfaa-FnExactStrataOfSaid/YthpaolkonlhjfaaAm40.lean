/- The B-machine, part 17: the steps that need no thought, taken together. -/
import Derived.Test.YthpaolkonlhjfaaAm39
set_option linter.all false
namespace Go.Am

/-- A value, computed. -/
theorem frc {u v : V} (h : u = v := by
    first
    | exact (rfl : _ = V.im _) | exact (rfl : _ = V.hs _ _ _ _) | exact (rfl : _ = V.sl (List.map _ _)) | exact (rfl : _ = V.sl _) | exact (rfl : _ = V.e0) | exact (rfl : _ = V.hp _ _)
    | exact (rfl : _ = V.st _) | exact (rfl : _ = V.cl _ _) | exact (rfl : _ = V.rp _) | exact (rfl : _ = V.hf _ _ _) | exact (rfl : _ = V.tu _)) : u = v := h
theorem frcO {u : Option V} {v : V} (h : u = some v := by
    first
    | exact (rfl : _ = some (V.im _)) | exact (rfl : _ = some (V.hs _ _ _ _)) | exact (rfl : _ = some (V.sl (List.map _ _))) | exact (rfl : _ = some (V.sl _)) | exact (rfl : _ = some V.e0) | exact (rfl : _ = some (V.hp _ _))
    | exact (rfl : _ = some (V.st _)) | exact (rfl : _ = some (V.cl _ _)) | exact (rfl : _ = some (V.rp _)) | exact (rfl : _ = some (V.hf _ _ _)) | exact (rfl : _ = some (V.tu _))) : u = some v := h
theorem mapnil {f : O → V} : [].map f = [] := rfl
theorem mapcons {f : O → V} {x : O} {xs : List O} {v : V} {vs : List V} (h1 : f x = v) (h2 : xs.map f = vs) : (x :: xs).map f = v :: vs := by rw [List.map_cons, h1, h2]
theorem frcL {f : O → V} {xs : List O} {vs : List V} (h : xs.map f = vs := by (repeat (first | exact mapnil | (apply mapcons; exact frc) | fail)); done) : xs.map f = vs := h
theorem mapapp {f : O → V} {xs : List O} {vs cs ws : List V} (h1 : xs.map f = vs) (h2 : vs ++ cs = ws) : xs.map f ++ cs = ws := by rw [h1, h2]
theorem appnil {cs : List V} : [] ++ cs = cs := rfl
theorem appcons {v : V} {vs cs ws : List V} (h : vs ++ cs = ws) : (v :: vs) ++ cs = v :: ws := by rw [List.cons_append, h]
theorem frcA {vs cs ws : List V} (h : vs ++ cs = ws := by (repeat (first | exact appnil | apply appcons | fail)); done) : vs ++ cs = ws := h
theorem saysA {c : Bool} {p q : Prop} (h : Says c p q := by first | exact says_n says_d | exact says_n says_e | exact says_n says_b | exact says_d | exact says_e | exact says_b) : Says c p q := h
/-- A struct with one field written. -/
theorem frcS {cs vs : List V} (h : cs = vs := by first | exact (rfl : _ = [_]) | exact (rfl : _ = [_, _]) | exact (rfl : _ = [_, _, _]) | exact (rfl : _ = [_, _, _, _])) : cs = vs := h

section
variable {Γ : Env} {T : Nat → Option FB} {e : Nat → V} {H : Nat → Option Blk} {n : Nat} {z : Bool} {l : List I} {K : S → Prop} {Q : R → Prop} {d : Nat}
theorem g_bd1 {cs vs : List V} {p : Nat × O} {v : V} (hv : val e p.2 = v) (ho : v.okc = true) (h : cs.set p.1 v = vs) (k : WL Γ T l ⟨up e d (.st vs), H, n, z⟩ K) : WL Γ T (o d (.bd cs [p]) :: l) ⟨e, H, n, z⟩ K :=
  g_bd (by simp only [List.map, hv, List.all_cons, ho, List.all_nil, Bool.and_self]) (by simp only [List.foldl, hv, h]) k
theorem g_bd2 {cs vs : List V} {p p' : Nat × O} {v v' : V} (hv : val e p.2 = v) (hv' : val e p'.2 = v') (ho : v.okc = true) (ho' : v'.okc = true) (h : (cs.set p.1 v).set p'.1 v' = vs) (k : WL Γ T l ⟨up e d (.st vs), H, n, z⟩ K) : WL Γ T (o d (.bd cs [p, p']) :: l) ⟨e, H, n, z⟩ K :=
  g_bd (by simp only [List.map, hv, hv', List.all_cons, ho, ho', List.all_nil, Bool.and_self]) (by simp only [List.foldl, hv, hv', h]) k
theorem g_bd3 {cs vs : List V} {p p' p2 : Nat × O} {v v' v2 : V} (hv : val e p.2 = v) (hv' : val e p'.2 = v') (hv2 : val e p2.2 = v2) (ho : v.okc = true) (ho' : v'.okc = true) (ho2 : v2.okc = true) (h : ((cs.set p.1 v).set p'.1 v').set p2.1 v2 = vs) (k : WL Γ T l ⟨up e d (.st vs), H, n, z⟩ K) : WL Γ T (o d (.bd cs [p, p', p2]) :: l) ⟨e, H, n, z⟩ K :=
  g_bd (by simp only [List.map, hv, hv', hv2, List.all_cons, ho, ho', ho2, List.all_nil, Bool.and_self]) (by simp only [List.foldl, hv, hv', hv2, h]) k
theorem g_bd0 {cs : List V} (k : WL Γ T l ⟨up e d (.st cs), H, n, z⟩ K) : WL Γ T (o d (.bd cs []) :: l) ⟨e, H, n, z⟩ K := g_bd rfl rfl k
theorem g_opv {a : A} {v : V} (h : opB (callB Γ T (EXB Γ T)) ⟨e, H, n, z⟩ a = some (v, ⟨e, H, n, z⟩)) (k : WL Γ T l ⟨up e d v, H, n, z⟩ K) : WL Γ T (o d a :: l) ⟨e, H, n, z⟩ K := g_op h k
end

section
variable {Γ : Env} {T : Nat → Option FB} {e : Nat → V} {H : Nat → Option Blk} {n : Nat} {z : Bool} {l : List I} {K : S → Prop} {Q : R → Prop} {d : Nat}
theorem g_condDT {x : O} {a b : CB} {c : Bool} {p q : Prop} (hc : val e x = .b c) (hs : Says c p q) (h : q → False) (k : WP Γ T a ⟨e, H, n, z⟩ Q) : WP Γ T (.cond x a b) ⟨e, H, n, z⟩ Q :=
  g_cond hc hs ⟨fun _ => k, fun hq => (h hq).elim⟩
theorem g_condDF {x : O} {a b : CB} {c : Bool} {p q : Prop} (hc : val e x = .b c) (hs : Says c p q) (h : p → False) (k : WP Γ T b ⟨e, H, n, z⟩ Q) : WP Γ T (.cond x a b) ⟨e, H, n, z⟩ Q :=
  g_cond hc hs ⟨fun hp => (h hp).elim, fun _ => k⟩
theorem g_gcT {a : List I} {t : Nat} {c : Bool} {p q : Prop} (hb : e t = .b c) (hs : Says c p q) (h : q → False) (k : WL Γ T a ⟨up e t (.b true), H, n, z⟩ K) : WL Γ T a ⟨e, H, n, z⟩ K := g_gc hb hs ⟨fun _ => k, fun hq => (h hq).elim⟩
theorem g_gcF {a : List I} {t : Nat} {c : Bool} {p q : Prop} (hb : e t = .b c) (hs : Says c p q) (h : p → False) (k : WL Γ T a ⟨up e t (.b false), H, n, z⟩ K) : WL Γ T a ⟨e, H, n, z⟩ K := g_gc hb hs ⟨fun hp => (h hp).elim, fun _ => k⟩
theorem g_gcgT {t : Nat} {w : Bool} {a : A} {c : Bool} {p q : Prop} (hb : e t = .b c) (hs : Says c p q) (h : q → False) (k : WL Γ T (og d t w a :: l) ⟨up e t (.b true), H, n, z⟩ K) : WL Γ T (og d t w a :: l) ⟨e, H, n, z⟩ K := g_gcT hb hs h k
theorem g_gcgF {t : Nat} {w : Bool} {a : A} {c : Bool} {p q : Prop} (hb : e t = .b c) (hs : Says c p q) (h : p → False) (k : WL Γ T (og d t w a :: l) ⟨up e t (.b false), H, n, z⟩ K) : WL Γ T (og d t w a :: l) ⟨e, H, n, z⟩ K := g_gcF hb hs h k

/-- What holds behind a round. -/
def LpQ {β : Type} (L : List Nat) (St : β → S) (I : β → Prop) (m : Nat) (μ : β → Nat) (Q : R → Prop) : R → Prop
  | .n s => ∃ x, μ x < m ∧ I x ∧ nmS L s = some (St x)
  | r => Q r
theorem lp_n {β : Type} {L : List Nat} {St : β → S} {I : β → Prop} {m : Nat} {μ : β → Nat} {s : S} (x : β) (h1 : μ x < m) (h2 : I x) (h3 : nmS L s = some (St x)) : LpQ L St I m μ Q (.n s) := ⟨x, h1, h2, h3⟩
theorem lp_r {β : Type} {L : List Nat} {St : β → S} {I : β → Prop} {m : Nat} {μ : β → Nat} {s : S} (h : Q (.r s)) : LpQ L St I m μ Q (.r s) := h
theorem lp_x {β : Type} {L : List Nat} {St : β → S} {I : β → Prop} {m : Nat} {μ : β → Nat} {s : S} {i : Nat} (h : Q (.x i s)) : LpQ L St I m μ Q (.x i s) := h
/-- A loop. -/
theorem wp_while {β : Type} {a : CB} {L : List Nat} {s : S} (St : β → S) (I : β → Prop) (μ : β → Nat) (x0 : β) (h0 : nmS L s = some (St x0)) (hI : I x0) (h : ∀ x, I x → WP Γ T a (St x) (LpQ L St I (μ x) μ Q)) : WP Γ T (.lp (.nm L a)) s Q := by
  refine wp_loop (α := β) (fun x s => I x ∧ nmS L s = some (St x)) μ ?_ x0 ⟨hI, h0⟩
  rintro x s ⟨h1, h2⟩
  refine wp_nm h2 (wp_mono (h x h1) fun r hr => ?_)
  cases r with
  | n s' => obtain ⟨y, h3, h4, h5⟩ := hr; exact ⟨y, h3, h4, h5⟩
  | x i s' => exact hr
  | r s' => exact hr
/-- A round for each of a list: 'F' tells, of those that are left and of what is carried along, what will come of it. -/
def EaQ {α γ ρ : Type} (L : List Nat) (St : Nat → γ → S) (l : List α) (F : List α → γ → ρ) (r : ρ) (i : Nat) (Q : R → Prop) : R → Prop
  | .n s => ∃ g, F (l.drop (i + 1)) g = r ∧ nmS L s = some (St (i + 1) g)
  | r => Q r
theorem ea_n {α γ ρ : Type} {L : List Nat} {St : Nat → γ → S} {l : List α} {F : List α → γ → ρ} {r : ρ} {i : Nat} {s : S} (g : γ) (h1 : F (l.drop (i + 1)) g = r) (h2 : nmS L s = some (St (i + 1) g)) : EaQ L St l F r i Q (.n s) := ⟨g, h1, h2⟩
theorem ea_r {α γ ρ : Type} {L : List Nat} {St : Nat → γ → S} {l : List α} {F : List α → γ → ρ} {r : ρ} {i : Nat} {s : S} (h : Q (.r s)) : EaQ L St l F r i Q (.r s) := h
theorem ea_x {α γ ρ : Type} {L : List Nat} {St : Nat → γ → S} {l : List α} {F : List α → γ → ρ} {r : ρ} {i j : Nat} {s : S} (h : Q (.x j s)) : EaQ L St l F r i Q (.x j s) := h
/-- What holds behind the last test. -/
def EnQ (Q : R → Prop) : R → Prop
  | .n _ => False
  | r => Q r
theorem en_r {s : S} (h : Q (.r s)) : EnQ Q (.r s) := h
theorem en_x {i : Nat} {s : S} (h : Q (.x i s)) : EnQ Q (.x i s) := h
theorem wp_each {α γ ρ : Type} {a : CB} {L : List Nat} {s : S} (l : List α) (F : List α → γ → ρ) (St : Nat → γ → S) (g0 : γ) (r : ρ) (h0 : nmS L s = some (St 0 g0)) (hr : F l g0 = r)
    (hs : ∀ (i : Nat) (g : γ) (x : α), i < l.length → l[i]? = some x → x ∈ l → F (x :: l.drop (i + 1)) g = r → WP Γ T a (St i g) (EaQ L St l F r i Q))
    (he : ∀ g : γ, F [] g = r → WP Γ T a (St l.length g) (EnQ Q)) : WP Γ T (.lp (.nm L a)) s Q := by
  refine wp_while (β := Nat × γ) (fun p => St p.1 p.2) (fun p => p.1 ≤ l.length ∧ F (l.drop p.1) p.2 = r) (fun p => l.length - p.1) (0, g0) h0 ⟨Nat.zero_le _, hr⟩ ?_
  rintro ⟨i, g⟩ ⟨hi, hF⟩
  by_cases hlt : i < l.length
  · obtain ⟨x, hx, hm, hF'⟩ := rd_lt (F := fun r => F r g) hF hlt
    refine wp_mono (hs i g x hlt hx hm hF') fun r hr => ?_
    cases r with
    | n s' => obtain ⟨g', h1, h2⟩ := hr; exact ⟨(i + 1, g'), by show l.length - (i + 1) < l.length - i; omega, ⟨by show i + 1 ≤ l.length; omega, h1⟩, h2⟩
    | x i s' => exact hr
    | r s' => exact hr
  · have hF' := rd_ge (F := fun r => F r g) hF hlt
    obtain rfl : i = l.length := by simp only at hi; omega
    refine wp_mono (he g hF') fun r hr => ?_
    cases r with
    | n s' => exact hr.elim
    | x i s' => exact hr
    | r s' => exact hr
/-- The same, with something that holds at every head. -/
def EiQ {α γ ρ : Type} (L : List Nat) (St : Nat → γ → S) (l : List α) (F : List α → γ → ρ) (r : ρ) (I : Nat → γ → Prop) (i : Nat) (Q : R → Prop) : R → Prop
  | .n s => ∃ g, F (l.drop (i + 1)) g = r ∧ I (i + 1) g ∧ nmS L s = some (St (i + 1) g)
  | r => Q r
theorem ei_n {α γ ρ : Type} {L : List Nat} {St : Nat → γ → S} {l : List α} {F : List α → γ → ρ} {r : ρ} {I : Nat → γ → Prop} {i : Nat} {s : S} (g : γ) (h1 : F (l.drop (i + 1)) g = r) (h2 : I (i + 1) g) (h3 : nmS L s = some (St (i + 1) g)) : EiQ L St l F r I i Q (.n s) := ⟨g, h1, h2, h3⟩
theorem ei_r {α γ ρ : Type} {L : List Nat} {St : Nat → γ → S} {l : List α} {F : List α → γ → ρ} {r : ρ} {I : Nat → γ → Prop} {i : Nat} {s : S} (h : Q (.r s)) : EiQ L St l F r I i Q (.r s) := h
theorem ei_x {α γ ρ : Type} {L : List Nat} {St : Nat → γ → S} {l : List α} {F : List α → γ → ρ} {r : ρ} {I : Nat → γ → Prop} {i j : Nat} {s : S} (h : Q (.x j s)) : EiQ L St l F r I i Q (.x j s) := h
theorem wp_eachI {α γ ρ : Type} {a : CB} {L : List Nat} {s : S} (l : List α) (F : List α → γ → ρ) (St : Nat → γ → S) (g0 : γ) (r : ρ) (I : Nat → γ → Prop) (h0 : nmS L s = some (St 0 g0)) (hr : F l g0 = r) (hI : I 0 g0)
    (hs : ∀ (i : Nat) (g : γ) (x : α), i < l.length → l[i]? = some x → x ∈ l → F (x :: l.drop (i + 1)) g = r → I i g → WP Γ T a (St i g) (EiQ L St l F r I i Q))
    (he : ∀ g : γ, F [] g = r → I l.length g → WP Γ T a (St l.length g) (EnQ Q)) : WP Γ T (.lp (.nm L a)) s Q := by
  refine wp_while (β := Nat × γ) (fun p => St p.1 p.2) (fun p => p.1 ≤ l.length ∧ F (l.drop p.1) p.2 = r ∧ I p.1 p.2) (fun p => l.length - p.1) (0, g0) h0 ⟨Nat.zero_le _, hr, hI⟩ ?_
  rintro ⟨i, g⟩ ⟨hi, hF, hI⟩
  by_cases hlt : i < l.length
  · obtain ⟨x, hx, hm, hF'⟩ := rd_lt (F := fun r => F r g) hF hlt
    refine wp_mono (hs i g x hlt hx hm hF' hI) fun r hr => ?_
    cases r with
    | n s' => obtain ⟨g', h1, h2, h3⟩ := hr; exact ⟨(i + 1, g'), by show l.length - (i + 1) < l.length - i; omega, ⟨by show i + 1 ≤ l.length; omega, h1, h2⟩, h3⟩
    | x i s' => exact hr
    | r s' => exact hr
  · have hF' := rd_ge (F := fun r => F r g) hF hlt
    obtain rfl : i = l.length := by simp only at hi; omega
    refine wp_mono (he g hF' hI) fun r hr => ?_
    cases r with
    | n s' => exact hr.elim
    | x i s' => exact hr
    | r s' => exact hr
/-- What holds of all that is passed. -/
theorem take_all {α : Type} {P : α → Prop} {l : List α} {i : Nat} {x : α} (h : ∀ y ∈ l.take i, P y) (hx : l[i]? = some x) (hp : P x) : ∀ y ∈ l.take (i + 1), P y := by
  intro y hy
  rw [List.take_add_one, hx] at hy
  rcases List.mem_append.1 hy with h1 | h1
  · exact h y h1
  · simp at h1; subst h1; exact hp
theorem take_nil {α : Type} {P : α → Prop} {l : List α} : ∀ y ∈ l.take 0, P y := by simp
theorem take_end {α : Type} {P : α → Prop} {l : List α} (h : ∀ y ∈ l.take l.length, P y) : ∀ y ∈ l, P y := by rwa [List.take_length] at h
/-- The numbers from 0 on. -/
theorem wp_upto {γ ρ : Type} {a : CB} {L : List Nat} {s : S} (m : Nat) (F : List Nat → γ → ρ) (St : Nat → γ → S) (g0 : γ) (r : ρ) (h0 : nmS L s = some (St 0 g0)) (hr : F (List.range m) g0 = r)
    (hs : ∀ (i : Nat) (g : γ), i < m → F (i :: (List.range m).drop (i + 1)) g = r → WP Γ T a (St i g) (EaQ L St (List.range m) F r i Q))
    (he : ∀ g : γ, F [] g = r → WP Γ T a (St m g) (EnQ Q)) : WP Γ T (.lp (.nm L a)) s Q := by
  refine wp_each (List.range m) F St g0 r h0 hr (fun i g x hi hx hm hF => ?_) (fun g hg => by rw [List.length_range]; exact he g hg)
  have hi' : i < m := by simpa using hi
  obtain rfl : i = x := by rw [List.getElem?_range hi'] at hx; exact Option.some.inj hx
  exact hs i g hi' hF
end
attribute [irreducible] LpQ EaQ EnQ EiQ

/-- The end of a function. -/
def Fin (t : V) (l : List (Nat × Option (Option Nat))) (s : S) : Prop := ∃ v o i, resOfB s l = some (v, o) ∧ giveB DEP s.H v = some (t, i) ∧ (o ++ i).Nodup
def FinQ (t : V) (l : List (Nat × Option (Option Nat))) : R → Prop
  | .n s | .r s => Fin t l s
  | _ => False
theorem fn_n {t : V} {l : List (Nat × Option (Option Nat))} {s : S} (h : Fin t l s) : FinQ t l (.n s) := h
theorem fn_r {t : V} {l : List (Nat × Option (Option Nat))} {s : S} (h : Fin t l s) : FinQ t l (.r s) := h
theorem fi_b {s : S} {l : List (Nat × Option (Option Nat))} {x y : Bool} (hr : resOfB s l = some (.b y, [])) (h : y = x) : Fin (.b x) l s := fin_b hr h
theorem fi_i {s : S} {l : List (Nat × Option (Option Nat))} {x y : Int} (hr : resOfB s l = some (.i y, [])) (h : y = x) : Fin (.i x) l s := fin_i hr h
theorem fi_s {s : S} {l : List (Nat × Option (Option Nat))} {x y : ByteArray} (hr : resOfB s l = some (.s y, [])) (h : y = x) : Fin (.s x) l s := fin_s hr h
theorem call_ro' {Γ : Env} {T : Nat → Option FB} {f : Nat} {args vals : List V} {t : V} {x : FB} {H : Nat → Option Blk} {n : Nat} (hp : Γ.pr f = none) (hT : T f = some x) (hn : args.length = x.np) (ht : takeL (takeB DEP) args { e := fun _ => .un, H := fun _ => none, nx := 0 } = some (vals, ⟨fun _ => .un, H, n, false⟩))
    (h : WP Γ T x.body ⟨envOf vals, H, n, false⟩ (FinQ t x.res)) : CALLB Γ T f [] args = some (t, []) := call_ro hp hT hn ht (wp_mono h fun r hr => by cases r <;> exact hr)
/-- The same, of a result of which something is known. -/
def FP (P : V → Prop) (l : List (Nat × Option (Option Nat))) (s : S) : Prop := ∃ t, P t ∧ Fin t l s
def FinP (P : V → Prop) (l : List (Nat × Option (Option Nat))) : R → Prop
  | .n s | .r s => FP P l s
  | _ => False
theorem fp_n {P : V → Prop} {l : List (Nat × Option (Option Nat))} {s : S} (h : FP P l s) : FinP P l (.n s) := h
theorem fp_r {P : V → Prop} {l : List (Nat × Option (Option Nat))} {s : S} (h : FP P l s) : FinP P l (.r s) := h
theorem fp_of {P : V → Prop} {l : List (Nat × Option (Option Nat))} {s : S} {t : V} (hp : P t) (h : Fin t l s) : FP P l s := ⟨t, hp, h⟩
theorem fp_im {P : V → Prop} {s : S} {l : List (Nat × Option (Option Nat))} {y : Value} (h : P (.im y)) (hr : resOfB s l = some (.im y, [])) : FP P l s := ⟨_, h, fin_im hr rfl⟩
theorem call_ex {Γ : Env} {T : Nat → Option FB} {f : Nat} {args vals : List V} {P : V → Prop} {x : FB} {H : Nat → Option Blk} {n : Nat} (hp : Γ.pr f = none) (hT : T f = some x) (hn : args.length = x.np) (ht : takeL (takeB DEP) args { e := fun _ => .un, H := fun _ => none, nx := 0 } = some (vals, ⟨fun _ => .un, H, n, false⟩))
    (h : WP Γ T x.body ⟨envOf vals, H, n, false⟩ (FinP P x.res)) : ∃ t, CALLB Γ T f [] args = some (t, []) ∧ P t := by
  have h' := h
  unfold WP at h'
  obtain ⟨r, h1, h2⟩ := h'
  cases r with
  | n s => obtain ⟨t, h3, h4⟩ := h2; exact ⟨t, call_ro' hp hT hn ht (by unfold WP; exact ⟨_, h1, h4⟩), h3⟩
  | r s => obtain ⟨t, h3, h4⟩ := h2; exact ⟨t, call_ro' hp hT hn ht (by unfold WP; exact ⟨_, h1, h4⟩), h3⟩
  | x i s => exact h2.elim
attribute [irreducible] FinQ Fin FinP FP
/-- What a measuring function answers. -/
def SzP {α : Type} [Bnd α] (a : α) (n : Int) (t : V) : Prop := ∃ m, t = .i m ∧ (m < 0 ∨ (Bnd.ok a ∧ 0 ≤ m ∧ m ≤ n))
theorem sz_neg {α : Type} [Bnd α] {a : α} {n m : Int} (h : m < 0 := by omega) : SzP a n (.i m) := ⟨m, rfl, .inl h⟩
theorem sz_ok {α : Type} [Bnd α] {a : α} {n m : Int} (h : Bnd.ok a) (h0 : 0 ≤ m := by omega) (h1 : m ≤ n := by omega) : SzP a n (.i m) := ⟨m, rfl, .inr ⟨h, h0, h1⟩⟩
theorem take_eq {α : Type} {a b : List α} {i : Nat} {x y : α} (h : a.take i = b.take i) (hx : a[i]? = some x) (hy : b[i]? = some y) (e : x = y) : a.take (i + 1) = b.take (i + 1) := by
  rw [List.take_add_one, List.take_add_one, h, hx, hy, e]
theorem eq_of_take {α : Type} {a b : List α} (h : a.take a.length = b.take a.length) (hl : a.length = b.length) : a = b := by
  rw [List.take_length, hl, List.take_length] at h; exact h
theorem ne_of_at {α : Type} {a b : List α} {i : Nat} {x y : α} (hx : a[i]? = some x) (hy : b[i]? = some y) (h : x ≠ y) : a ≠ b := by
  rintro rfl; rw [hx] at hy; exact h (Option.some.inj hy)
theorem cell_of {α : Type} {r : List α} {j : Nat} (h : j < r.length) : ∃ b, r[j]? = some b := ⟨r[j], List.getElem?_eq_getElem h⟩

/-- (A wrapping, so that what is sought is not met.) -/
structure Wr (P : Prop) : Prop where
  h : P
end Go.Am
