/- The B-machine, part 13: code, one operation at a time. -/
import Derived.Test.YthpaolkonlhjfaaAm33
set_option linter.all false
namespace Go.Am

/-- The code comes to an end, and of that this is so. -/
def WP (Γ : Env) (T : Nat → Option FB) (c : CB) (s : S) (Q : R → Prop) : Prop := ∃ r, EXB Γ T c s = some r ∧ Q r
def WL (Γ : Env) (T : Nat → Option FB) (l : List I) (s : S) (K : S → Prop) : Prop := ∃ s1, runB (callB Γ T (EXB Γ T)) l s = some s1 ∧ K s1
def WO (Γ : Env) (T : Nat → Option FB) (a : A) (s : S) (K : V → S → Prop) : Prop := ∃ v s1, opB (callB Γ T (EXB Γ T)) s a = some (v, s1) ∧ K v s1

section
variable {Γ : Env} {T : Nat → Option FB} {s : S} {Q : R → Prop}

def SqQ (Γ : Env) (T : Nat → Option FB) (b : CB) (Q : R → Prop) : R → Prop
  | .n s1 => WP Γ T b s1 Q
  | r => Q r
def BkQ (id : Nat) (Q : R → Prop) : R → Prop
  | .x j s1 => if j = id then Q (.n s1) else Q (.x j s1)
  | r => Q r

theorem wp_skip (h : Q (.n s)) : WP Γ T .skip s Q := ⟨_, EXB_skip _ _ _, h⟩
theorem wp_ret (h : Q (.r s)) : WP Γ T .ret s Q := ⟨_, EXB_ret _ _ _, h⟩
theorem wp_ex {id : Nat} (h : Q (.x id s)) : WP Γ T (.ex id) s Q := ⟨_, EXB_ex _ _ _ _, h⟩
theorem wp_seq {a b : CB} (h : WP Γ T a s (SqQ Γ T b Q)) : WP Γ T (.seq a b) s Q := by
  obtain ⟨r, h1, h2⟩ := h
  cases r with
  | n s1 =>
    obtain ⟨r2, h3, h4⟩ := h2
    exact ⟨r2, by rw [EXB_seq, h1]; exact h3, h4⟩
  | x i s1 => exact ⟨_, by rw [EXB_seq, h1], h2⟩
  | r s1 => exact ⟨_, by rw [EXB_seq, h1], h2⟩
theorem wp_rg {l : List I} (h : WL Γ T l s fun s1 => Q (.n s1)) : WP Γ T (.rg l) s Q := by
  obtain ⟨s1, h1, h2⟩ := h
  exact ⟨_, by rw [EXB_rg, h1]; rfl, h2⟩
theorem wp_cond {o : O} {a b : CB} {c : Bool} (hc : val s.e o = .b c) (ht : c = true → WP Γ T a s Q) (hf : c = false → WP Γ T b s Q) : WP Γ T (.cond o a b) s Q := by
  cases c with
  | true => obtain ⟨r, h1, h2⟩ := ht rfl; exact ⟨r, by rw [EXB_cond, hc]; exact h1, h2⟩
  | false => obtain ⟨r, h1, h2⟩ := hf rfl; exact ⟨r, by rw [EXB_cond, hc]; exact h1, h2⟩
theorem wp_blk {id : Nat} {a : CB} (h : WP Γ T a s (BkQ id Q)) : WP Γ T (.blk id a) s Q := by
  obtain ⟨r, h1, h2⟩ := h
  cases r with
  | x j s1 =>
    simp only [BkQ] at h2
    by_cases hj : j = id
    · rw [if_pos hj] at h2; exact ⟨_, by rw [EXB_blk, h1]; exact if_pos hj, h2⟩
    · rw [if_neg hj] at h2; exact ⟨_, by rw [EXB_blk, h1]; exact if_neg hj, h2⟩
  | n s1 => exact ⟨_, by rw [EXB_blk, h1], h2⟩
  | r s1 => exact ⟨_, by rw [EXB_blk, h1], h2⟩
theorem wp_lp {a : CB} (h : WP Γ T a s (SqQ Γ T (.lp a) Q)) : WP Γ T (.lp a) s Q := by
  obtain ⟨r, h1, h2⟩ := h
  cases r with
  | n s1 =>
    obtain ⟨r2, h3, h4⟩ := h2
    exact ⟨r2, by rw [EXB_lp, h1]; exact h3, h4⟩
  | x i s1 => exact ⟨_, by rw [EXB_lp, h1], h2⟩
  | r s1 => exact ⟨_, by rw [EXB_lp, h1], h2⟩
theorem wp_nm {L : List Nat} {a : CB} {s1 : S} (hs : nmS L s = some s1) (h : WP Γ T a s1 Q) : WP Γ T (.nm L a) s Q := by
  obtain ⟨r, h1, h2⟩ := h
  exact ⟨r, by rw [EXB_nm, hs]; exact h1, h2⟩
theorem wp_dp {x i b n c kn : Nat} {k : Int} {B : Blk} {kk : IntKind} {a : CB} (hx : s.e x = .hs b 0 n c) (hi : s.e i = .im (.int kk k)) (hB : s.H b = some B) (hk : k = (kn : Nat)) (hle : kn ≤ B.es.length) (h : WP Γ T a (s.blk b (some { B with es := List.replicate kn V.dd ++ B.es.drop kn })) Q) : WP Γ T (.dp x i a) s Q := by
  obtain ⟨r, h1, h2⟩ := h
  have e : dpS x i s = some (s.blk b (some { B with es := List.replicate kn V.dd ++ B.es.drop kn })) := by
    subst hk
    simp only [dpS, hx, hi, hB, Int.toNat_natCast]
    rw [if_pos hle]
  exact ⟨r, by rw [EXB_dp, e]; exact h1, h2⟩
theorem wp_mono {c : CB} {Q' : R → Prop} (h : WP Γ T c s Q) (hq : ∀ r, Q r → Q' r) : WP Γ T c s Q' := let ⟨r, h1, h2⟩ := h; ⟨r, h1, hq r h2⟩

theorem wr_nil {K : S → Prop} (h : K s) : WL Γ T [] s K := ⟨s, rfl, h⟩
theorem wr_op {d : Option Nat} {a : A} {l : List I} {K : S → Prop} (h : WO Γ T a s fun v s1 => WL Γ T l (s1.put d v) K) : WL Γ T (⟨d, none, a⟩ :: l) s K := by
  obtain ⟨v, s1, h1, s2, h2, h3⟩ := h
  exact ⟨s2, by simp only [runB_cons, guardA, h1]; exact h2, h3⟩
theorem wr_g {d : Option Nat} {t : Nat} {w : Bool} {a : A} {l : List I} {K : S → Prop} {b : Bool} (hb : s.e t = .b b) (h1 : b = w → WO Γ T a s fun v s1 => WL Γ T l (s1.put d v) K) (h2 : b ≠ w → WL Γ T l (s.put d .un) K) : WL Γ T (⟨d, some (t, w), a⟩ :: l) s K := by
  by_cases hw : b = w
  · obtain ⟨v, s1, h1, s2, h2, h3⟩ := h1 hw
    exact ⟨s2, by simp only [runB_cons, guardA, hb, hw, beq_self_eq_true, h1]; exact h2, h3⟩
  · obtain ⟨s2, h3, h4⟩ := h2 hw
    have : (b == w) = false := by simpa using hw
    exact ⟨s2, by simp only [runB_cons, guardA, hb, this]; exact h3, h4⟩

theorem wr_gt {d : Option Nat} {t : Nat} {w : Bool} {a : A} {l : List I} {K : S → Prop} {b : Bool} (hb : s.e t = .b b) (hw : b = w) (h : WO Γ T a s fun v s1 => WL Γ T l (s1.put d v) K) : WL Γ T (⟨d, some (t, w), a⟩ :: l) s K := wr_g hb (fun _ => h) fun hn => absurd hw hn
theorem wr_gf {d : Option Nat} {t : Nat} {w : Bool} {a : A} {l : List I} {K : S → Prop} {b : Bool} (hb : s.e t = .b b) (hw : b = !w) (h : WL Γ T l (s.put d .un) K) : WL Γ T (⟨d, some (t, w), a⟩ :: l) s K := wr_g hb (fun hn => by rw [hn] at hw; cases w <;> cases hw) fun _ => h
/-- A guard: the cases. -/
theorem wr_gc {d : Option Nat} {t : Nat} {w : Bool} {a : A} {l : List I} {K : S → Prop} {b : Bool} (hb : s.e t = .b b) (h1 : b = w → WO Γ T a s fun v s1 => WL Γ T l (s1.put d v) K) (h2 : b = !w → WL Γ T l (s.put d .un) K) : WL Γ T (⟨d, some (t, w), a⟩ :: l) s K :=
  wr_g hb h1 fun hn => h2 (by cases b <;> cases w <;> simp_all)

variable {K : V → S → Prop}
theorem wo_of {a : A} {v : V} {s1 : S} (h : opB (callB Γ T (EXB Γ T)) s a = some (v, s1)) (k : K v s1) : WO Γ T a s K := ⟨v, s1, h, k⟩
theorem wo_mv {x : O} {v : V} (hv : val s.e x = v) (k : K v s) : WO Γ T (.mv x) s K := ⟨v, s, by simp only [opB, opA, hv], k⟩
theorem wo_ln {x : O} {n : Nat} (hv : vlen (val s.e x) = some n) (k : K (.i n) s) : WO Γ T (.ln x) s K := ⟨_, s, by simp only [opB, opA, hv], k⟩
theorem wo_bi {op : BinOp} {x y : O} {u w z : Value} (hx : val s.e x = .im u) (hy : val s.e y = .im w) (h : abin op u w = some z) (k : K (.im z) s) : WO Γ T (.bi op x y) s K := ⟨_, s, by simp only [opB, opA, hx, hy, h]; rfl, k⟩

theorem wo_ia {q : Option Nat} {x i : O} {es : List V} {e : V} {n : Int} (hx : val s.e x = .sl es) (hi : val s.e i = .i n) (h0 : 0 ≤ n) (he : es[n.toNat]? = some e) (hs : e.size = ksz q) (k : K (.rp e) s) : WO Γ T (.ia q x i) s K :=
  ⟨_, s, by simp only [opB, opA, hx, hi, asI, h0, if_true, he, hs], k⟩
theorem wo_iah {q : Option Nat} {x i : O} {b off m c : Nat} {B : Blk} {n : Int} (hx : val s.e x = .hs b off m c) (hi : val s.e i = .i n) (hB : s.H b = some B) (h0 : 0 ≤ n) (h1 : n < m) (hk : B.k = ksz q) (k : K (.hp b (off + n.toNat)) s) : WO Γ T (.ia q x i) s K :=
  ⟨_, s, by simp only [opB, opA, hx, hi, asI, hB]; rw [if_pos ⟨h0, h1, hk⟩], k⟩
theorem wo_call {f : Nat} {xs : List O} {ms : List M} {ts us vs : List V} {rs os : List Nat} {t v : V} {s1 s2 : S} (hu : (xs.all fun x => !isUn (val s.e x)) = true) (hv : xs.map (val s.e) = vs) (hm : Γ.md f = some ms) (hh : handB s.H ms vs = some (ts, rs, os)) (hn : os.Nodup ∧ ∀ b ∈ os, b ∉ rs)
    (hc : CALLB Γ T f ms ts = some (t, us)) (hr : (rs.isEmpty || (free DEP t && allL (free DEP) us)) = true) (hb : backLB s.H (lent ms vs) us (s.mem (kill s.H os)) = some s1) (ht : takeB DEP t s1 = some (v, s2)) (k : K v s2) :
    WO Γ T (.ca (.k (.cl f [])) xs) s K := by
  refine ⟨v, s2, ?_, k⟩
  have h1 : ((O.k (.cl f []) :: xs).all fun x => !isUn (val s.e x)) = true := by simp only [List.all_cons, Bool.and_eq_true]; exact ⟨rfl, hu⟩
  simp only [opB]
  rw [if_pos h1, hv]
  simp only [callB, val, fnOf, hm, List.append_nil, hh]
  rw [if_pos hn]
  have hc' : isoB Γ T (EXB Γ T) f ms ts = some (t, us) := hc
  rw [hc']
  simp only [hr, if_true]
  rw [hb]
  exact ht
/-- A call whose arguments are only read, and name no memory of the frame. -/
theorem wo_call0 {f : Nat} {xs : List O} {ts vs : List V} {t v : V} {s2 : S} (hu : (xs.all fun x => !isUn (val s.e x)) = true) (hv : xs.map (val s.e) = vs) (hm : Γ.md f = some []) (hh : handB s.H [] vs = some (ts, [], []))
    (hc : CALLB Γ T f [] ts = some (t, [])) (ht : takeB DEP t s = some (v, s2)) (k : K v s2) :
    WO Γ T (.ca (.k (.cl f [])) xs) s K := by
  have hl : lent ([] : List M) vs = [] := lent_ro [] vs rfl
  refine wo_call hu hv hm hh ⟨List.nodup_nil, by simp⟩ hc rfl (s1 := s) ?_ ht k
  rw [hl, kill_nil]; rfl

theorem lent_nil_len {α β : Type} : ∀ (ms : List M) (l : List α) (l' : List β), l.length = l'.length → lent ms l = [] → lent ms l' = []
  | _, [], [], _, _ => rfl
  | ms, a :: l, b :: l', h, h0 => by
    have h2 := lent_nil_len ms.tail l l' (by simpa using h)
    simp only [lent] at h0 ⊢
    cases hm : ms.headD .ro with
    | io => rw [hm] at h0; cases h0
    | ro => rw [hm] at h0; exact h2 h0
    | tk => rw [hm] at h0; exact h2 h0
theorem lentB_nil {ms : List M} {vals args : List V} {n : Nat} {s s0 : S} {e : Nat → V} (hl : lent ms vals = []) (ht : takeL (takeB DEP) args s = some (vals, s0)) (hn : args.length = n) : lentB n ms e = [] :=
  lent_nil_len ms vals _ (by rw [takeL_len ht, hn]; simp) hl
theorem call_of {f : Nat} {ms : List M} {args vals us : List V} {t : V} {x : FB} {s0 : S} (hp : Γ.pr f = none) (hT : T f = some x) (hn : args.length = x.np) (ht : takeL (takeB DEP) args { e := fun _ => .un, H := fun _ => none, nx := 0 } = some (vals, s0))
    (h : WP Γ T x.body { e := envOf vals, H := s0.H, nx := s0.nx } fun r => match r with
      | .n s | .r s => ∃ v o i j, resOfB s x.res = some (v, o) ∧ giveB DEP s.H v = some (t, i) ∧ overL (giveB DEP s.H) (lentB x.np ms s.e) = some (us, j) ∧ (o ++ i ++ j).Nodup ∧ ((lentB x.np ms s.e).isEmpty || (x.body.keeps (lent ms (List.range x.np)) && (lentB x.np ms s.e).all fun v => !isUn v)) = true
      | _ => False) : CALLB Γ T f ms args = some (t, us) := by
  obtain ⟨r, h1, h2⟩ := h
  unfold CALLB isoB
  simp only [hp, hT]
  rw [if_pos hn]
  simp only [ht, h1]
  cases r with
  | n s =>
    obtain ⟨v, o, i, j, g1, g2, g3, g4, g5⟩ := h2
    simp only [g1, g2, g3]
    rw [if_pos ⟨g4, g5⟩]
  | r s =>
    obtain ⟨v, o, i, j, g1, g2, g3, g4, g5⟩ := h2
    simp only [g1, g2, g3]
    rw [if_pos ⟨g4, g5⟩]
  | x i s => exact h2.elim
/-- The same, of a function that only reads. -/
theorem call_ro {f : Nat} {args vals : List V} {t : V} {x : FB} {s0 : S} (hp : Γ.pr f = none) (hT : T f = some x) (hn : args.length = x.np) (ht : takeL (takeB DEP) args { e := fun _ => .un, H := fun _ => none, nx := 0 } = some (vals, s0))
    (h : WP Γ T x.body { e := envOf vals, H := s0.H, nx := s0.nx } fun r => match r with
      | .n s | .r s => ∃ v o i, resOfB s x.res = some (v, o) ∧ giveB DEP s.H v = some (t, i) ∧ (o ++ i).Nodup
      | _ => False) : CALLB Γ T f [] args = some (t, []) := by
  have hl : lent ([] : List M) vals = [] := lent_ro [] vals rfl
  refine call_of hp hT hn ht (wp_mono h fun r hr => ?_)
  cases r with
  | n s => obtain ⟨v, o, i, g1, g2, g3⟩ := hr; exact ⟨v, o, i, [], g1, g2, by rw [lentB_nil hl ht hn]; rfl, by simpa using g3, by rw [lentB_nil hl ht hn]; rfl⟩
  | r s => obtain ⟨v, o, i, g1, g2, g3⟩ := hr; exact ⟨v, o, i, [], g1, g2, by rw [lentB_nil hl ht hn]; rfl, by simpa using g3, by rw [lentB_nil hl ht hn]; rfl⟩
  | x i s => exact hr

/-- A loop with something that falls. -/
theorem wp_loop {α : Type} {a : CB} (Inv : α → S → Prop) (μ : α → Nat) (h : ∀ x s, Inv x s → WP Γ T a s fun r => match r with | .n s' => ∃ x', μ x' < μ x ∧ Inv x' s' | r => Q r) (x : α) (hs : Inv x s) : WP Γ T (.lp a) s Q := by
  generalize hn : μ x = n
  induction n using Nat.strongRecOn generalizing x s with
  | ind n ih =>
    refine wp_lp (wp_mono (h x s hs) fun r hr => ?_)
    cases r with
    | n s' =>
      obtain ⟨x', h1, h2⟩ := hr
      exact ih (μ x') (by omega) x' h2 rfl
    | x i s' => exact hr
    | r s' => exact hr
end

section
variable {Γ : Env} {T : Nat → Option FB} {s : S} {Q : R → Prop} {b : CB}
theorem sq_n (h : WP Γ T b s Q) : SqQ Γ T b Q (.n s) := h
theorem sq_r (h : Q (.r s)) : SqQ Γ T b Q (.r s) := h
theorem sq_x {i : Nat} (h : Q (.x i s)) : SqQ Γ T b Q (.x i s) := h
theorem bk_n {id : Nat} (h : Q (.n s)) : BkQ id Q (.n s) := h
theorem bk_r {id : Nat} (h : Q (.r s)) : BkQ id Q (.r s) := h
theorem bk_x {id : Nat} (h : Q (.n s)) : BkQ id Q (.x id s) := by simp only [BkQ, if_true]; exact h
theorem bk_y {id j : Nat} (hj : j ≠ id) (h : Q (.x j s)) : BkQ id Q (.x j s) := by simp only [BkQ, if_neg hj]; exact h
end
attribute [irreducible] WP WL WO SqQ BkQ

abbrev o (d : Nat) (a : A) : I := ⟨some d, none, a⟩
abbrev oo (a : A) : I := ⟨none, none, a⟩
abbrev og (d t : Nat) (w : Bool) (a : A) : I := ⟨some d, some (t, w), a⟩
abbrev oog (t : Nat) (w : Bool) (a : A) : I := ⟨none, some (t, w), a⟩

end Go.Am
