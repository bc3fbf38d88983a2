/- The A-machine, part 4: a frame's state over a world of the machine, and what keeps it. -/
import Derived.Test.YthpaolkonlhjfaaAm3
set_option linter.all false
namespace Go.Am

/-- From w to w': nothing but what is Mine has been written, what lies in St reads as it did, rows keep their size. -/
structure Stp (St Mine : Nat → Prop) (w w' : World) : Prop where
  os : w'.os = w.os
  tape : w'.tape = w.tape
  output : w'.output = w.output
  size : w.heap.size ≤ w'.heap.size
  keep : ∀ β, β < w.heap.size → ¬ Mine β → w'.heap[β]? = w.heap[β]?
  stab : Stab St w w'
  room : ∀ β n, Room w β n → Room w' β n

theorem Stp.refl (St Mine : Nat → Prop) (w : World) : Stp St Mine w w := ⟨rfl, rfl, rfl, Nat.le_refl _, fun _ _ _ => rfl, fun _ _ => rfl, fun _ _ h => h⟩
theorem Stp.trans {St St' Mine : Nat → Prop} {a b c : World} (hS : ∀ β, St β → St' β) (h : Stp St Mine a b) (k : Stp St' Mine b c) : Stp St Mine a c :=
  ⟨k.os.trans h.os, k.tape.trans h.tape, k.output.trans h.output, Nat.le_trans h.size k.size,
    fun β hb hm => (k.keep β (Nat.lt_of_lt_of_le hb h.size) hm).trans (h.keep β hb hm),
    fun β hb => (k.stab β (hS β hb)).trans (h.stab β hb), fun β n hr => k.room β n (h.room β n hr)⟩

mutual
theorem Rep.mono {φ φ' : Phi} {St St' : Nat → Prop} {w w' : World} (hφ : ∀ b x, φ b = some x → φ' b = some x) (hS : ∀ β, St β → St' β) (h : Stab St w w')
    (hr : ∀ β n, Room w β n → Room w' β n) : ∀ (v : V) (m : Value), Rep φ St w v m → Rep φ' St' w' v m
  | .im x, m, r => by simpa [Rep] using r
  | .st cs, m, r => by simp only [Rep] at r ⊢; obtain ⟨ms, e, q⟩ := r; exact ⟨ms, e, RepL.mono hφ hS h hr cs ms q⟩
  | .tu cs, m, r => by simp only [Rep] at r ⊢; obtain ⟨ms, e, q⟩ := r; exact ⟨ms, e, RepL.mono hφ hS h hr cs ms q⟩
  | .cl f cs, m, r => by simp only [Rep] at r ⊢; obtain ⟨ms, e, q⟩ := r; exact ⟨ms, e, RepL.mono hφ hS h hr cs ms q⟩
  | .e0, m, r => by simpa [Rep] using r
  | .sl es, m, r => by simp only [Rep] at r ⊢; exact RO.mono hS h _ _ r
  | .rp v, m, r => by simp only [Rep] at r ⊢; exact RO.mono hS h _ _ r
  | .ow _ _, m, r => by simp [Rep] at r
  | .op _, m, r => by simp [Rep] at r
  | .hs b off n c, m, r => by
    simp only [Rep] at r ⊢
    obtain ⟨a, c', e, h1, h2, h3⟩ := r
    refine ⟨a, c', e, h1, h2, ?_⟩
    rcases h3 with h3 | ⟨β, o, k, hp, ha, hm⟩
    · exact .inl h3
    · exact .inr ⟨β, o, k, hφ _ _ hp, ha, hr _ _ hm⟩
  | .hp b i, m, r => by simp only [Rep] at r ⊢; obtain ⟨β, o, k, hp, e⟩ := r; exact ⟨β, o, k, hφ _ _ hp, e⟩
  | .hf b i j, m, r => by simp only [Rep] at r ⊢; obtain ⟨β, o, k, hp, e⟩ := r; exact ⟨β, o, k, hφ _ _ hp, e⟩
theorem RepL.mono {φ φ' : Phi} {St St' : Nat → Prop} {w w' : World} (hφ : ∀ b x, φ b = some x → φ' b = some x) (hS : ∀ β, St β → St' β) (h : Stab St w w')
    (hr : ∀ β n, Room w β n → Room w' β n) : ∀ (vs : List V) (ms : List Value), RepL φ St w vs ms → RepL φ' St' w' vs ms
  | [], ms, r => by simpa [RepL] using r
  | v :: vs, ms, r => by
    simp only [RepL] at r ⊢
    obtain ⟨m, ms', e, q, q'⟩ := r
    exact ⟨m, ms', e, Rep.mono hφ hS h hr v m q, RepL.mono hφ hS h hr vs ms' q'⟩
end

theorem RepC.mono {φ φ' : Phi} {St St' : Nat → Prop} {w w' : World} {β : Nat} (hφ : ∀ b x, φ b = some x → φ' b = some x) (hS : ∀ β, St β → St' β) (h : Stab St w w')
    (hr : ∀ β n, Room w β n → Room w' β n) (hb : ∀ o, Cel w' β o = Cel w β o) : ∀ (vs : List V) (o : Nat), RepC φ St w β o vs → RepC φ' St' w' β o vs
  | [], _, _ => trivial
  | v :: vs, o, ⟨⟨u, hu, q⟩, q'⟩ => ⟨⟨u, by rw [hb]; exact hu, Rep.mono hφ hS h hr v u q⟩, RepC.mono hφ hS h hr hb vs (o + 1) q'⟩

theorem RepE.mono {φ φ' : Phi} {St St' : Nat → Prop} {w w' : World} {β o k : Nat} {es : List V} (hφ : ∀ b x, φ b = some x → φ' b = some x) (hS : ∀ β, St β → St' β) (h : Stab St w w')
    (hr : ∀ β n, Room w β n → Room w' β n) (hb : ∀ o, Cel w' β o = Cel w β o) (q : RepE φ St w β o k es) : RepE φ' St' w' β o k es :=
  fun i e hi => RepC.mono hφ hS h hr hb _ _ (q i e hi)

/-- A block of the frame, over the world. -/
def BlkOK (φ : Phi) (St : Nat → Prop) (w : World) (b : Nat) (B : Blk) : Prop :=
  (B.es = [] ∧ φ b = none) ∨ ∃ β o, φ b = some (β, o, B.k) ∧ (B.fr = false → ¬ St β) ∧ (B.fr = true → St β) ∧ Own w β (o + B.es.length * B.k) ∧
    (∀ e ∈ B.es, e.size = B.k) ∧ RepE φ St w β o B.k B.es

structure WR (φ : Phi) (St Mine : Nat → Prop) (w : World) (H : Nat → Option Blk) (nx : Nat) : Prop where
  bnd : ∀ b, nx ≤ b → H b = none
  dom : ∀ b, nx ≤ b → φ b = none
  blk : ∀ b B, H b = some B → BlkOK φ St w b B
  inj : ∀ b b' B B' β o k o' k', H b = some B → H b' = some B' → φ b = some (β, o, k) → φ b' = some (β, o', k') → b = b'
  own : ∀ b B β o k, H b = some B → φ b = some (β, o, k) → Mine β
  stB : ∀ β, St β → β < w.heap.size
  mine : ∀ β, w.heap.size ≤ β → Mine β

def EnvR (φ : Phi) (St : Nat → Prop) (w : World) (e : Nat → V) (tmps : Array Value) : Prop := ∀ t, Rep φ St w (e t) (tmps.getD t undef)

theorem EnvR.mono {φ φ' : Phi} {St St' : Nat → Prop} {w w' : World} {e : Nat → V} {tmps : Array Value} (hφ : ∀ b x, φ b = some x → φ' b = some x) (hS : ∀ β, St β → St' β) (h : Stab St w w')
    (hr : ∀ β n, Room w β n → Room w' β n) (q : EnvR φ St w e tmps) : EnvR φ' St' w' e tmps := fun t => Rep.mono hφ hS h hr _ _ (q t)

def Ext (φ φ' : Phi) (nx : Nat) : Prop := ∀ b, b < nx → φ' b = φ b
theorem Ext.refl (φ : Phi) (nx : Nat) : Ext φ φ nx := fun _ _ => rfl
theorem Ext.trans {φ φ' φ'' : Phi} {nx nx' : Nat} (h : Ext φ φ' nx) (k : Ext φ' φ'' nx') (hn : nx ≤ nx') : Ext φ φ'' nx := fun b hb => (k b (by omega)).trans (h b hb)
theorem Ext.some {φ φ' : Phi} {St Mine : Nat → Prop} {w : World} {H : Nat → Option Blk} {nx : Nat} (h : Ext φ φ' nx) (q : WR φ St Mine w H nx) : ∀ b x, φ b = some x → φ' b = some x :=
  fun b x hx => by
    by_cases hb : b < nx
    · rw [h b hb]; exact hx
    · rw [q.dom b (by omega)] at hx; cases hx

theorem Own.lt {w : World} {β n : Nat} (h : Own w β n) : β < w.heap.size := by
  obtain ⟨cs, ty, h, _⟩ := h
  exact (Array.getElem?_eq_some_iff.1 h).1

/-! ### The world with a block more -/

abbrev Push (w : World) (o : Obj) : World := { w with heap := w.heap.push o }

theorem push_old {w : World} {o : Obj} {β : Nat} (h : β < w.heap.size) : (Push w o).heap[β]? = w.heap[β]? := by
  simp [Array.getElem?_push, Nat.ne_of_lt h]
theorem push_new {w : World} {o : Obj} : (Push w o).heap[w.heap.size]? = some o := by simp
theorem Room.push {w : World} {o : Obj} {β n : Nat} (h : Room w β n) : Room (Push w o) β n := by
  obtain ⟨cs, ty, fz, hb, hn⟩ := h
  exact ⟨cs, ty, fz, by rw [push_old (Array.getElem?_eq_some_iff.1 hb).1]; exact hb, hn⟩
theorem Own.push {w : World} {o : Obj} {β n : Nat} (h : Own w β n) : Own (Push w o) β n := by
  obtain ⟨cs, ty, hb, hn⟩ := h
  exact ⟨cs, ty, by rw [push_old (Array.getElem?_eq_some_iff.1 hb).1]; exact hb, hn⟩
theorem cel_push {w : World} {o : Obj} {β i : Nat} (h : β < w.heap.size) : Cel (Push w o) β i = Cel w β i := by
  simp only [Cel, World.cell?, push_old h]
theorem cel_push_new {w : World} {cs : Array Value} {ty : TypeId} {i : Nat} : Cel (Push w (.cells cs ty)) w.heap.size i = cs[i]? := by
  have h : (Push w (.cells cs ty)).heap[w.heap.size]? = some (.cells cs ty) := push_new
  unfold Cel World.cell?
  rw [h]; rfl

theorem Stp.push {St Mine : Nat → Prop} {w : World} (hS : ∀ β, St β → β < w.heap.size) (o : Obj) : Stp St Mine w (Push w o) :=
  ⟨rfl, rfl, rfl, by simp, fun _ hb _ => push_old hb, fun β hb => push_old (hS β hb), fun _ _ h => h.push⟩

theorem Stab.of_stp {St Mine : Nat → Prop} {w w' : World} (h : Stp St Mine w w') : Stab St w w' := h.stab

/-- A state carried over to a later world in which the frame's blocks hold what they held. -/
theorem BlkOK.mono {φ φ' : Phi} {St : Nat → Prop} {w w' : World} {b : Nat} {B : Blk} (hφ : ∀ b x, φ b = some x → φ' b = some x) (hn : φ b = none → φ' b = none) (h : Stab St w w')
    (hr : ∀ β n, Room w β n → Room w' β n) (hb : ∀ β o k, φ b = some (β, o, k) → w'.heap[β]? = w.heap[β]?) (q : BlkOK φ St w b B) : BlkOK φ' St w' b B := by
  rcases q with ⟨h1, h2⟩ | ⟨β, o, h1, h2, h3, h4, h5, h6⟩
  · exact .inl ⟨h1, hn h2⟩
  · have e := hb _ _ _ h1
    refine .inr ⟨β, o, hφ _ _ h1, h2, h3, ?_, h5, RepE.mono hφ (fun _ h => h) h hr (fun i => by simp only [Cel, World.cell?, e]) h6⟩
    obtain ⟨cs, ty, hc, hl⟩ := h4
    exact ⟨cs, ty, by rw [e]; exact hc, hl⟩

/-- A new block of the frame in a new row. -/
theorem WR.new {φ : Phi} {St Mine : Nat → Prop} {w : World} {H : Nat → Option Blk} {nx k : Nat} {es : List V} {cs : Array Value} {ty : TypeId} (q : WR φ St Mine w H nx)
    (hn : es.length * k ≤ cs.size) (hk : ∀ e ∈ es, e.size = k)
    (hc : ∀ i e, es[i]? = some e → ∀ j c, (cellsOf e)[j]? = some c → ∃ u, cs[i * k + j]? = some u ∧ Rep φ St w c u) :
    WR (upd φ nx (some (w.heap.size, 0, k))) St Mine (Push w (.cells cs ty)) (upd H nx (some { k := k, es := es })) (nx + 1) := by
  have hφ : ∀ b x, φ b = some x → upd φ nx (some (w.heap.size, 0, k)) b = some x := fun b x hx => by
    rw [upd_ne]; · exact hx
    rintro rfl; rw [q.dom b (Nat.le_refl _)] at hx; cases hx
  have hst := Stp.push (Mine := Mine) q.stB (.cells cs ty)
  refine ⟨fun b hb => ?_, fun b hb => ?_, fun b B hB => ?_, ?_, ?_, fun β hb => ?_, fun β hb => ?_⟩
  · rw [upd_ne _ _ (by omega)]; exact q.bnd b (by omega)
  · rw [upd_ne _ _ (by omega)]; exact q.dom b (by omega)
  · by_cases e : b = nx
    · subst e
      rw [upd_same] at hB
      obtain rfl := Option.some.inj hB
      refine .inr ⟨w.heap.size, 0, upd_same _ _ _, fun _ hs => Nat.lt_irrefl _ (q.stB _ hs), fun h => by simp at h, ⟨cs, ty, push_new, by simpa using hn⟩, hk, fun i e hi => RepC_iff.2 fun j c hj => ?_⟩
      obtain ⟨u, hu, hr⟩ := hc i e hi j c hj
      exact ⟨u, by rw [cel_push_new]; simpa using hu, Rep.mono hφ (fun _ h => h) hst.stab hst.room c u hr⟩
    · rw [upd_ne _ _ e] at hB
      refine BlkOK.mono hφ (fun hn => by rw [upd_ne _ _ e]; exact hn) hst.stab hst.room (fun β o k' hp => ?_) (q.blk b B hB)
      rcases q.blk b B hB with ⟨_, h2⟩ | ⟨β', o', h1, _, _, h4, _⟩
      · rw [h2] at hp; cases hp
      · rw [h1] at hp; cases hp; exact push_old h4.lt
  · intro b b' B B' β o k1 o' k2 hB hB' hp hp'
    have key : ∀ b B β o k1, upd H nx (some { k := k, es := es }) b = some B → upd φ nx (some (w.heap.size, 0, k)) b = some (β, o, k1) → b ≠ nx → H b = some B ∧ φ b = some (β, o, k1) ∧ β < w.heap.size := by
      intro b B β o k1 h1 h2 hne
      rw [upd_ne _ _ hne] at h1 h2
      refine ⟨h1, h2, ?_⟩
      rcases q.blk b B h1 with ⟨_, h3⟩ | ⟨β', o', h3, _, _, h4, _⟩
      · rw [h3] at h2; cases h2
      · rw [h3] at h2; cases h2; exact h4.lt
    by_cases e : b = nx <;> by_cases e' : b' = nx
    · rw [e, e']
    · subst e
      obtain ⟨_, _, h3⟩ := key b' B' β o' k2 hB' hp' e'
      rw [upd_same] at hp; cases hp; omega
    · subst e'
      obtain ⟨_, _, h3⟩ := key b B β o k1 hB hp e
      rw [upd_same] at hp'; cases hp'; omega
    · obtain ⟨h1, h2, _⟩ := key b B β o k1 hB hp e
      obtain ⟨h1', h2', _⟩ := key b' B' β o' k2 hB' hp' e'
      exact q.inj b b' B B' β o k1 o' k2 h1 h1' h2 h2'
  · intro b B β o k1 hB hp
    by_cases e : b = nx
    · subst e; rw [upd_same] at hp; cases hp; exact q.mine _ (Nat.le_refl _)
    · rw [upd_ne _ _ e] at hB hp; exact q.own b B β o k1 hB hp
  · have := q.stB β hb; simp; omega
  · exact q.mine β (by have : (Push w (.cells cs ty)).heap.size = w.heap.size + 1 := by simp
                       omega)

theorem ext_upd {φ : Phi} {nx : Nat} (x : Option (Nat × Nat × Nat)) : Ext φ (upd φ nx x) nx := fun b hb => upd_ne _ _ (by omega)

/-- A block of the frame struck. -/
theorem WR.kill {φ : Phi} {St Mine : Nat → Prop} {w : World} {H H' : Nat → Option Blk} {nx : Nat} (q : WR φ St Mine w H nx) (h : ∀ b B, H' b = some B → H b = some B) : WR φ St Mine w H' nx :=
  ⟨fun b hb => by
      cases e : H' b with
      | none => rfl
      | some B => exact absurd (h b B e) (by simp [q.bnd b hb]),
    q.dom, fun b B hB => q.blk b B (h b B hB), fun b b' B B' β o k o' k' h1 h2 => q.inj b b' B B' β o k o' k' (h b B h1) (h b' B' h2),
    fun b B β o k hB => q.own b B β o k (h b B hB), q.stB, q.mine⟩

/-- The same state in a later world in which nothing of the frame's, and nothing of St, has turned. -/
theorem WR.later {φ : Phi} {St Mine : Nat → Prop} {w w' : World} {H : Nat → Option Blk} {nx : Nat} (q : WR φ St Mine w H nx) (h : Stp St Mine w w')
    (hb : ∀ b B β o k, H b = some B → φ b = some (β, o, k) → w'.heap[β]? = w.heap[β]?) : WR φ St Mine w' H nx :=
  ⟨q.bnd, q.dom, fun b B hB => BlkOK.mono (fun _ _ h => h) (fun h => h) h.stab h.room (fun β o k hp => hb b B β o k hB hp) (q.blk b B hB), q.inj, q.own,
    fun β hb => Nat.lt_of_lt_of_le (q.stB β hb) h.size, fun β hb => q.mine β (Nat.le_trans h.size hb)⟩

/-- A block of the frame, written. -/
theorem WR.write {φ : Phi} {St Mine : Nat → Prop} {w w' : World} {H : Nat → Option Blk} {nx b β o : Nat} {B B' : Blk} (q : WR φ St Mine w H nx) (hB : H b = some B) (hp : φ b = some (β, o, B.k))
    (hst : Stp St Mine w w') (hsame : ∀ β', β' ≠ β → β' < w.heap.size → w'.heap[β']? = w.heap[β']?)
    (hk : B'.k = B.k) (hf : B'.fr = false) (hS : ¬ St β) (ho : Own w' β (o + B'.es.length * B.k)) (hs : ∀ e ∈ B'.es, e.size = B.k) (hr : RepE φ St w' β o B.k B'.es) :
    WR φ St Mine w' (upd H b (some B')) nx := by
  have hbn : b < nx := by
    rcases Nat.lt_or_ge b nx with h | h
    · exact h
    · rw [q.bnd b h] at hB; cases hB
  have hlt : ∀ b B β o k, H b = some B → φ b = some (β, o, k) → β < w.heap.size := by
    intro b B β o k h1 h2
    rcases q.blk b B h1 with ⟨_, h3⟩ | ⟨β', o', h3, _, _, h4, _⟩
    · rw [h3] at h2; cases h2
    · rw [h3] at h2; cases h2; exact h4.lt
  refine ⟨fun b' hb' => by rw [upd_ne _ _ (by omega)]; exact q.bnd b' hb', q.dom, fun b' C hC => ?_, ?_, ?_, fun β hb => Nat.lt_of_lt_of_le (q.stB β hb) hst.size, fun β hb => q.mine β (Nat.le_trans hst.size hb)⟩
  · by_cases e : b' = b
    · subst e
      rw [upd_same] at hC; obtain rfl := Option.some.inj hC
      refine .inr ⟨β, o, by rw [hk]; exact hp, fun _ => hS, fun h => (by rw [hf] at h; exact absurd h (by simp)), by rw [hk]; exact ho, by rw [hk]; exact hs, by rw [hk]; exact hr⟩
    · rw [upd_ne _ _ e] at hC
      refine BlkOK.mono (fun _ _ h => h) (fun h => h) hst.stab hst.room (fun β' o' k' hp' => hsame β' (fun hh => ?_) (hlt _ _ _ _ _ hC hp')) (q.blk b' C hC)
      subst hh
      exact e (q.inj b' b C B β' o' k' o B.k hC hB hp' hp)
  · intro b1 b2 B1 B2 β1 o1 k1 o2 k2 h1 h2 p1 p2
    have key : ∀ b1 B1, upd H b (some B') b1 = some B1 → ∃ C, H b1 = some C := by
      intro b1 B1 h
      by_cases e : b1 = b
      · subst e; exact ⟨B, hB⟩
      · rw [upd_ne _ _ e] at h; exact ⟨B1, h⟩
    obtain ⟨C1, c1⟩ := key b1 B1 h1
    obtain ⟨C2, c2⟩ := key b2 B2 h2
    exact q.inj b1 b2 C1 C2 β1 o1 k1 o2 k2 c1 c2 p1 p2
  · intro b1 B1 β1 o1 k1 h1 p1
    by_cases e : b1 = b
    · subst e; exact q.own b1 B β1 o1 k1 hB p1
    · rw [upd_ne _ _ e] at h1; exact q.own b1 B1 β1 o1 k1 h1 p1

end Go.Am
