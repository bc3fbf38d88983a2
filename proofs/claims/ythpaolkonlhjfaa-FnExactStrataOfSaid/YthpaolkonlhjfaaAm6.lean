/- The A-machine, part 6: stores, and new rows. -/
import Derived.Test.YthpaolkonlhjfaaAm5
set_option linter.all false
namespace Go.Am
variable {P : Program}

theorem setCell_at {w : World} {β o : Nat} {v : Value} {cs : Array Value} {ty : TypeId} {fz : Nat × Nat} (h : w.heap[β]? = some (.cells cs ty fz)) :
    (w.setCell ⟨β, o, none⟩ v).heap[β]? = some (.cells (cs.setIfInBounds o v) ty fz) := by
  simp [World.setCell, Array.getElem?_modify, h]
theorem setCell_ne {w : World} {β β' o : Nat} {v : Value} (h : β' ≠ β) : (w.setCell ⟨β, o, none⟩ v).heap[β']? = w.heap[β']? := by
  simp [World.setCell, Array.getElem?_modify, Ne.symm h]
theorem setCell_size {w : World} {a : Addr} {v : Value} : (w.setCell a v).heap.size = w.heap.size := by simp [World.setCell]

def setCells (w : World) (β : Nat) : Nat → List Value → World
  | _, [] => w
  | o, v :: vs => setCells (w.setCell ⟨β, o, none⟩ v) β (o + 1) vs

theorem setCells_at {β : Nat} : ∀ (vs : List Value) (w : World) (o : Nat) {cs : Array Value} {ty : TypeId} {fz : Nat × Nat}, w.heap[β]? = some (.cells cs ty fz) →
    ∃ cs', (setCells w β o vs).heap[β]? = some (.cells cs' ty fz) ∧ cs'.size = cs.size ∧ ∀ j, cs'[j]? = if o ≤ j ∧ j < o + vs.length ∧ j < cs.size then vs[j - o]? else cs[j]?
  | [], w, o, cs, ty, fz, h => ⟨cs, h, rfl, fun j => by rw [if_neg]; simp only [List.length_nil]; omega⟩
  | v :: vs, w, o, cs, ty, fz, h => by
    obtain ⟨cs', h1, h2, h3⟩ := setCells_at vs (w.setCell ⟨β, o, none⟩ v) (o + 1) (setCell_at h)
    refine ⟨cs', h1, by simpa using h2, fun j => ?_⟩
    rw [h3]
    simp only [Array.size_setIfInBounds, List.length_cons]
    by_cases hj : j = o
    · subst hj
      rw [if_neg (by omega)]
      by_cases hlt : j < cs.size
      · rw [if_pos (by omega)]; simp [hlt]
      · rw [if_neg (by omega)]; simp [hlt]
    · by_cases hin : o + 1 ≤ j ∧ j < o + 1 + vs.length ∧ j < cs.size
      · rw [if_pos hin, if_pos (by omega)]
        obtain ⟨d, rfl⟩ : ∃ d, j = o + 1 + d := ⟨j - (o + 1), by omega⟩
        rw [show o + 1 + d - (o + 1) = d by omega, show o + 1 + d - o = d + 1 by omega]
        simp
      · rw [if_neg hin, if_neg (by omega), Array.getElem?_setIfInBounds_ne (Ne.symm hj)]

theorem setCells_ne {β β' : Nat} (h : β' ≠ β) : ∀ (vs : List Value) (w : World) (o : Nat), (setCells w β o vs).heap[β']? = w.heap[β']?
  | [], _, _ => rfl
  | v :: vs, w, o => by rw [setCells, setCells_ne h vs, setCell_ne h]
theorem setCells_size {β : Nat} : ∀ (vs : List Value) (w : World) (o : Nat), (setCells w β o vs).heap.size = w.heap.size
  | [], _, _ => rfl
  | v :: vs, w, o => by rw [setCells, setCells_size vs, setCell_size]
theorem setCells_rest {β : Nat} : ∀ (vs : List Value) (w : World) (o : Nat), (setCells w β o vs).os = w.os ∧ (setCells w β o vs).tape = w.tape ∧ (setCells w β o vs).output = w.output
  | [], _, _ => ⟨rfl, rfl, rfl⟩
  | v :: vs, w, o => by rw [setCells]; exact setCells_rest vs _ _

theorem run_store {w : World} {β o : Nat} {u v : Value} (h : Cel w β o = some u) (hf : w.frozen? ⟨β, o, none⟩ = false) (hv : okm v = true) : (store ⟨β, o, none⟩ v).run P w = .ok () (w.setCell ⟨β, o, none⟩ v) := by
  have h' : w.cell? ⟨β, o, none⟩ = some u := h
  cases v <;> simp [okm] at hv <;> simp [store, Sem.run, h', hf]

theorem Own.cel {w : World} {β n j : Nat} (h : Own w β n) (hj : j < n) : ∃ u, Cel w β j = some u := by
  obtain ⟨cs, ty, h1, h2⟩ := h
  refine ⟨cs[j]'(by omega), ?_⟩
  unfold Cel World.cell?
  simp only [h1]
  simp [Array.getElem?_eq_getElem (show j < cs.size by omega)]
theorem Own.frz {w : World} {β n j : Nat} (h : Own w β n) : w.frozen? ⟨β, j, none⟩ = false := by
  obtain ⟨cs, ty, h1, h2⟩ := h
  unfold World.frozen?
  simp only [h1]
  simp

theorem run_storeCells {β o : Nat} : ∀ (vs : List Value) (i : Nat) (w : World), (∀ v ∈ vs, okm v = true) → Own w β (o + i + vs.length) →
    (storeCells ⟨β, o, none⟩ vs i).run P w = .ok () (setCells w β (o + i) vs)
  | [], i, w, _, _ => by simp [storeCells, setCells]
  | v :: vs, i, w, hv, ho => by
    unfold storeCells
    simp only [List.length_cons] at ho
    obtain ⟨u, hu⟩ := ho.cel (j := o + i) (by omega)
    rw [run_bind, addr_add, run_store hu ho.frz (hv v (by simp))]
    simp only
    rw [run_storeCells vs (i + 1) (w.setCell ⟨β, o + i, none⟩ v) (fun v' h => hv v' (by simp [h])) ?_]
    · rfl
    · obtain ⟨cs, ty, h1, h2⟩ := ho
      exact ⟨_, ty, setCell_at h1, by simp; omega⟩

/-- The facts of a row written over. -/
theorem setCells_own {w : World} {β o n : Nat} {vs : List Value} (h : Own w β n) : Own (setCells w β o vs) β n := by
  obtain ⟨cs, ty, h1, h2⟩ := h
  obtain ⟨cs', h3, h4, _⟩ := setCells_at vs w o h1
  exact ⟨cs', ty, h3, by omega⟩
theorem setCells_cel {w : World} {β o n : Nat} {vs : List Value} (h : Own w β n) (hn : o + vs.length ≤ n) (j : Nat) :
    Cel (setCells w β o vs) β j = if o ≤ j ∧ j < o + vs.length then vs[j - o]? else Cel w β j := by
  obtain ⟨cs, ty, h1, h2⟩ := h
  obtain ⟨cs', h3, h4, h5⟩ := setCells_at vs w o h1
  have e1 : Cel (setCells w β o vs) β j = cs'[j]? := by unfold Cel World.cell?; rw [h3]; rfl
  have e2 : Cel w β j = cs[j]? := by unfold Cel World.cell?; rw [h1]; rfl
  rw [e1, e2, h5]
  by_cases hc : o ≤ j ∧ j < o + vs.length
  · rw [if_pos ⟨hc.1, hc.2, by omega⟩, if_pos hc]
  · rw [if_neg (by omega), if_neg hc]
theorem setCells_room {w : World} {β β' o n : Nat} {vs : List Value} (h : Room w β' n) : Room (setCells w β o vs) β' n := by
  obtain ⟨cs, ty, fz, h1, h2⟩ := h
  by_cases e : β' = β
  · subst e
    obtain ⟨cs', h3, h4, _⟩ := setCells_at vs w o h1
    exact ⟨cs', ty, fz, h3, by omega⟩
  · exact ⟨cs, ty, fz, by rw [setCells_ne e]; exact h1, h2⟩

theorem stp_setCells {St Mine : Nat → Prop} {w : World} {β o : Nat} {vs : List Value} (hS : ¬ St β) (hM : Mine β) : Stp St Mine w (setCells w β o vs) := by
  obtain ⟨h1, h2, h3⟩ := setCells_rest (β := β) vs w o
  refine ⟨h1, h2, h3, by rw [setCells_size]; exact Nat.le_refl _, fun β' _ hm => setCells_ne (fun e => by subst e; exact hm hM) _ _ _,
    fun β' hb => setCells_ne (fun e => by subst e; exact hS hb) _ _ _, fun _ _ h => setCells_room h⟩

/-- A store into an element of a block. -/
theorem run_storeVar {φ : Phi} {St : Nat → Prop} {w : World} {t : TypeId} {q : Option Nat} {β o : Nat} {v : V} {m : Value} (ht : shp P t = some q) (h : v.fits q = true) (r : Rep φ St w v m)
    (ho : Own w β (o + ksz q)) : (storeVar t ⟨β, o, none⟩ m).run P w = .ok () (setCells w β o m.cells.toList) := by
  obtain ⟨_, h2, h3⟩ := rep_cells h r
  unfold storeVar
  rw [run_bind, run_sizeOf ht]
  simp only [h2, ne_eq, not_true, if_false]
  have := run_storeCells (P := P) (β := β) (o := o) m.cells.toList 0 w h3 (by simpa [h2] using ho)
  simpa using this

theorem mul_lt_place {i j k a : Nat} (h : i < j) (ha : a < k) : i * k + a < j * k := by
  have : (i + 1) * k ≤ j * k := Nat.mul_le_mul_right k h
  rw [Nat.succ_mul] at this
  omega

theorem not_in_place {i j k a b : Nat} (h : i ≠ j) (ha : a < k) (hb : b < k) : i * k + a ≠ j * k + b := by
  rcases Nat.lt_or_gt_of_ne h with h | h
  · have := mul_lt_place h ha; omega
  · have := mul_lt_place h hb; omega

/-- An element of a block of the frame, written. -/
theorem WR.store {φ : Phi} {St Mine : Nat → Prop} {w : World} {H : Nat → Option Blk} {nx b i j : Nat} {B : Blk} {e : V} {us : List Value} {β o : Nat}
    (q : WR φ St Mine w H nx) (hB : H b = some B) (hf : B.fr = false) (hp : φ b = some (β, o, B.k)) (hi : i < B.es.length) (hs : e.size = B.k)
    (hj : j + us.length ≤ B.k)
    (hc : ∀ a c, (cellsOf e)[a]? = some c → (j ≤ a ∧ a < j + us.length ∧ ∃ u, us[a - j]? = some u ∧ Rep φ St w c u) ∨ (¬ (j ≤ a ∧ a < j + us.length) ∧ (∃ d, B.es[i]? = some d ∧ (cellsOf d)[a]? = some c))) :
    WR φ St Mine (setCells w β (o + i * B.k + j) us) (upd H b (some { B with es := B.es.set i e })) nx ∧ Stp St Mine w (setCells w β (o + i * B.k + j) us) := by
  rcases q.blk b B hB with ⟨h1, _⟩ | ⟨β', o', h1, hS, _, ho, hsz, hr⟩
  · rw [h1] at hi; simp at hi
  rw [h1] at hp; cases hp
  have hle : o + i * B.k + j + us.length ≤ o + B.es.length * B.k := by
    have : (i + 1) * B.k ≤ B.es.length * B.k := Nat.mul_le_mul_right _ hi
    rw [Nat.succ_mul] at this; omega
  have hst : Stp St Mine w (setCells w β (o + i * B.k + j) us) := stp_setCells (hS hf) (q.own b B β o B.k hB h1)
  refine ⟨q.write hB h1 hst (fun β' hne _ => setCells_ne hne _ _ _) rfl hf (hS hf) (by simpa using setCells_own ho) ?_ ?_, hst⟩
  · intro x hx
    rcases List.mem_or_eq_of_mem_set hx with hx | rfl
    · exact hsz x hx
    · exact hs
  · intro a x hx
    rw [RepC_iff]
    intro a2 c hc2
    rw [List.getElem?_set] at hx
    have ha2 : a2 < B.k := by
      have h3 := (List.getElem?_eq_some_iff.1 hc2).1
      rw [size_cellsOf] at h3
      split at hx
      · obtain rfl := Option.some.inj hx; omega
      · have := hsz x (List.mem_of_getElem? hx); omega
    rw [setCells_cel ho hle]
    split at hx
    · rename_i hia
      subst hia
      simp only [Option.some.injEq] at hx
      subst hx
      rcases hc a2 c hc2 with ⟨g1, g2, u, g3, g4⟩ | ⟨g1, d, g2, g3⟩
      · refine ⟨u, ?_, Rep.mono (fun _ _ h => h) (fun _ h => h) hst.stab hst.room c u g4⟩
        rw [if_pos (by omega), show o + i * B.k + a2 - (o + i * B.k + j) = a2 - j by omega]; exact g3
      · obtain ⟨u, hu, hru⟩ := RepC_get (hr i d g2) g3
        exact ⟨u, by rw [if_neg (by omega)]; exact hu, Rep.mono (fun _ _ h => h) (fun _ h => h) hst.stab hst.room c u hru⟩
    · rename_i hia
      obtain ⟨u, hu, hru⟩ := RepC_get (hr a x hx) hc2
      refine ⟨u, ?_, Rep.mono (fun _ _ h => h) (fun _ h => h) hst.stab hst.room c u hru⟩
      rw [if_neg]
      · exact hu
      · intro hh
        obtain ⟨d, hd⟩ : ∃ d, a * B.k + a2 = i * B.k + (j + d) := ⟨a * B.k + a2 - (i * B.k + j), by omega⟩
        exact not_in_place (Ne.symm hia) ha2 (show j + d < B.k by omega) hd

/-- A new row: a variable. -/
theorem run_newRow {w : World} {t : TypeId} {cs : Array Value} : (newRow t cs).run P w = .ok ⟨w.heap.size, 0, none⟩ (Push w (.cells cs t)) := by
  simp [newRow, newObj, Sem.run, bind, Sem.bind, pure]

/-- A new block out of values in a new row. -/
theorem WR.row {φ : Phi} {St Mine : Nat → Prop} {w : World} {H : Nat → Option Blk} {nx : Nat} {q : Option Nat} {es : List V} {ms : List Value} {ty : TypeId} {cs : Array Value} (r : WR φ St Mine w H nx)
    (hf : ∀ e ∈ es, e.fits q = true) (hr : RepL φ St w es ms) (hcs : ms.length * ksz q ≤ cs.size)
    (hc : ∀ (i : Nat) m, ms[i]? = some m → ∀ (j : Nat) u, m.cells.toList[j]? = some u → cs[i * ksz q + j]? = some u) :
    WR (upd φ nx (some (w.heap.size, 0, ksz q))) St Mine (Push w (.cells cs ty)) (upd H nx (some { k := ksz q, es := es })) (nx + 1) := by
  refine r.new (by rw [hr.len]; exact hcs) (fun e he => fits_size (hf e he)) fun i e hi j c hj => ?_
  obtain ⟨m, hm, hrm⟩ := hr.get hi
  obtain ⟨h1, h2, h3⟩ := rep_cells (hf e (List.mem_of_getElem? hi)) hrm
  obtain ⟨u, hu, hru⟩ := h1.get hj
  exact ⟨u, hc i m hm j u hu, hru⟩

end Go.Am
