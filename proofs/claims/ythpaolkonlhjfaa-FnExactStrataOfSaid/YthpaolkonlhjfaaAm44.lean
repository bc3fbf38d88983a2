/- The B-machine, part 21: arguments that are taken; cutting and clearing of the frame's own lists. -/
import Derived.Test.YthpaolkonlhjfaaAm43
set_option linter.all false
namespace Go.Am
section
variable {H : Nat → Option Blk} {d : Nat} {e : Nat → V} {n : Nat} {z : Bool}
theorem tk_sl {es : List V} : takeB (d + 1) (.sl es) ⟨e, H, n, z⟩ = some (.sl es, ⟨e, H, n, z⟩) := rfl
theorem tk_rp {v : V} : takeB (d + 1) (.rp v) ⟨e, H, n, z⟩ = some (.rp v, ⟨e, H, n, z⟩) := rfl
theorem tk_cl {f : Nat} {cs vs : List V} {s1 : S} (h : takeL (takeB d) cs ⟨e, H, n, z⟩ = some (vs, s1)) : takeB (d + 1) (.cl f cs) ⟨e, H, n, z⟩ = some (.cl f vs, s1) := by simp only [takeB, h]
theorem tkLA {ts vs : List V} {s1 : S} (h : takeL (takeB d) ts ⟨e, H, n, z⟩ = some (vs, s1) := by
    (repeat (first | exact tl_nil | apply tl_cons | exact tk_im | exact tk_e0 | exact tk_sl | exact tk_rp | (apply tk_ow; exact fun _ => okA) | apply tk_st | apply tk_tu | apply tk_cl | fail))
    done) : takeL (takeB d) ts ⟨e, H, n, z⟩ = some (vs, s1) := h
/-- A slice's front, given back. -/
theorem gv_hsT {es : List V} {k b m c : Nat} {fr : Bool} (hB : H b = some ⟨k, es, fr⟩) (hn : m ≤ es.length) (h : allL (okD d) (es.take m) = true) : giveB (d + 1) H (.hs b 0 m c) = some (.ow k (es.take m), [b]) := by
  simp only [giveB, hB]
  rw [if_pos (by omega)]
  simp only [List.drop_zero, overL_giveB h]
theorem gv_hsL {α : Type} {f : α → V} {l : List α} {k b m c : Nat} {fr : Bool} (hB : H b = some ⟨k, l.map f, fr⟩) (hn : m = l.length) (h : ∀ a, okD d (f a) = true) : giveB (d + 1) H (.hs b 0 m c) = some (.ow k (l.map f), [b]) := giveB_hs hB (allL_map h) (by simpa using hn)
/-- Handing over: the first argument taken, the others read. -/
theorem ht_cons {v t : V} {vs ts : List V} {i j : List Nat} (h1 : giveB DEP H v = some (t, i)) (h2 : handB H [.ro] vs = some (ts, j, [])) : handB H [.tk, .ro] (v :: vs) = some (t :: ts, j, i) := by
  simp only [handB, List.headD_cons, h1, Option.map_some, List.tail_cons, h2, List.nil_append, List.append_nil]
theorem hr_cons {v t : V} {vs ts : List V} {i j : List Nat} (h1 : snapB DEP H v = some (t, i)) (h2 : handB H [] vs = some (ts, j, [])) : handB H [.ro] (v :: vs) = some (t :: ts, i ++ j, []) := by
  simp only [handB, List.headD_cons, h1, Option.map_some, List.tail_cons, h2, List.append_nil]
end
def notInB (l r : List Nat) : Bool := match l with | [] => true | a :: l => bif memB a r then false else notInB l r
theorem notIn_of : ∀ {l r : List Nat}, notInB l r = true → ∀ b ∈ l, b ∉ r
  | [], _, _ => by simp
  | a :: l, r, h => by
    unfold notInB at h
    cases hb : memB a r with
    | true => rw [hb] at h; cases h
    | false =>
      rw [hb] at h
      intro b hm
      rcases List.mem_cons.1 hm with rfl | hm
      · exact memB_of hb
      · exact notIn_of h b hm
/-- Blocks that are gone. -/
def killU (H : Nat → Option Blk) : List Nat → Nat → Option Blk
  | [] => H
  | b :: l => up (killU H l) b none
theorem killU_eq (H : Nat → Option Blk) : ∀ l : List Nat, kill H l = killU H l
  | [] => by funext b; simp [kill, killU]
  | a :: l => by
    have h := killU_eq H l
    funext b
    simp only [killU, ← up_eq, ← h, kill, upd, List.mem_cons]
    by_cases e : b = a <;> simp [e]
section
variable {Γ : Env} {T : Nat → Option FB} {e : Nat → V} {H : Nat → Option Blk} {n : Nat} {z : Bool} {l : List I} {K : S → Prop} {Q : R → Prop} {d : Nat}
theorem call_md' {f : Nat} {ms : List M} {args vals : List V} {t : V} {x : FB} {H : Nat → Option Blk} {n : Nat} (hp : Γ.pr f = none) (hT : T f = some x) (hn : args.length = x.np) (hl : lent ms vals = [])
    (ht : takeL (takeB DEP) args ⟨fun _ => .un, fun _ => none, 0, false⟩ = some (vals, ⟨fun _ => .un, H, n, false⟩)) (h : WP Γ T x.body ⟨envOf vals, H, n, false⟩ (FinQ t x.res)) : CALLB Γ T f ms args = some (t, []) := by
  refine call_of hp hT hn ht (wp_mono h fun r hr => ?_)
  cases r with
  | n s => unfold FinQ Fin at hr; obtain ⟨v, o, i, g1, g2, g3⟩ := hr; exact ⟨v, o, i, [], g1, g2, by rw [lentB_nil hl ht hn]; rfl, by simpa using g3, by rw [lentB_nil hl ht hn]; rfl⟩
  | r s => unfold FinQ Fin at hr; obtain ⟨v, o, i, g1, g2, g3⟩ := hr; exact ⟨v, o, i, [], g1, g2, by rw [lentB_nil hl ht hn]; rfl, by simpa using g3, by rw [lentB_nil hl ht hn]; rfl⟩
  | x i s => unfold FinQ at hr; exact hr.elim
/-- A call whose first argument is taken: by the callee's contract. -/
theorem ct {f : Nat} {fo : O} {xs : List O} {ts vs ws caps : List V} {rs os : List Nat} {t v : V} {H' : Nat → Option Blk} {n' : Nat} (hc : CALLB Γ T f [.tk, .ro] ts = some (t, [])) (k : WL Γ T l ⟨up e d v, H', n', z⟩ K)
    (hf : fnOf (val e fo) = some (f, caps) := by rfl) (hv : xs.map (val e) = vs := by first | exact frcL | fail) (hw : vs ++ caps = ws := by first | exact frcA | fail) (hu : (xs.all fun x => !isUn (val e x)) = true := by rfl) (hm : Γ.md f = some [.tk, .ro] := by first | rfl | assumption)
    (hh : handB H [.tk, .ro] ws = some (ts, rs, os) := by
      apply ht_cons
      · (first | (apply gv_hsL; rfl; rfl; exact fun _ => okA) | fail)
      · apply hr_cons
        · (first | exact snA | fail)
        · (first | exact hdA | fail))
    (hn : ndB os = true := by rfl) (hn2 : notInB os rs = true := by rfl) (hr : (rs.isEmpty || free DEP t) = true := by first | exact rs_nil | exact rs_fr frA | fail)
    (ht : takeB DEP t ⟨e, killU H os, n, z⟩ = some (v, ⟨e, H', n', z⟩) := by first | exact tkA | fail) : WL Γ T (o d (.ca fo xs) :: l) ⟨e, H, n, z⟩ K := by
  refine g_of (wo_callv (s1 := ⟨e, killU H os, n, z⟩) hf hu (by rw [hv]; exact hw) hm hh ⟨nd_of hn, notIn_of hn2⟩ hc ?_ ?_ ht ⟨rfl, rfl⟩) k
  · simpa [allL] using hr
  · have hl : lent [M.tk, .ro] ws = [] := by
      match ws with
      | [] => rfl
      | [_] => rfl
      | _ :: _ :: r => exact lent_ro [] r rfl
    rw [hl]
    show some (S.mem _ _) = _
    rw [killU_eq]; rfl
theorem g_ldU {α : Type} {f : α → V} {es : List α} {x : O} {b kk k1 : Nat} (hx : val e x = .hp b 0) (hB : H b = some ⟨k1, [.ow kk (es.map f)], false⟩)
    (k : WL Γ T l ⟨up e d (.hs n 0 es.length es.length), up (up H n (some ⟨kk, es.map f, false⟩)) b (some ⟨k1, [.hs n 0 es.length es.length], false⟩), n + 1, z⟩ K) (hb : Nat.beq b n = false) : WL Γ T (o d (.ld none x) :: l) ⟨e, H, n, z⟩ K := by
  refine g_op (v := .hs n 0 es.length es.length) ?_ k
  have hne : b ≠ n := fun h => by rw [h] at hb; simp at hb
  simp only [opB, ldB, hx, derefB, hB, Option.bind_some, List.getElem?_cons_zero, V.fits, V.okc, Bool.false_eq_true, if_false, V.fitsB, V.pkc, pkd, Bool.or_true, if_true, unp, unp1, List.length_map, S.new, putB, upd_ne _ _ hne, List.set_cons_zero]
  rw [up_eq, up_eq]
/-- A list of the frame's own, cut. -/
theorem g_sch {q : Option Nat} {x : O} {lo hi : Option O} {b off m c : Nat} {B : Blk} {a h : Int} (hx : val e x = .hs b off m c) (hB : H b = some B) (hk : B.k = ksz q) (hl : bndOf 0 (lo.map (val e)) = some a) (hh : bndOf m (hi.map (val e)) = some h) (hc : 0 ≤ a ∧ a ≤ h ∧ h ≤ c)
    (k : WL Γ T l ⟨up e d (.hs b (off + a.toNat) (h - a).toNat (c - a.toNat)), H, n, z⟩ K) : WL Γ T (o d (.sc q x lo hi none) :: l) ⟨e, H, n, z⟩ K :=
  g_op (by
    simp only [opB, opA, hx, hB, hk, if_true, Option.map_none, sliceOf, hl, hh]
    first | (rw [if_pos hc]; split <;> rfl) | (split <;> rfl)) k
/-- A list of the frame's own, cleared. -/
theorem g_cr {q : Option Nat} {x : O} {zz : V} {b off m c kk : Nat} {es : List V} (hx : val e x = .hs b off m c) (hB : H b = some ⟨kk, es, false⟩) (hk : kk = ksz q) (hf : zz.fits q = true) (hle : off + m ≤ es.length)
    (k : WL Γ T l ⟨e, up H b (some ⟨kk, splice es off (List.replicate m zz), false⟩), n, z⟩ K) : WL Γ T (oo (.cr q zz x) :: l) ⟨e, H, n, z⟩ K :=
  g_op0 (v := .un) (by
    simp only [opB, opA, hx, hB]
    rw [if_pos ⟨trivial, hk, hf, hle⟩, up_eq]) k
end
theorem fin_gv {t v : V} {l : List (Nat × Option (Option Nat))} {s : S} {o i : List Nat} (hr : resOfB s l = some (v, o)) (g : giveB DEP s.H v = some (t, i)) (hn : ndB (o ++ i) = true) : Fin t l s := by unfold Fin; exact ⟨v, o, i, hr, g, nd_of hn⟩
/-- The front of a slice, as it is given back. -/
theorem gv_front {H : Nat → Option Blk} {d b m c k : Nat} {es ts : List V} {fr : Bool} (hB : H b = some ⟨k, es, fr⟩) (hm : m ≤ es.length) (ht : es.take m = ts) (hok : allL (okD d) ts = true) : giveB (d + 1) H (.hs b 0 m c) = some (.ow k ts, [b]) := by
  subst ht; exact gv_hsT hB hm hok
theorem splice_take {l : List V} {i : Nat} {xs : List V} (h : i ≤ l.length) : (splice l i xs).take i = l.take i := by
  unfold splice
  rw [List.append_assoc, List.take_append_of_le_length (by simp; omega), List.take_take, Nat.min_self]
end Go.Am
