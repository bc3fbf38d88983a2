/- The B-machine, part 5: operations. -/
import Derived.Test.YthpaolkonlhjfaaAm25
set_option linter.all false
namespace Go.Am
variable {β : Bet} {ω : Omg} {sB sA : S}

theorem sliceOf_rel {H : Nat → Option Blk} {x y a : V} {lo hi mx lo' hi' mx' : Option V} (h : sliceOf x lo hi mx = some y) (hl : Lk β H x a [])
    (h1 : ∀ d n, bndOf d lo = some n → bndOf d lo' = some n) (h2 : ∀ d n, bndOf d hi = some n → bndOf d hi' = some n) (h3 : ∀ d n, bndOf d mx = some n → bndOf d mx' = some n)
    (hh : hi.isSome = hi'.isSome) (hm : mx.isSome = mx'.isSome) : ∃ b, sliceOf a lo' hi' mx' = some b ∧ Lk β H y b [] := by
  have z0 : isZ hi = true → isZ hi' = true := by
    intro hz
    cases hi with
    | none => cases hz
    | some v =>
      cases hi' with
      | none => simp at hh
      | some v' =>
        simp only [isZ, beq_iff_eq] at hz ⊢
        exact h2 0 0 hz
  unfold sliceOf at h ⊢
  cases mx with
  | some m =>
    cases mx' with
    | none => simp at hm
    | some m' =>
      simp only at h ⊢
      have h3' : asI m = some 0 → asI m' = some 0 := h3 0 0
      cases x <;> simp only at h <;> try (cases h; done)
      case e0 =>
        rw [Lk_e0 hl]
        split at h
        · rename_i hc
          obtain rfl := Option.some.inj h
          simp only
          rw [if_pos ⟨h1 _ _ hc.1, z0 hc.2.1, h3' hc.2.2⟩]
          exact ⟨_, rfl, by simp [Lk]⟩
        · cases h
      case sl es =>
        rw [(Lk_sl hl).1]
        split at h
        · rename_i hc
          obtain rfl := Option.some.inj h
          simp only
          rw [if_pos ⟨h1 _ _ hc.1, z0 hc.2.1, h3' hc.2.2⟩]
          exact ⟨_, rfl, by simp [Lk]⟩
        · cases h
      case hs b off n c =>
        obtain ⟨x, hx, rfl⟩ := Lk_hs hl
        split at h
        · rename_i hc
          obtain rfl := Option.some.inj h
          simp only
          rw [if_pos ⟨h1 _ _ hc.1, z0 hc.2.1, h3' hc.2.2⟩]
          exact ⟨_, rfl, by simp [Lk]⟩
        · cases h
  | none =>
    cases mx' with
    | some _ => simp at hm
    | none =>
      simp only at h ⊢
      cases x <;> simp only at h <;> try (cases h; done)
      case e0 =>
        rw [Lk_e0 hl]
        split at h
        · rename_i hc
          obtain rfl := Option.some.inj h
          simp only
          rw [if_pos ⟨h1 _ _ hc.1, h2 _ _ hc.2⟩]
          exact ⟨_, rfl, by simp [Lk]⟩
        · cases h
      case sl es =>
        obtain ⟨rfl, hr⟩ := Lk_sl hl
        split at h
        · rename_i l r hl hr2
          simp only
          rw [h1 _ _ hl, h2 _ _ hr2]
          simp only
          split at h
          · rename_i hc
            obtain rfl := Option.some.inj h
            rw [if_pos hc]
            refine ⟨_, rfl, ?_⟩
            simp only [Lk, and_true, true_and]
            rw [RorL_iff] at hr ⊢
            exact fun v hv => hr v (List.mem_of_mem_take (List.mem_of_mem_drop hv))
          · cases h
        · cases h
      case hs b off n c =>
        obtain ⟨x, hx, rfl⟩ := Lk_hs hl
        split at h
        · rename_i l r hl hr2
          simp only
          rw [h1 _ _ hl, h2 _ _ hr2]
          simp only
          split at h
          · rename_i hc
            obtain rfl := Option.some.inj h
            rw [if_pos hc]
            exact ⟨_, rfl, by simp only [Lk, and_true]; exact ⟨x, hx, rfl⟩⟩
          · cases h
        · cases h

theorem LkL_set {H : Nat → Option Blk} {v a : V} (h : Lk β H v a []) : ∀ {vs as : List V} {L : List Nat} (j : Nat), LkL β H vs as L → ∃ L', LkL β H (vs.set j v) (as.set j a) L' ∧ L'.Sublist L
  | [], as, L, j, hl => ⟨L, by simp only [LkL] at hl ⊢; obtain ⟨rfl, rfl⟩ := hl; simp [LkL], List.Sublist.refl _⟩
  | u :: vs, as, L, 0, hl => by
    obtain ⟨b, as', L1, L2, rfl, rfl, h1, h2⟩ := LkL_cons_inv hl
    refine ⟨L2, ?_, List.sublist_append_right _ _⟩
    simp only [List.set_cons_zero, LkL]
    exact ⟨a, as', [], L2, rfl, rfl, h, h2⟩
  | u :: vs, as, L, j + 1, hl => by
    obtain ⟨b, as', L1, L2, rfl, rfl, h1, h2⟩ := LkL_cons_inv hl
    obtain ⟨L', h3, h4⟩ := LkL_set h j h2
    refine ⟨L1 ++ L', ?_, List.Sublist.append (List.Sublist.refl _) h4⟩
    simp only [List.set_cons_succ, LkL]
    exact ⟨b, as'.set j a, L1, L', rfl, rfl, h1, h3⟩

theorem LkL_one {H : Nat → Option Blk} {v a : V} (h : Lk β H v a []) : LkL β H [v] [a] [] := by simp only [LkL]; exact ⟨a, [], [], [], rfl, rfl, h, rfl, rfl⟩

theorem bytes_rel {H : Nat → Option Blk} : ∀ {src src' : List V} {bs : List UInt8}, bytesOf src = some bs → LkL β H src src' [] → bytesOf src' = some bs
  | [], src', bs, h, hl => by simp only [LkL] at hl; rw [hl.1]; exact h
  | v :: src, src', bs, h, hl => by
    obtain ⟨a, as', L1, L2, rfl, e, h1, h2⟩ := LkL_cons_inv hl
    obtain ⟨rfl, rfl⟩ := List.append_eq_nil_iff.1 e.symm
    unfold bytesOf at h
    split at h
    · rename_i heq; cases heq
    · rename_i n l heq
      obtain ⟨rfl, rfl⟩ := List.cons.inj heq
      rw [Lk_im h1]
      split at h
      · rename_i bs' hbs
        simp only [bytesOf, bytes_rel hbs h2]; exact h
      · cases h
    · cases h

theorem bytes_fits : ∀ {src : List V} {bs : List UInt8}, bytesOf src = some bs → src.all (·.fits none) = true
  | [], _, _ => rfl
  | v :: src, bs, hl => by
    unfold bytesOf at hl
    split at hl
    · rename_i heq; cases heq
    · rename_i n l' heq
      obtain ⟨rfl, rfl⟩ := List.cons.inj heq
      split at hl
      · rename_i bs hbs
        simp only [List.all_cons, Bool.and_eq_true]
        exact ⟨rfl, bytes_fits hbs⟩
      · cases hl
    · cases hl

theorem vlen_rel {H : Nat → Option Blk} {v a : V} {n : Nat} (h : vlen v = some n) (hl : Lk β H v a []) : vlen a = some n := by
  cases v <;> simp only [vlen] at h <;> try (cases h; done)
  case sl es => rw [(Lk_sl hl).1]; exact h
  case hs => obtain ⟨x, _, rfl⟩ := Lk_hs hl; exact h
  case e0 => rw [Lk_e0 hl]; exact h

theorem op_sim (qs : Sim β ω no2 sB sA) {ca ca' : V → List V → S → Option (V × S)} {a : A} (hk : a.sok = true) (hca : ∀ f xs, a ≠ .ca f xs) (hld : ∀ q x, a ≠ .ld q x) {v : V} {sB' : S} (h : opA ca sB a = some (v, sB')) : Out β sA sB' v (opA ca' sA a) := by
  have hu := opA_un hca h
  simp only [A.sok, Bool.and_eq_true, List.all_eq_true] at hk
  obtain ⟨hz, hkk⟩ := hk
  cases a <;> simp only [opA] at h ⊢ <;> simp only [A.oks, A.os, List.mem_cons, List.not_mem_nil, or_false, forall_eq_or_imp, forall_eq, List.mem_append, List.mem_map] at hkk hu
  case mv x =>
    obtain ⟨rfl, rfl⟩ := Prod.mk.inj (Option.some.inj h)
    exact Out.same qs rfl (qs.val hkk)
  case pk c x y =>
    split at h
    · rename_i b hb
      obtain ⟨rfl, rfl⟩ := Prod.mk.inj (Option.some.inj h)
      have hc := qs.val' hkk.1 (by rw [hb]; rfl)
      rw [hb] at hc
      rw [Lk_im hc]
      cases b with
      | true => exact Out.same qs rfl (qs.val hkk.2.1)
      | false => exact Out.same qs rfl (qs.val hkk.2.2)
    · cases h
  case al z q =>
    split at h
    · rename_i hf
      obtain ⟨rfl, rfl⟩ := Prod.mk.inj (Option.some.inj h)
      rw [if_pos hf]
      refine Out.new qs (LkL_nil_iff.2 ⟨rfl, fun i v a hv ha => ?_⟩) rfl (by simp only [Lk, and_true]; exact ⟨_, upd_same _ _ _, rfl⟩)
      rw [hv] at ha; obtain rfl := Option.some.inj ha
      have := List.mem_of_getElem? hv
      rw [List.mem_singleton] at this; subst this
      exact pln_lk hz
    · cases h
  case bx q x =>
    split at h
    · rename_i hf
      obtain ⟨rfl, rfl⟩ := Prod.mk.inj (Option.some.inj h)
      have r := qs.val' hkk hu
      rw [if_pos (fits_rel r hf)]
      exact Out.new qs (LkL_one r) rfl (by simp only [Lk, and_true]; exact ⟨_, upd_same _ _ _, rfl⟩)
    · cases h
  case ld q x => exact absurd rfl (hld q x)
  case so q p x =>
    split at h
    case h_2 => cases h
    rename_i H hH
    obtain ⟨rfl, rfl⟩ := Prod.mk.inj (Option.some.inj h)
    have rp := qs.val' hkk.1 hu.1
    have rx := qs.val' hkk.2 hu.2
    unfold storeAt at hH
    split at hH
    · rename_i b i hp
      rw [hp] at rp
      obtain ⟨y, hy, e⟩ := Lk_hp rp
      rw [e]
      split at hH
      case h_2 => cases hH
      rename_i B hB
      obtain ⟨A, hA, hAk, hfr, hfrB, hal, he⟩ := qs.get hB hy
      split at hH
      case isFalse => cases hH
      rename_i hc
      obtain rfl := Option.some.inj hH
      simp only [storeAt, hA]
      rw [if_pos ⟨hfr, by omega, hAk.trans hc.2.2.1, fits_rel rx hc.2.2.2⟩]
      refine ⟨β, ω, _, _, rfl, qs.set (ω' := ω) (ep' := no2) hB hy hA (es := B.es.set i (Am.val sB.e x)) (as := A.es.set i (Am.val sA.e x)) (by simp [hal]) (fun j u w _ hu hw => ?_) (fun y p h _ _ => h) (fun _ _ _ _ h => h), .inl rfl, fun _ _ h => h⟩
      rw [List.getElem?_set] at hu hw
      split at hu
      · rename_i hij
        subst hij
        rw [if_pos rfl] at hw
        split at hu
        · split at hw
          · cases hu; cases hw; exact Elt.nil rx
          · cases hw
        · cases hu
      · rename_i hij
        rw [if_neg hij] at hw
        exact he j u w (fun h => h) hu hw
    · rename_i b i j hp
      rw [hp] at rp
      obtain ⟨y, hy, e⟩ := Lk_hf rp
      rw [e]
      split at hH
      case h_2 => cases hH
      rename_i B hB
      obtain ⟨A, hA, hAk, hfr, hfrB, hal, he⟩ := qs.get hB hy
      split at hH
      case h_2 => cases hH
      rename_i cs hcs
      split at hH
      case isFalse => cases hH
      rename_i hc
      obtain rfl := Option.some.inj hH
      have hlt : i < A.es.length := by rw [hal]; exact (List.getElem?_eq_some_iff.1 hcs).1
      obtain ⟨L, hL, hnd, hown⟩ := (he i _ _ (fun h => h) hcs (List.getElem?_eq_getElem hlt)).resolve_left (by simp)
      simp only [Lk] at hL
      obtain ⟨as, has, hll⟩ := hL
      obtain ⟨L', hL', hsub⟩ := LkL_set rx j hll
      have hAi : A.es[i]? = some (.st as) := by rw [List.getElem?_eq_getElem hlt, has]
      simp only [storeAt, hA, hAi]
      rw [if_pos ⟨hfr, by rw [LkL.len _ _ _ hll]; exact hc.2.1, hc.2.2.1, okc_rel rx hc.2.2.2⟩]
      refine ⟨β, ω, _, _, rfl, qs.set (ω' := ω) (ep' := no2) hB hy hA (es := B.es.set i (.st (cs.set j (Am.val sB.e x)))) (as := A.es.set i (.st (as.set j (Am.val sA.e x)))) (by simp [hal]) (fun k u w _ hu hw => ?_) (fun y p h _ _ => h) (fun _ _ _ _ h => h), .inl rfl, fun _ _ h => h⟩
      rw [List.getElem?_set] at hu hw
      split at hu
      · rename_i hij
        subst hij
        rw [if_pos rfl] at hw
        rw [if_pos (by rw [← hal]; exact hlt)] at hu
        rw [if_pos hlt] at hw
        cases hu; cases hw
        exact .inr ⟨L', by simp only [Lk]; exact ⟨_, rfl, hL'⟩, hnd.sublist hsub, fun y hy => hown y (hsub.subset hy)⟩
      · rename_i hij
        rw [if_neg hij] at hw
        exact he k u w (fun h => h) hu hw
    · cases hH
  case bi op x y =>
    split at h
    · rename_i u w hx hy
      obtain ⟨z, hz, hh⟩ := Option.map_eq_some_iff.1 h
      obtain ⟨rfl, rfl⟩ := Prod.mk.inj hh
      have r1 := qs.val' hkk.1 hu.1
      have r2 := qs.val' hkk.2 hu.2
      rw [hx] at r1; rw [hy] at r2
      rw [Lk_im r1, Lk_im r2]
      exact Out.same qs (by simp only [hz]; rfl) (.inr Lk_im')
    · cases h
  case be n x y =>
    split at h
    · rename_i u w hx hy
      obtain ⟨rfl, rfl⟩ := Prod.mk.inj (Option.some.inj h)
      have r1 := qs.val' hkk.1 hu.1
      have r2 := qs.val' hkk.2 hu.2
      rw [hx] at r1; rw [hy] at r2
      rw [Lk_im r1, Lk_im r2]
      exact Out.same qs rfl (.inr Lk_im')
    · cases h
  case un op x =>
    split at h
    · rename_i u hx
      obtain ⟨z, hz, hh⟩ := Option.map_eq_some_iff.1 h
      obtain ⟨rfl, rfl⟩ := Prod.mk.inj hh
      have r1 := qs.val' hkk hu
      rw [hx] at r1
      rw [Lk_im r1]
      exact Out.same qs (by simp only [hz]; rfl) (.inr Lk_im')
    · cases h
  case cv k x =>
    split at h
    · rename_i k' n hx
      obtain ⟨rfl, rfl⟩ := Prod.mk.inj (Option.some.inj h)
      have r1 := qs.val' hkk hu
      rw [hx] at r1
      rw [Lk_im r1]
      exact Out.same qs rfl (.inr Lk_im')
    · cases h
  case fd j x =>
    split at h
    · rename_i cs hx
      obtain ⟨c, hc, hh⟩ := Option.map_eq_some_iff.1 h
      obtain ⟨rfl, rfl⟩ := Prod.mk.inj hh
      have r1 := qs.val' hkk hu
      rw [hx] at r1
      obtain ⟨as, e, hl⟩ := Lk_st r1
      rw [e]
      obtain ⟨h1, h2⟩ := LkL_nil_iff.1 hl
      have hlt : j < as.length := by rw [h1]; exact (List.getElem?_eq_some_iff.1 hc).1
      exact Out.same qs (a := as[j]) (by simp only [List.getElem?_eq_getElem hlt]; rfl) (.inr (h2 j _ _ hc (List.getElem?_eq_getElem hlt)))
    · cases h
  case fa j x =>
    have r1 := qs.val' hkk hu
    split at h
    · rename_i cs hx
      obtain ⟨c, hc, h⟩ := Option.bind_eq_some_iff.1 h
      split at h
      · rename_i ho
        obtain ⟨rfl, rfl⟩ := Prod.mk.inj (Option.some.inj h)
        rw [hx] at r1
        obtain ⟨e, hr⟩ := Lk_rp r1
        rw [e]
        simp only [Ror] at hr
        exact Out.same qs (a := .rp c) (by simp only [hc, Option.bind_some]; rw [if_pos ho]) (.inr (by simp only [Lk, and_true, true_and]; exact RorL_iff.1 hr c (List.mem_of_getElem? hc)))
      · cases h
    · rename_i b i hx
      obtain ⟨rfl, rfl⟩ := Prod.mk.inj (Option.some.inj h)
      rw [hx] at r1
      obtain ⟨y, hy, e⟩ := Lk_hp r1
      rw [e]
      exact Out.same qs rfl (.inr (by simp only [Lk, and_true]; exact ⟨y, hy, rfl⟩))
    · cases h
  case ia q x i =>
    have r1 := qs.val' hkk.1 hu.1
    split at h
    · rename_i z es hi hx
      rw [qs.asI hkk.2 hi]
      rw [hx] at r1
      obtain ⟨e, hr⟩ := Lk_sl r1
      rw [e]
      simp only
      split at h
      · rename_i u hu'
        split at h
        · rename_i hs
          obtain ⟨rfl, rfl⟩ := Prod.mk.inj (Option.some.inj h)
          refine Out.same qs (a := .rp u) (by rw [if_pos hs]) (.inr ?_)
          simp only [Lk, and_true, true_and]
          split at hu'
          · exact RorL_iff.1 hr u (List.mem_of_getElem? hu')
          · cases hu'
        · cases h
      · cases h
    · rename_i z b off n c hi hx
      rw [qs.asI hkk.2 hi]
      rw [hx] at r1
      obtain ⟨y, hy, e⟩ := Lk_hs r1
      rw [e]
      simp only
      split at h
      · rename_i B hB
        obtain ⟨A, hA, hAk, _⟩ := qs.get hB hy
        split at h
        · rename_i hc
          obtain ⟨rfl, rfl⟩ := Prod.mk.inj (Option.some.inj h)
          refine Out.same qs (a := .hp y (off + z.toNat)) (by simp only [hA]; rw [if_pos ⟨hc.1, hc.2.1, hAk.trans hc.2.2⟩]) (.inr ?_)
          simp only [Lk, and_true]; exact ⟨y, hy, rfl⟩
        · cases h
      · cases h
    · cases h
  case ix x i =>
    split at h
    · rename_i z u hi hx
      have r1 := qs.val' hkk.1 hu.1
      rw [hx] at r1
      rw [qs.asI hkk.2 hi, Lk_im r1]
      simp only
      split at h
      · rename_i b hb
        obtain ⟨rfl, rfl⟩ := Prod.mk.inj (Option.some.inj h)
        exact Out.same qs (by simp only [hb]) (.inr Lk_im')
      · cases h
    · cases h
  case ss x lo hi =>
    split at h
    · rename_i u hx
      have r1 := qs.val' hkk.1 hu.1
      rw [hx] at r1
      rw [Lk_im r1]
      simp only
      split at h
      · rename_i l r hl hr
        rw [qs.bnd (fun y hy => hkk.2 y (.inl hy)) hl, qs.bnd (fun y hy => hkk.2 y (.inr hy)) hr]
        simp only
        split at h
        · rename_i hc
          obtain ⟨rfl, rfl⟩ := Prod.mk.inj (Option.some.inj h)
          exact Out.same qs (by rw [if_pos hc]) (.inr Lk_im')
        · cases h
      · cases h
    · cases h
  case sc q x lo hi mx =>
    have r1 := qs.val' hkk.1 hu.1
    have b1 : ∀ d n, bndOf d (lo.map (Am.val sB.e)) = some n → bndOf d (lo.map (Am.val sA.e)) = some n := fun d n => qs.bnd fun y hy => hkk.2 y (.inl (.inl hy))
    have b2 : ∀ d n, bndOf d (hi.map (Am.val sB.e)) = some n → bndOf d (hi.map (Am.val sA.e)) = some n := fun d n => qs.bnd fun y hy => hkk.2 y (.inl (.inr hy))
    have b3 : ∀ d n, bndOf d (mx.map (Am.val sB.e)) = some n → bndOf d (mx.map (Am.val sA.e)) = some n := fun d n => qs.bnd fun y hy => hkk.2 y (.inr hy)
    split at h
    · rename_i b off n c hx
      rw [hx] at r1
      split at h
      · rename_i hc0
        obtain ⟨u, hu', hh⟩ := Option.map_eq_some_iff.1 h
        obtain ⟨rfl, rfl⟩ := Prod.mk.inj hh
        obtain ⟨w, hw, hl⟩ := sliceOf_rel hu' r1 b1 b2 b3 (by simp) (by simp)
        obtain ⟨y, hy, e⟩ := Lk_hs r1
        rw [e] at hw ⊢
        refine Out.same qs (a := w) ?_ (.inr hl)
        simp only
        rw [if_pos hc0, hw]; rfl
      · rename_i hc0
        split at h
        · rename_i B hB
          split at h
          · rename_i hk
            obtain ⟨u, hu', hh⟩ := Option.map_eq_some_iff.1 h
            obtain ⟨rfl, rfl⟩ := Prod.mk.inj hh
            obtain ⟨w, hw, hl⟩ := sliceOf_rel hu' r1 b1 b2 b3 (by simp) (by simp)
            obtain ⟨y, hy, e⟩ := Lk_hs r1
            obtain ⟨A, hA, hAk, _⟩ := qs.get hB hy
            rw [e] at hw ⊢
            refine Out.same qs (a := w) ?_ (.inr hl)
            simp only [hc0, if_false, hA]
            rw [if_pos (hAk.trans hk), hw]; rfl
          · cases h
        · cases h
    · rename_i es hx
      rw [hx] at r1
      split at h
      · rename_i hk
        obtain ⟨u, hu', hh⟩ := Option.map_eq_some_iff.1 h
        obtain ⟨rfl, rfl⟩ := Prod.mk.inj hh
        obtain ⟨w, hw, hl⟩ := sliceOf_rel hu' r1 b1 b2 b3 (by simp) (by simp)
        rw [(Lk_sl r1).1] at hw ⊢
        refine Out.same qs (a := w) ?_ (.inr hl)
        simp only
        rw [if_pos hk, hw]; rfl
      · cases h
    · rename_i hx
      rw [hx] at r1
      obtain ⟨u, hu', hh⟩ := Option.map_eq_some_iff.1 h
      obtain ⟨rfl, rfl⟩ := Prod.mk.inj hh
      obtain ⟨w, hw, hl⟩ := sliceOf_rel hu' r1 b1 b2 b3 (by simp) (by simp)
      rw [Lk_e0 r1] at hw ⊢
      refine Out.same qs (a := w) ?_ (.inr hl)
      simp only
      rw [hw]; rfl
    · cases h
  case bs q xs =>
    split at h
    · rename_i hf
      obtain ⟨rfl, rfl⟩ := Prod.mk.inj (Option.some.inj h)
      have hl : LkL β sA.H (xs.map (Am.val sB.e)) (xs.map (Am.val sA.e)) [] := LkL_map qs hkk hu
      rw [if_pos (all_rel (fun _ _ => fits_rel) hl hf)]
      exact Out.new qs hl rfl (by simp only [Lk, and_true]; exact ⟨_, upd_same _ _ _, rfl⟩)
    · cases h
  case bd z ps =>
    split at h
    · rename_i hf
      obtain ⟨rfl, rfl⟩ := Prod.mk.inj (Option.some.inj h)
      have hps : ∀ p ∈ ps, Lk β sA.H (Am.val sB.e p.2) (Am.val sA.e p.2) [] := fun p hp => qs.val' (hkk _ ⟨p, hp, rfl⟩) (hu _ ⟨p, hp, rfl⟩)
      have hok : (ps.map fun p => Am.val sA.e p.2).all V.okc = true := by
        rw [List.all_map, List.all_eq_true] at hf ⊢
        exact fun p hp => okc_rel (hps p hp) (hf p hp)
      rw [if_pos hok]
      have hz' : LkL β sA.H z z [] := LkL_nil_iff.2 ⟨rfl, fun i v a hv ha => by
        rw [hv] at ha; obtain rfl := Option.some.inj ha
        have := List.all_eq_true.1 hz v (List.mem_of_getElem? hv)
        cases v <;> simp_all [Lk]⟩
      have fold : ∀ (ps : List (Nat × O)) (cs as : List V), (∀ p ∈ ps, Lk β sA.H (Am.val sB.e p.2) (Am.val sA.e p.2) []) → LkL β sA.H cs as [] →
          LkL β sA.H (ps.foldl (fun cs p => cs.set p.1 (Am.val sB.e p.2)) cs) (ps.foldl (fun cs p => cs.set p.1 (Am.val sA.e p.2)) as) [] := by
        intro ps
        induction ps with
        | nil => intro cs as _ h; exact h
        | cons p ps ih =>
          intro cs as hp h
          simp only [List.foldl_cons]
          obtain ⟨L', h1, h2⟩ := LkL_set (hp p (by simp)) p.1 h
          rw [List.sublist_nil.1 h2] at h1
          exact ih _ _ (fun p' hp' => hp p' (by simp [hp'])) h1
      exact Out.same qs rfl (.inr (by simp only [Lk]; exact ⟨_, rfl, fold ps z z hps hz'⟩))
    · cases h
  case ms z q l c =>
    split at h
    · rename_i kl l' kc c' hl hc
      have r1 := qs.val' hkk.1 hu.1
      have r2 := qs.val' hkk.2 hu.2
      rw [hl] at r1; rw [hc] at r2
      rw [Lk_im r1, Lk_im r2]
      simp only
      split at h
      · rename_i hcc
        obtain ⟨rfl, rfl⟩ := Prod.mk.inj (Option.some.inj h)
        rw [if_pos hcc]
        exact Out.new qs (LkL_rep (pln_lk hz) _) rfl (by simp only [Lk, and_true]; exact ⟨_, upd_same _ _ _, rfl⟩)
      · cases h
    · cases h
  case mf f xs =>
    split at h
    · rename_i hf
      obtain ⟨rfl, rfl⟩ := Prod.mk.inj (Option.some.inj h)
      have hl : LkL β sA.H (xs.map (Am.val sB.e)) (xs.map (Am.val sA.e)) [] := LkL_map qs hkk hu
      rw [if_pos (all_rel (fun _ _ => okc_rel) hl hf)]
      exact Out.same qs rfl (.inr (by simp only [Lk, and_true]; exact ⟨_, rfl, hl⟩))
    · cases h
  case ca f xs => exact absurd rfl (hca f xs)
  case ap q x y =>
    have r1 := qs.val' hkk.1 hu.1
    have r2 := qs.val' hkk.2 hu.2
    split at h
    · rename_i src hs
      split at h
      · rename_i hf
        obtain ⟨src', hs', hl⟩ := elems_rel qs hs r2 hf
        simp only [hs']
        rw [if_pos (all_rel (fun _ _ => fits_rel) hl hf)]
        exact append_sim qs r1 hl h
      · cases h
    · cases h
  case az q z x n =>
    have r1 := qs.val' hkk.1 hu.1
    have r2 := qs.val' hkk.2 hu.2
    split at h
    · rename_i k m hn
      rw [hn] at r2
      rw [Lk_im r2]
      simp only
      split at h
      · rename_i hc
        rw [if_pos hc]
        exact append_sim qs r1 (LkL_rep (pln_lk hz) _) h
      · cases h
    · cases h
  case cr q z x =>
    have r1 := qs.val' hkk hu
    split at h
    · rename_i hx
      rw [hx] at r1
      obtain ⟨rfl, rfl⟩ := Prod.mk.inj (Option.some.inj h)
      rw [Lk_e0 r1]
      exact Out.same qs rfl (.inl rfl)
    · rename_i b off n c hx
      rw [hx] at r1
      obtain ⟨y, hy, e⟩ := Lk_hs r1
      rw [e]
      split at h
      case h_2 => cases h
      rename_i B hB
      obtain ⟨A, hA, hAk, hfr, hfrB, hal, he⟩ := qs.get hB hy
      split at h
      case isFalse => cases h
      rename_i hc
      obtain ⟨rfl, rfl⟩ := Prod.mk.inj (Option.some.inj h)
      simp only [hA]
      rw [if_pos ⟨hfr, hAk.trans hc.2.1, hc.2.2.1, by omega⟩]
      have hz' := LkL_rep (β := β) (H := sA.H) (pln_lk hz) n
      have hget := (LkL_nil_iff.1 hz').2
      refine ⟨β, ω, _, _, rfl, qs.set (ω' := ω) (ep' := no2) hB hy hA (es := splice B.es off (List.replicate n z)) (as := splice A.es off (List.replicate n z)) (by simp [splice, hal]) (fun i u w _ hu hw => ?_) (fun y p h _ _ => h) (fun _ _ _ _ h => h), .inl rfl, fun _ _ h => h⟩
      simp only [splice, List.append_assoc] at hu hw
      rcases Nat.lt_or_ge i off with hi | hi
      · rw [List.getElem?_append_left (by simp; omega)] at hu hw
        rw [List.getElem?_take, if_pos hi] at hu hw
        exact he i u w (fun h => h) hu hw
      · rw [List.getElem?_append_right (by simp; omega)] at hu hw
        have e1 : (B.es.take off).length = off := by simp; omega
        have e2 : (A.es.take off).length = off := by simp; omega
        rw [e1] at hu; rw [e2] at hw
        rcases Nat.lt_or_ge (i - off) n with hj | hj
        · rw [List.getElem?_append_left (by simpa using hj)] at hu hw
          exact Elt.nil (hget _ _ _ hu hw)
        · rw [List.getElem?_append_right (by simpa using hj)] at hu hw
          rw [List.getElem?_drop, List.length_replicate] at hu hw
          rw [show off + n + (i - off - n) = i by omega] at hu hw
          exact he i u w (fun h => h) hu hw
    · cases h
  case cp x =>
    have r1 := qs.val' hkk hu
    split at h
    · rename_i hx
      rw [hx] at r1
      obtain ⟨rfl, rfl⟩ := Prod.mk.inj (Option.some.inj h)
      rw [Lk_e0 r1]
      exact Out.same qs rfl (.inr Lk_im')
    · cases h
  case ln x =>
    split at h
    · rename_i n hn
      obtain ⟨rfl, rfl⟩ := Prod.mk.inj (Option.some.inj h)
      have r1 := qs.val' hkk hu
      rw [vlen_rel hn r1]
      exact Out.same qs rfl (.inr Lk_im')
    · cases h
  case ls x =>
    split at h
    · rename_i u hx
      obtain ⟨rfl, rfl⟩ := Prod.mk.inj (Option.some.inj h)
      have r1 := qs.val' hkk hu
      rw [hx] at r1
      rw [Lk_im r1]
      exact Out.same qs rfl (.inr Lk_im')
    · cases h
  case mm mx xs =>
    have hl : LkL β sA.H (xs.map (Am.val sB.e)) (xs.map (Am.val sA.e)) [] := LkL_map qs hkk hu
    split at h
    · rename_i n m hx
      obtain ⟨rfl, rfl⟩ := Prod.mk.inj (Option.some.inj h)
      rw [hx] at hl
      simp only [LkL, Lk] at hl
      obtain ⟨a, as', L1, L2, e, _, ⟨rfl, _⟩, a', as'', L3, L4, rfl, _, ⟨rfl, _⟩, rfl, _⟩ := hl
      rw [e]
      exact Out.same qs rfl (.inr Lk_im')
    · rename_i n m l hx
      obtain ⟨rfl, rfl⟩ := Prod.mk.inj (Option.some.inj h)
      rw [hx] at hl
      simp only [LkL, Lk] at hl
      obtain ⟨a, as', L1, L2, e, _, ⟨rfl, _⟩, a', as'', L3, L4, rfl, _, ⟨rfl, _⟩, a3, as3, L5, L6, rfl, _, ⟨rfl, _⟩, rfl, _⟩ := hl
      rw [e]
      exact Out.same qs rfl (.inr Lk_im')
    · cases h
  case et x i =>
    split at h
    · rename_i cs hx
      obtain ⟨c, hc, hh⟩ := Option.map_eq_some_iff.1 h
      obtain ⟨rfl, rfl⟩ := Prod.mk.inj hh
      have r1 := qs.val' hkk hu
      rw [hx] at r1
      simp only [Lk] at r1
      obtain ⟨as, e, hl⟩ := r1
      rw [e]
      obtain ⟨h1, h2⟩ := LkL_nil_iff.1 hl
      have hlt : i < as.length := by rw [h1]; exact (List.getElem?_eq_some_iff.1 hc).1
      exact Out.same qs (a := as[i]) (by simp only [List.getElem?_eq_getElem hlt]; rfl) (.inr (h2 i _ _ hc (List.getElem?_eq_getElem hlt)))
    · cases h
  case sb x =>
    split at h
    · rename_i src hs
      split at h
      · rename_i l hl
        obtain ⟨rfl, rfl⟩ := Prod.mk.inj (Option.some.inj h)
        have r1 := qs.val' hkk hu
        have hff : src.all (·.fits none) = true := bytes_fits hl
        obtain ⟨src', hs', hll⟩ := elems_rel qs hs r1 hff
        rw [hs']
        simp only
        rw [bytes_rel hl hll]
        exact Out.same qs rfl (.inr Lk_im')
      · cases h
    · cases h
  case no => cases h

end Go.Am
