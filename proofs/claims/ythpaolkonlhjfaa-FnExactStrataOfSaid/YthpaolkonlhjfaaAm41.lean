/- The B-machine, part 18: lists of the frame's own: handed to a call, taken from it, given back, at a loop's head. -/
import Derived.Test.YthpaolkonlhjfaaAm40
set_option linter.all false
namespace Go.Am
def memB (a : Nat) : List Nat → Bool
  | [] => false
  | b :: l => bif Nat.beq a b then true else memB a l
def ndB : List Nat → Bool
  | [] => true
  | a :: l => bif memB a l then false else ndB l
theorem memB_of {a : Nat} : ∀ {l : List Nat}, memB a l = false → a ∉ l
  | [], _ => by simp
  | b :: l, h => by
    unfold memB at h
    cases hb : Nat.beq a b with
    | true => rw [hb] at h; cases h
    | false =>
      rw [hb] at h
      have h2 := memB_of (l := l) h
      intro hm
      rcases List.mem_cons.1 hm with rfl | hm
      · simp at hb
      · exact h2 hm
theorem nd_of : ∀ {l : List Nat}, ndB l = true → l.Nodup
  | [], _ => List.nodup_nil
  | a :: l, h => by
    unfold ndB at h
    cases hb : memB a l with
    | true => rw [hb] at h; cases h
    | false => rw [hb] at h; exact List.nodup_cons.2 ⟨memB_of hb, nd_of h⟩

section
variable {H : Nat → Option Blk} {r : List Nat} {d : Nat}
/-! Pure trees. -/
theorem ok_im {x : Value} : okD (d + 1) (.im x) = true := rfl
theorem ok_e0 : okD (d + 1) .e0 = true := rfl
theorem ok_sl {es : List V} : okD (d + 1) (.sl es) = true := rfl
theorem ok_nil {f : V → Bool} : allL f [] = true := rfl
theorem ok_ow {α : Type} {f : α → V} {l : List α} {k : Nat} (h : ∀ a, okD d (f a) = true) : okD (d + 1) (.ow k (l.map f)) = true := by
  show allL (okD d) (l.map f) = true
  exact allL_iff.2 fun v hv => by obtain ⟨a, _, rfl⟩ := List.mem_map.1 hv; exact h a
theorem ok_st {cs : List V} (h : allL (okD d) cs = true) : okD (d + 1) (.st cs) = true := h
theorem ok_cons {f : V → Bool} {v : V} {vs : List V} (h1 : f v = true) (h2 : allL f vs = true) : allL f (v :: vs) = true := by simp [allL, h1, h2]
theorem okA {v : V} (h : okD d v = true := by (repeat (first | exact ok_im | exact ok_e0 | exact ok_sl | exact ok_nil | refine ok_ow (fun _ => ?_) | refine ok_st ?_ | refine ok_cons ?_ ?_ | fail)); done) : okD d v = true := h
theorem allL_map {α : Type} {f : α → V} {l : List α} (h : ∀ a, okD d (f a) = true) : allL (okD d) (l.map f) = true := allL_iff.2 fun v hv => by obtain ⟨a, _, rfl⟩ := List.mem_map.1 hv; exact h a

/-! As it is read. -/
theorem ro_im {x : Value} : roT (d + 1) (.im x) = some (.im x) := rfl
theorem ro_e0 : roT (d + 1) .e0 = some (.sl []) := rfl
theorem ro_sl {es : List V} : roT (d + 1) (.sl es) = some (.sl es) := rfl
theorem ro_nil : overL (fun c => (roT d c).map fun t => (t, ([] : List Nat))) [] = some ([], []) := rfl
theorem ro_ow {α : Type} {f g : α → V} {l : List α} {k : Nat} (h : ∀ a, roT d (f a) = some (g a)) : roT (d + 1) (.ow k (l.map f)) = some (.sl (l.map g)) := by
  have e : overL (fun c => (roT d c).map fun t => (t, ([] : List Nat))) (l.map f) = some (l.map g, []) := overL_map fun x _ => by rw [h x]; rfl
  show (match overL (fun c => (roT d c).map fun t => (t, ([] : List Nat))) (l.map f) with | some (ts, _) => some ts | none => none).map V.sl = _
  rw [e]; rfl
theorem ro_st {cs ts : List V} (h : overL (fun c => (roT d c).map fun t => (t, ([] : List Nat))) cs = some (ts, [])) : roT (d + 1) (.st cs) = some (.st ts) := by
  show (match overL (fun c => (roT d c).map fun t => (t, ([] : List Nat))) cs with | some (ts, _) => some ts | none => none).map V.st = _
  rw [h]; rfl
theorem ro_cons {v t : V} {vs ts : List V} (h1 : roT d v = some t) (h2 : overL (fun c => (roT d c).map fun t => (t, ([] : List Nat))) vs = some (ts, [])) : overL (fun c => (roT d c).map fun t => (t, ([] : List Nat))) (v :: vs) = some (t :: ts, []) :=
  overL_mk (L1 := []) (L2 := []) (by rw [h1]; rfl) h2
theorem sn_ow {v t : V} (hp : pkd v = true) (h : roT (d + 1) v = some t) : snapB (d + 1) H v = some (t, []) := by
  cases v <;> simp only [pkd, Bool.false_eq_true] at hp <;> simp only [snapB, h, Option.map_some]
theorem sn_im {x : Value} : snapB (d + 1) H (.im x) = some (.im x, []) := rfl
theorem sn_e0 : snapB (d + 1) H .e0 = some (.sl [], []) := rfl
theorem sn_sl {es : List V} : snapB (d + 1) H (.sl es) = some (.sl es, []) := rfl
theorem sn_rp {v : V} : snapB (d + 1) H (.rp v) = some (.rp v, []) := rfl
theorem sn_lit {es ts : List V} {k b m c : Nat} {fr : Bool} {i : List Nat} (hB : H b = some ⟨k, es, fr⟩) (hn : m = es.length) (h : overL (snapB d H) es = some (ts, i)) : snapB (d + 1) H (.hs b 0 m c) = some (.sl ts, b :: i) := by
  subst hn
  simp only [snapB, hB]
  rw [if_pos (by omega)]
  simp only [List.drop_zero, List.take_length, h]
theorem sn_hs {α : Type} {f g : α → V} {l : List α} {k b m c : Nat} {fr : Bool} (hB : H b = some ⟨k, l.map f, fr⟩) (hn : m = l.length) (h : ∀ a, snapB d H (f a) = some (g a, [])) : snapB (d + 1) H (.hs b 0 m c) = some (.sl (l.map g), [b]) :=
  snapB_hs hB (overL_map fun x _ => h x) (by simpa using hn)
theorem sn_st {cs ts : List V} {i : List Nat} (h : overL (snapB d H) cs = some (ts, i)) : snapB (d + 1) H (.st cs) = some (.st ts, i) := snapB_st h
theorem sn_cl {f : Nat} {cs ts : List V} {i : List Nat} (h : overL (snapB d H) cs = some (ts, i)) : snapB (d + 1) H (.cl f cs) = some (.cl f ts, i) := by simp only [snapB, h]
theorem sn_hp {b i : Nat} {k : Nat} {es : List V} {fr : Bool} {v t : V} {j : List Nat} (hB : H b = some ⟨k, es, fr⟩) (hv : es[i]? = some v) (h : snapB d H v = some (t, j)) : snapB (d + 1) H (.hp b i) = some (.rp t, b :: j) := by simp only [snapB, hB, hv, h]
theorem ov_nil {f : V → Option (V × List Nat)} : overL f [] = some ([], []) := rfl
theorem ov_cons {f : V → Option (V × List Nat)} {v t : V} {vs ts : List V} {i j : List Nat} (h1 : f v = some (t, i)) (h2 : overL f vs = some (ts, j)) : overL f (v :: vs) = some (t :: ts, i ++ j) := overL_mk h1 h2
theorem ov_cons0 {f : V → Option (V × List Nat)} {v t : V} {vs ts : List V} (h1 : f v = some (t, [])) (h2 : overL f vs = some (ts, [])) : overL f (v :: vs) = some (t :: ts, []) := overL_mk (L1 := []) (L2 := []) h1 h2
theorem hd_nil : handB H [] [] = some ([], [], []) := rfl
theorem hd_cons {v t : V} {vs ts : List V} {i j : List Nat} (h1 : snapB DEP H v = some (t, i)) (h2 : handB H [] vs = some (ts, j, [])) : handB H [] (v :: vs) = some (t :: ts, i ++ j, []) := by
  simp only [handB, List.headD_nil, h1, Option.map_some, List.tail_nil, h2, List.append_nil]
theorem roA {v t : V} (h : roT d v = some t := by (repeat (first | exact ro_im | exact ro_e0 | exact ro_sl | exact ro_nil | (apply ro_ow; intro _) | apply ro_st | apply ro_cons | fail)); done) : roT d v = some t := h
theorem snA {v t : V} {i : List Nat} (h : snapB d H v = some (t, i) := by
    repeat (first | exact ov_nil | apply ov_cons | apply ov_cons0 | exact sn_im | exact sn_sl | exact sn_e0 | exact sn_rp | apply sn_st | (apply sn_hs; rfl; (first | rfl | assumption); intro _) | (apply sn_ow; rfl; exact roA) | (apply sn_hp; rfl; rfl) | apply sn_cl | (apply sn_lit; rfl; rfl) | fail)
    done) : snapB d H v = some (t, i) := h
theorem hdA {vs ts : List V} {i : List Nat} (h : handB H [] vs = some (ts, i, []) := by (repeat (first | exact hd_nil | (apply hd_cons; exact snA) | fail)); done) : handB H [] vs = some (ts, i, []) := h

/-! Shares it nothing? -/
theorem fr_im {x : Value} : free (d + 1) (.im x) = true := rfl
theorem fr_e0 : free (d + 1) .e0 = true := rfl
theorem fr_ow {α : Type} {f : α → V} {l : List α} {k : Nat} (h : ∀ a, free d (f a) = true) : free (d + 1) (.ow k (l.map f)) = true := by
  show allL (free d) (l.map f) = true
  exact allL_iff.2 fun v hv => by obtain ⟨a, _, rfl⟩ := List.mem_map.1 hv; exact h a
theorem fr_st {cs : List V} (h : allL (free d) cs = true) : free (d + 1) (.st cs) = true := h
theorem fr_tu {cs : List V} (h : allL (free d) cs = true) : free (d + 1) (.tu cs) = true := h
theorem frA {v : V} (h : free d v = true := by (repeat (first | exact fr_im | exact fr_e0 | exact ok_nil | refine fr_ow (fun _ => ?_) | refine fr_st ?_ | refine fr_tu ?_ | refine ok_cons ?_ ?_ | fail)); done) : free d v = true := h
theorem rs_nil {t : V} : (([] : List Nat).isEmpty || free d t) = true := rfl
theorem rs_fr {i : List Nat} {t : V} (h : free d t = true) : (i.isEmpty || free d t) = true := by rw [h, Bool.or_true]

/-! Taken over. -/
variable {e : Nat → V} {n : Nat} {z : Bool}
theorem tk_im {x : Value} : takeB (d + 1) (.im x) ⟨e, H, n, z⟩ = some (.im x, ⟨e, H, n, z⟩) := rfl
theorem tk_e0 : takeB (d + 1) .e0 ⟨e, H, n, z⟩ = some (.e0, ⟨e, H, n, z⟩) := rfl
theorem tk_ow {α : Type} {f : α → V} {l : List α} {k : Nat} (h : ∀ a, okD d (f a) = true) : takeB (d + 1) (.ow k (l.map f)) ⟨e, H, n, z⟩ = some (.hs n 0 l.length l.length, ⟨e, up H n (some ⟨k, l.map f, false⟩), n + 1, z⟩) := by
  rw [takeB_ow (allL_map h), ← up_eq]; simp only [List.length_map]; rfl
theorem tk_st {cs vs : List V} {s1 : S} (h : takeL (takeB d) cs ⟨e, H, n, z⟩ = some (vs, s1)) : takeB (d + 1) (.st cs) ⟨e, H, n, z⟩ = some (.st vs, s1) := by simp only [takeB, h]
theorem tk_tu {cs vs : List V} {s1 : S} (h : takeL (takeB d) cs ⟨e, H, n, z⟩ = some (vs, s1)) : takeB (d + 1) (.tu cs) ⟨e, H, n, z⟩ = some (.tu vs, s1) := by simp only [takeB, h]
theorem tl_nil {f : V → S → Option (V × S)} {s : S} : takeL f [] s = some ([], s) := rfl
theorem tl_cons {f : V → S → Option (V × S)} {v v' : V} {vs vs' : List V} {s s1 s2 : S} (h1 : f v s = some (v', s1)) (h2 : takeL f vs s1 = some (vs', s2)) : takeL f (v :: vs) s = some (v' :: vs', s2) := by simp only [takeL, h1, h2]
theorem tkA {t v : V} {s1 : S} (h : takeB d t ⟨e, H, n, z⟩ = some (v, s1) := by
    repeat (first | exact tl_nil | apply tl_cons | exact tk_im | exact tk_e0 | (apply tk_ow; exact fun _ => okA) | apply tk_st | apply tk_tu | exact tl_nil | apply tl_cons | fail)
    done) : takeB d t ⟨e, H, n, z⟩ = some (v, s1) := h

/-! Given back. -/
theorem gv_im {P : Prop} {x y : Value} (p : Wr P) (h : Wr P → y = x) : giveB (d + 1) H (.im y) = some (.im x, []) := by rw [h p]; rfl
theorem gv_b {x y : Bool} (p : Wr (y = x)) : giveB (d + 1) H (.b y) = some (.b x, []) := by rw [p.h]; rfl
theorem gv_i {x y : Int} (p : Wr (y = x)) : giveB (d + 1) H (.i y) = some (.i x, []) := by rw [p.h]; rfl
theorem gv_s {x y : ByteArray} (p : Wr (y = x)) : giveB (d + 1) H (.s y) = some (.s x, []) := by rw [p.h]; rfl
theorem gv_u {x y : Int} (p : Wr (y = x)) : giveB (d + 1) H (.u y) = some (.u x, []) := by rw [p.h]; rfl
theorem gv_e0 (_p : Wr True) : giveB (d + 1) H .e0 = some (.e0, []) := rfl
theorem gv_hs {α : Type} {f : α → V} {l l' : List α} {k b m c : Nat} {fr : Bool} (p : Wr (l' = l)) (hB : H b = some ⟨k, l'.map f, fr⟩) (hn : m = l'.length) (h : ∀ a, okD d (f a) = true) : giveB (d + 1) H (.hs b 0 m c) = some (.ow k (l.map f), [b]) := by
  rw [← p.h]; exact giveB_hs hB (allL_map h) (by simpa using hn)
theorem gv_st {cs ts : List V} {i : List Nat} (h : overL (giveB d H) cs = some (ts, i)) : giveB (d + 1) H (.st cs) = some (.st ts, i) := giveB_st h
theorem gv_tu {c : V} {cs ts : List V} {i : List Nat} (h : overL (giveB d H) (c :: cs) = some (ts, i)) : giveB (d + 1) H (.tu (c :: cs)) = some (.tu ts, i) := by simp only [giveB, h]
theorem gv_nil (_p : Wr True) : overL (giveB d H) [] = some ([], []) := rfl
theorem gv_cons {A B : Prop} {v t : V} {vs ts : List V} {i j : List Nat} (p : Wr (A ∧ B)) (h1 : Wr A → giveB d H v = some (t, i)) (h2 : Wr B → overL (giveB d H) vs = some (ts, j)) : overL (giveB d H) (v :: vs) = some (t :: ts, i ++ j) :=
  overL_mk (h1 ⟨p.h.1⟩) (h2 ⟨p.h.2⟩)
theorem fin {P : Prop} {t : V} {l : List (Nat × Option (Option Nat))} {s : S} {v : V} {o i : List Nat} (p : P) (hr : resOfB s l = some (v, o) := by rfl)
    (g : Wr P → giveB DEP s.H v = some (t, i) := by
      intro p
      repeat (first | exact gv_b p | exact gv_i p | exact gv_s p | exact gv_u p | exact gv_e0 p | (apply gv_hs p; rfl; (first | rfl | assumption); exact fun _ => okA) | apply gv_st | apply gv_tu | exact gv_nil p | apply gv_cons p | intro p | fail)
      done)
    (hn : (o ++ i).Nodup := by exact nd_of rfl) : Fin t l s := by unfold Fin; exact ⟨v, o, i, hr, g ⟨p⟩, hn⟩

/-! At a loop's head. -/
theorem rb_nil : renBs H r [] = some ([], []) := rfl
theorem rb_L {α : Type} {f : α → V} {l : List α} {k b : Nat} {fr : Bool} {bs : List Nat} {xs : List (Option Blk)} {j : List Nat} (hB : H b = some ⟨k, l.map f, fr⟩) (h : ∀ a, okD DEP (f a) = true) (hr : renBs H r bs = some (xs, j)) : renBs H r (b :: bs) = some (some ⟨k, l.map f, fr⟩ :: xs, j) :=
  renBs_one hB (allL_map h) hr
theorem rb_1 {v t : V} {k b : Nat} {fr : Bool} {bs : List Nat} {xs : List (Option Blk)} {i j : List Nat} (hB : H b = some ⟨k, [v], fr⟩) (hv : ren H r DEP v = some (t, i)) (hr : renBs H r bs = some (xs, j)) : renBs H r (b :: bs) = some (some ⟨k, [t], fr⟩ :: xs, i ++ j) :=
  renBs_cons hB (by rw [overL_mk (L1 := i) (L2 := []) hv rfl, List.append_nil]) hr
theorem rb_app {α : Type} {f : α → V} {l : List α} {x : α} {v : V} {k b : Nat} {fr : Bool} {bs : List Nat} {xs : List (Option Blk)} {i j : List Nat} (hB : H b = some ⟨k, l.map f ++ [v], fr⟩) (h : ∀ a, okD DEP (f a) = true) (hv : ren H r DEP v = some (f x, i)) (hr : renBs H r bs = some (xs, j)) :
    renBs H r (b :: bs) = some (some ⟨k, (l ++ [x]).map f, fr⟩ :: xs, i ++ j) := by
  refine renBs_cons hB ?_ hr
  rw [List.map_append]
  have := overL_app (overL_ren (H := H) (r := r) (allL_map h (l := l))) (overL_mk (L1 := i) (L2 := []) hv (show overL (ren H r DEP) [] = some ([], []) from rfl))
  simpa using this
theorem rb_appV {α : Type} {f : α → V} {l : List α} {v t : V} {k b : Nat} {fr : Bool} {bs : List Nat} {xs : List (Option Blk)} {i j : List Nat} (hB : H b = some ⟨k, l.map f ++ [v], fr⟩) (h : ∀ a, okD DEP (f a) = true) (hv : ren H r DEP v = some (t, i)) (hr : renBs H r bs = some (xs, j)) :
    renBs H r (b :: bs) = some (some ⟨k, l.map f ++ [t], fr⟩ :: xs, i ++ j) := by
  refine renBs_cons hB ?_ hr
  have := overL_app (overL_ren (H := H) (r := r) (allL_map h (l := l))) (overL_mk (L1 := i) (L2 := []) hv (show overL (ren H r DEP) [] = some ([], []) from rfl))
  simpa using this
theorem rb_set {α : Type} {f : α → V} {l : List α} {x : α} {v : V} {k b m : Nat} {fr : Bool} {bs : List Nat} {xs : List (Option Blk)} {i j : List Nat} (hB : H b = some ⟨k, (l.map f).set m v, fr⟩) (h : ∀ a, okD DEP (f a) = true) (hv : ren H r DEP v = some (f x, i)) (hm : m < l.length) (hr : renBs H r bs = some (xs, j)) :
    renBs H r (b :: bs) = some (some ⟨k, (l.set m x).map f, fr⟩ :: xs, i ++ j) := by
  refine renBs_cons hB ?_ hr
  rw [List.map_set]
  exact overL_set hv (overL_ren (allL_map h)) (by simpa using hm)
theorem rb_rep {v : V} {k b m : Nat} {fr : Bool} {bs : List Nat} {xs : List (Option Blk)} {j : List Nat} (hB : H b = some ⟨k, List.replicate m v, fr⟩) (h : okD DEP v = true) (hr : renBs H r bs = some (xs, j)) : renBs H r (b :: bs) = some (some ⟨k, List.replicate m v, fr⟩ :: xs, j) :=
  renBs_one hB (allL_iff.2 fun x hx => by rw [(List.mem_replicate.1 hx).2]; exact h) hr
theorem rb_fill {α : Type} {f : α → V} {l : List α} {x : α} {v zz : V} {k b i m : Nat} {fr : Bool} {bs : List Nat} {xs : List (Option Blk)} {ids j : List Nat} (hB : H b = some ⟨k, ((l.take i).map f ++ List.replicate m zz).set i v, fr⟩) (hx : l[i]? = some x) (hm : m = l.length - i) (h : ∀ a, okD DEP (f a) = true) (hz : okD DEP zz = true) (hv : ren H r DEP v = some (f x, ids)) (hr : renBs H r bs = some (xs, j)) :
    renBs H r (b :: bs) = some (some ⟨k, (l.take (i + 1)).map f ++ List.replicate (l.length - (i + 1)) zz, fr⟩ :: xs, ids ++ j) := by
  have hi : i < l.length := (List.getElem?_eq_some_iff.1 hx).1
  obtain rfl : x = l[i] := ((List.getElem?_eq_some_iff.1 hx).2).symm
  refine renBs_cons hB ?_ hr
  rw [← fill_set f l zz hi]
  subst hm
  refine overL_set hv (overL_ren (allL_iff.2 fun y hy => ?_)) (by simp only [List.length_append, List.length_map, List.length_take, List.length_replicate]; omega)
  rcases List.mem_append.1 hy with h1 | h1
  · obtain ⟨a, _, rfl⟩ := List.mem_map.1 h1; exact h a
  · rw [(List.mem_replicate.1 h1).2]; exact hz
theorem re_im {x : Value} : ren H r (d + 1) (.im x) = some (.im x, []) := rfl
theorem re_e0 : ren H r (d + 1) .e0 = some (.e0, []) := rfl
theorem re_sl {es : List V} : ren H r (d + 1) (.sl es) = some (.sl es, []) := rfl
theorem re_rp {v : V} : ren H r (d + 1) (.rp v) = some (.rp v, []) := rfl
theorem re_rt {b o m c j : Nat} (hr : posOf r b = some j) : ren H r (d + 1) (.hs b o m c) = some (.hs j o m c, []) := by simp only [ren, hr]
theorem pk_lit {es ts : List V} {k b m c : Nat} {fr : Bool} {i : List Nat} (hr : posOf r b = none) (hB : H b = some ⟨k, es, fr⟩) (hn : m = es.length) (hc : c = m) (h : overL (packB d H) es = some (ts, i)) : ren H r (d + 1) (.hs b 0 m c) = some (.ow k ts, b :: i) := by
  subst hc; subst hn
  simp only [ren, hr, packB, hB, and_self, if_true, h]
theorem pa_ok {v : V} (h : okD d v = true) : packB d H v = some (v, []) := packB_ok h
theorem pa_hs {α : Type} {f : α → V} {l : List α} {k b m c : Nat} {fr : Bool} (hB : H b = some ⟨k, l.map f, fr⟩) (hn : m = l.length) (hc : c = m) (h : ∀ a, okD d (f a) = true) : packB (d + 1) H (.hs b 0 m c) = some (.ow k (l.map f), [b]) :=
  packB_hs hB (overL_packB (allL_map h)) (by simpa using hn) hc
theorem re_st {cs ts : List V} {i : List Nat} (h : overL (ren H r d) cs = some (ts, i)) : ren H r (d + 1) (.st cs) = some (.st ts, i) := by simp only [ren, h]
theorem re_hs {α : Type} {f : α → V} {l : List α} {k b m c : Nat} {fr : Bool} (hr : posOf r b = none) (hB : H b = some ⟨k, l.map f, fr⟩) (hn : m = l.length) (hc : c = m) (h : ∀ a, okD d (f a) = true) : ren H r (d + 1) (.hs b 0 m c) = some (.ow k (l.map f), [b]) :=
  ren_hs hr hB (allL_map h) (by simpa using hn) hc
theorem re_ok {v : V} (h : okD d v = true) : ren H r d v = some (v, []) := ren_ok h
theorem reA {v t : V} {i : List Nat} (h : ren H r d v = some (t, i) := by (repeat (first | exact ov_nil | apply ov_cons | apply ov_cons0 | exact re_im | exact re_e0 | exact re_sl | exact re_rp | (apply re_rt; rfl) | (apply re_ok; exact okA) | (apply re_hs; rfl; rfl; (first | rfl | assumption); rfl; exact fun _ => okA) | apply re_st | (apply pk_lit; rfl; rfl; rfl; rfl) | (apply pa_ok; exact okA) | (apply pa_hs; rfl; (first | rfl | assumption); rfl; exact fun _ => okA) | fail)); done) : ren H r d v = some (t, i) := h
theorem nm {L ids rr : List Nat} {bs : List (Option Blk)} {s : S} {ev : List (Nat × V)} {m : Nat} (hr : dedup (L.flatMap fun t => refs 3 (s.e t)) = rr := by first | exact (rfl : _ = []) | exact (rfl : _ = [_]) | exact (rfl : _ = [_, _]) | exact (rfl : _ = [_, _, _]) | exact (rfl : _ = [_, _, _, _]) | exact (rfl : _ = [_, _, _, _, _]) | exact (rfl : _ = [_, _, _, _, _, _]) | exact (rfl : _ = [_, _, _, _, _, _, _]))
    (hb : renBs s.H rr rr = some (bs, ids) := by
      repeat (first | exact rb_nil | (apply rb_L; rfl; exact fun _ => okA) | (apply rb_1; rfl; exact reA) | (apply rb_rep; rfl; exact okA) | (apply rb_fill; rfl; assumption; rfl; exact fun _ => okA; exact okA; exact reA) | (apply rb_app; rfl; exact fun _ => okA; exact reA) | (apply rb_appV; rfl; exact fun _ => okA; exact reA) | (apply rb_set; rfl; exact fun _ => okA; exact reA; omega) | fail)
      done)
    (hn : (ids ++ rr).Nodup := by exact nd_of rfl) (he : (L.map fun t => (t, match ren s.H rr 3 (s.e t) with | some (v, []) => v | _ => V.un)) = ev := by rfl) (hm : rr.length = m := by rfl) : nmS L s = some ⟨envA ev, heapA bs, m, false⟩ := by
  subst hm; exact nmS_of hr hb hn he
end

section
variable {Γ : Env} {T : Nat → Option FB} {e : Nat → V} {H : Nat → Option Blk} {n : Nat} {z : Bool} {l : List I} {K : S → Prop} {Q : R → Prop} {d : Nat}
/-- A call that reads its arguments: by the callee's contract. -/
theorem c0 {f : Nat} {xs : List O} {ts vs : List V} {rs : List Nat} {t v : V} {H' : Nat → Option Blk} {n' : Nat} (hc : CALLB Γ T f [] ts = some (t, [])) (k : WL Γ T l ⟨up e d v, H', n', z⟩ K)
    (hv : xs.map (val e) = vs := by first | exact frcL | fail) (hu : (xs.all fun x => !isUn (val e x)) = true := by rfl) (hm : Γ.md f = some [] := by first | rfl | assumption) (hh : handB H [] vs = some (ts, rs, []) := by first | exact hdA | fail) (hr : (rs.isEmpty || free DEP t) = true := by first | exact rs_nil | exact rs_fr frA | fail)
    (ht : takeB DEP t ⟨e, H, n, z⟩ = some (v, ⟨e, H', n', z⟩) := by first | exact tkA | fail) : WL Γ T (o d (.ca (.k (.cl f [])) xs) :: l) ⟨e, H, n, z⟩ K :=
  g_callr (caps := []) rfl hu (by rw [List.append_nil]; exact hv) hm hh hc hr ht k
/-- The call of a function value. -/
theorem cv {f : Nat} {fo : O} {xs : List O} {ts vs ws caps : List V} {rs : List Nat} {t v : V} {H' : Nat → Option Blk} {n' : Nat} (hc : CALLB Γ T f [] ts = some (t, [])) (k : WL Γ T l ⟨up e d v, H', n', z⟩ K)
    (hf : fnOf (val e fo) = some (f, caps) := by rfl) (hv : xs.map (val e) = vs := by first | exact frcL | fail) (hw : vs ++ caps = ws := by first | exact frcA | fail) (hu : (xs.all fun x => !isUn (val e x)) = true := by rfl) (hm : Γ.md f = some [] := by first | rfl | assumption) (hh : handB H [] ws = some (ts, rs, []) := by first | exact hdA | fail)
    (hr : (rs.isEmpty || free DEP t) = true := by first | exact rs_nil | exact rs_fr frA | fail) (ht : takeB DEP t ⟨e, H, n, z⟩ = some (v, ⟨e, H', n', z⟩) := by first | exact tkA | fail) : WL Γ T (o d (.ca fo xs) :: l) ⟨e, H, n, z⟩ K :=
  g_callr hf hu (by rw [hv]; exact hw) hm hh hc hr ht k
end
end Go.Am
