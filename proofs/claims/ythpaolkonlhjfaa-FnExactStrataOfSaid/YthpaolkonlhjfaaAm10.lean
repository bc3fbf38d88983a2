/- The A-machine, part 10: what a slice holds, bytes to a string, append. -/
import Derived.Test.YthpaolkonlhjfaaAm9
import Derived.Laws.BytesString
import Derived.Laws.AppendOwn
set_option linter.all false
namespace Go.Am
variable {P : Program} {φ : Phi} {St Mine : Nat → Prop} {w : World} {s : S} {act : Act} {o : Oper} {v : V} {s' : S}

/-- The cells of elements that lie in a row. -/
theorem row_cells {β off k : Nat} {src : List V} (hk : ∀ e ∈ src, e.size = k) (hr : ∀ (i : Nat) e, src[i]? = some e → RepC φ St w β (off + i * k) (cellsOf e)) :
    ∃ news : List Value, news.length = src.length * k ∧ (∀ j u, news[j]? = some u → Cel w β (off + j) = some u) ∧
      ∀ (i : Nat) e, src[i]? = some e → ∀ (j : Nat) c, (cellsOf e)[j]? = some c → ∃ u, news[i * k + j]? = some u ∧ Rep φ St w c u := by
  have hcel : ∀ (i : Nat) e, src[i]? = some e → ∀ (j : Nat) c, (cellsOf e)[j]? = some c → ∃ u, Cel w β (off + (i * k + j)) = some u ∧ Rep φ St w c u := by
    intro i e hi j c hj
    obtain ⟨u, hu, hru⟩ := RepC_get (hr i e hi) hj
    exact ⟨u, by rw [← Nat.add_assoc]; exact hu, hru⟩
  refine ⟨(List.range (src.length * k)).map fun x => (Cel w β (off + x)).getD undef, by simp, ?_, ?_⟩
  · intro j u hj
    rw [List.getElem?_map] at hj
    obtain ⟨x, hx, rfl⟩ := Option.map_eq_some_iff.1 hj
    obtain ⟨hlt, rfl⟩ := List.getElem?_eq_some_iff.1 hx
    simp only [List.getElem_range, List.length_range] at hlt ⊢
    have hk0 : 0 < k := by
      rcases Nat.eq_zero_or_pos k with h | h
      · subst h; simp at hlt
      · exact h
    have hi : j / k < src.length := by rw [Nat.div_lt_iff_lt_mul hk0]; exact hlt
    have hmod : j % k < k := Nat.mod_lt _ hk0
    have hsz := hk _ (List.getElem_mem hi)
    have hlen : j % k < (cellsOf src[j / k]).length := by rw [size_cellsOf, hsz]; exact hmod
    obtain ⟨u, hu, _⟩ := hcel (j / k) src[j / k] (List.getElem?_eq_getElem hi) (j % k) _ (List.getElem?_eq_getElem hlen)
    rw [Nat.mul_comm, Nat.div_add_mod] at hu
    rw [hu]; rfl
  · intro i e hi j c hj
    obtain ⟨u, hu, hru⟩ := hcel i e hi j c hj
    have hi' := (List.getElem?_eq_some_iff.1 hi).1
    have hj' : j < k := by
      have := (List.getElem?_eq_some_iff.1 hj).1
      rwa [size_cellsOf, hk e (List.mem_of_getElem? hi)] at this
    refine ⟨u, ?_, hru⟩
    rw [List.getElem?_map, List.getElem?_range (mul_lt_place hi' hj')]
    simp [hu]

/-- What a slice shows, in the machine. -/
theorem elems_spec {vy : V} {m : Value} {src : List V} {k : Nat} (q : WR φ St Mine w s.H s.nx) (r : Rep φ St w vy m) (h : elems s.H vy = some src) (hf : ∀ e ∈ src, e.size = k) :
    ∃ a c, m = .slice a src.length c ∧ ((src = []) ∨ ∃ β off, a = some ⟨β, off, none⟩ ∧ (∀ (i : Nat) e, src[i]? = some e → RepC φ St w β (off + i * k) (cellsOf e))) := by
  unfold elems at h
  split at h
  · rename_i es
    obtain rfl := Option.some.inj h
    simp only [Rep, RO] at r
    obtain ⟨a, c, e1, hc, r⟩ := r
    refine ⟨a, c, e1, ?_⟩
    rcases r with r | ⟨β, o', k', rfl, hb, hk', hr⟩
    · exact .inl r
    · by_cases hne : es = []
      · exact .inl hne
      · refine .inr ⟨β, o', rfl, fun i e hi => ?_⟩
        have : k' = k := by
          obtain ⟨x0, hx0⟩ := List.exists_mem_of_ne_nil _ hne
          rw [← hk' x0 hx0, hf x0 hx0]
        subst this
        exact ROC.rep _ _ (ROE_get hr hk' hi)
  · obtain rfl := Option.some.inj h
    simp only [Rep] at r
    obtain ⟨a, e1⟩ := r
    exact ⟨a, 0, e1, .inl rfl⟩
  · rename_i b off n c
    split at h
    · rename_i hn0
      obtain rfl := Option.some.inj h
      simp only [Rep] at r
      obtain ⟨a, c', e1, _⟩ := r
      exact ⟨a, c', by rw [e1, hn0]; rfl, .inl rfl⟩
    split at h
    case h_2 => cases h
    rename_i B hB
    split at h
    case isFalse => cases h
    rename_i hle
    obtain rfl := Option.some.inj h
    simp only [Rep] at r
    obtain ⟨a, c', e1, hc1, hc2, r⟩ := r
    have hlen : ((B.es.drop off).take n).length = n := by simp; omega
    refine ⟨a, c', by rw [hlen]; exact e1, ?_⟩
    by_cases hn : n = 0
    · subst hn; exact .inl (by simp)
    · rcases r with rfl | ⟨β, o', k', hp, rfl, _⟩
      · omega
      · rcases q.blk b B hB with ⟨h1, _⟩ | ⟨β', o'', h1, _, _, _, hsz, hr⟩
        · rw [h1] at hle; simp at hle; omega
        · rw [h1] at hp; cases hp
          have hkk : B.k = k := by
            have hx : B.es[off]'(by omega) ∈ (B.es.drop off).take n := by
              rw [List.mem_iff_getElem?]
              exact ⟨0, by rw [List.getElem?_take]; simp; omega⟩
            rw [← hf _ hx, hsz _ (List.getElem_mem _)]
          refine .inr ⟨β, _, rfl, fun i e hi => ?_⟩
          rw [List.getElem?_take] at hi
          split at hi
          · rw [List.getElem?_drop] at hi
            have := hr _ e hi
            rw [← hkk]
            rwa [Nat.add_mul, ← Nat.add_assoc] at this
          · cases hi
  · cases h

theorem bytes_ints {φ : Phi} {St : Nat → Prop} {w : World} : ∀ {es : List V} {bs : List UInt8}, bytesOf es = some bs → (∀ e ∈ es, e.size = 1) ∧ ∃ ns : List Int, es = ns.map (fun n => V.u n) ∧ bs = ns.map fun n => n.toNat.toUInt8
  | [], bs, h => by simp [bytesOf] at h; subst h; exact ⟨by simp, [], rfl, rfl⟩
  | e :: es, bs, h => by
    unfold bytesOf at h
    split at h
    · rename_i hh; cases hh
    · rename_i n l hh
      cases hh
      split at h
      · rename_i bs' hbs
        obtain rfl := Option.some.inj h
        obtain ⟨h1, ns, rfl, rfl⟩ := bytes_ints (φ := φ) (St := St) (w := w) hbs
        refine ⟨?_, n :: ns, rfl, rfl⟩
        intro e he
        rcases List.mem_cons.1 he with rfl | he
        · rfl
        · exact h1 e he
      · cases h
    · cases h

theorem foldl_push : ∀ (ns : List Int) (acc : ByteArray), ns.foldl (fun r n => r.push (UInt8.ofNat n.toNat)) acc = ⟨acc.data ++ (ns.map fun n => n.toNat.toUInt8).toArray⟩
  | [], acc => by cases acc; simp
  | n :: ns, acc => by
    rw [List.foldl_cons, foldl_push ns]
    simp [ByteArray.push]

theorem op_sb {src dst e : TypeId} {x : Operand} (ho : o.op = .convert src dst x) (hs : P.underlying src = some (.slice e)) (he : P.underlying e = some (.int .u8)) (hd : P.underlying dst = some .string) {x' : O} (hx : toO x = some x')
    (q : WR φ St Mine w s.H s.nx) (env : EnvR φ St w s.e act.tmps)
    {ca : V → List V → S → Option (V × S)} (h : opA ca s (.sb x') = some (v, s')) : OpTo φ St Mine w s v s' ((execOp act.eval o).run P w) := by
  have rx := rep_toO env hx
  simp only [opA] at h
  split at h
  case h_2 => cases h
  rename_i es hes
  split at h
  case h_2 => cases h
  rename_i bs hbs
  obtain ⟨rfl, rfl⟩ := Prod.mk.inj (Option.some.inj h)
  obtain ⟨h1, ns, rfl, rfl⟩ := bytes_ints (φ := φ) (St := St) (w := w) hbs
  obtain ⟨a, c, e1, h2⟩ := elems_spec q rx hes h1
  have fin : (Conv.bytesToString (.slice a (ns.map (fun n => V.u n)).length c)).run P w = .ok (.string ⟨(ns.map fun n => n.toNat.toUInt8).toArray⟩) w → OpTo φ St Mine w s (.s ⟨(ns.map fun n => n.toNat.toUInt8).toArray⟩) s ((execOp act.eval o).run P w) := by
    intro hrun
    have : (execOp act.eval o).run P w = .ok (.value (.string ⟨(ns.map fun n => n.toNat.toUInt8).toArray⟩)) w := by
      unfold execOp
      rw [ho]
      refine run_v ?_
      rw [e1, run_convert_bytes_string w src dst e _ _ _ hs he hd]
      exact hrun
    rw [this]
    exact OpTo.pure q (by simp [Rep])
  refine fin ?_
  have hrun := fun (ad : Addr) (hl : (loadCells ad ns.length).run P w = .ok (ns.map (Value.int .u8)).toArray w) => run_bytesToString (P := P) w ad ns.length c ns hl
  have hfold := foldl_push ns ByteArray.empty
  have hemp : (ByteArray.empty.data ++ (ns.map fun n => n.toNat.toUInt8).toArray) = (ns.map fun n => n.toNat.toUInt8).toArray := by
    show #[] ++ _ = _
    simp
  rw [hemp] at hfold
  rcases h2 with h2 | ⟨β, off, rfl, h2⟩
  · have : ns = [] := by simpa using h2
    subst this
    cases a with
    | none => rfl
    | some ad => simpa [hfold] using hrun ad (by simp [loadCells, loadCellsFrom])
  · rw [List.length_map]
    rw [← hfold]
    refine hrun _ (run_loadCells _ (by simp) fun j u hj => ?_)
    rw [List.getElem?_map] at hj
    obtain ⟨n, hn, rfl⟩ := Option.map_eq_some_iff.1 hj
    obtain ⟨u, hu, hru⟩ := RepC_get (h2 j (V.u n) (by rw [List.getElem?_map, hn]; rfl)) (j := 0) (c := V.u n) rfl
    simp only [Rep] at hru
    subst hru
    simpa using hu

/-! ### append -/

/-- What append makes when there is no room. -/
abbrev Grown (w : World) (need old : Nat) (e : TypeId) (cs : Array Value) (z : Array Value) : World :=
  Push { w with drawn := w.drawn + 1 } (.cells (cs ++ Builtin.zeroCells z (grownCap w need old e - need)) e)

theorem run_ap_grow {t u ty e e' : TypeId} {i : TypeInfo} {z : Value} (ht : P.underlying t = some (.slice e)) (hu : P.underlying u = some (.slice e')) (hi : P.info? e = some i) (hz : i.zero = some z)
    {a b : Option Addr} {sLen sCap n c : Nat} {olds news : Array Value} (ho : ∀ w', w'.heap = w.heap → (Builtin.firstCells i.size sLen (.slice a sLen sCap)).run P w' = .ok olds w')
    (hn : ∀ w', w'.heap = w.heap → (Builtin.firstCells i.size n (.slice b n c)).run P w' = .ok news w') (hg : sCap < sLen + n) (hl : sLen + n ≤ LIM) (hb : i.bytes ≤ 1024) :
    (Builtin.append_ #[t, u] ty #[.slice a sLen sCap, .slice b n c]).run P w = .ok (.slice (some ⟨w.heap.size, 0, none⟩) (sLen + n) (grownCap w (sLen + n) sCap e)) (Grown w (sLen + n) sCap e (olds ++ news) z.cells) := by
  have hl' : sLen + n ≤ 2 ^ 36 := hl
  have h48 : Builtin.nextslicecap (sLen + n) sCap * i.bytes ≤ 281474976710656 := growslice_fits hg (by
    have : (sLen + n) * i.bytes ≤ 2 ^ 36 * 1024 := Nat.mul_le_mul hl' hb
    simp only [Nat.reducePow, Nat.reduceMul] at this; omega)
  have hng : ¬ (sLen + n ≤ sCap) := by omega
  have h63' : ¬ (9223372036854775807 < ((sLen : Int) + (n : Int))) := by omega
  have h48' : ¬ (281474976710656 < Builtin.nextslicecap (sLen + n) sCap * i.bytes) := by omega
  have ho' := ho w.drew rfl
  have hn' := hn w.drew rfl
  simp [Builtin.append_, run_underlying ht, run_underlying hu, sizeOf, typeInfo, zeroValue, hi, hz, Builtin.lenOf, hng, h63', h48', Question.forced, ho', hn', newRow, grownCap]

theorem run_ap_room {t u ty e e' : TypeId} {i : TypeInfo} (ht : P.underlying t = some (.slice e)) (hu : P.underlying u = some (.slice e')) (hi : P.info? e = some i)
    {a b : Option Addr} {sLen sCap n c : Nat} {news : Array Value} (hn : (Builtin.firstCells i.size n (.slice b n c)).run P w = .ok news w) (hg : sLen + n ≤ sCap)
    {w' : World} (hst : ∀ ad, a = some ad → (storeCells (ad.add (sLen * i.size)) news.toList).run P w = .ok () w') (hnone : a = none → w' = w) :
    (Builtin.append_ #[t, u] ty #[.slice a sLen sCap, .slice b n c]).run P w = .ok (.slice a (sLen + n) sCap) w' := by
  cases a with
  | none => rw [hnone rfl]; simp [Builtin.append_, run_underlying ht, run_underlying hu, sizeOf, typeInfo, hi, Builtin.lenOf, hg, hn]
  | some ad => simp [Builtin.append_, run_underlying ht, run_underlying hu, sizeOf, typeInfo, hi, Builtin.lenOf, hg, hn, hst ad rfl]

theorem run_az_grow {t u ty e : TypeId} {k0 k : IntKind} {i : TypeInfo} {z : Value} (ht : P.underlying t = some (.slice e)) (hu : P.underlying u = some (.int k0)) (hi : P.info? e = some i) (hz : i.zero = some z)
    {a : Option Addr} {sLen sCap n : Nat} {olds : Array Value} (ho : ∀ w', w'.heap = w.heap → (Builtin.firstCells i.size sLen (.slice a sLen sCap)).run P w' = .ok olds w')
    (hg : sCap < sLen + n) (hl : sLen + n ≤ LIM) (hb : i.bytes ≤ 1024) (hs : n * i.size ≠ 0) :
    (Builtin.append_ #[t, u] ty #[.slice a sLen sCap, .int k n]).run P w = .ok (.slice (some ⟨w.heap.size, 0, none⟩) (sLen + n) (grownCap w (sLen + n) sCap e)) (Grown w (sLen + n) sCap e (olds ++ Builtin.zeroCells z.cells n) z.cells) := by
  have hl' : sLen + n ≤ 2 ^ 36 := hl
  have h48 : Builtin.nextslicecap (sLen + n) sCap * i.bytes ≤ 281474976710656 := growslice_fits hg (by
    have : (sLen + n) * i.bytes ≤ 2 ^ 36 * 1024 := Nat.mul_le_mul hl' hb
    simp only [Nat.reducePow, Nat.reduceMul] at this; omega)
  have hw : IntKind.i64.wrap (n : Int) = n := IntWalk.i64_in _ (by omega)
  have hnb : ¬ ((n : Int) * i.bytes > 2 ^ 48) := by
    have : n * i.bytes ≤ 2 ^ 36 * 1024 := Nat.mul_le_mul (by omega) hb
    have h2 : (n : Int) * i.bytes = ((n * i.bytes : Nat) : Int) := by push_cast; rfl
    rw [h2]; omega
  have hng : ¬ (sLen + n ≤ sCap) := by omega
  have h63' : ¬ (9223372036854775807 < ((sLen : Int) + (n : Int))) := by omega
  have h48' : ¬ (281474976710656 < Builtin.nextslicecap (sLen + n) sCap * i.bytes) := by omega
  have ho' := ho w.drew rfl
  have hnb' : ¬ (281474976710656 < (n : Int) * i.bytes) := by omega
  have hs' : ¬ (n * i.size = 0) := hs
  have hneg : ¬ ((n : Int) < 0) := by omega
  simp [Builtin.append_, run_underlying ht, run_underlying hu, sizeOf, typeInfo, zeroValue, hi, hz, hng, h63', h48', Question.forced, ho', newRow, grownCap, asInt, asIntOf, hw, hnb', hs', hneg]

abbrev Drawn (w : World) (d : Nat) : World := { w with drawn := d }

theorem stp_drawn {w : World} {d : Nat} : Stp St Mine w (Drawn w d) := ⟨rfl, rfl, rfl, Nat.le_refl _, fun _ _ _ => rfl, fun _ _ => rfl, fun _ _ h => h⟩
theorem WR.drawn {H : Nat → Option Blk} {nx d : Nat} (q : WR φ St Mine w H nx) : WR φ St Mine (Drawn w d) H nx := q.later stp_drawn fun _ _ _ _ _ _ _ => rfl
theorem Rep.drawn {v : V} {m : Value} {d : Nat} (r : Rep φ St w v m) : Rep φ St (Drawn w d) v m := Rep.mono (fun _ _ h => h) (fun _ h => h) (stp_drawn (Mine := fun _ => True)).stab (fun _ _ h => h) v m r

/-- A block of the frame under a new name. -/
theorem WR.move {H : Nat → Option Blk} {nx b β o' off : Nat} {B : Blk} (q : WR φ St Mine w H nx) (hB : H b = some B) (hf : B.fr = false) (hp : φ b = some (β, o', B.k)) (hoff : off ≤ B.es.length) :
    WR (upd φ nx (some (β, o' + off * B.k, B.k))) St Mine w (upd (upd H b none) nx (some { k := B.k, es := B.es.drop off })) (nx + 1) := by
  have hbn : b < nx := by
    rcases Nat.lt_or_ge b nx with h | h
    · exact h
    · rw [q.bnd b h] at hB; cases hB
  have hφ : ∀ b x, φ b = some x → upd φ nx (some (β, o' + off * B.k, B.k)) b = some x := fun b x hx => by
    rw [upd_ne]; · exact hx
    rintro rfl; rw [q.dom b (Nat.le_refl _)] at hx; cases hx
  rcases q.blk b B hB with ⟨_, h1⟩ | ⟨β', o'', h1, h2, h3, h4, h5, h6⟩
  · rw [h1] at hp; cases hp
  rw [h1] at hp; cases hp
  have key : ∀ {b' : Nat} {C : Blk}, b' ≠ nx → upd (upd H b none) nx (some { k := B.k, es := B.es.drop off }) b' = some C → H b' = some C ∧ b' ≠ b := by
    intro b' C hne hC
    rw [upd_ne _ _ hne] at hC
    by_cases e : b' = b
    · subst e; rw [upd_same] at hC; cases hC
    · rw [upd_ne _ _ e] at hC; exact ⟨hC, e⟩
  refine ⟨fun b' hb => ?_, fun b' hb => ?_, fun b' C hC => ?_, ?_, ?_, q.stB, q.mine⟩
  · rw [upd_ne _ _ (by omega), upd_ne _ _ (by omega)]; exact q.bnd b' (by omega)
  · rw [upd_ne _ _ (by omega)]; exact q.dom b' (by omega)
  · by_cases e : b' = nx
    · subst e
      rw [upd_same] at hC
      obtain rfl := Option.some.inj hC
      refine .inr ⟨β, o' + off * B.k, upd_same _ _ _, fun _ => h2 hf, fun h => (by simp at h), h4.mono ?_, fun e he => h5 e (List.mem_of_mem_drop he), fun i e hi => ?_⟩
      · have h7 : B.es.length * B.k = off * B.k + (B.es.length - off) * B.k := by rw [← Nat.add_mul]; congr 1; omega
        simp only [List.length_drop]
        omega
      · simp only [List.getElem?_drop] at hi
        have := h6 _ e hi
        rw [Nat.add_mul, ← Nat.add_assoc] at this
        exact RepC.mono hφ (fun _ h => h) (fun _ _ => rfl) (fun _ _ h => h) (fun _ => rfl) _ _ this
    · obtain ⟨hC', _⟩ := key e hC
      exact BlkOK.mono hφ (fun hn => by rw [upd_ne _ _ e]; exact hn) (fun _ _ => rfl) (fun _ _ h => h) (fun _ _ _ _ => rfl) (q.blk b' C hC')
  · intro b1 b2 B1 B2 β1 o1 k1 o2 k2 h1' h2' p1 p2
    by_cases e1 : b1 = nx <;> by_cases e2 : b2 = nx
    · rw [e1, e2]
    · subst e1
      rw [upd_same] at p1; cases p1
      obtain ⟨c2, n2⟩ := key e2 h2'
      rw [upd_ne _ _ e2] at p2
      exact absurd (q.inj b2 b B2 B β o2 k2 o' B.k c2 hB p2 h1) n2
    · subst e2
      rw [upd_same] at p2; cases p2
      obtain ⟨c1, n1⟩ := key e1 h1'
      rw [upd_ne _ _ e1] at p1
      exact absurd (q.inj b1 b B1 B β o1 k1 o' B.k c1 hB p1 h1) n1
    · obtain ⟨c1, _⟩ := key e1 h1'
      obtain ⟨c2, _⟩ := key e2 h2'
      rw [upd_ne _ _ e1] at p1; rw [upd_ne _ _ e2] at p2
      exact q.inj b1 b2 B1 B2 β1 o1 k1 o2 k2 c1 c2 p1 p2
  · intro b1 B1 β1 o1 k1 hb1 p1
    by_cases e1 : b1 = nx
    · subst e1
      rw [upd_same] at p1; cases p1
      exact q.own b B β o' B.k hB h1
    · obtain ⟨c1, _⟩ := key e1 hb1
      rw [upd_ne _ _ e1] at p1
      exact q.own b1 B1 β1 o1 k1 c1 p1

theorem splice_length (l : List V) (i : Nat) (xs : List V) (h : i ≤ l.length) : (splice l i xs).length = max l.length (i + xs.length) := by
  simp [splice]; omega

theorem splice_get {l : List V} {i : Nat} {xs : List V} (h : i ≤ l.length) (x : Nat) : (splice l i xs)[x]? = if i ≤ x ∧ x < i + xs.length then xs[x - i]? else l[x]? := by
  unfold splice
  rw [List.append_assoc, List.getElem?_append]
  simp only [List.length_take, Nat.min_eq_left h]
  by_cases h1 : x < i
  · rw [if_pos h1, if_neg (by omega), List.getElem?_take, if_pos h1]
  · rw [if_neg h1, List.getElem?_append]
    by_cases h2 : x - i < xs.length
    · rw [if_pos h2, if_pos (by omega)]
    · rw [if_neg h2, if_neg (by omega), List.getElem?_drop]
      congr 1; omega

/-- Elements written into a block, from element number 'at' on, perhaps beyond its end, where there is room. -/
theorem WR.splice {H : Nat → Option Blk} {nx b at_ β o' : Nat} {B : Blk} {src : List V} {news : List Value} (q : WR φ St Mine w H nx) (hB : H b = some B) (hf : B.fr = false) (hp : φ b = some (β, o', B.k))
    (hat : at_ ≤ B.es.length) (hroom : Room w β (o' + (at_ + src.length) * B.k)) (hs : ∀ e ∈ src, e.size = B.k) (hn : news.length = src.length * B.k)
    (hc : ∀ (i : Nat) e, src[i]? = some e → ∀ (j : Nat) c, (cellsOf e)[j]? = some c → ∃ u, news[i * B.k + j]? = some u ∧ Rep φ St w c u) :
    WR φ St Mine (setCells w β (o' + at_ * B.k) news) (upd H b (some { B with es := Am.splice B.es at_ src })) nx ∧ Stp St Mine w (setCells w β (o' + at_ * B.k) news) := by
  rcases q.blk b B hB with ⟨_, h1⟩ | ⟨β', o'', h1, h2, h3, h4, h5, h6⟩
  · rw [h1] at hp; cases hp
  rw [h1] at hp; cases hp
  have hst : Stp St Mine w (setCells w β (o' + at_ * B.k) news) := stp_setCells (h2 hf) (q.own b B β o' B.k hB h1)
  have hown : Own w β (o' + (max B.es.length (at_ + src.length)) * B.k) := by
    obtain ⟨cs, ty, c1, c2⟩ := h4
    obtain ⟨cs', ty', fz, d1, d2⟩ := hroom
    rw [c1] at d1
    obtain ⟨rfl, rfl, rfl⟩ := Obj.cells.inj (Option.some.inj d1)
    refine ⟨cs, ty, c1, ?_⟩
    rcases Nat.le_total B.es.length (at_ + src.length) with h | h
    · rw [Nat.max_eq_right h]; exact d2
    · rw [Nat.max_eq_left h]; exact c2
  have hle : o' + at_ * B.k + news.length ≤ o' + (max B.es.length (at_ + src.length)) * B.k := by
    rw [hn, Nat.add_assoc, ← Nat.add_mul]
    exact Nat.add_le_add_left (Nat.mul_le_mul_right _ (Nat.le_max_right _ _)) _
  refine ⟨q.write hB h1 hst (fun β' hne _ => setCells_ne hne _ _ _) rfl hf (h2 hf) ?_ ?_ ?_, hst⟩
  · rw [show (Am.splice B.es at_ src).length = max B.es.length (at_ + src.length) from splice_length _ _ _ hat]
    exact setCells_own hown
  · intro e he
    unfold Am.splice at he
    simp only [List.mem_append] at he
    rcases he with (he | he) | he
    · exact h5 e (List.mem_of_mem_take he)
    · exact hs e he
    · exact h5 e (List.mem_of_mem_drop he)
  · intro i e hi
    simp only at hi
    rw [splice_get hat] at hi
    rw [RepC_iff]
    intro j c hj
    rw [setCells_cel hown hle]
    have hjk : j < B.k := by
      have h7 := (List.getElem?_eq_some_iff.1 hj).1
      rw [size_cellsOf] at h7
      split at hi
      · rwa [hs e (List.mem_of_getElem? hi)] at h7
      · rwa [h5 e (List.mem_of_getElem? hi)] at h7
    split at hi
    · rename_i hin
      obtain ⟨d, rfl⟩ : ∃ d, i = at_ + d := ⟨i - at_, by omega⟩
      rw [show at_ + d - at_ = d by omega] at hi
      obtain ⟨u, hu, hru⟩ := hc d e hi j c hj
      have hlt := (List.getElem?_eq_some_iff.1 hu).1
      refine ⟨u, ?_, Rep.mono (fun _ _ h => h) (fun _ h => h) hst.stab hst.room c u hru⟩
      rw [Nat.add_mul, if_pos (by omega), show o' + (at_ * B.k + d * B.k) + j - (o' + at_ * B.k) = d * B.k + j by omega]
      exact hu
    · rename_i hin
      obtain ⟨u, hu, hru⟩ := RepC_get (h6 i e hi) hj
      refine ⟨u, ?_, Rep.mono (fun _ _ h => h) (fun _ h => h) hst.stab hst.room c u hru⟩
      rw [if_neg]
      · exact hu
      · intro hh
        rcases Nat.lt_or_ge i at_ with h8 | h8
        · have := mul_lt_place h8 hjk; omega
        · have h9 : at_ + src.length ≤ i := by omega
          have : (at_ + src.length) * B.k ≤ i * B.k := Nat.mul_le_mul_right _ h9
          rw [Nat.add_mul, ← hn] at this
          omega

end Go.Am
