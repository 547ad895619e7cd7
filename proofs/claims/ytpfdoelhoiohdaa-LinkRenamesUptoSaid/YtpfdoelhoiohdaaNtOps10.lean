/-
  TYPED OBJECTS: append where the row's type is told; boxes of a told type.
  No condition: lemmas.
-/
import Derived.Test.YtpfdoelhoiohdaaNtOps9
namespace Go.Nt

variable {P : Program} {X : Cx} {c : Cfg} {bl : Bl} {lb : Nat → Nat} {a : Act} {w : World}

theorem tagOf_mul (ty : Nat) : tagOf ((ty + 1) * tagB) = ty + 1 := Nat.mul_div_cancel _ (by decide)
theorem tag_mul {ty : TypeId} {n size : Nat} : TagOK false ((ty + 1) * tagB) ty n size := fun _ => ⟨(tagOf_mul ty).symm, fun h => by cases h⟩

/-- Appending: the slice has no room. -/
theorem append_growT {ts : Array TypeId} {ty : TypeId} {sz sLen sCap n : Nat} {p : Option Addr} {x : Value} {olds news : Array Value} (ht : appT P ts sz = true) (hx : (Builtin.lenOf x).run P w = .ok n w)
    (ho : ∀ w', w'.heap = w.heap → (Builtin.firstCells sz sLen (.slice p sLen sCap)).run P w' = .ok olds w') (hf : ∀ w', w'.heap = w.heap → (Builtin.firstCells sz n x).run P w' = .ok news w')
    (h : ¬ sLen + n ≤ sCap) (hl : olds.size = sLen * sz) (hn : news.size = n * sz) (hb : sLen + n ≤ 16777216) :
    ∃ cap e cells, (∀ t0, ts[0]? = some t0 → P.underlying t0 = some (.slice e)) ∧ sLen + n ≤ cap ∧ (Builtin.append_ ts ty #[.slice p sLen sCap, x]).run P w = .ok (.slice (some ⟨w.heap.size, 0, none⟩) (sLen + n) cap) (w.drew.alloc (.cells cells e)) ∧ cells.size = cap * sz ∧
      ∀ k, k < (sLen + n) * sz → cells[k]? = (olds ++ news)[k]? := by
  obtain ⟨t0, t1, e, d1, ie, z, h0, h1, hu, hi, rfl, hz, hzs, hpos, hle, hby, hd1, hd2⟩ := appT_run ht
  have hsz : ∀ w', (sizeOf e).run P w' = .ok ie.size w' := fun w' => by simp [sizeOf, typeInfo, hi]
  have hzv : ∀ w', (zeroValue e).run P w' = .ok z w' := fun w' => by simp [zeroValue, typeInfo, hi, hz]
  have hcap := nextcap_le (show sCap < sLen + n by omega)
  have hbig : ¬ (Builtin.nextslicecap (sLen + n) sCap * ie.bytes > 2 ^ 48) := by
    have : Builtin.nextslicecap (sLen + n) sCap * ie.bytes ≤ (2 * 16777216 + 200) * 65536 := Nat.mul_le_mul (by omega) hby
    omega
  refine ⟨(Question.appendCap (sLen + n) sCap e).cut (w.tape w.drawn (.appendCap (sLen + n) sCap e)), e,
    olds ++ news ++ Builtin.zeroCells z.cells ((Question.appendCap (sLen + n) sCap e).cut (w.tape w.drawn (.appendCap (sLen + n) sCap e)) - (sLen + n)), fun t0' h0' => by rw [h0] at h0'; cases h0'; exact hu, ?_, ?_, ?_, ?_⟩
  · simp only [Question.cut]; omega
  · have e1 := ho w.drew rfl
    have e2 := hf w.drew rfl
    simp only [Builtin.append_, h0, h1]
    rcases hd2 with ⟨e', rfl⟩ | rfl <;> simp [run_underlying hu, run_underlying hd1, hsz, hx, h, typeInfo, hi, hbig, Question.forced, e1, e2, hzv, newRow] <;> (intro hh; omega)
  · simp only [Array.size_append, hl, hn, Builtin.zeroCells, Array.size_map, Array.size_range, hzs]
    rw [← Nat.add_mul, ← Nat.add_mul]
    congr 1
    simp only [Question.cut]; omega
  · intro k hk
    rw [Array.getElem?_append_left (by simp only [Array.size_append, hl, hn]; rw [← Nat.add_mul]; exact hk)]

theorem sim_appT (C : CR X c bl lb a w) {o : Oper} {cl : Call} {s x : Operand} {s' x' : Opd} {sz d : Nat} {l : List D} {r : D × St} (ho : o.op = .call cl) (hc : cl.callee = .builtin .append) (hargs : cl.args = #[s, x]) (ht : appT P cl.argTypes sz = true)
    (hdst : o.dst = some d) (hdn : d < X.n) (h1 : opdOK s s' = true) (h2 : opdOK x x' = true)
    (hl : srcD c.2 sz (x'.ev c.1.s) = some l) {ty : TypeId} (hty : ∀ t0, cl.argTypes[0]? = some t0 → P.underlying t0 = some (.slice ty)) (hr : appendTD ty c.2 (s'.ev c.1.s) l sz = some r)
    {K : Act → World → Prop} {Q : Exit → Act → World → Prop} (hK : ∀ a' w', RelC X (apply c (some d) (r.1, none, some r.2)) a' w' → K a' w') : o.wp P a w K Q := by
  obtain ⟨_, _, _, _, _, _, _, _, _, _, _, _, _, hpos, _⟩ := appT_run ht
  have rx : RR X c bl lb w (a.eval x) (x'.ev c.1.s) := (opd_rep C h2).rep fun b g off e => by rw [e] at hl; simp [srcD, listD] at hl
  obtain ⟨vl1, hlen, hfirst, E1⟩ := src_run (P := P) hpos C.heap rx hl
  have rs := opd_rep C h1
  have he : ∀ v w', (Builtin.append_ cl.argTypes o.type #[a.eval s, a.eval x]).run P w = .ok v w' → (execOp a.eval o).run P w = .ok (.value v) w' := by
    intro v w' h
    simp [execOp, ho, resolve, hc, hargs, invoke, builtin, h]
  have hfl1 := flat_len E1.sizes
  -- nothing appended
  have nop : ∀ p cap len, l = [] → a.eval s = .slice p len cap → len ≤ cap → (execOp a.eval o).run P w = .ok (.value (.slice p len cap)) w := by
    intro p cap len hnil hs hle
    subst hnil
    have hvl : vl1 = [] := List.eq_nil_of_length_eq_zero E1.1
    subst hvl
    refine he _ _ ?_
    rw [hs]
    have := append_room (P := P) (ty := o.type) (sLen := len) (sCap := cap) (n := 0) (p := p) (w' := w) ht hlen (hfirst w rfl) (by simpa using hle) (by cases p <;> simp [storeCells])
    simpa using this
  -- a new object
  have fresh : ∀ p cap vl0 (l0 : List D), a.eval s = .slice p l0.length cap → l ≠ [] → ¬ l0.length + l.length ≤ cap → l0.length + l.length ≤ 16777216 → Els w (NX X c bl lb) c.2 bl sz vl0 l0 →
      (∀ (i : Nat) (u : Value), vl0[i]? = some u → ∃ q : Addr, p = some q ∧ q.spot = none ∧ ∀ (j : Nat) (x : Value), u.cells[j]? = some x → w.cell? ⟨q.block, q.off + i * sz + j, none⟩ = some x) →
      ∃ cap' cells, l0.length + l.length ≤ cap' ∧ (execOp a.eval o).run P w = .ok (.value (.slice (some ⟨w.heap.size, 0, none⟩) (l0.length + l.length) cap')) (w.drew.alloc (.cells cells ty)) ∧ cells.size = cap' * sz ∧
        ∀ k, k < (vl0 ++ vl1).length * sz → cells[k]? = ((vl0 ++ vl1).flatMap fun v => v.cells.toList)[k]? := by
    intro p cap vl0 l0 hs hne hcap hbound E0 hm
    have hf0 := flat_len E0.sizes
    obtain ⟨cap', e, cells, gt, g1, g2, g3, g4⟩ := append_growT (P := P) (ty := o.type) (p := p) (sLen := l0.length) (sCap := cap) (n := l.length) ht hlen
      (fun w' hw => firstCells_run hpos E0.1.symm E0.sizes fun i u hu => by
        obtain ⟨q, q1, q2, q3⟩ := hm i u hu
        exact ⟨q, q1, q2, fun j x hx => by rw [cell_heap hw]; exact q3 j x hx⟩) hfirst hcap (by simp only [List.size_toArray, hf0, E0.1]) (by simp only [List.size_toArray, hfl1, E1.1]) hbound
    obtain ⟨t0, _, _, _, _, _, q0, _⟩ := appT_run ht
    have ee : e = ty := by have q1 := gt t0 q0; have q2 := hty t0 q0; rw [q1] at q2; cases q2; rfl
    subst ee
    refine ⟨cap', cells, g1, he _ _ (by rw [hs]; exact g2), g3, fun k hk => ?_⟩
    rw [List.length_append, E0.1, E1.1] at hk
    rw [g4 k hk, List.flatMap_append]
    simp
  -- what a new object is
  have newob : ∀ cap' cells vl0 (l0 : List D), Els w (NX X c bl lb) c.2 bl sz vl0 l0 → l0.length + l.length ≤ cap' → cells.size = cap' * sz → (∀ k, k < (vl0 ++ vl1).length * sz → cells[k]? = ((vl0 ++ vl1).flatMap fun v => v.cells.toList)[k]?) →
      RelC X (apply c (some d) (.rs c.2.length ((ty + 1) * tagB) sz 0 (l0.length + l.length) false, none, some (c.2 ++ [.cells false sz ((ty + 1) * tagB) 0 false (l0 ++ l)]))) (a.put (some d) (.slice (some ⟨w.heap.size, 0, none⟩) (l0.length + l.length) cap')) (w.drew.alloc (.cells cells ty)) := by
    intro cap' cells vl0 l0 E0 hle hsz hcells
    have A := drewAl w (.cells cells ty)
    have E := (new_ext C.heap A (.cells false sz ((ty + 1) * tagB) 0 false (l0 ++ l))).ext (L := X.LL c.1.b lb)
    have hAs := A.size
    have C' := C.objNew (ob := .cells false sz ((ty + 1) * tagB) 0 false (l0 ++ l)) A ⟨cells, ty, 0, 0, A.new, fun _ _ _ => by omega, ⟨by rw [hsz, List.length_append]; exact Nat.mul_le_mul_right sz hle, tag_mul⟩,
      els_ob hpos ((E0.append E1).ext E (by omega)) cells hcells⟩
    rw [apply_heap]
    refine ⟨_, _, C'.put (fun d' e' => by cases e'; exact hdn) fun _ => Rep.slot _ _ ?_⟩
    refine .rs _ _ _ _ _ _ _ _ (by simp) (by rw [at_append_self]; exact Nat.le_refl _) (by omega) (by simp) fun _ => ⟨fun _ => by simp, cells, ty, (0, 0), by simp only [↓reduceIte]; exact A.new, by simp [hsz]⟩
  unfold appendTD at hr
  split at hr
  · simp at hr
  · rename_i hmost
    have hml : l.length ≤ 4194304 := by unfold most at hmost; omega
    split at hr
    · rename_i hs
      rw [hs] at rs
      have hy : a.eval s = .slice none 0 0 := by
        generalize a.eval s = y at rs
        cases (show Rep w (NX X c bl lb) c.2 bl y .nils from rs)
        rfl
      cases hem : l.isEmpty
      · simp only [hem, Bool.false_eq_true, if_false, Option.some.injEq] at hr
        subst hr
        have hne : l ≠ [] := by intro e; subst e; simp at hem
        have hlp : 0 < l.length := List.length_pos_iff.2 hne
        obtain ⟨cap', cells, g1, g2, g3, g4⟩ := fresh none 0 [] [] hy hne (by simp; omega) (by simp; omega) ⟨rfl, fun i u y h => by simp at h⟩ (fun i u h => by simp at h)
        refine wp_val g2 (hK _ _ ?_)
        rw [hdst]
        have := newob cap' cells [] [] ⟨rfl, fun i u y h => by simp at h⟩ g1 g3 g4
        simpa using this
      · simp only [hem, if_true, Option.some.injEq] at hr
        subst hr
        have hnil : l = [] := by simpa using hem
        refine wp_val (nop none 0 0 hnil hy (Nat.le_refl _)) (hK _ _ ?_)
        rw [hdst]
        exact ⟨_, _, C.put (fun d' e' => by cases e'; exact hdn) fun _ => Rep.slot _ _ .nils⟩
    · rename_i id ver sz' off len full hs
      rw [hs] at rs
      split at hr
      · rename_i sz'' ver' mod fr elems hob
        split at hr
        · rename_i hcon
          obtain ⟨rfl, rfl, rfl, hoff, hel⟩ := hcon
          have hls : listD c.2 sz' (.rs id ver' sz' off len full) = some ((elems.drop off).take len) := by simp [listD, hob, hoff]
          have hll : ((elems.drop off).take len).length = len := by simp; omega
          obtain ⟨p, cap, vl0, e1, e2, e3, e4, e5⟩ := slice_els C.heap (show RR X c bl lb w (a.eval s) (.rs id ver' sz' off len full) from rs) hls
          rw [hll] at e1 e2
          have hmo : elems.length ≤ 4194304 := by unfold most at hel; exact hel
          cases hem : l.isEmpty
          · simp only [hem, Bool.false_eq_true, if_false] at hr
            have hne : l ≠ [] := by intro e; subst e; simp at hem
            have hlp : 0 < l.length := List.length_pos_iff.2 hne
            · split at hr
              · rename_i hcon2
                obtain ⟨hfu, rfl, rfl, hv1, hv2⟩ := hcon2
                simp only [Option.some.injEq] at hr
                subst hr
                have hid : id < c.2.length ∧ ((cap ≠ 0 → p = some ⟨bl id, 0, none⟩) ∧ ∃ c0 e0 f0, w.heap[bl id]? = some (.cells c0 e0 f0) ∧ cap * sz' ≤ c0.size) := by
                  rw [e1] at rs
                  cases (show Rep w (NX X c bl lb) c.2 bl (.slice p len cap) (.rs id ver' sz' 0 len full) from rs) with
                  | rs _ _ _ _ _ _ p' _ hid hv hc' hf' ha =>
                    obtain ⟨k1, c0, e0, f0, k2, k3⟩ := ha (by rw [hob]; rfl)
                    exact ⟨hid, fun h => by rw [k1 h]; simp, c0, e0, f0, k2, by simpa using k3⟩
                obtain ⟨hid, hp, c0, e0, ⟨lo, hi⟩, hc0, hroom⟩ := hid
                have hO := C.heap.obj id hid
                rw [hob] at hO
                obtain ⟨cur, e1', lo', hi', hcur, hfro0, ⟨hcsz, htag⟩, _⟩ := hO
                have hfro := hfro0 rfl
                rw [hc0] at hcur
                simp only [Option.some.injEq, Obj.cells.injEq, Prod.mk.injEq] at hcur
                obtain ⟨rfl, rfl, rfl, rfl⟩ := hcur
                by_cases hrm : len + l.length ≤ cap
                · have hpq := hp (by omega)
                  subst hpq
                  have hmul := Nat.mul_le_mul_right sz' hrm
                  rw [Nat.add_mul] at hmul
                  have hnl : (vl1.flatMap fun v => v.cells.toList).length = l.length * sz' := by rw [hfl1, E1.1]
                  obtain ⟨w', hst, W⟩ := storeCells_run (P := P) (len * sz') (vl1.flatMap fun v => v.cells.toList) 0 c0 w hc0 hfro (by omega) E1.one
                  have happ := append_room (P := P) (ty := o.type) (sLen := len) (sCap := cap) (p := some ⟨bl id, 0, none⟩) (w' := w') ht hlen (hfirst w rfl) hrm (by
                    simp only [Addr.add_mid, Nat.zero_add]; exact hst)
                  have E := upd_ext (w' := w') C.heap hid (by rw [hob]; rfl) (.cells false sz' (ver' + 1) (mod + 1) false (elems.take len ++ l)) (bl id) W.os W.tape W.output (Nat.le_of_eq W.size.symm) (fun k _ hk => W.same k hk) (.inl rfl)
                    (.inl (by rw [hob]; exact Nat.lt_succ_self _)) (by rw [hob]; exact Nat.lt_succ_self _) (by rw [hob]; simp [Ob.isMap])
                  have hps : (putA c0 (len * sz' + 0) (vl1.flatMap fun v => v.cells.toList)).size = c0.size := putA_size _ _ _ (by omega)
                  have H' := C.heap.upd C.bound hid E (fun k _ hk => W.same k hk) (.inl rfl) (by
                    refine ⟨_, e0, lo, hi, W.new, fun _ => by rw [hps]; exact hfro, ⟨?_, fun g => by
                        have := htag (by rw [hv1]; omega)
                        rw [hv2]; rw [hv1] at this
                        exact ⟨this.1, fun h => by cases h⟩⟩, ?_⟩
                    · rw [hps, List.length_append]
                      have : (elems.take len).length = len := by simp; omega
                      rw [this, Nat.add_mul]; omega
                    · refine els_ob hpos (Els.ext (E.ext (L := X.LL c.1.b lb)) (Nat.le_of_eq W.size.symm) (by have := e4.append E1; simpa using this)) _ fun k hk => ?_
                      rw [List.length_append, e4.1, hll, E1.1, Nat.add_mul] at hk
                      have hf0 := flat_len e4.sizes
                      rw [e4.1, hll] at hf0
                      rw [putA_get _ _ _ (by omega), List.flatMap_append]
                      by_cases hk2 : k < len * sz'
                      · rw [if_neg (by omega), List.getElem?_append_left (by omega), Great.flat_get hpos vl0 e4.sizes]
                        have hi : k / sz' < vl0.length := by rw [e4.1, hll]; exact (Nat.div_lt_iff_lt_mul hpos).2 hk2
                        rw [List.getElem?_eq_getElem hi]
                        obtain ⟨q, q1, q2, q3⟩ := e5 _ _ (List.getElem?_eq_getElem hi)
                        simp at q1; subst q1
                        have hsz0 := e4.sizes _ (List.getElem_mem hi)
                        have hj : k % sz' < (vl0[k / sz'].cells).size := by rw [hsz0]; exact Nat.mod_lt _ hpos
                        have := q3 (k % sz') _ (Array.getElem?_eq_getElem hj)
                        rw [cell_of_row _ _ _ _ _ _ hc0] at this
                        simp only [Nat.zero_add] at this
                        rw [show k / sz' * sz' + k % sz' = k by have := Nat.div_add_mod k sz'; rw [Nat.mul_comm] at this; exact this] at this
                        rw [this]
                        simp [hj]
                      · rw [if_pos (by omega), List.getElem?_append_right (by omega), hf0]
                        rfl)
                  rw [upd_same] at E H'
                  refine wp_val (he _ _ (by rw [e1]; exact happ)) (hK _ _ ?_)
                  rw [hdst, apply_heap]
                  refine ⟨bl, lb, (C.go E H').put (fun d' e' => by cases e'; exact hdn) fun _ => Rep.slot _ _ ?_⟩
                  refine .rs _ _ _ _ _ _ _ _ (by simpa using hid) (by rw [at_set _ _ _ _ hid, if_pos rfl]; exact Nat.le_refl _) hrm (by simp) fun _ => ⟨fun _ => by simp, _, e0, (lo, hi), W.new, by rw [hps]; simpa using hroom⟩
                · obtain ⟨cap', cells, g1, g2, g3, g4⟩ := fresh p cap vl0 ((elems.drop 0).take len) (by rw [hll]; exact e1) hne (by rw [hll]; exact hrm) (by rw [hll]; omega) e4 e5
                  rw [hll] at g1 g2
                  have A := drewAl w (.cells cells ty)
                  have hAs := A.size
                  have E := upd_ext (w' := w.drew.alloc (.cells cells ty)) C.heap hid (by rw [hob]; rfl) (.cells false sz' (ver' + 1) (mod + 1) false (elems.take len ++ l)) w.heap.size A.os A.tape A.output (by omega) (fun k hk _ => A.same k hk) (.inr (Nat.le_refl _))
                    (.inl (by rw [hob]; exact Nat.lt_succ_self _)) (by rw [hob]; exact Nat.lt_succ_self _) (by rw [hob]; simp [Ob.isMap])
                  have H' := C.heap.upd C.bound hid E (fun k hk _ => A.same k hk) (.inr (Nat.le_refl _)) (by
                    refine ⟨cells, ty, 0, 0, A.new, fun _ _ _ => by omega, ⟨?_, fun _ => ⟨hv2.symm, fun h => by cases h⟩⟩, els_ob hpos (Els.ext (E.ext (L := X.LL c.1.b lb)) (by omega) (by have := e4.append E1; simpa using this)) cells g4⟩
                    rw [g3, List.length_append]
                    have : (elems.take len).length = len := by simp; omega
                    rw [this]; exact Nat.mul_le_mul_right _ g1)
                  refine wp_val g2 (hK _ _ ?_)
                  rw [hdst, apply_heap]
                  refine ⟨_, lb, (C.go E H').put (fun d' e' => by cases e'; exact hdn) fun _ => Rep.slot _ _ ?_⟩
                  refine .rs _ _ _ _ _ _ _ _ (by simpa using hid) (by rw [at_set _ _ _ _ hid, if_pos rfl]; exact Nat.le_refl _) g1 (by simp) fun _ => ⟨fun _ => by simp, cells, ty, (0, 0), by simp only [↓reduceIte]; exact A.new, by rw [g3]; simp⟩
              · simp at hr
          · simp only [hem, if_true, Option.some.injEq] at hr
            subst hr
            have hnil : l = [] := by simpa using hem
            refine wp_val (nop _ _ _ hnil e1 e2) (hK _ _ ?_)
            rw [hdst, hs]
            refine ⟨_, _, C.put (fun d' e' => by cases e'; exact hdn) fun _ => ?_⟩
            rw [e1] at rs; exact rs
        · simp at hr
      · simp at hr
    · simp at hr

theorem sim_boxT (C : CR X c bl lb a w) {o : Oper} {e : TypeId} {v : Value} {x : D} {d n : Nat} (hrun : (execOp a.eval o).run P w = .ok (.value (.pointer (some ⟨w.heap.size, 0, none⟩))) (w.alloc (.cells v.cells e)))
    (hdst : o.dst = some d) (hd : d < X.n) (hv : SR X c bl lb w v x) (hf : x.fits (some n) = true) {K : Act → World → Prop} {Q : Exit → Act → World → Prop}
    (hK : ∀ a' w', RelC X (apply c (some d) (.hp c.2.length ((e + 1) * tagB) n 0 0, none, some (c.2 ++ [.cells true n ((e + 1) * tagB) 0 false [x]]))) a' w' → K a' w') : o.wp P a w K Q := by
  obtain ⟨h1, h2, h3⟩ := fits_all hv hf
  obtain ⟨_, hs, hc⟩ := sr_cells hv h1
  have A := alloc_al w (.cells v.cells e)
  have E := (new_ext C.heap A (.cells true n ((e + 1) * tagB) 0 false [x])).ext (L := X.LL c.1.b lb)
  have hsz := A.size
  have h2' : x.cells.length = n := h2
  have C' := C.objNew (ob := .cells true n ((e + 1) * tagB) 0 false [x]) A (by
    refine ⟨v.cells, e, 0, 0, A.new, fun _ _ _ => by omega, ⟨by simp [hs, h2'], fun _ => ⟨(tagOf_mul e).symm, fun _ => by simp [hs, h2']⟩⟩, fun i y hy => ?_⟩
    cases i with
    | succ i => simp at hy
    | zero =>
      simp at hy; subst hy
      exact ⟨h2', h3, by simp, fun j u hu => by have := (hc j u hu).ext E (by omega); simpa using this⟩)
  refine wp_val hrun (hK _ _ ?_)
  rw [hdst, apply_heap]
  refine ⟨_, _, C'.put (fun d' e' => by cases e'; exact hd) fun _ => Rep.slot _ _ ?_⟩
  refine .hp _ _ _ _ _ _ (by simp) (by rw [at_append_self]; exact Nat.le_refl _) fun _ => ?_
  simp

end Go.Nt
