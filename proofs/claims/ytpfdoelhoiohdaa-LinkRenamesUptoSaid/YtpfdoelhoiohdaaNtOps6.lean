/-
  STORES THROUGH POINTERS INTO THE HEAP; built values; slices' literals; append.
  No condition: lemmas.
-/
import Derived.Test.YtpfdoelhoiohdaaNtOps5
namespace Go.Nt

variable {P : Program} {X : Cx} {c : Cfg} {bl : Bl} {lb : Nat → Nat} {a : Act} {w : World}

theorem pure_cells {d x : D} (h : d.pure = true) (hx : x ∈ d.cells) : x.pure1 = true := by
  by_cases hd : ∃ cs, d = .agg cs
  · obtain ⟨cs, rfl⟩ := hd
    exact List.all_eq_true.1 h x hx
  · have : d.cells = [d] := by cases d <;> first | rfl | exact absurd ⟨_, rfl⟩ hd
    rw [this] at hx
    simp at hx; subst hx
    cases x <;> first | exact h | exact absurd ⟨_, rfl⟩ hd

theorem rewrap_ok {d d' : D} {cs : List D} (h : rewrap d cs = some d') (hc : ∀ x ∈ cs, x.cell = true) : d'.cells = cs ∧ d'.okv = true ∧ ((∀ x ∈ cs, x.pure1 = true) → d'.pure = true) := by
  unfold rewrap at h
  split at h
  · simp at h; subst h; exact ⟨rfl, rfl, fun hp => by simpa [D.pure] using hp⟩
  · split at h
    · rename_i x
      simp at h; subst h
      have hx := hc x (by simp)
      refine ⟨cell_cells hx, ?_, fun hp => D.p1 (hp x (by simp))⟩
      cases x <;> first | rfl | (simp [D.cell] at hx; done)
    · simp at h

theorem rep_okv {N : Nat → Prop} {st : St} {v : Value} {d : D} (h : Rep w N st bl v d) (ho : d.okv = true) : d.cells.all D.okv = true := by
  by_cases hg : ∃ cs, d = .agg cs
  · obtain ⟨cs, rfl⟩ := hg
    cases h with
    | agg cs ds hl hc h =>
      simp only [D.cells, List.all_eq_true]
      intro y hy
      obtain ⟨i, hi⟩ := List.getElem?_of_mem hy
      have := hc i y hi
      cases y <;> first | rfl | (simp [D.cell] at this; done)
  · rw [(h.cells_one (fun cs e => hg ⟨cs, e⟩)).2]; simp [ho]

theorem rep_crep {N : Nat → Prop} {st : St} {v : Value} {d : D} (h : Rep w N st bl v d) (ho : d.okv = true) : ∀ (j : Nat) (x : D), d.cells[j]? = some x → CRep w N st bl v.cells j x := by
  intro j x hx
  have hj : j < v.cells.size := by rw [h.cells_size]; exact (List.getElem?_eq_some_iff.1 hx).1
  refine ⟨?_, v.cells[j], by simp [hj], h.cells (by simp [hj]) hx⟩
  by_cases hg : ∃ cs, d = .agg cs
  · obtain ⟨cs, rfl⟩ := hg
    cases h with
    | agg cs ds hl hc h => exact hc j x hx
  · have h2 := (h.cells_one (fun cs e => hg ⟨cs, e⟩)).2
    rw [h2] at hx
    cases j with
    | zero =>
      simp at hx; subst hx
      cases d <;> first | rfl | exact absurd ⟨_, rfl⟩ hg | (simp [D.okv] at ho; done)
    | succ j => simp at hx

theorem rep_one {N : Nat → Prop} {st : St} {v : Value} {d : D} (h : Rep w N st bl v d) (ho : d.okv = true) : ∀ u ∈ v.cells.toList, u.oneCell' = true := by
  intro u hu
  obtain ⟨j, hj⟩ := List.getElem?_of_mem hu
  rw [Array.getElem?_toList] at hj
  have hj' : j < d.cells.length := by rw [← h.cells_size]; exact (Array.getElem?_eq_some_iff.1 hj).1
  obtain ⟨h3, v', h4, h5⟩ := rep_crep h ho j _ (List.getElem?_eq_getElem hj')
  rw [hj] at h4
  simp at h4; subst h4
  exact cell_one h5 h3

/-- An object's element is written in place. -/
theorem store_ob {L : Nat → Prop} {st : St} {t : TypeId} {id ver sz idx off mod n : Nat} {box : Bool} {elems cs : List D} {d d' x : D} {v : Value}
    (H : HRel w L st bl) (hL : ∀ b, L b → b < w.heap.size) (hid : id < st.length) (hob : St.at st id = .cells box sz ver mod false elems) (he : elems[idx]? = some d) (hsp : splice d.cells off x.cells = some cs) (hrw : rewrap d cs = some d')
    (hs : sizeOK P t n = true) (hn : x.cells.length = n) (hr : Rep w (NN L st bl) st bl v x) (ho : x.okv = true) (hp : box = false → x.pure = true) :
    ∃ w', (storeVar t ⟨bl id, idx * sz + off, none⟩ v).run P w = .ok () w' ∧ HRel w' L (List.set st id (.cells box sz ver (mod + 1) false (elems.set idx d'))) bl ∧
      Evo w st bl w' (List.set st id (.cells box sz ver (mod + 1) false (elems.set idx d'))) bl := by
  have hO := H.obj id hid
  rw [hob] at hO
  obtain ⟨cur, e, lo, hi, hcur, hfro0, ⟨hlen, htag⟩, hcells⟩ := hO
  have hfro := hfro0 rfl
  obtain ⟨a1, a2, a3, a4⟩ := hcells idx d he
  obtain ⟨hle, hcl, hget⟩ := splice_get hsp
  have hidx : idx < elems.length := (List.getElem?_eq_some_iff.1 he).1
  have hmul : (idx + 1) * sz ≤ elems.length * sz := Nat.mul_le_mul_right sz hidx
  rw [Nat.add_mul, Nat.one_mul] at hmul
  have hvl : v.cells.toList.length = x.cells.length := by simpa using hr.cells_size
  obtain ⟨w', hrun, W⟩ := storeVar_run (P := P) (o := idx * sz + off) hs (by rw [hr.cells_size, hn]) hcur hfro (by omega) (rep_one hr ho)
  have hcs : ∀ y ∈ cs, y.cell = true := by
    intro y hy
    obtain ⟨j, hj⟩ := List.getElem?_of_mem hy
    rw [hget] at hj
    split at hj
    · exact (rep_crep hr ho _ _ hj).1
    · exact (a4 j y hj).1
  obtain ⟨k1, k2, k3⟩ := rewrap_ok hrw hcs
  have E := upd_ext (w' := w') H hid (by rw [hob]; rfl) (.cells box sz ver (mod + 1) false (elems.set idx d')) (bl id) W.os W.tape W.output (Nat.le_of_eq W.size.symm) (fun k _ hk => W.same k hk) (.inl rfl)
    (.inr ⟨by rw [hob]; rfl, rfl, fun c0 e0 f0 hc0 => by
      rw [hcur] at hc0; cases hc0
      exact ⟨_, _, W.new, putA_size _ _ _ (by omega)⟩⟩) (by rw [hob]; exact Nat.lt_succ_self _) (by rw [hob]; simp [Ob.isMap])
  have X := E.ext (L := L)
  refine ⟨w', hrun, ?_⟩
  have H' := H.upd hL hid E (fun k _ hk => W.same k hk) (.inl rfl) (by
    refine ⟨_, e, lo, hi, W.new, fun _ => by rw [putA_size _ _ _ (by omega)]; exact hfro, by rw [putA_size _ _ _ (by omega), List.length_set]; exact ⟨hlen, htag⟩, fun i y hy => ?_⟩
    rw [List.getElem?_set] at hy
    by_cases hi' : idx = i
    · subst hi'
      simp only [if_true, hidx] at hy
      simp at hy; subst hy
      refine ⟨by rw [k1, hcl, a1], k2, fun hb => k3 fun y hy => ?_, fun j u hu => ?_⟩
      · obtain ⟨j, hj⟩ := List.getElem?_of_mem hy
        rw [hget] at hj
        split at hj
        · exact pure_cells (hp hb) (List.mem_of_getElem? hj)
        · exact pure_cells (a3 hb) (List.mem_of_getElem? hj)
      · rw [k1, hget] at hu
        unfold CRep
        rw [putA_get _ _ _ (by omega)]
        split at hu
        · rename_i hj
          rw [if_pos (by omega), Array.getElem?_toList]
          rw [show idx * sz + j - (idx * sz + off) = j - off by omega]
          exact (rep_crep hr ho _ _ hu).ext X (Nat.le_of_eq W.size.symm)
        · rename_i hj
          rw [if_neg (by omega)]
          exact (a4 j u hu).ext X (Nat.le_of_eq W.size.symm)
    · rw [if_neg hi'] at hy
      obtain ⟨b1, b2, b3, b4⟩ := hcells i y hy
      refine ⟨b1, b2, b3, fun j u hu => ?_⟩
      have hj : j < sz := by rw [← b1]; exact (List.getElem?_eq_some_iff.1 hu).1
      unfold CRep
      rw [putA_get _ _ _ (by omega), if_neg ?_]
      · exact (b4 j u hu).ext X (Nat.le_of_eq W.size.symm)
      · rintro ⟨g1, g2⟩
        rcases Nat.lt_or_gt_of_ne hi' with g | g
        · have := Nat.mul_le_mul_right sz g
          rw [Nat.succ_mul] at this
          omega
        · have := Nat.mul_le_mul_right sz g
          rw [Nat.succ_mul] at this
          omega)
  rw [upd_same] at E H'
  exact ⟨H', E⟩

theorem sim_storeH (C : CR X c bl lb a w) {o : Oper} {t : TypeId} {p x : Operand} {p' x' : Opd} {n : Nat} {e : Eff} (ho : o.op = .store t p x) (hdst : o.dst = none) (h1 : opdOK p p' = true) (h2 : opdOK x x' = true)
    (hs : sizeOK P t n = true) (hd : storeD (getB c.1.b) c.2 (p'.ev c.1.s) (x'.ev c.1.s) n none = some e)
    {K : Act → World → Prop} {Q : Exit → Act → World → Prop} (hK : ∀ a' w', RelC X (apply c none e) a' w' → K a' w') : o.wp P a w K Q := by
  unfold storeD at hd
  split at hd
  · rename_i hc
    obtain ⟨hn, hok⟩ := hc
    simp only at hd
    have rx := (opd_rep C h2).okv hok
    have rp := opd_rep C h1
    split at hd
    · rename_i id ver sz idx off hp
      rw [hp] at rp
      generalize hy : a.eval p = y at rp
      cases (show Rep w (NX X c bl lb) c.2 bl y (.hp id ver sz idx off) from rp) with
      | hp _ _ _ _ _ q hid hv ha =>
        have fin : ∀ w', (storeVar t q (a.eval x)).run P w = .ok () w' → (execOp a.eval o).run P w = .ok .skip w' := by
          intro w' hr; simp [execOp, ho, hy, Instr.storeAt, Instr.sureAddr, hr]
        split at hd
        · rename_i sz' ver' mod elems hob
          split at hd
          · rename_i hvs
            obtain ⟨rfl, rfl⟩ := hvs
            cases he : elems[idx]? with
            | none => simp [he] at hd
            | some d =>
              cases hsp : splice d.cells off (x'.ev c.1.s).cells with
              | none => simp [he, hsp] at hd
              | some cs =>
                cases hrw : rewrap d cs with
                | none => simp [he, hsp, hrw] at hd
                | some d' =>
                  simp [he, hsp, hrw] at hd
                  subst hd
                  obtain ⟨w', hrun, H', E⟩ := store_ob (P := P) (t := t) C.heap C.bound hid hob he hsp hrw hs hn rx hok (by simp)
                  rw [← ha (by rw [hob]; rfl)] at hrun
                  refine wp_skp (fin w' hrun) (hK _ _ ?_)
                  rw [hdst]
                  exact ⟨bl, lb, C.go E H'⟩
          · simp at hd
        · rename_i box sz0 ver0 mod0 elems0 hob0
          cases hf : fz1 c.2 (x'.ev c.1.s) with
          | none => simp [hf] at hd
          | some r =>
            obtain ⟨d0, st1⟩ := r
            simp only [hf, Option.bind_some] at hd
            obtain ⟨F, rx', _, ho', hl'⟩ := fz1_ok w _ c.2 bl _ _ _ _ C.heap C.bound rx hf
            split at hd
            · rename_i hpure
              split at hd
              · rename_i sz' ver' mod elems hob
                split at hd
                · rename_i hvs
                  obtain ⟨rfl, rfl⟩ := hvs
                  cases he : elems[idx]? with
                  | none => simp [he] at hd
                  | some d =>
                    cases hsp : splice d.cells off d0.cells with
                    | none => simp [he, hsp] at hd
                    | some cs =>
                      cases hrw : rewrap d cs with
                      | none => simp [he, hsp, hrw] at hd
                      | some d' =>
                        simp [he, hsp, hrw] at hd
                        subst hd
                        have hid' : id < st1.length := Nat.lt_of_lt_of_le hid F.evo.len
                        obtain ⟨w', hrun, H', E⟩ := store_ob (P := P) (t := t) F.heap C.bound hid' hob he hsp hrw hs (by rw [hl', hn]) rx' (ho' hok) (fun _ => hpure)
                        have hq : q = ⟨bl id, idx * sz' + off, none⟩ := by
                          refine ha ?_
                          have := F.evo.ver id hid
                          rw [hob] at this
                          have h3 : (St.at c.2 id).ver ≤ ver' := this.1
                          omega
                        rw [← hq] at hrun
                        refine wp_skp (fin w' hrun) (hK _ _ ?_)
                        rw [hdst]
                        exact ⟨bl, lb, C.go (F.evo.trans E) H'⟩
                · simp at hd
              · simp at hd
            · simp at hd
        · simp at hd
    · simp at hd
  · simp at hd

end Go.Nt
