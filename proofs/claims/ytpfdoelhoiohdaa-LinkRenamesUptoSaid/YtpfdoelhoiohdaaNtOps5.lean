/-
  FREEING A DATUM OF THE HEAP, AND STORES THROUGH POINTERS INTO THE HEAP, against the model.
  No condition: lemmas.
-/
import Derived.Test.YtpfdoelhoiohdaaNtOps4
namespace Go.Nt

variable {P : Program} {X : Cx} {c : Cfg} {bl : Bl} {lb : Nat → Nat} {a : Act} {w : World}

theorem upd_same (bl : Bl) (id : Nat) : (fun i => if i = id then bl id else bl i) = bl := by
  funext i; split <;> simp_all

/-- What freeing keeps. -/
structure Freed (w : World) (L : Nat → Prop) (st : St) (bl : Bl) (st' : St) : Prop where
  heap : HRel w L st' bl
  evo : Evo w st bl w st' bl

theorem Freed.refl {L : Nat → Prop} {st : St} (H : HRel w L st bl) : Freed w L st bl st := ⟨H, .refl _ _ _⟩
theorem Freed.trans {L : Nat → Prop} {st st' st'' : St} (h : Freed w L st bl st') (k : Freed w L st' bl st'') : Freed w L st bl st'' := ⟨k.heap, h.evo.trans k.evo⟩
theorem Freed.rep {L : Nat → Prop} {st st' : St} (h : Freed w L st bl st') {v : Value} {d : D} (r : Rep w (NN L st bl) st bl v d) : Rep w (NN L st' bl) st' bl v d := r.ext (h.evo.ext (L := L)) (Nat.le_refl _)

def FZ (h : St → D → Option (D × St)) : Prop := ∀ (w : World) (L : Nat → Prop) (st : St) (bl : Bl) (v : Value) (d d' : D) (st' : St), HRel w L st bl → (∀ b, L b → b < w.heap.size) → Rep w (NN L st bl) st bl v d → h st d = some (d', st') →
  Freed w L st bl st' ∧ Rep w (NN L st' bl) st' bl v d' ∧ (d.cell = true → d'.cell = true) ∧ (d.okv = true → d'.okv = true) ∧ d'.cells.length = d.cells.length

theorem ob_elem {N : Nat → Prop} {st : St} {b : Nat} {box : Bool} {sz v m : Nat} {fr : Bool} {elems : List D} (h : ObRel w N st bl b (.cells box sz v m fr elems)) {i : Nat} {d : D} (hd : elems[i]? = some d) :
    ∃ u, Rep w N st bl u d ∧ ∀ (j : Nat) (x : Value), u.cells[j]? = some x → w.cell? ⟨b, i * sz + j, none⟩ = some x := by
  obtain ⟨h1, h2, _, h4⟩ := ob_cells h hd
  have hf : part d.cells 0 (match d with | .agg cs => some cs.length | _ => none) = some d := by
    cases d <;> first | (simp [part, D.cells]; done) | rfl
  obtain ⟨u, _, hr, hm⟩ := part_run (P := default) h4 hf
  exact ⟨u, hr, hm⟩

theorem fz0_ok : FZ fz0 := by
  intro w L st bl v d d' st' H hL hr hf
  unfold fz0 at hf
  split at hf
  · rename_i id ver sz off len full
    split at hf
    · rename_i sz' ver' mod fr elems hob
      split at hf
      · rename_i hc
        obtain ⟨rfl, rfl, hle⟩ := hc
        simp only [Option.some.injEq, Prod.mk.injEq] at hf
        obtain ⟨rfl, rfl⟩ := hf
        cases hr with
        | rs _ _ _ _ _ _ p cap hid hv hcap hfull ha =>
          obtain ⟨ha1, _⟩ := ha (by rw [hob]; rfl)
          have hO := H.obj id hid
          rw [hob] at hO
          have F : Freed w L st bl (if fr = true then st else List.set st id (.cells false sz' ver' (mod + 1) true elems)) := by
            cases fr
            · simp only [Bool.false_eq_true, if_false]
              have E := upd_ext (w' := w) H hid (by rw [hob]; rfl) (.cells false sz' ver' (mod + 1) true elems) (bl id) rfl rfl rfl (Nat.le_refl _) (fun _ _ _ => rfl) (.inl rfl)
                (.inr ⟨by rw [hob]; rfl, rfl, .refl _ _⟩) (by rw [hob]; exact Nat.lt_succ_self _) (by rw [hob]; simp [Ob.isMap])
              have H' := H.upd hL hid E (fun _ _ _ => rfl) (.inl rfl) (by
                have := hO.ext (E.ext (L := L)) (Nat.le_refl _) rfl
                obtain ⟨cs, e, lo, hi, k1, _, k3, k4⟩ := this
                exact ⟨cs, e, lo, hi, k1, fun (h : true = false) => (by simp at h), k3, k4⟩)
              rw [upd_same] at E H'
              exact ⟨H', E⟩
            · simp only [if_true]; exact .refl H
          have hnl : ¬ NN L (if fr = true then st else List.set st id (.cells false sz' ver' (mod + 1) true elems)) bl (bl id) := by
            rintro (g | ⟨j, hj, hl, hb⟩)
            · exact H.out id hid g
            · have hj' : j < st.length := by cases fr <;> simpa using hj
              have := H.inj j id hj' hid hb
              subst this
              cases fr
              · simp only [Bool.false_eq_true, if_false] at hl
                rw [at_set _ _ _ _ hid] at hl
                simp [Ob.live] at hl
              · simp only [if_true] at hl
                rw [hob] at hl
                simp [Ob.live] at hl
          have hO' := F.heap.obj id (by cases fr <;> simpa using hid)
          have hat : ∃ m' f', St.at (if fr = true then st else List.set st id (.cells false sz' ver' (mod + 1) true elems)) id = .cells false sz' ver' m' f' elems := by
            cases fr
            · exact ⟨mod + 1, true, by simp only [Bool.false_eq_true, if_false]; rw [at_set _ _ _ _ hid, if_pos rfl]⟩
            · exact ⟨mod, true, by simp only [if_true]; exact hob⟩
          obtain ⟨m', f', hat⟩ := hat
          rw [hat] at hO'
          refine ⟨F, ?_, fun _ => rfl, fun _ => rfl, rfl⟩
          have hll : ((elems.drop off).take len).length = len := by simp; omega
          have hget : ∀ (i : Nat) (d : D), ((elems.drop off).take len)[i]? = some d → elems[off + i]? = some d := by
            intro i d hd
            rw [List.getElem?_take] at hd
            split at hd
            · rw [List.getElem?_drop] at hd; exact hd
            · simp at hd
          have hne : (elems.drop off).take len ≠ [] → p = ⟨bl id, off * sz', none⟩ := by
            intro hn
            refine ha1 fun hz => hn ?_
            apply List.eq_nil_of_length_eq_zero; omega
          generalize hst1 : (if fr = true then st else List.set st id (.cells false sz' ver' (mod + 1) true elems)) = st1 at *
          have hch : ∀ i : Nat, ∃ u, ∀ d, elems[off + i]? = some d → Rep w (NN L st1 bl) st1 bl u d ∧ ∀ (j : Nat) (x : Value), u.cells[j]? = some x → w.cell? ⟨bl id, (off + i) * sz' + j, none⟩ = some x := by
            intro i
            cases he : elems[off + i]? with
            | none => exact ⟨undef, fun d hd => by simp at hd⟩
            | some d =>
              obtain ⟨u, h1, h2⟩ := ob_elem hO' he
              exact ⟨u, fun d' hd => by simp at hd; subst hd; exact ⟨h1, h2⟩⟩
          have key := Rep.sl (w := w) (N := NN L st1 bl) (st := st1) (bl := bl) sz' full ((elems.drop off).take len) p cap (fun i => (hch i).choose) (by omega) (fun e => by rw [hll]; exact hfull e) (fun hn => by rw [hne hn])
            (fun i d hd => by
              obtain ⟨h1, h2, h3, _⟩ := ob_cells hO' (hget i d hd)
              exact ⟨h3 rfl, h1⟩)
            (fun i d hd => by
              have := (hch i).choose_spec d (hget i d hd)
              have hn : (elems.drop off).take len ≠ [] := fun e => by rw [e] at hd; simp at hd
              rw [hne hn]
              refine ⟨hnl, H.lt hid, fun j x hx => ?_⟩
              have := this.2 j x hx
              rw [Nat.add_mul] at this
              exact this)
            (fun i d hd => ((hch i).choose_spec d (hget i d hd)).1)
          rw [hll] at key
          exact key
      · simp at hf
    · simp at hf
  · simp at hf
  · simp at hf
  · simp at hf
  · simp only [Option.some.injEq, Prod.mk.injEq] at hf
    obtain ⟨rfl, rfl⟩ := hf
    exact ⟨.refl H, hr, id, id, rfl⟩

theorem fzL_ok {h : St → D → Option (D × St)} (hh : FZ h) (w : World) (L : Nat → Prop) (bl : Bl) (hL : ∀ b, L b → b < w.heap.size) : ∀ (ds : List D) (st : St) (vs : Nat → Value) (ds' : List D) (st' : St), HRel w L st bl →
    (∀ (i : Nat) (d : D), ds[i]? = some d → Rep w (NN L st bl) st bl (vs i) d) → fzL h st ds = some (ds', st') →
    Freed w L st bl st' ∧ ds'.length = ds.length ∧ ∀ (i : Nat) (d d' : D), ds[i]? = some d → ds'[i]? = some d' → Rep w (NN L st' bl) st' bl (vs i) d' ∧ (d.cell = true → d'.cell = true) ∧ (d.okv = true → d'.okv = true) ∧ d'.cells.length = d.cells.length
  | [], st, vs, ds', st', H, _, hf => by
    simp only [fzL, Option.some.injEq, Prod.mk.injEq] at hf
    obtain ⟨rfl, rfl⟩ := hf
    exact ⟨.refl H, rfl, fun i d d' hd => by simp at hd⟩
  | d :: ds, st, vs, ds', st', H, hr, hf => by
    simp only [fzL] at hf
    cases h1 : h st d with
    | none => simp [h1] at hf
    | some r =>
      obtain ⟨e, st1⟩ := r
      simp only [h1, Option.bind_some] at hf
      cases h2 : fzL h st1 ds with
      | none => simp [h2] at hf
      | some q =>
        obtain ⟨es, st2⟩ := q
        simp only [h2, Option.bind_some, Option.some.injEq, Prod.mk.injEq] at hf
        obtain ⟨rfl, rfl⟩ := hf
        obtain ⟨F1, r1, r2, r3, r4⟩ := hh w L st bl (vs 0) d e st1 H hL (hr 0 d rfl) h1
        obtain ⟨F2, hl, k⟩ := fzL_ok hh w L bl hL ds st1 (fun i => vs (i + 1)) es st2 F1.heap (fun i d hd => F1.rep (hr (i + 1) d hd)) h2
        refine ⟨F1.trans F2, by simp [hl], fun i d0 d' hd hd' => ?_⟩
        cases i with
        | zero => simp at hd hd'; subst hd; subst hd'; exact ⟨F2.rep r1, r2, r3, r4⟩
        | succ i => exact k i d0 d' (by simpa using hd) (by simpa using hd')

theorem fz1_ok : FZ fz1 := by
  intro w L st bl v d d' st' H hL hr hf
  unfold fz1 at hf
  split at hf
  · rename_i cs
    cases h1 : fzL fz0 st cs with
    | none => simp [h1] at hf
    | some r =>
      obtain ⟨es, st1⟩ := r
      simp only [h1, Option.bind_some, Option.some.injEq, Prod.mk.injEq] at hf
      obtain ⟨rfl, rfl⟩ := hf
      cases hr with
      | agg vs _ hl hc hrep =>
        obtain ⟨F, hlen, k⟩ := fzL_ok fz0_ok w L bl hL cs st (fun i => vs.getD i undef) es st1 H (fun i d hd => by
          have hi : i < vs.size := by rw [hl]; exact (List.getElem?_eq_some_iff.1 hd).1
          exact hrep i _ d (by simp [hi]) hd) h1
        have hget : ∀ (i : Nat) (d' : D), es[i]? = some d' → ∃ d, cs[i]? = some d := fun i d' hd' => ⟨cs[i]'(by rw [← hlen]; exact (List.getElem?_eq_some_iff.1 hd').1), by simp⟩
        refine ⟨F, .agg vs es (by omega) (fun i d' hd' => ?_) (fun i u d' hu hd' => ?_), fun hx => by simp [D.cell] at hx, fun _ => rfl, by simp [D.cells, hlen]⟩
        · obtain ⟨d, hd⟩ := hget i d' hd'
          exact (k i d d' hd hd').2.1 (hc i d hd)
        · obtain ⟨d, hd⟩ := hget i d' hd'
          have := (k i d d' hd hd').1
          simpa [Array.getD_eq_getD_getElem?, hu] using this
  · exact fz0_ok w L st bl v d d' st' H hL hr hf

theorem fz_ok : FZ fz := by
  intro w L st bl v d d' st' H hL hr hf
  unfold fz at hf
  split at hf
  · rename_i cs
    cases h1 : fzL fz1 st cs with
    | none => simp [h1] at hf
    | some r =>
      obtain ⟨es, st1⟩ := r
      simp only [h1, Option.bind_some, Option.some.injEq, Prod.mk.injEq] at hf
      obtain ⟨rfl, rfl⟩ := hf
      cases hr with
      | tup vs _ hl hrep =>
        obtain ⟨F, hlen, k⟩ := fzL_ok fz1_ok w L bl hL cs st (fun i => vs.getD i undef) es st1 H (fun i d hd => by
          have hi : i < vs.size := by rw [hl]; exact (List.getElem?_eq_some_iff.1 hd).1
          exact hrep i _ d (by simp [hi]) hd) h1
        refine ⟨F, .tup vs es (by omega) (fun i u d' hu hd' => ?_), fun hx => by simp [D.cell] at hx, fun hx => by simp [D.okv] at hx, rfl⟩
        have hd : ∃ d, cs[i]? = some d := ⟨cs[i]'(by rw [← hlen]; exact (List.getElem?_eq_some_iff.1 hd').1), by simp⟩
        obtain ⟨d, hd⟩ := hd
        have := (k i d d' hd hd').1
        simpa [Array.getD_eq_getD_getElem?, hu] using this
  · exact fz1_ok w L st bl v d d' st' H hL hr hf

end Go.Nt
