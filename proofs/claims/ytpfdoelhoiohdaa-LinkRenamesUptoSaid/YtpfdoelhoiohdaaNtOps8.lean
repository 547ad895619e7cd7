/-
  APPEND.
  No condition: lemmas.
-/
import Derived.Test.YtpfdoelhoiohdaaNtOps7
namespace Go.Nt

variable {P : Program} {X : Cx} {c : Cfg} {bl : Bl} {lb : Nat → Nat} {a : Act} {w : World}

theorem pure_okv {d : D} (h : d.pure = true) : d.okv = true := by
  cases d <;> first | rfl | (simp [D.pure, D.pure1, D.pure0] at h; done)

/-- Values that stand for a list's elements, of 'sz' cells each. -/
def Els (w : World) (N : Nat → Prop) (st : St) (bl : Bl) (sz : Nat) (vl : List Value) (l : List D) : Prop :=
  vl.length = l.length ∧ ∀ (i : Nat) (u : Value) (y : D), vl[i]? = some u → l[i]? = some y → Rep w N st bl u y ∧ y.pure = true ∧ y.cells.length = sz

theorem Els.sizes {N : Nat → Prop} {st : St} {sz : Nat} {vl : List Value} {l : List D} (h : Els w N st bl sz vl l) : ∀ v ∈ vl, v.cells.size = sz := by
  intro v hv
  obtain ⟨i, hi⟩ := List.getElem?_of_mem hv
  have hl : i < l.length := by rw [← h.1]; exact (List.getElem?_eq_some_iff.1 hi).1
  obtain ⟨h1, _, h3⟩ := h.2 i v _ hi (List.getElem?_eq_getElem hl)
  rw [h1.cells_size, h3]

theorem Els.one {N : Nat → Prop} {st : St} {sz : Nat} {vl : List Value} {l : List D} (h : Els w N st bl sz vl l) : ∀ u ∈ vl.flatMap (fun v => v.cells.toList), u.oneCell' = true := by
  intro u hu
  obtain ⟨v, hv, hu⟩ := List.mem_flatMap.1 hu
  obtain ⟨i, hi⟩ := List.getElem?_of_mem hv
  have hl : i < l.length := by rw [← h.1]; exact (List.getElem?_eq_some_iff.1 hi).1
  obtain ⟨h1, h2, _⟩ := h.2 i v _ hi (List.getElem?_eq_getElem hl)
  exact rep_one h1 (pure_okv h2) u hu

theorem Els.ext {N N' : Nat → Prop} {st st' : St} {bl' : Bl} {w' : World} {sz : Nat} {vl : List Value} {l : List D} (E : Ext w N st bl w' N' st' bl') (hs : w.heap.size ≤ w'.heap.size) (h : Els w N st bl sz vl l) : Els w' N' st' bl' sz vl l :=
  ⟨h.1, fun i u y hu hy => ⟨(h.2 i u y hu hy).1.ext E hs, (h.2 i u y hu hy).2⟩⟩

theorem Els.append {N : Nat → Prop} {st : St} {sz : Nat} {vl vl' : List Value} {l l' : List D} (h : Els w N st bl sz vl l) (k : Els w N st bl sz vl' l') : Els w N st bl sz (vl ++ vl') (l ++ l') := by
  refine ⟨by simp [h.1, k.1], fun i u y hu hy => ?_⟩
  by_cases hi : i < vl.length
  · rw [List.getElem?_append_left hi] at hu
    rw [List.getElem?_append_left (by rw [← h.1]; exact hi)] at hy
    exact h.2 i u y hu hy
  · rw [List.getElem?_append_right (by omega)] at hu
    rw [List.getElem?_append_right (by rw [← h.1]; omega), ← h.1] at hy
    exact k.2 _ u y hu hy

theorem flat_len {sz : Nat} {vl : List Value} (h : ∀ v ∈ vl, v.cells.size = sz) : (vl.flatMap fun v => v.cells.toList).length = vl.length * sz := by
  induction vl with
  | nil => simp
  | cons v vl ih =>
    simp only [List.flatMap_cons, List.length_append, Array.length_toList, List.length_cons]
    rw [ih (fun u hu => h u (by simp [hu])), h v (by simp), Nat.succ_mul]; omega

/-- An object's cells out of its elements' values. -/
theorem els_ob {N : Nat → Prop} {st : St} {sz : Nat} {vl : List Value} {l : List D} (hs : 0 < sz) (h : Els w N st bl sz vl l) (cells : Array Value) (hc : ∀ k, k < vl.length * sz → cells[k]? = (vl.flatMap fun v => v.cells.toList)[k]?) :
    ∀ (i : Nat) (d : D), l[i]? = some d → d.cells.length = sz ∧ d.okv = true ∧ (false = false → d.pure = true) ∧ ∀ (j : Nat) (x : D), d.cells[j]? = some x → CRep w N st bl cells (i * sz + j) x := by
  intro i d hd
  have hi : i < vl.length := by rw [h.1]; exact (List.getElem?_eq_some_iff.1 hd).1
  obtain ⟨h1, h2, h3⟩ := h.2 i _ d (List.getElem?_eq_getElem hi) hd
  refine ⟨h3, pure_okv h2, fun _ => h2, fun j x hx => ?_⟩
  have hj : j < sz := by rw [← h3]; exact (List.getElem?_eq_some_iff.1 hx).1
  obtain ⟨k1, v, k2, k3⟩ := rep_crep h1 (pure_okv h2) j x hx
  have hlt : i * sz + j < vl.length * sz := by
    have := Nat.mul_le_mul_right sz hi
    rw [Nat.succ_mul] at this; omega
  refine ⟨k1, v, ?_, k3⟩
  rw [hc _ hlt, Great.flat_get hs vl h.sizes]
  have e1 : (i * sz + j) / sz = i := by rw [Nat.mul_comm, Nat.mul_add_div hs, Nat.div_eq_of_lt hj]; omega
  have e2 : (i * sz + j) % sz = j := by rw [Nat.mul_comm, Nat.mul_add_mod, Nat.mod_eq_of_lt hj]
  rw [e1, e2, List.getElem?_eq_getElem hi]
  exact k2

/-- A slice's elements as values, and where they lie. -/
theorem slice_els {L : Nat → Prop} {st : St} {v : Value} {d : D} {sz : Nat} {l : List D} (H : HRel w L st bl) (hr : Rep w (NN L st bl) st bl v d) (hl : listD st sz d = some l) :
    ∃ p cap vl, v = .slice p l.length cap ∧ l.length ≤ cap ∧ (p = none → cap = 0) ∧ Els w (NN L st bl) st bl sz vl l ∧
      ∀ (i : Nat) (u : Value), vl[i]? = some u → ∃ q : Addr, p = some q ∧ q.spot = none ∧ ∀ (j : Nat) (x : Value), u.cells[j]? = some x → w.cell? ⟨q.block, q.off + i * sz + j, none⟩ = some x := by
  unfold listD at hl
  split at hl
  · simp at hl; subst hl
    cases hr
    exact ⟨none, 0, [], rfl, Nat.le_refl _, fun _ => rfl, ⟨rfl, fun i u y h => by simp at h⟩, fun i u h => by simp at h⟩
  · rename_i sz' full ds
    split at hl
    · rename_i he
      simp at hl; subst hl; subst he
      cases hr with
      | sl _ _ _ p cap vs hc hf hs hp hm hrep =>
        refine ⟨some p, cap, (List.range ds.length).map vs, rfl, hc, fun h => by simp at h, ⟨by simp, fun i u y hu hy => ?_⟩, fun i u hu => ?_⟩
        · simp only [List.getElem?_map, Option.map_eq_some_iff] at hu
          obtain ⟨k, hk, rfl⟩ := hu
          obtain ⟨_, hk'⟩ := List.getElem?_eq_some_iff.1 hk
          simp at hk'; subst hk'
          exact ⟨hrep _ _ hy, (hp _ _ hy).1, (hp _ _ hy).2⟩
        · simp only [List.getElem?_map, Option.map_eq_some_iff] at hu
          obtain ⟨k, hk, rfl⟩ := hu
          obtain ⟨hlt, hk'⟩ := List.getElem?_eq_some_iff.1 hk
          simp at hk' hlt; subst hk'
          have hy := List.getElem?_eq_getElem hlt
          exact ⟨p, rfl, hs (fun e => by subst e; simp at hlt), fun j x hx => (hm _ _ hy).2.2 j x hx⟩
    · simp at hl
  · rename_i id ver sz' off len full
    split at hl
    · rename_i sz'' ver' m fr elems hob
      split at hl
      · rename_i hcon
        obtain ⟨rfl, rfl, rfl, hle⟩ := hcon
        simp at hl
        cases hr with
        | rs _ _ _ _ _ _ p cap hid hv hcap hfull ha =>
          obtain ⟨ha1, _⟩ := ha (by rw [hob]; rfl)
          have hO := H.obj id hid
          rw [hob] at hO
          have hll : l.length = len := by subst hl; simp; omega
          have hget : ∀ (i : Nat) (d : D), l[i]? = some d → elems[off + i]? = some d := by
            intro i d hd
            subst hl
            rw [List.getElem?_take] at hd
            split at hd
            · rw [List.getElem?_drop] at hd; exact hd
            · simp at hd
          have hch : ∀ i : Nat, ∃ u, ∀ d, l[i]? = some d → Rep w (NN L st bl) st bl u d ∧ ∀ (j : Nat) (x : Value), u.cells[j]? = some x → w.cell? ⟨bl id, (off + i) * sz'' + j, none⟩ = some x := by
            intro i
            cases he : l[i]? with
            | none => exact ⟨undef, fun d hd => by simp at hd⟩
            | some d =>
              obtain ⟨u, h1, h2⟩ := ob_elem hO (hget i d he)
              exact ⟨u, fun d' hd => by simp at hd; subst hd; exact ⟨h1, h2⟩⟩
          refine ⟨some p, cap, (List.range l.length).map fun i => (hch i).choose, by rw [hll], by omega, fun h => by simp at h, ⟨by simp, fun i u y hu hy => ?_⟩, fun i u hu => ?_⟩
          · simp only [List.getElem?_map, Option.map_eq_some_iff] at hu
            obtain ⟨k, hk, rfl⟩ := hu
            obtain ⟨_, hk'⟩ := List.getElem?_eq_some_iff.1 hk
            simp at hk'; subst hk'
            obtain ⟨h1, h2, h3, _⟩ := ob_cells hO (hget i y hy)
            exact ⟨((hch i).choose_spec y hy).1, h3 rfl, h1⟩
          · simp only [List.getElem?_map, Option.map_eq_some_iff] at hu
            obtain ⟨k, hk, rfl⟩ := hu
            obtain ⟨hlt, hk'⟩ := List.getElem?_eq_some_iff.1 hk
            simp at hk' hlt; subst hk'
            have hy := List.getElem?_eq_getElem hlt
            have hp := ha1 (by omega)
            refine ⟨p, rfl, by rw [hp], fun j x hx => ?_⟩
            have := ((hch i).choose_spec _ hy).2 j x hx
            rw [hp]
            simp only
            rw [← Nat.add_mul]; exact this
      · simp at hl
    · simp at hl
  · simp at hl

theorem firstCells_run {p : Option Addr} {sz cap n : Nat} {vl : List Value} (hs : 0 < sz) (hn : n = vl.length) (hsz : ∀ v ∈ vl, v.cells.size = sz)
    (hm : ∀ (i : Nat) (u : Value), vl[i]? = some u → ∃ q : Addr, p = some q ∧ q.spot = none ∧ ∀ (j : Nat) (x : Value), u.cells[j]? = some x → w.cell? ⟨q.block, q.off + i * sz + j, none⟩ = some x) :
    (Builtin.firstCells sz n (.slice p n cap)).run P w = .ok (vl.flatMap fun v => v.cells.toList).toArray w := by
  subst hn
  cases p with
  | none =>
    cases vl with
    | nil => rfl
    | cons v vl => obtain ⟨q, hq, _⟩ := hm 0 v rfl; simp at hq
  | some q =>
    simp only [Builtin.firstCells]
    have hlen := flat_len hsz
    have := run_loadCells_list (P := P) w q (vl.flatMap fun v => v.cells.toList) (fun j x hx => by
      have hj := (List.getElem?_eq_some_iff.1 hx).1
      rw [hlen] at hj
      rw [Great.flat_get hs vl hsz] at hx
      have hi : j / sz < vl.length := (Nat.div_lt_iff_lt_mul hs).2 hj
      rw [List.getElem?_eq_getElem hi] at hx
      obtain ⟨q', hq', hsp, hc⟩ := hm _ _ (List.getElem?_eq_getElem hi)
      simp at hq'; subst hq'
      have := hc _ x hx
      rw [add_eq q j hsp]
      rw [show q.off + j = q.off + j / sz * sz + j % sz by have := Nat.div_add_mod j sz; rw [Nat.mul_comm] at this; omega]
      exact this)
    rw [hlen] at this
    exact this

theorem growBy_le (n : Nat) : ∀ (r c : Nat), c ≤ n → Builtin.growBy n r c ≤ n + (n + 768) / 4
  | 0, c, h => by simp [Builtin.growBy]; omega
  | r + 1, c, h => by
    simp only [Builtin.growBy]
    split
    · omega
    · by_cases hc : c + (c + 768) / 4 ≤ n
      · exact growBy_le n r _ hc
      · cases r with
        | zero => simp [Builtin.growBy]; omega
        | succ r => simp only [Builtin.growBy]; rw [if_pos (by omega)]; omega

theorem nextcap_le {need cap : Nat} (h : cap < need) : Builtin.nextslicecap need cap ≤ 2 * need + 200 := by
  unfold Builtin.nextslicecap
  split
  · omega
  · split
    · omega
    · have := growBy_le need 4 cap (by omega); omega

def appT (P : Program) (ts : Array TypeId) (sz : Nat) : Bool :=
  (match ts[0]? with | some t => sliceT P t sz | none => false) &&
  (match ts[1]? with | some t => kindOK P t .slice || kindOK P t .str | none => false)

theorem appT_run {ts : Array TypeId} {sz : Nat} (ht : appT P ts sz = true) : ∃ t0 t1 e d1 ie z, ts[0]? = some t0 ∧ ts[1]? = some t1 ∧ P.underlying t0 = some (.slice e) ∧ P.info? e = some ie ∧ ie.size = sz ∧ ie.zero = some z ∧ z.cells.size = sz ∧ 0 < sz ∧ sz ≤ 4096 ∧ ie.bytes ≤ 65536 ∧
    P.underlying t1 = some d1 ∧ ((∃ e', d1 = .slice e') ∨ d1 = .string) := by
  unfold appT at ht
  simp only [Bool.and_eq_true] at ht
  cases h0 : ts[0]? with
  | none => simp [h0] at ht
  | some t0 =>
    cases h1 : ts[1]? with
    | none => simp [h1] at ht
    | some t1 =>
      simp only [h0, h1] at ht
      obtain ⟨ha, hb⟩ := ht
      unfold sliceT at ha
      split at ha
      · rename_i e hu
        simp only [Bool.and_eq_true, decide_eq_true_eq] at ha
        obtain ⟨⟨⟨hs, hz⟩, hp, hle⟩, hby⟩ := ha
        unfold sizeOK at hs
        cases hi : P.info? e with
        | none => simp [hi] at hs
        | some ie =>
          simp [hi] at hs hby
          cases hzz : ie.zero with
          | none => simp [hi, hzz] at hz
          | some z =>
            simp [hi, hzz] at hz
            have hd : ∃ d, P.underlying t1 = some d ∧ ((∃ e', d = .slice e') ∨ d = .string) := by
              simp only [kindOK, Bool.or_eq_true] at hb
              rcases hb with hb | hb <;> (split at hb <;> first | contradiction | exact ⟨_, by assumption, .inl ⟨_, rfl⟩⟩ | exact ⟨_, by assumption, .inr rfl⟩)
            obtain ⟨d1, hd1, hd2⟩ := hd
            exact ⟨t0, t1, e, d1, ie, z, rfl, rfl, hu, hi, hs, hzz, hz, hp, hle, hby, hd1, hd2⟩
      · simp at ha

/-- Appending: the slice has the room. -/
theorem append_room {ts : Array TypeId} {ty : TypeId} {sz sLen sCap n : Nat} {p : Option Addr} {x : Value} {news : Array Value} {w' : World} (ht : appT P ts sz = true) (hx : (Builtin.lenOf x).run P w = .ok n w) (hf : (Builtin.firstCells sz n x).run P w = .ok news w)
    (h : sLen + n ≤ sCap) (hst : ((match p with | some q => storeCells (q.add (sLen * sz)) news.toList | none => pure ()) : Sem Unit).run P w = .ok () w') :
    (Builtin.append_ ts ty #[.slice p sLen sCap, x]).run P w = .ok (.slice p (sLen + n) sCap) w' := by
  obtain ⟨t0, t1, e, d1, ie, z, h0, h1, hu, hi, rfl, hz, hzs, hpos, hle, hby, hd1, hd2⟩ := appT_run ht
  have hsz : (sizeOf e).run P w = .ok ie.size w := by simp [sizeOf, typeInfo, hi]
  simp only [Builtin.append_, h0, h1]
  cases p with
  | none =>
    simp at hst; subst hst
    rcases hd2 with ⟨e', rfl⟩ | rfl <;> simp [run_underlying hu, run_underlying hd1, hsz, hx, h, hf]
  | some q => rcases hd2 with ⟨e', rfl⟩ | rfl <;> simp [run_underlying hu, run_underlying hd1, hsz, hx, h, hf, hst]

/-- Appending: the slice has no room. -/
theorem append_grow {ts : Array TypeId} {ty : TypeId} {sz sLen sCap n : Nat} {p : Option Addr} {x : Value} {olds news : Array Value} (ht : appT P ts sz = true) (hx : (Builtin.lenOf x).run P w = .ok n w)
    (ho : ∀ w', w'.heap = w.heap → (Builtin.firstCells sz sLen (.slice p sLen sCap)).run P w' = .ok olds w') (hf : ∀ w', w'.heap = w.heap → (Builtin.firstCells sz n x).run P w' = .ok news w')
    (h : ¬ sLen + n ≤ sCap) (hl : olds.size = sLen * sz) (hn : news.size = n * sz) (hb : sLen + n ≤ 16777216) :
    ∃ cap e cells, sLen + n ≤ cap ∧ (Builtin.append_ ts ty #[.slice p sLen sCap, x]).run P w = .ok (.slice (some ⟨w.heap.size, 0, none⟩) (sLen + n) cap) (w.drew.alloc (.cells cells e)) ∧ cells.size = cap * sz ∧
      ∀ k, k < (sLen + n) * sz → cells[k]? = (olds ++ news)[k]? := by
  obtain ⟨t0, t1, e, d1, ie, z, h0, h1, hu, hi, rfl, hz, hzs, hpos, hle, hby, hd1, hd2⟩ := appT_run ht
  have hsz : ∀ w', (sizeOf e).run P w' = .ok ie.size w' := fun w' => by simp [sizeOf, typeInfo, hi]
  have hzv : ∀ w', (zeroValue e).run P w' = .ok z w' := fun w' => by simp [zeroValue, typeInfo, hi, hz]
  have hcap := nextcap_le (show sCap < sLen + n by omega)
  have hbig : ¬ (Builtin.nextslicecap (sLen + n) sCap * ie.bytes > 2 ^ 48) := by
    have : Builtin.nextslicecap (sLen + n) sCap * ie.bytes ≤ (2 * 16777216 + 200) * 65536 := Nat.mul_le_mul (by omega) hby
    omega
  refine ⟨(Question.appendCap (sLen + n) sCap e).cut (w.tape w.drawn (.appendCap (sLen + n) sCap e)), e,
    olds ++ news ++ Builtin.zeroCells z.cells ((Question.appendCap (sLen + n) sCap e).cut (w.tape w.drawn (.appendCap (sLen + n) sCap e)) - (sLen + n)), ?_, ?_, ?_, ?_⟩
  · simp only [Question.cut]; omega
  · have e1 := ho w.drew rfl
    have e2 := hf w.drew rfl
    simp only [Builtin.append_, h0, h1]
    rcases hd2 with ⟨e', rfl⟩ | rfl <;> simp [run_underlying hu, run_underlying hd1, hsz, hx, h, typeInfo, hi, hbig, Question.forced, e1, e2, hzv, newRow] <;> (intro hh; omega)
  · simp only [Array.size_append, hl, hn, Builtin.zeroCells, Array.size_map, Array.size_range, hzs]
    rw [← Nat.add_mul, ← Nat.add_mul]
    congr 1
    simp only [Question.cut]; omega
  · intro k hk
    rw [Array.getElem?_append_left (by simp only [Array.size_append, hl, hn]; rw [← Nat.add_mul]; exact hk)]

theorem cell_heap {w w' : World} (h : w'.heap = w.heap) (p : Addr) : w'.cell? p = w.cell? p := by unfold World.cell?; rw [h]

/-- What is appended: a slice's elements, or a string's bytes. -/
theorem src_run {L : Nat → Prop} {st : St} {v : Value} {d : D} {sz : Nat} {l : List D} (hs : 0 < sz) (H : HRel w L st bl) (hr : Rep w (NN L st bl) st bl v d)
    (hl : srcD st sz d = some l) :
    ∃ vl, (Builtin.lenOf v).run P w = .ok l.length w ∧ (∀ w', w'.heap = w.heap → (Builtin.firstCells sz l.length v).run P w' = .ok (vl.flatMap fun v => v.cells.toList).toArray w') ∧ Els w (NN L st bl) st bl sz vl l := by
  unfold srcD at hl
  split at hl
  · rename_i b
    split at hl
    · rename_i h1
      simp at hl; subst hl; subst h1
      cases hr with
      | str s =>
        have e : ∀ vl : List Value, (∀ v ∈ vl, v.oneCell' = true) → vl.flatMap (fun v => v.cells.toList) = vl := by
          intro vl
          induction vl with
          | nil => intro _; rfl
          | cons v vl ih =>
            intro h
            have hv := h v (by simp)
            rw [List.flatMap_cons, ih fun u hu => h u (by simp [hu])]
            cases v <;> first | rfl | (simp [Value.oneCell'] at hv; done)
        refine ⟨s.data.toList.map fun b => .int .u8 b.toNat, by simp [Builtin.lenOf], fun w' _ => ?_, by simp, fun i u y hu hy => ?_⟩
        · rw [e _ (by intro v hv; simp at hv; obtain ⟨b, _, rfl⟩ := hv; rfl)]
          simp only [Builtin.firstCells, Sem.run_pure]
          congr 1
          apply Array.ext'
          simp
        · simp only [List.getElem?_map, Option.map_eq_some_iff] at hu hy
          obtain ⟨b1, hb1, rfl⟩ := hu
          obtain ⟨b2, hb2, rfl⟩ := hy
          rw [hb1] at hb2; simp at hb2; subst hb2
          exact ⟨.int _ _, rfl, rfl⟩
    · simp at hl
  · obtain ⟨p, cap, vl, rfl, h1, h2, h3, h4⟩ := slice_els H hr hl
    refine ⟨vl, by simp [Builtin.lenOf], fun w' hw => ?_, h3⟩
    exact firstCells_run hs h3.1.symm h3.sizes fun i u hu => by
      obtain ⟨q, q1, q2, q3⟩ := h4 i u hu
      exact ⟨q, q1, q2, fun j x hx => by rw [cell_heap hw]; exact q3 j x hx⟩

theorem drewAl (w : World) (o : Obj) : Al w (w.drew.alloc o) o := by
  have := alloc_al w.drew o
  exact ⟨this.os, this.tape, this.output, this.size, this.same, this.new⟩

theorem sim_app (C : CR X c bl lb a w) {o : Oper} {cl : Call} {s x : Operand} {s' x' : Opd} {sz d : Nat} {l : List D} {r : D × St} (ho : o.op = .call cl) (hc : cl.callee = .builtin .append) (hargs : cl.args = #[s, x]) (ht : appT P cl.argTypes sz = true)
    (hdst : o.dst = some d) (hdn : d < X.n) (h1 : opdOK s s' = true) (h2 : opdOK x x' = true)
    (hl : srcD c.2 sz (x'.ev c.1.s) = some l) (hr : appendD c.2 (s'.ev c.1.s) l sz = some r)
    {K : Act → World → Prop} {Q : Exit → Act → World → Prop} (hK : ∀ a' w', RelC X (apply c (some d) (r.1, none, some r.2)) a' w' → K a' w') : o.wp P a w K Q := by
  obtain ⟨_, _, _, _, _, _, _, _, _, _, _, _, _, hpos, _⟩ := appT_run ht
  have rx : RR X c bl lb w (a.eval x) (x'.ev c.1.s) := (opd_rep C h2).rep fun b g off e => by rw [e] at hl; simp [srcD, listD] at hl
  obtain ⟨vl1, hlen, hfirst, E1⟩ := src_run (P := P) hpos C.heap rx hl
  have rs := opd_rep C h1
  have he : ∀ v w', (Builtin.append_ cl.argTypes o.type #[a.eval s, a.eval x]).run P w = .ok v w' → (execOp a.eval o).run P w = .ok (.value v) w' := by
    intro v w' h
    simp [execOp, ho, resolve, hc, hargs, invoke, builtin, h]
  have hfl1 := flat_len E1.sizes
  -- nothing appended
  have nop : ∀ p cap len, l = [] → a.eval s = .slice p len cap → len ≤ cap → (execOp a.eval o).run P w = .ok (.value (.slice p len cap)) w := by
    intro p cap len hnil hs hle
    subst hnil
    have hvl : vl1 = [] := List.eq_nil_of_length_eq_zero E1.1
    subst hvl
    refine he _ _ ?_
    rw [hs]
    have := append_room (P := P) (ty := o.type) (sLen := len) (sCap := cap) (n := 0) (p := p) (w' := w) ht hlen (hfirst w rfl) (by simpa using hle) (by cases p <;> simp [storeCells])
    simpa using this
  -- a new object
  have fresh : ∀ p cap vl0 (l0 : List D), a.eval s = .slice p l0.length cap → l ≠ [] → ¬ l0.length + l.length ≤ cap → l0.length + l.length ≤ 16777216 → Els w (NX X c bl lb) c.2 bl sz vl0 l0 →
      (∀ (i : Nat) (u : Value), vl0[i]? = some u → ∃ q : Addr, p = some q ∧ q.spot = none ∧ ∀ (j : Nat) (x : Value), u.cells[j]? = some x → w.cell? ⟨q.block, q.off + i * sz + j, none⟩ = some x) →
      ∃ cap' e cells, l0.length + l.length ≤ cap' ∧ (execOp a.eval o).run P w = .ok (.value (.slice (some ⟨w.heap.size, 0, none⟩) (l0.length + l.length) cap')) (w.drew.alloc (.cells cells e)) ∧ cells.size = cap' * sz ∧
        ∀ k, k < (vl0 ++ vl1).length * sz → cells[k]? = ((vl0 ++ vl1).flatMap fun v => v.cells.toList)[k]? := by
    intro p cap vl0 l0 hs hne hcap hbound E0 hm
    have hf0 := flat_len E0.sizes
    obtain ⟨cap', e, cells, g1, g2, g3, g4⟩ := append_grow (P := P) (ty := o.type) (p := p) (sLen := l0.length) (sCap := cap) (n := l.length) ht hlen
      (fun w' hw => firstCells_run hpos E0.1.symm E0.sizes fun i u hu => by
        obtain ⟨q, q1, q2, q3⟩ := hm i u hu
        exact ⟨q, q1, q2, fun j x hx => by rw [cell_heap hw]; exact q3 j x hx⟩) hfirst hcap (by simp only [List.size_toArray, hf0, E0.1]) (by simp only [List.size_toArray, hfl1, E1.1]) hbound
    refine ⟨cap', e, cells, g1, he _ _ (by rw [hs]; exact g2), g3, fun k hk => ?_⟩
    rw [List.length_append, E0.1, E1.1] at hk
    rw [g4 k hk, List.flatMap_append]
    simp
  -- what a new object is
  have newob : ∀ cap' e cells vl0 (l0 : List D), Els w (NX X c bl lb) c.2 bl sz vl0 l0 → l0.length + l.length ≤ cap' → cells.size = cap' * sz → (∀ k, k < (vl0 ++ vl1).length * sz → cells[k]? = ((vl0 ++ vl1).flatMap fun v => v.cells.toList)[k]?) →
      RelC X (apply c (some d) (.rs c.2.length 0 sz 0 (l0.length + l.length) false, none, some (c.2 ++ [.cells false sz 0 0 false (l0 ++ l)]))) (a.put (some d) (.slice (some ⟨w.heap.size, 0, none⟩) (l0.length + l.length) cap')) (w.drew.alloc (.cells cells e)) := by
    intro cap' e cells vl0 l0 E0 hle hsz hcells
    have A := drewAl w (.cells cells e)
    have E := (new_ext C.heap A (.cells false sz 0 0 false (l0 ++ l))).ext (L := X.LL c.1.b lb)
    have hAs := A.size
    have C' := C.objNew (ob := .cells false sz 0 0 false (l0 ++ l)) A ⟨cells, e, 0, 0, A.new, fun _ _ _ => by omega, ⟨by rw [hsz, List.length_append]; exact Nat.mul_le_mul_right sz hle, tag_zero⟩,
      els_ob hpos ((E0.append E1).ext E (by omega)) cells hcells⟩
    rw [apply_heap]
    refine ⟨_, _, C'.put (fun d' e' => by cases e'; exact hdn) fun _ => Rep.slot _ _ ?_⟩
    refine .rs _ _ _ _ _ _ _ _ (by simp) (by simp) (by omega) (by simp) fun _ => ⟨fun _ => by simp, cells, e, (0, 0), by simp only [↓reduceIte]; exact A.new, by simp [hsz]⟩
  unfold appendD at hr
  split at hr
  · simp at hr
  · rename_i hmost
    have hml : l.length ≤ 4194304 := by unfold most at hmost; omega
    split at hr
    · rename_i hs
      rw [hs] at rs
      have hy : a.eval s = .slice none 0 0 := by
        generalize a.eval s = y at rs
        cases (show Rep w (NX X c bl lb) c.2 bl y .nils from rs)
        rfl
      cases hem : l.isEmpty
      · simp only [hem, Bool.false_eq_true, if_false, Option.some.injEq] at hr
        subst hr
        have hne : l ≠ [] := by intro e; subst e; simp at hem
        have hlp : 0 < l.length := List.length_pos_iff.2 hne
        obtain ⟨cap', e, cells, g1, g2, g3, g4⟩ := fresh none 0 [] [] hy hne (by simp; omega) (by simp; omega) ⟨rfl, fun i u y h => by simp at h⟩ (fun i u h => by simp at h)
        refine wp_val g2 (hK _ _ ?_)
        rw [hdst]
        have := newob cap' e cells [] [] ⟨rfl, fun i u y h => by simp at h⟩ g1 g3 g4
        simpa using this
      · simp only [hem, if_true, Option.some.injEq] at hr
        subst hr
        have hnil : l = [] := by simpa using hem
        refine wp_val (nop none 0 0 hnil hy (Nat.le_refl _)) (hK _ _ ?_)
        rw [hdst]
        exact ⟨_, _, C.put (fun d' e' => by cases e'; exact hdn) fun _ => Rep.slot _ _ .nils⟩
    · rename_i sz' full ds hs
      rw [hs] at rs
      cases hem : l.isEmpty
      · simp only [hem, Bool.false_eq_true, if_false] at hr
        split at hr
        · rename_i hcon
          obtain ⟨rfl, rfl, hdm⟩ := hcon
          simp only [Option.some.injEq] at hr
          subst hr
          have hne : l ≠ [] := by intro e; subst e; simp at hem
          have hlp : 0 < l.length := List.length_pos_iff.2 hne
          obtain ⟨p, cap, vl0, e1, e2, e3, e4, e5⟩ := slice_els C.heap (show RR X c bl lb w (a.eval s) (.sl sz' true ds) from rs) (sz := sz') (l := ds) (by simp [listD])
          have hcap : cap = ds.length := by
            generalize a.eval s = y at *
            cases (show Rep w (NX X c bl lb) c.2 bl y (.sl sz' true ds) from rs) with
            | sl _ _ _ p' cap'' vs hc' hf' => simp at e1; rw [← e1.2]; exact hf' rfl
          obtain ⟨cap', e, cells, g1, g2, g3, g4⟩ := fresh p cap vl0 ds e1 hne (by omega) (by unfold most at hdm; omega) e4 e5
          refine wp_val g2 (hK _ _ ?_)
          rw [hdst]
          exact newob cap' e cells vl0 ds e4 g1 g3 g4
        · simp at hr
      · simp only [hem, if_true, Option.some.injEq] at hr
        subst hr
        have hnil : l = [] := by simpa using hem
        obtain ⟨p, cap, e1, e2⟩ : ∃ p cap, a.eval s = .slice (some p) ds.length cap ∧ ds.length ≤ cap := by
          generalize a.eval s = y at *
          cases (show Rep w (NX X c bl lb) c.2 bl y (.sl sz' full ds) from rs) with
          | sl _ _ _ p' cap'' vs hc' hf' => exact ⟨_, _, rfl, hc'⟩
        refine wp_val (nop _ _ _ hnil e1 e2) (hK _ _ ?_)
        rw [hdst, hs]
        refine ⟨_, _, C.put (fun d' e' => by cases e'; exact hdn) fun _ => ?_⟩
        rw [e1] at rs; exact rs
    · rename_i id ver sz' off len full hs
      rw [hs] at rs
      split at hr
      · rename_i sz'' ver' mod fr elems hob
        split at hr
        · rename_i hcon
          obtain ⟨rfl, rfl, rfl, hoff, hel⟩ := hcon
          have hls : listD c.2 sz' (.rs id ver' sz' off len full) = some ((elems.drop off).take len) := by simp [listD, hob, hoff]
          have hll : ((elems.drop off).take len).length = len := by simp; omega
          obtain ⟨p, cap, vl0, e1, e2, e3, e4, e5⟩ := slice_els C.heap (show RR X c bl lb w (a.eval s) (.rs id ver' sz' off len full) from rs) hls
          rw [hll] at e1 e2
          have hmo : elems.length ≤ 4194304 := by unfold most at hel; exact hel
          cases hem : l.isEmpty
          · simp only [hem, Bool.false_eq_true, if_false] at hr
            have hne : l ≠ [] := by intro e; subst e; simp at hem
            have hlp : 0 < l.length := List.length_pos_iff.2 hne
            cases hfu : full
            · simp only [hfu, Bool.false_eq_true, if_false] at hr
              split at hr
              · rename_i hcon2
                obtain ⟨rfl, rfl, hvt⟩ := hcon2
                simp only [Option.some.injEq] at hr
                subst hr
                have hid : id < c.2.length ∧ ((cap ≠ 0 → p = some ⟨bl id, 0, none⟩) ∧ ∃ c0 e0 f0, w.heap[bl id]? = some (.cells c0 e0 f0) ∧ cap * sz' ≤ c0.size) := by
                  rw [e1] at rs
                  cases (show Rep w (NX X c bl lb) c.2 bl (.slice p len cap) (.rs id ver' sz' 0 len full) from rs) with
                  | rs _ _ _ _ _ _ p' _ hid hv hc' hf' ha =>
                    obtain ⟨k1, c0, e0, f0, k2, k3⟩ := ha (by rw [hob]; rfl)
                    exact ⟨hid, fun h => by rw [k1 h]; simp, c0, e0, f0, k2, by simpa using k3⟩
                obtain ⟨hid, hp, c0, e0, ⟨lo, hi⟩, hc0, hroom⟩ := hid
                have hO := C.heap.obj id hid
                rw [hob] at hO
                obtain ⟨cur, e1', lo', hi', hcur, hfro0, ⟨hcsz, htag⟩, _⟩ := hO
                have hfro := hfro0 rfl
                rw [hc0] at hcur
                simp only [Option.some.injEq, Obj.cells.injEq, Prod.mk.injEq] at hcur
                obtain ⟨rfl, rfl, rfl, rfl⟩ := hcur
                by_cases hrm : len + l.length ≤ cap
                · have hpq := hp (by omega)
                  subst hpq
                  have hmul := Nat.mul_le_mul_right sz' hrm
                  rw [Nat.add_mul] at hmul
                  have hnl : (vl1.flatMap fun v => v.cells.toList).length = l.length * sz' := by rw [hfl1, E1.1]
                  obtain ⟨w', hst, W⟩ := storeCells_run (P := P) (len * sz') (vl1.flatMap fun v => v.cells.toList) 0 c0 w hc0 hfro (by omega) E1.one
                  have happ := append_room (P := P) (ty := o.type) (sLen := len) (sCap := cap) (p := some ⟨bl id, 0, none⟩) (w' := w') ht hlen (hfirst w rfl) hrm (by
                    simp only [Addr.add_mid, Nat.zero_add]; exact hst)
                  have E := upd_ext (w' := w') C.heap hid (by rw [hob]; rfl) (.cells false sz' (ver' + 1) (mod + 1) false (elems.take len ++ l)) (bl id) W.os W.tape W.output (Nat.le_of_eq W.size.symm) (fun k _ hk => W.same k hk) (.inl rfl)
                    (.inl (by rw [hob]; exact Nat.lt_succ_self _)) (by rw [hob]; exact Nat.lt_succ_self _) (by rw [hob]; simp [Ob.isMap])
                  have hps : (putA c0 (len * sz' + 0) (vl1.flatMap fun v => v.cells.toList)).size = c0.size := putA_size _ _ _ (by omega)
                  have H' := C.heap.upd C.bound hid E (fun k _ hk => W.same k hk) (.inl rfl) (by
                    refine ⟨_, e0, lo, hi, W.new, fun _ => by rw [hps]; exact hfro, ⟨?_, tag_small hvt⟩, ?_⟩
                    · rw [hps, List.length_append]
                      have : (elems.take len).length = len := by simp; omega
                      rw [this, Nat.add_mul]; omega
                    · refine els_ob hpos (Els.ext (E.ext (L := X.LL c.1.b lb)) (Nat.le_of_eq W.size.symm) (by have := e4.append E1; simpa using this)) _ fun k hk => ?_
                      rw [List.length_append, e4.1, hll, E1.1, Nat.add_mul] at hk
                      have hf0 := flat_len e4.sizes
                      rw [e4.1, hll] at hf0
                      rw [putA_get _ _ _ (by omega), List.flatMap_append]
                      by_cases hk2 : k < len * sz'
                      · rw [if_neg (by omega), List.getElem?_append_left (by omega), Great.flat_get hpos vl0 e4.sizes]
                        have hi : k / sz' < vl0.length := by rw [e4.1, hll]; exact (Nat.div_lt_iff_lt_mul hpos).2 hk2
                        rw [List.getElem?_eq_getElem hi]
                        obtain ⟨q, q1, q2, q3⟩ := e5 _ _ (List.getElem?_eq_getElem hi)
                        simp at q1; subst q1
                        have hsz0 := e4.sizes _ (List.getElem_mem hi)
                        have hj : k % sz' < (vl0[k / sz'].cells).size := by rw [hsz0]; exact Nat.mod_lt _ hpos
                        have := q3 (k % sz') _ (Array.getElem?_eq_getElem hj)
                        rw [cell_of_row _ _ _ _ _ _ hc0] at this
                        simp only [Nat.zero_add] at this
                        rw [show k / sz' * sz' + k % sz' = k by have := Nat.div_add_mod k sz'; rw [Nat.mul_comm] at this; exact this] at this
                        rw [this]
                        simp [hj]
                      · rw [if_pos (by omega), List.getElem?_append_right (by omega), hf0]
                        rfl)
                  rw [upd_same] at E H'
                  refine wp_val (he _ _ (by rw [e1]; exact happ)) (hK _ _ ?_)
                  rw [hdst, apply_heap]
                  refine ⟨bl, lb, (C.go E H').put (fun d' e' => by cases e'; exact hdn) fun _ => Rep.slot _ _ ?_⟩
                  refine .rs _ _ _ _ _ _ _ _ (by simpa using hid) (by rw [at_set _ _ _ _ hid, if_pos rfl]; exact Nat.le_refl _) hrm (by simp) fun _ => ⟨fun _ => by simp, _, e0, (lo, hi), W.new, by rw [hps]; simpa using hroom⟩
                · obtain ⟨cap', e, cells, g1, g2, g3, g4⟩ := fresh p cap vl0 ((elems.drop 0).take len) (by rw [hll]; exact e1) hne (by rw [hll]; exact hrm) (by rw [hll]; omega) e4 e5
                  rw [hll] at g1 g2
                  have A := drewAl w (.cells cells e)
                  have hAs := A.size
                  have E := upd_ext (w' := w.drew.alloc (.cells cells e)) C.heap hid (by rw [hob]; rfl) (.cells false sz' (ver' + 1) (mod + 1) false (elems.take len ++ l)) w.heap.size A.os A.tape A.output (by omega) (fun k hk _ => A.same k hk) (.inr (Nat.le_refl _))
                    (.inl (by rw [hob]; exact Nat.lt_succ_self _)) (by rw [hob]; exact Nat.lt_succ_self _) (by rw [hob]; simp [Ob.isMap])
                  have H' := C.heap.upd C.bound hid E (fun k hk _ => A.same k hk) (.inr (Nat.le_refl _)) (by
                    refine ⟨cells, e, 0, 0, A.new, fun _ _ _ => by omega, ⟨?_, tag_small hvt⟩, els_ob hpos (Els.ext (E.ext (L := X.LL c.1.b lb)) (by omega) (by have := e4.append E1; simpa using this)) cells g4⟩
                    rw [g3, List.length_append]
                    have : (elems.take len).length = len := by simp; omega
                    rw [this]; exact Nat.mul_le_mul_right _ g1)
                  refine wp_val g2 (hK _ _ ?_)
                  rw [hdst, apply_heap]
                  refine ⟨_, lb, (C.go E H').put (fun d' e' => by cases e'; exact hdn) fun _ => Rep.slot _ _ ?_⟩
                  refine .rs _ _ _ _ _ _ _ _ (by simpa using hid) (by rw [at_set _ _ _ _ hid, if_pos rfl]; exact Nat.le_refl _) g1 (by simp) fun _ => ⟨fun _ => by simp, cells, e, (0, 0), by simp only [↓reduceIte]; exact A.new, by rw [g3]; simp⟩
              · simp at hr
            · simp only [hfu, if_true, Option.some.injEq] at hr
              subst hr
              have hcap : cap = len := by
                rw [e1] at rs
                cases (show Rep w (NX X c bl lb) c.2 bl (.slice p len cap) (.rs id ver' sz' off len full) from rs) with
                | rs _ _ _ _ _ _ p' _ hid hv hc' hf' ha => exact hf' hfu
              obtain ⟨cap', e, cells, g1, g2, g3, g4⟩ := fresh p cap vl0 ((elems.drop off).take len) (by rw [hll]; exact e1) hne (by rw [hll]; omega) (by rw [hll]; omega) e4 e5
              refine wp_val g2 (hK _ _ ?_)
              rw [hdst]
              have := newob cap' e cells vl0 ((elems.drop off).take len) e4 g1 g3 g4
              rw [hll] at this ⊢
              exact this
          · simp only [hem, if_true, Option.some.injEq] at hr
            subst hr
            have hnil : l = [] := by simpa using hem
            refine wp_val (nop _ _ _ hnil e1 e2) (hK _ _ ?_)
            rw [hdst, hs]
            refine ⟨_, _, C.put (fun d' e' => by cases e'; exact hdn) fun _ => ?_⟩
            rw [e1] at rs; exact rs
        · simp at hr
      · simp at hr
    · simp at hr

end Go.Nt
