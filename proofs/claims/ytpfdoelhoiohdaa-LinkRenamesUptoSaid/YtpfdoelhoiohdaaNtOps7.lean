/-
  BUILT VALUES AND SLICES' LITERALS.
  No condition: lemmas.
-/
import Derived.Test.YtpfdoelhoiohdaaNtOps6
import Derived.Great.BuildSlice
namespace Go.Nt

variable {P : Program} {X : Cx} {c : Cfg} {bl : Bl} {lb : Nat → Nat} {a : Act} {w : World}

theorem fill_rel {N : Nat → Prop} {st : St} {place : Nat → Option (Nat × Nat)} : ∀ (parts : List (Nat × Value)) (ps : List (Nat × Nat × D)) (cells : Array Value) (cs r : List D), cells.size = cs.length →
    (∀ (j : Nat) (x : D), cs[j]? = some x → CRep w N st bl cells j x) → parts.length = ps.length →
    (∀ (i : Nat) (p : Nat × Value) (q : Nat × Nat × D), parts[i]? = some p → ps[i]? = some q → place p.1 = some (q.1, q.2.1) ∧ Rep w N st bl p.2 q.2.2 ∧ q.2.2.okv = true) → fillD cs ps = some r →
    ∃ cells', Instr.fill place cells parts = some cells' ∧ cells'.size = r.length ∧ ∀ (j : Nat) (x : D), r[j]? = some x → CRep w N st bl cells' j x
  | [], [], cells, cs, r, hs, hc, _, _, hf => by
    simp [fillD] at hf; subst hf
    exact ⟨cells, rfl, hs, hc⟩
  | [], _ :: _, _, _, _, _, _, hl, _, _ => by simp at hl
  | _ :: _, [], _, _, _, _, _, hl, _, _ => by simp at hl
  | (i, v) :: parts, (off, n, d) :: ps, cells, cs, r, hs, hc, hl, hp, hf => by
    obtain ⟨p1, p2, p3⟩ := hp 0 _ _ rfl rfl
    simp only at p1 p2 p3
    simp only [fillD] at hf
    split at hf
    · rename_i hn
      cases hsp : splice cs off d.cells with
      | none => simp [hsp] at hf
      | some cs' =>
        simp only [hsp, Option.bind_some] at hf
        obtain ⟨hle, hlen, hget⟩ := splice_get hsp
        have hvs : v.cells.size = n := by rw [p2.cells_size, hn]
        obtain ⟨f1, f2⟩ := Great.foldl_set off v.cells.toList 0 cells
        have hfold : v.cells.zipIdx.foldl (fun cs (x : Value × Nat) => cs.setIfInBounds (off + x.2) x.1) cells = (v.cells.toList.zipIdx 0).foldl (fun cs (x : Value × Nat) => cs.setIfInBounds (off + x.2) x.1) cells := by
          rw [← Array.foldl_toList]; simp
        obtain ⟨cells', g1, g2, g3⟩ := fill_rel parts ps _ cs' r (by rw [f1, hs, hlen]) (fun j x hx => by
          unfold CRep
          rw [f2 j]
          rw [hget j] at hx
          have hvl : v.cells.toList.length = d.cells.length := by rw [hn]; simpa using hvs
          have hrc := rep_crep p2 p3
          simp only [Nat.add_zero] at *
          split at hx
          · rw [if_pos (by omega), Array.getElem?_toList]
            exact hrc _ x hx
          · rw [if_neg (by omega)]
            exact hc j x hx) (by simpa using hl) (fun k p q hk hq => hp (k + 1) p q (by simpa using hk) (by simpa using hq)) hf
        refine ⟨cells', ?_, g2, g3⟩
        simp only [Instr.fill, p1]
        rw [if_neg (by simp; omega), hfold]
        exact g1
    · simp at hf

def placesOK (P : Program) (t : TypeId) : List (Nat × Operand) → List (Nat × Nat × Opd) → Bool
  | [], [] => true
  | (i, x) :: r, (off, n, y) :: s => opdOK x y && (placesOK P t r s && match P.underlying t with
    | some (.struct fs) => (match fs[i]? with | some f => f.offset == off && sizeOK P f.type n | none => false)
    | some (.array _ e) => sizeOK P e n && off == i * n
    | _ => false)
  | _, _ => false

def builtOK (P : Program) (t : TypeId) : Bool :=
  match P.underlying t with
  | some (.struct fs) => fs.toList.all fun f => (P.info? f.type).isSome
  | some (.array _ e) => (P.info? e).isSome
  | _ => false

theorem mapM_some {α β : Type} {f : α → Option β} : ∀ {l : List α}, (∀ x ∈ l, (f x).isSome = true) → ∃ r, l.mapM f = some r ∧ ∀ (i : Nat) (x : α), l[i]? = some x → ∃ y, f x = some y ∧ r[i]? = some y
  | [], _ => ⟨[], rfl, fun i x h => by simp at h⟩
  | x :: l, h => by
    obtain ⟨y, hy⟩ := Option.isSome_iff_exists.1 (h x (by simp))
    obtain ⟨r, hr, k⟩ := mapM_some (l := l) fun z hz => h z (by simp [hz])
    refine ⟨y :: r, by simp [List.mapM_cons, hy, hr], fun i z hz => ?_⟩
    cases i with
    | zero => simp at hz; subst hz; exact ⟨y, hy, rfl⟩
    | succ i => exact k i z (by simpa using hz)

theorem sim_build (C : CR X c bl lb a w) {o : Oper} {t : TypeId} {parts : Array (Nat × Operand)} {zero cs : List D} {ps : List (Nat × Nat × Opd)} (ho : o.op = .build t parts) (hb : builtOK P t = true) (hp : placesOK P t parts.toList ps = true)
    (hz : zerosOK P t zero = true) (hok : ps.all (fun p => (p.2.2.ev c.1.s).okv) = true) (hd : fillD zero (ps.map fun p => (p.1, p.2.1, p.2.2.ev c.1.s)) = some cs) : GivesV P X c bl lb a w o (.agg cs) := by
  unfold zerosOK at hz
  cases hi : P.info? t with
  | none => simp [hi] at hz
  | some it =>
    cases hzz : it.zero with
    | none => simp [hi, hzz] at hz
    | some z =>
      simp only [hi, hzz, Option.bind_some, cellsOK, Bool.and_eq_true, beq_iff_eq] at hz
      have hzc : ∀ (j : Nat) (x : D), zero[j]? = some x → CRep w (NX X c bl lb) c.2 bl z.cells j x := fun j x hx => by
        have hj : j < z.cells.size := by rw [hz.1]; exact (List.getElem?_eq_some_iff.1 hx).1
        have hv : z.cells[j]? = some z.cells[j] := by simp [hj]
        have := constC_rep (w := w) (N := NX X c bl lb) (st := c.2) (bl := bl) (zip_all hz.2 j z.cells[j] x (by simp) hx)
        exact ⟨this.2.1, _, hv, this.1⟩
      have key : ∀ (place : Nat → Option (Nat × Nat)), (∀ (i : Nat) (x : Operand) (q : Nat × Nat × Opd) , placesOK P t [(i, x)] [q] = true → place i = some (q.1, q.2.1)) →
          ∃ cells', Instr.fill place z.cells (parts.map fun (i, x) => (i, a.eval x)).toList = some cells' ∧ cells'.size = cs.length ∧ ∀ (j : Nat) (x : D), cs[j]? = some x → CRep w (NX X c bl lb) c.2 bl cells' j x := by
        intro place hplace
        have hlen : ∀ (l : List (Nat × Operand)) (s : List (Nat × Nat × Opd)), placesOK P t l s = true → l.length = s.length ∧ ∀ (i : Nat) (p : Nat × Operand) (q : Nat × Nat × Opd), l[i]? = some p → s[i]? = some q → placesOK P t [p] [q] = true ∧ opdOK p.2 q.2.2 = true := by
          intro l
          induction l with
          | nil => intro s hs; cases s with
            | nil => exact ⟨rfl, fun i p q h => by simp at h⟩
            | cons q s => simp [placesOK] at hs
          | cons p l ih => intro s hs; cases s with
            | nil => simp [placesOK] at hs
            | cons q s =>
              obtain ⟨pi, px⟩ := p
              obtain ⟨qo, qn, qx⟩ := q
              simp only [placesOK, Bool.and_eq_true] at hs
              obtain ⟨ih1, ih2⟩ := ih s hs.2.1
              refine ⟨by simp [ih1], fun i p q hp hq => ?_⟩
              cases i with
              | zero =>
                simp at hp hq; subst hp; subst hq
                refine ⟨?_, hs.1⟩
                simp only [placesOK, Bool.and_eq_true]
                exact ⟨hs.1, trivial, hs.2.2⟩
              | succ i => exact ih2 i p q (by simpa using hp) (by simpa using hq)
        obtain ⟨hl, hq⟩ := hlen _ _ hp
        refine fill_rel (parts.map fun (i, x) => (i, a.eval x)).toList (ps.map fun p => (p.1, p.2.1, p.2.2.ev c.1.s)) z.cells zero cs hz.1 hzc (by simpa using hl) (fun i p q h1 h2 => ?_) hd
        simp only [Array.toList_map, List.getElem?_map, Option.map_eq_some_iff] at h1 h2
        obtain ⟨p0, e1, rfl⟩ := h1
        obtain ⟨q0, e2, rfl⟩ := h2
        obtain ⟨k1, k2⟩ := hq i p0 q0 e1 e2
        have hov := all_get hok e2
        exact ⟨hplace _ p0.2 q0 k1, (opd_rep C k2).okv hov, hov⟩
      have fin : ∀ cells', P.built t (parts.map fun (i, x) => (i, a.eval x)).toList = some cells' → cells'.size = cs.length → (∀ (j : Nat) (x : D), cs[j]? = some x → CRep w (NX X c bl lb) c.2 bl cells' j x) → GivesV P X c bl lb a w o (.agg cs) := by
        intro cells' hbu hs hc
        refine gv (v := .agg cells') (.agg cells' cs hs (fun i d hd => (hc i d hd).1) (fun i v d hv hd => ?_)) (by simp [execOp, ho, run_build w t _ cells' hbu])
        obtain ⟨_, u, hu, hr⟩ := hc i d hd
        rw [hv] at hu; simp at hu; subst hu; exact hr
      unfold builtOK at hb
      split at hb
      · rename_i fs hu
        obtain ⟨places, hpl, hget⟩ := mapM_some (f := fun f : Field => (P.info? f.type).map fun i => (f.offset, i.size)) (l := fs.toList) (fun f hf => by
          have := List.all_eq_true.1 hb f hf
          simpa using this)
        obtain ⟨cells', h1, h2, h3⟩ := key (places.toArray[·]?) (fun i x q hq => by
          obtain ⟨qo, qn, qx⟩ := q
          simp only [placesOK, hu, Bool.and_eq_true] at hq
          have hq2 := hq.2.2
          split at hq2
          · rename_i f hf
            simp only [Bool.and_eq_true, beq_iff_eq] at hq2
            obtain ⟨y, hy1, hy2⟩ := hget i f (by simpa using hf)
            have hs := hq2.2
            unfold sizeOK at hs
            cases hinf : P.info? f.type with
            | none => simp [hinf] at hs
            | some fi =>
              simp [hinf] at hs hy1
              subst hs
              simp only [List.getElem?_toArray, hy2]
              rw [← hy1, hq2.1]
          · simp at hq2)
        exact fin cells' (by simp only [Program.built, hi, hu, hzz, hpl]; exact h1) h2 h3
      · rename_i k e hu
        cases hie : P.info? e with
        | none => simp [hie] at hb
        | some ie =>
          obtain ⟨cells', h1, h2, h3⟩ := key (fun i => some (i * ie.size, ie.size)) (fun i x q hq => by
            obtain ⟨qo, qn, qx⟩ := q
            simp only [placesOK, hu, Bool.and_eq_true, sizeOK, hie, beq_iff_eq] at hq
            rw [hq.2.2.2, hq.2.2.1])
          exact fin cells' (by simp only [Program.built, hi, hu, hzz, hie]; exact h1) h2 h3
      · simp at hb

/-! ### Slices' literals -/

def bslOK : List (Nat × Operand) → Nat → List Opd → Bool
  | [], _, [] => true
  | (i, x) :: r, k, y :: ys => i == k && (opdOK x y && bslOK r (k + 1) ys)
  | _, _, _ => false

theorem bsl_parts (a : Act) : ∀ (l : List (Nat × Operand)) (k : Nat) (ys : List Opd), bslOK l k ys = true → (l.map fun p => (p.1, a.eval p.2)) = (((l.map (·.2)).map a.eval).zipIdx k).map (fun x => (x.2, x.1)) ∧ opdsOK (l.map (·.2)) ys = true
  | [], k, [], _ => ⟨rfl, rfl⟩
  | [], _, _ :: _, h => by simp [bslOK] at h
  | _ :: _, _, [], h => by simp [bslOK] at h
  | (i, x) :: l, k, y :: ys, h => by
    simp only [bslOK, Bool.and_eq_true, beq_iff_eq] at h
    obtain ⟨rfl, h1, h2⟩ := h
    obtain ⟨k1, k2⟩ := bsl_parts a l (i + 1) ys h2
    exact ⟨by simp only [List.map_cons, List.zipIdx_cons, k1], by simp [opdsOK, h1, k2]⟩

def sliceT (P : Program) (t : TypeId) (sz : Nat) : Bool :=
  match P.underlying t with
  | some (.slice e) => sizeOK P e sz && (match (P.info? e).bind (·.zero) with | some z => z.cells.size == sz | none => false) && decide (0 < sz ∧ sz ≤ 4096) && (match P.info? e with | some i => decide (i.bytes ≤ 65536) | none => false)
  | _ => false

theorem bsl_run {t : TypeId} {sz len : Nat} {parts : Array (Nat × Operand)} {ys : List Opd} (ht : sliceT P t sz = true) (hp : bslOK parts.toList 0 ys = true) (hlen : len = ys.length) (hsm : len ≤ 4096)
    (hv : ∀ u ∈ (parts.toList.map (·.2)).map a.eval, u.cells.size = sz) :
    ∃ e cells, (Instr.buildSlice t len (parts.map fun (i, x) => (i, a.eval x))).run P w = .ok (.slice (some ⟨w.heap.size, 0, none⟩) len len) (w.alloc (.cells cells e)) ∧ cells.size = len * sz ∧
      ∀ (i j : Nat) (u : Value), ((parts.toList.map (·.2)).map a.eval)[i]? = some u → j < sz → cells[i * sz + j]? = u.cells[j]? := by
  unfold sliceT at ht
  split at ht
  · rename_i e hu
    simp only [Bool.and_eq_true, decide_eq_true_eq] at ht
    obtain ⟨⟨⟨hs, hz⟩, hpos, hle⟩, _⟩ := ht
    unfold sizeOK at hs
    cases hi : P.info? e with
    | none => simp [hi] at hs
    | some ie =>
      simp [hi] at hs
      cases hzz : ie.zero with
      | none => simp [hi, hzz] at hz
      | some z =>
        subst hs
        obtain ⟨hpe, hops⟩ := bsl_parts a parts.toList 0 ys hp
        have hl : ((parts.toList.map (·.2)).map a.eval).length = len := by
          have : (parts.toList.map (·.2)).length = ys.length := by
            have : ∀ (l : List Operand) (ys : List Opd), opdsOK l ys = true → l.length = ys.length := by
              intro l
              induction l with
              | nil => intro ys h; cases ys <;> simp_all [opdsOK]
              | cons x l ih => intro ys h; cases ys with
                | nil => simp [opdsOK] at h
                | cons y ys => simp only [opdsOK, Bool.and_eq_true] at h; simp [ih ys h.2]
            exact this _ _ hops
          simp only [List.length_map] at this ⊢
          omega
        have hmul : len * ie.size ≤ 4096 * 4096 := Nat.mul_le_mul hsm hle
        by_cases hzero : len * ie.size = 0
        · have hl0 : len = 0 := by
            rcases Nat.mul_eq_zero.1 hzero with h | h
            · exact h
            · omega
          subst hl0
          have hnil : parts.toList = [] := by
            apply List.eq_nil_of_length_eq_zero
            simpa using hl
          refine ⟨e, #[], ?_, by simp, fun i j u h => by simp [hnil] at h⟩
          have hp' : parts = #[] := by cases parts; simp_all
          simp [Instr.buildSlice, run_underlying hu, sizeOf, typeInfo, hi, hp', newRow, Instr.fill]
          have h0 : Array.range 0 = #[] := by apply Array.eq_empty_of_size_eq_zero; simp
          rw [h0]; simp
        · have hfill : (parts.map fun (i, x) => (i, a.eval x)).toList = (((parts.toList.map (·.2)).map a.eval).zipIdx 0).map (fun x => (x.2, x.1)) := by
            rw [Array.toList_map]; exact hpe
          obtain ⟨r, hr1, hr2, hr3⟩ := Great.fill_dense hpos ((parts.toList.map (·.2)).map a.eval) 0 ((Array.range (len * ie.size)).map (z.cells[· % z.cells.size]!)) hv (by rw [hl]; simp)
          refine ⟨e, r, run_buildSlice w t e len _ r ie z hu hi hzz (by omega) hzero (by rw [hfill]; exact hr1), by rw [hr2]; simp, fun i j u hiu hj => ?_⟩
          have hilt : i < len := by rw [← hl]; exact (List.getElem?_eq_some_iff.1 hiu).1
          have h1 : i * ie.size + j < len * ie.size := by
            have := Nat.mul_le_mul_right ie.size hilt
            rw [Nat.succ_mul] at this
            omega
          rw [hr3, if_pos (by rw [hl, Nat.zero_add]; omega)]
          have h2 : (i * ie.size + j) / ie.size = i := by rw [Nat.mul_comm, Nat.mul_add_div hpos, Nat.div_eq_of_lt hj]; omega
          have h3 : (i * ie.size + j) % ie.size = j := by rw [Nat.mul_comm, Nat.mul_add_mod, Nat.mod_eq_of_lt hj]
          rw [h2, h3, Nat.sub_zero, hiu]; rfl
  · simp at ht

theorem opds_len : ∀ {xs : List Operand} {ys : List Opd}, opdsOK xs ys = true → xs.length = ys.length
  | [], [], _ => rfl
  | [], _ :: _, h => by simp [opdsOK] at h
  | _ :: _, [], h => by simp [opdsOK] at h
  | x :: xs, y :: ys, h => by simp only [opdsOK, Bool.and_eq_true] at h; simp [opds_len h.2]

theorem sim_bsl (C : CR X c bl lb a w) {o : Oper} {t : TypeId} {len sz d : Nat} {agg : Bool} {parts : Array (Nat × Operand)} {ys : List Opd} (ho : o.op = .buildSlice t len parts) (hdst : o.dst = some d) (hdn : d < X.n) (ht : sliceT P t sz = true)
    (hp : bslOK parts.toList 0 ys = true) (hlen : len = ys.length) (hsm : len ≤ 4096) (hall : ((ys.map (Opd.ev c.1.s)).all fun v => v.fits (if agg then some sz else none) && (v.cells.length == sz && v.pure)) = true)
    {K : Act → World → Prop} {Q : Exit → Act → World → Prop} (hK : ∀ a' w', RelC X (apply c (some d) (.sl sz true (ys.map (Opd.ev c.1.s)), none, none)) a' w' → K a' w') : o.wp P a w K Q := by
  obtain ⟨_, hops⟩ := bsl_parts a parts.toList 0 ys hp
  obtain ⟨hl, hrep⟩ := opds_rep C hops
  have hel : ∀ (i : Nat) (v : Value) (y : D), ((parts.toList.map (·.2)).map a.eval)[i]? = some v → (ys.map (Opd.ev c.1.s))[i]? = some y → RR X c bl lb w v y ∧ y.pure = true ∧ y.okv = true ∧ y.cells.length = sz := by
    intro i v y hv hy
    have h1 := all_get hall hy
    simp only [Bool.and_eq_true, beq_iff_eq] at h1
    have hs := hrep i v y hv hy
    obtain ⟨_, _, h2⟩ := fits_all hs h1.1
    exact ⟨hs.okv h2, h1.2.2, h2, h1.2.1⟩
  have hvs : ∀ u ∈ (parts.toList.map (·.2)).map a.eval, u.cells.size = sz := by
    intro u hu
    obtain ⟨i, hi⟩ := List.getElem?_of_mem hu
    have hi' : i < (ys.map (Opd.ev c.1.s)).length := by
      have := (List.getElem?_eq_some_iff.1 hi).1
      simp only [List.length_map] at this ⊢ hl; omega
    obtain ⟨h1, _, _, h2⟩ := hel i u _ hi (List.getElem?_eq_getElem hi')
    rw [h1.cells_size, h2]
  obtain ⟨e, cells, hrun, hsz, hget⟩ := bsl_run (w := w) ht hp hlen hsm hvs
  have A := alloc_al w (.cells cells e)
  have hAs := A.size
  have C' := C.grown A.os A.tape A.output (by omega) A.same
  have E := (Evo.grown c.2 bl (fun _ hi => C.heap.lt hi) A.os A.tape A.output (by omega) A.same).ext (L := X.LL c.1.b lb)
  refine wp_val (v := .slice (some ⟨w.heap.size, 0, none⟩) len len) (w' := w.alloc (.cells cells e)) (by simp only [execOp, ho, Sem.run_bind, hrun, Result.andThen_ok, Sem.run_pure]) (hK _ _ ?_)
  rw [hdst]
  refine ⟨_, _, C'.put (fun d' e' => by cases e'; exact hdn) fun _ => Rep.slot _ _ ?_⟩
  have hlen' : len = (ys.map (Opd.ev c.1.s)).length := by simp [hlen]
  rw [hlen']
  refine .sl sz true _ ⟨w.heap.size, 0, none⟩ _ (fun i => ((parts.toList.map (·.2)).map a.eval).getD i undef) (Nat.le_refl _) (fun _ => rfl) (fun _ => rfl) (fun i y hy => ?_) (fun i y hy => ?_) (fun i y hy => ?_)
  all_goals
    have hi' : i < ((parts.toList.map (·.2)).map a.eval).length := by
      have := (List.getElem?_eq_some_iff.1 hy).1
      simp only [List.length_map] at this ⊢ hl; omega
    have hv := List.getElem?_eq_getElem hi'
    obtain ⟨h1, h2, h3, h4⟩ := hel i _ y hv hy
  · exact ⟨h2, h4⟩
  · refine ⟨fun g => ?_, (by show w.heap.size < _; omega), fun j u hu => ?_⟩
    · rcases g with g | ⟨id, hid, _, g⟩
      · have h6 : w.heap.size < w.heap.size := C.bound _ g
        omega
      · have h5 := C.heap.lt hid
        have h6 : bl id = w.heap.size := g
        omega
    · rw [cell_of_row _ _ _ _ _ _ A.new]
      have hgd : ((parts.toList.map (·.2)).map a.eval).getD i undef = ((parts.toList.map (·.2)).map a.eval)[i] := by rw [List.getD_eq_getElem?_getD, hv]; rfl
      rw [hgd] at hu
      have hj : j < sz := by
        rw [← h4, ← h1.cells_size]; exact (Array.getElem?_eq_some_iff.1 hu).1
      simp only [Nat.zero_add]
      rw [hget i j _ hv hj]; exact hu
  · have hgd : ((parts.toList.map (·.2)).map a.eval).getD i undef = ((parts.toList.map (·.2)).map a.eval)[i] := by rw [List.getD_eq_getElem?_getD, hv]; rfl
    simp only [hgd]
    exact h1.ext E (by omega)

end Go.Nt
