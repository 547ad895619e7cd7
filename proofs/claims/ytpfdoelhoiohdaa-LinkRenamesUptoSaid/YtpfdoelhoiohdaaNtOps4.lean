/-
  THE SIMULATION OF OPERATIONS THAT MAKE OR WRITE MEMORY: boxes, built values, slices' literals, stores.
  No condition: lemmas.
-/
import Derived.Test.YtpfdoelhoiohdaaNtOps3
namespace Go.Nt

variable {P : Program} {X : Cx} {c : Cfg} {bl : Bl} {lb : Nat → Nat} {a : Act} {w : World}

/-- The two machines stand alike. -/
def RelC (X : Cx) (c : Cfg) (a : Act) (w : World) : Prop := ∃ bl lb, CR X c bl lb a w

theorem alloc_al (w : World) (o : Obj) : Al w (w.alloc o) o := by
  refine ⟨rfl, rfl, rfl, by simp, fun k hk => heap_alloc_old w o k hk, heap_alloc_new w o⟩

theorem newVar_run (e : TypeId) (v : Value) (w : World) : (newVar e v).run P w = .ok ⟨w.heap.size, 0, none⟩ (w.alloc (.cells v.cells e)) := by
  simp [newVar, newRow, newObj, Sem.run]

/-- A slot's datum whose cells may leave the frame. -/
theorem sr_cells {v : Value} {d : D} (h : SR X c bl lb w v d) (hd : d.cells.all D.okv = true) : RR X c bl lb w v d ∧ v.cells.size = d.cells.length ∧
    ∀ (j : Nat) (x : D), d.cells[j]? = some x → CRep w (NX X c bl lb) c.2 bl v.cells j x := by
  have hr : RR X c bl lb w v d := h.rep fun b g off e => by subst e; simp [D.cells, D.okv] at hd
  refine ⟨hr, hr.cells_size, fun j x hx => ?_⟩
  have hj : j < v.cells.size := by rw [hr.cells_size]; exact (List.getElem?_eq_some_iff.1 hx).1
  have hv : v.cells[j]? = some v.cells[j] := by simp [hj]
  refine ⟨?_, v.cells[j], hv, hr.cells hv hx⟩
  by_cases hg : ∃ cs, d = .agg cs
  · obtain ⟨cs, rfl⟩ := hg
    cases hr with
    | agg cs ds hl hc h => exact hc j x hx
  · have h2 := (hr.cells_one (fun cs e => hg ⟨cs, e⟩)).2
    have ho := all_get hd hx
    rw [h2] at hx
    cases j with
    | zero =>
      simp at hx; subst hx
      cases d <;> first | rfl | exact absurd ⟨_, rfl⟩ hg | (simp [D.okv] at ho; done)
    | succ j => simp at hx

theorem sim_boxL (C : CR X c bl lb a w) {o : Oper} {e : TypeId} {x : Operand} {x' : Opd} {d : Nat} (ho : o.op = .box e x) (hdst : o.dst = some d) (hd : d < X.n) (h1 : opdOK x x' = true)
    (hok : (x'.ev c.1.s).cells.all D.okv = true) {K : Act → World → Prop} {Q : Exit → Act → World → Prop}
    (hK : ∀ a' w', RelC X (apply c (some d) (.lp d ((getB c.1.b d).1 + 1) 0, some (d, (getB c.1.b d).1 + 1, (x'.ev c.1.s).cells), none)) a' w' → K a' w') : o.wp P a w K Q := by
  obtain ⟨_, hs, hc⟩ := sr_cells (opd_rep C h1) hok
  have hrun : (execOp a.eval o).run P w = .ok (.value (.pointer (some ⟨w.heap.size, 0, none⟩))) (w.alloc (.cells (a.eval x).cells e)) := by
    simp [execOp, ho, Instr.box, newVar_run]
  refine wp_val hrun (hK _ _ ?_)
  rw [hdst]
  exact ⟨_, _, C.boxNew hd (alloc_al w _) hs hc⟩

def cellsOK (z : Value) (zero : List D) : Bool := z.cells.size == zero.length && (z.cells.toList.zip zero).all fun p => constC p.1 p.2
def zerosOK (P : Program) (t : TypeId) (zero : List D) : Bool :=
  match (P.info? t).bind (·.zero) with
  | some z => cellsOK z zero
  | none => false

theorem zeros_run {t : TypeId} {zero : List D} (h : zerosOK P t zero = true) (w : World) (N : Nat → Prop) (st : St) (bl : Bl) :
    ∃ z, (zeroValue t).run P w = .ok z w ∧ z.cells.size = zero.length ∧ ∀ (j : Nat) (x : D), zero[j]? = some x → CRep w N st bl z.cells j x := by
  unfold zerosOK at h
  cases hi : P.info? t with
  | none => simp [hi] at h
  | some i =>
    cases hz : i.zero with
    | none => simp [hi, hz] at h
    | some z =>
      simp only [hi, hz, Option.bind_some, cellsOK, Bool.and_eq_true, beq_iff_eq] at h
      refine ⟨z, by simp [zeroValue, typeInfo, hi, hz], h.1, fun j x hx => ?_⟩
      have hj : j < z.cells.size := by rw [h.1]; exact (List.getElem?_eq_some_iff.1 hx).1
      have hv : z.cells[j]? = some z.cells[j] := by simp [hj]
      have := constC_rep (w := w) (N := N) (st := st) (bl := bl) (zip_all h.2 j z.cells[j] x (by simp) hx)
      exact ⟨this.2.1, _, hv, this.1⟩

theorem sim_allocL (C : CR X c bl lb a w) {o : Oper} {e : TypeId} {d : Nat} {zero : List D} (ho : o.op = .alloc e) (hdst : o.dst = some d) (hd : d < X.n) (hz : zerosOK P e zero = true)
    {K : Act → World → Prop} {Q : Exit → Act → World → Prop}
    (hK : ∀ a' w', RelC X (apply c (some d) (.lp d ((getB c.1.b d).1 + 1) 0, some (d, (getB c.1.b d).1 + 1, zero), none)) a' w' → K a' w') : o.wp P a w K Q := by
  obtain ⟨z, hz, hs, hc⟩ := zeros_run hz w (NX X c bl lb) c.2 bl
  have hrun : (execOp a.eval o).run P w = .ok (.value (.pointer (some ⟨w.heap.size, 0, none⟩))) (w.alloc (.cells z.cells e)) := by
    simp [execOp, ho, Instr.alloc, hz, newVar_run]
  refine wp_val hrun (hK _ _ ?_)
  rw [hdst]
  exact ⟨_, _, C.boxNew hd (alloc_al w _) hs hc⟩

/-- A slot and a new object at once. -/
theorem CR.objNew (C : CR X c bl lb a w) {w' : World} {ob : Ob} {o : Obj} (A : Al w w' o)
    (ho : ObRel w' (NN (X.LL c.1.b lb) (c.2 ++ [ob]) (fun i => if i = c.2.length then w.heap.size else bl i)) (c.2 ++ [ob]) (fun i => if i = c.2.length then w.heap.size else bl i) w.heap.size ob) :
    CR X (c.1, c.2 ++ [ob]) (fun i => if i = c.2.length then w.heap.size else bl i) lb a w' :=
  C.go (new_ext C.heap A ob) (C.heap.new C.bound A ho)

theorem apply_heap (c : Cfg) (d : Option Nat) (v : D) (st : St) : apply c d (v, none, some st) = apply (c.1, st) d (v, none, none) := rfl
theorem apply_val (c : Cfg) (d : Option Nat) (v : D) : apply c d (v, none, none) = apply c d (v, none, none) := rfl

theorem fits_cells {d : D} {n : Option Nat} (h : d.fits n = true) (ho : ∀ b g off, d ≠ .lp b g off) (ht : ∀ ds, d ≠ .tup ds) : d.cells.length = n.getD 1 ∧ d.okv = true := by
  cases d <;> cases n <;> simp_all [D.fits, D.cells, D.okv]

theorem fits_all {v : Value} {d : D} {n : Option Nat} (h : SR X c bl lb w v d) (hf : d.fits n = true) : d.cells.all D.okv = true ∧ d.cells.length = n.getD 1 ∧ d.okv = true := by
  have h1 : ∀ b g off, d ≠ .lp b g off := fun b g off e => by subst e; cases n <;> simp [D.fits] at hf
  have h2 : ∀ ds, d ≠ .tup ds := fun ds e => by subst e; cases n <;> simp [D.fits] at hf
  obtain ⟨h3, h4⟩ := fits_cells hf h1 h2
  refine ⟨?_, h3, h4⟩
  have hr : RR X c bl lb w v d := h.rep h1
  by_cases hg : ∃ cs, d = .agg cs
  · obtain ⟨cs, rfl⟩ := hg
    cases hr with
    | agg cs ds hl hc h =>
      simp only [D.cells, List.all_eq_true]
      intro x hx
      obtain ⟨i, hi⟩ := List.getElem?_of_mem hx
      have := hc i x hi
      cases x <;> first | rfl | (simp [D.cell] at this; done)
  · rw [(hr.cells_one (fun cs e => hg ⟨cs, e⟩)).2]; simp [h4]

theorem sim_boxH (C : CR X c bl lb a w) {o : Oper} {e : TypeId} {v : Value} {x : D} {d : Nat} {n : Option Nat} (hrun : (execOp a.eval o).run P w = .ok (.value (.pointer (some ⟨w.heap.size, 0, none⟩))) (w.alloc (.cells v.cells e)))
    (hdst : o.dst = some d) (hd : d < X.n) (hv : SR X c bl lb w v x) (hf : x.fits n = true) {K : Act → World → Prop} {Q : Exit → Act → World → Prop}
    (hK : ∀ a' w', RelC X (apply c (some d) (.hp c.2.length 0 (n.getD 1) 0 0, none, some (c.2 ++ [.cells true (n.getD 1) 0 0 false [x]]))) a' w' → K a' w') : o.wp P a w K Q := by
  obtain ⟨h1, h2, h3⟩ := fits_all hv hf
  obtain ⟨_, hs, hc⟩ := sr_cells hv h1
  have A := alloc_al w (.cells v.cells e)
  have E := (new_ext C.heap A (.cells true (n.getD 1) 0 0 false [x])).ext (L := X.LL c.1.b lb)
  have hsz := A.size
  have C' := C.objNew (ob := .cells true (n.getD 1) 0 0 false [x]) A (by
    refine ⟨v.cells, e, 0, 0, A.new, fun _ _ _ => by omega, ⟨by simp [hs, h2], tag_zero⟩, fun i y hy => ?_⟩
    cases i with
    | succ i => simp at hy
    | zero =>
      simp at hy; subst hy
      exact ⟨h2, h3, by simp, fun j u hu => by have := (hc j u hu).ext E (by omega); simpa using this⟩)
  refine wp_val hrun (hK _ _ ?_)
  rw [hdst, apply_heap]
  refine ⟨_, _, C'.put (fun d' e' => by cases e'; exact hd) fun _ => Rep.slot _ _ ?_⟩
  refine .hp _ _ _ _ _ _ (by simp) (by simp) fun _ => ?_
  simp

theorem sim_boxI (C : CR X c bl lb a w) {o : Oper} {e : TypeId} {x : Operand} {x' : Opd} {d : Nat} {n : Option Nat} (ho : o.op = .box e x) (hdst : o.dst = some d) (hd : d < X.n) (h1 : opdOK x x' = true)
    (hf : (x'.ev c.1.s).fits n = true) (hp : (x'.ev c.1.s).pure = true) {K : Act → World → Prop} {Q : Exit → Act → World → Prop}
    (hK : ∀ a' w', RelC X (apply c (some d) (.iptr (x'.ev c.1.s), none, none)) a' w' → K a' w') : o.wp P a w K Q := by
  have hr := (opd_rep C h1)
  obtain ⟨h2, _, _⟩ := fits_all hr hf
  obtain ⟨hr', hs, hc⟩ := sr_cells hr h2
  have hrun : (execOp a.eval o).run P w = .ok (.value (.pointer (some ⟨w.heap.size, 0, none⟩))) (w.alloc (.cells (a.eval x).cells e)) := by
    simp [execOp, ho, Instr.box, newVar_run]
  have A := alloc_al w (.cells (a.eval x).cells e)
  have hsz := A.size
  have C' := C.grown A.os A.tape A.output (by omega) A.same
  have E := (Evo.grown c.2 bl (fun _ hi => C.heap.lt hi) A.os A.tape A.output (by omega) A.same).ext (L := X.LL c.1.b lb)
  refine wp_val hrun (hK _ _ ?_)
  rw [hdst]
  refine ⟨_, _, C'.put (fun d' e' => by cases e'; exact hd) fun _ => Rep.slot _ _ ?_⟩
  refine .iptr _ _ (a.eval x) _ ⟨fun g => ?_, by omega, fun j u hu => ?_⟩ hp (hr'.ext E (by omega))
  · rcases g with g | ⟨id, hid, _, g⟩
    · have := C.bound _ g; omega
    · have := C.heap.lt hid; omega
  · rw [cell_of_row _ _ _ _ _ _ A.new]; simpa using hu

/-! ### Stores -/

def putA (cur : Array Value) (o : Nat) (vs : List Value) : Array Value := (cur.toList.take o ++ vs ++ cur.toList.drop (o + vs.length)).toArray

theorem putA_size (cur : Array Value) (o : Nat) (vs : List Value) (h : o + vs.length ≤ cur.size) : (putA cur o vs).size = cur.size := by
  simp [putA]; omega
theorem putA_get (cur : Array Value) (o : Nat) (vs : List Value) (h : o + vs.length ≤ cur.size) (k : Nat) : (putA cur o vs)[k]? = if o ≤ k ∧ k < o + vs.length then vs[k - o]? else cur[k]? := by
  simp only [putA, List.getElem?_toArray]
  have hl : (cur.toList.take o).length = o := by simp; omega
  by_cases h1 : k < o
  · rw [if_neg (by omega), List.append_assoc, List.getElem?_append_left (by omega), List.getElem?_take]
    simp [h1]
  · by_cases h2 : k < o + vs.length
    · rw [if_pos (by omega), List.append_assoc, List.getElem?_append_right (by omega), List.getElem?_append_left (by omega), hl]
    · rw [if_neg (by omega), List.append_assoc, List.getElem?_append_right (by omega), List.getElem?_append_right (by omega), List.getElem?_drop, hl]
      simp only [Array.getElem?_toList]
      congr 1; omega

theorem storeCells_run {t : TypeId} {lo hi b : Nat} (o : Nat) : ∀ (vs : List Value) (i : Nat) (cur : Array Value) (w : World), w.heap[b]? = some (.cells cur t (lo, hi)) → (∀ k, k < cur.size → ¬ (lo ≤ k ∧ k < hi)) → o + i + vs.length ≤ cur.size →
    (∀ v ∈ vs, v.oneCell' = true) → ∃ w', (storeCells ⟨b, o, none⟩ vs i).run P w = .ok () w' ∧ Wr w w' b (.cells (putA cur (o + i) vs) t (lo, hi))
  | [], i, cur, w, hg, _, _, _ => ⟨w, rfl, rfl, rfl, rfl, rfl, fun _ _ => rfl, by rw [hg]; simp [putA]⟩
  | v :: vs, i, cur, w, hg, hf, hl, h1 => by
    have hi' : o + i < cur.size := by simp at hl; omega
    have hcell : w.cell? ⟨b, o + i, none⟩ = some cur[o + i] := by simp [World.cell?, hg, hi']
    have hfro : w.frozen? ⟨b, o + i, none⟩ = false := by
      have := hf _ hi'
      simp only [World.frozen?, hg]
      simpa using this
    have hst : (store ((⟨b, o, none⟩ : Addr).add i) v).run P w = .ok () (w.setCell ⟨b, o + i, none⟩ v) := by
      rw [Addr.add_mid, run_store P w _ v _ (h1 v (by simp)), hcell]
      simp [hfro]
    have hg' : (w.setCell ⟨b, o + i, none⟩ v).heap[b]? = some (.cells (cur.setIfInBounds (o + i) v) t (lo, hi)) := by
      simp [World.setCell, Array.getElem?_modify, hg]
    obtain ⟨w', hr, W⟩ := storeCells_run o vs (i + 1) (cur.setIfInBounds (o + i) v) (w.setCell ⟨b, o + i, none⟩ v) hg' (by simpa using hf) (by simp at hl ⊢; omega) (fun x hx => h1 x (by simp [hx]))
    refine ⟨w', by simp only [storeCells, Sem.run_bind, hst, Result.andThen_ok]; exact hr, W.os, W.tape, W.output, by rw [W.size]; simp, fun k hk => ?_, ?_⟩
    · rw [W.same k hk]; exact heap_setCell_other w ⟨b, o + i, none⟩ k v hk
    · rw [W.new]
      congr 2
      apply Array.ext_getElem?
      intro k
      rw [putA_get _ _ _ (by simp at hl ⊢; omega), putA_get _ _ _ (by simp at hl ⊢; omega)]
      simp only [Array.getElem?_setIfInBounds, List.length_cons]
      by_cases q1 : k = o + i
      · subst q1
        rw [if_neg (by omega), if_pos (by omega)]
        simp [hi']
      · by_cases q2 : o + (i + 1) ≤ k ∧ k < o + (i + 1) + vs.length
        · rw [if_pos q2, if_pos (by omega)]
          rw [show k - (o + i) = (k - (o + (i + 1))) + 1 by omega]
          simp
        · have q3 : ¬ (o + i = k) := fun q => q1 q.symm
          have q4 : ¬ (o + i ≤ k ∧ k < o + i + (vs.length + 1)) := by omega
          rw [if_neg q2, if_neg q3, if_neg q4]

theorem cell_one {N : Nat → Prop} {st : St} {v : Value} {d : D} (h : Rep w N st bl v d) (hc : d.cell = true) : v.oneCell' = true := by
  cases h <;> first | rfl | (simp [D.cell] at hc; done)

theorem splice_get {cs xs : List D} {off : Nat} {r : List D} (h : splice cs off xs = some r) : off + xs.length ≤ cs.length ∧ r.length = cs.length ∧ ∀ k, r[k]? = if off ≤ k ∧ k < off + xs.length then xs[k - off]? else cs[k]? := by
  unfold splice at h
  split at h
  · rename_i hle
    simp at h; subst h
    refine ⟨hle, by simp; omega, fun k => ?_⟩
    have hl : (cs.take off).length = off := by simp; omega
    by_cases h1 : k < off
    · rw [if_neg (by omega), List.getElem?_append_left (by omega), List.getElem?_take]; simp [h1]
    · by_cases h2 : k < off + xs.length
      · rw [if_pos (by omega), List.getElem?_append_right (by omega), List.getElem?_append_left (by omega), hl]
      · rw [if_neg (by omega), List.getElem?_append_right (by omega), List.getElem?_append_right (by omega), List.getElem?_drop, hl]
        congr 1; omega
  · simp at h

theorem storeVar_run {t : TypeId} {n lo hi b o : Nat} {e : TypeId} {cur : Array Value} {v : Value} (hs : sizeOK P t n = true) (hv : v.cells.size = n) (hg : w.heap[b]? = some (.cells cur e (lo, hi)))
    (hf : ∀ k, k < cur.size → ¬ (lo ≤ k ∧ k < hi)) (hl : o + n ≤ cur.size) (h1 : ∀ u ∈ v.cells.toList, u.oneCell' = true) :
    ∃ w', (storeVar t ⟨b, o, none⟩ v).run P w = .ok () w' ∧ Wr w w' b (.cells (putA cur o v.cells.toList) e (lo, hi)) := by
  obtain ⟨w', hr, W⟩ := storeCells_run (P := P) o v.cells.toList 0 cur w hg hf (by simp; omega) h1
  exact ⟨w', by simp [storeVar, size_run hs w, hv, hr], W⟩

/-- A store into the frame's box. -/
theorem sim_storeL (C : CR X c bl lb a w) {o : Oper} {t : TypeId} {p x : Operand} {p' x' : Opd} {n b b' g off : Nat} {cs : List D} (ho : o.op = .store t p x) (hdst : o.dst = none) (h1 : opdOK p p' = true) (h2 : opdOK x x' = true)
    (hs : sizeOK P t n = true) (hn : (x'.ev c.1.s).cells.length = n) (hok : (x'.ev c.1.s).okv = true) (hp : p'.ev c.1.s = .lp b' g off) (hb : b' = b ∧ (getB c.1.b b).1 = g) (hsp : splice (getB c.1.b b).2 off (x'.ev c.1.s).cells = some cs)
    {K : Act → World → Prop} {Q : Exit → Act → World → Prop}
    (hK : ∀ a' w', RelC X (apply c none (.undef, some (b, g, cs), none)) a' w' → K a' w') : o.wp P a w K Q := by
  obtain ⟨rfl, rfl⟩ := hb
  have rp := opd_rep C h1
  rw [hp] at rp
  obtain ⟨q, hq, _, hq'⟩ := rp
  obtain ⟨rfl, hg0⟩ := hq' rfl
  have rx := (opd_rep C h2).okv hok
  have hall : (x'.ev c.1.s).cells.all D.okv = true := by
    generalize x'.ev c.1.s = d at *
    generalize a.eval x = v at *
    by_cases hg : ∃ cs, d = .agg cs
    · obtain ⟨cs, rfl⟩ := hg
      cases rx with
      | agg cs ds hl hc h =>
        simp only [D.cells, List.all_eq_true]
        intro y hy
        obtain ⟨i, hi⟩ := List.getElem?_of_mem hy
        have := hc i y hi
        cases y <;> first | rfl | (simp [D.cell] at this; done)
    · rw [(rx.cells_one (fun cs e => hg ⟨cs, e⟩)).2]; simp [hok]
  obtain ⟨_, hsz, hc⟩ := sr_cells (opd_rep C h2) hall
  obtain ⟨hbase, cur, e, hcur, hcsz, hcc⟩ := C.boxes b' hg0
  obtain ⟨hle, hlen, hget⟩ := splice_get hsp
  have hone : ∀ u ∈ (a.eval x).cells.toList, u.oneCell' = true := by
    intro u hu
    obtain ⟨j, hj⟩ := List.getElem?_of_mem hu
    have hj' : j < (x'.ev c.1.s).cells.length := by
      have := (List.getElem?_eq_some_iff.1 hj).1
      rw [← hsz]; simpa using this
    obtain ⟨h3, v, h4, h5⟩ := hc j _ (List.getElem?_eq_getElem hj')
    have : v = u := by
      rw [Array.getElem?_toList] at hj
      rw [hj] at h4; simpa using h4.symm
    subst this
    exact cell_one h5 h3
  obtain ⟨w', hr, W⟩ := storeVar_run (P := P) (o := off) hs (by rw [hsz, hn]) hcur (by omega) (by rw [hcsz]; omega) hone
  refine wp_skp (w' := w') (by simp [execOp, ho, hq, Instr.storeAt, Instr.sureAddr, hr]) (hK _ _ ?_)
  rw [hdst]
  have hl1 : (a.eval x).cells.toList.length = (x'.ev c.1.s).cells.length := by simpa using hsz
  refine ⟨_, _, C.boxStore hg0 hcur W hlen (by rw [putA_size _ _ _ (by omega), hcsz, hlen]) fun j y hy => ?_⟩
  rw [hget] at hy
  unfold CRep
  rw [putA_get _ _ _ (by omega)]
  by_cases hj : off ≤ j ∧ j < off + (x'.ev c.1.s).cells.length
  · rw [if_pos hj] at hy
    rw [if_pos (by omega), Array.getElem?_toList]
    exact hc _ _ hy
  · rw [if_neg hj] at hy
    rw [if_neg (by omega)]
    exact hcc j y hy

end Go.Nt
