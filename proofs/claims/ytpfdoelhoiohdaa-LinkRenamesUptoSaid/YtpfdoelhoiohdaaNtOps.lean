/-
  WHEN AN OPERATION OF THE ABSTRACT MACHINE IS THE MODEL's OPERATION; the simulation of those that only reckon or read.
  No condition: definitions, and lemmas on them.
-/
import Derived.Test.YtpfdoelhoiohdaaNtHeap
import Derived.Deep.MidRow
import Derived.Laws.Concat
import Derived.Lib.Bytealg
namespace Go.Nt
open Go

def constC : Value → D → Bool
  | .bool a, .bool b => a == b
  | .int k n, .int j m => decide (k = j) && n == m
  | .string s, .str l => s.data.toList == l
  | .pointer none, .nilp => true
  | .nilFunc, .nilf => true
  | .map none, .nilm => true
  | .nilIface, .nili => true
  | .slice none 0 0, .nils => true
  | _, _ => false
def constOK : Value → D → Bool
  | .agg cs, .agg ds => cs.size == ds.length && (cs.toList.zip ds).all fun p => constC p.1 p.2
  | .tuple vs, .tup ds => vs.size == 0 && ds.isEmpty
  | v, d => constC v d

theorem constC_rep {w : World} {N : Nat → Prop} {st : St} {bl : Bl} {v : Value} {d : D} (h : constC v d = true) : Rep w N st bl v d ∧ d.cell = true ∧ d.okv = true := by
  unfold constC at h
  split at h
  · simp at h; subst h; exact ⟨.bool _, rfl, rfl⟩
  · simp at h; obtain ⟨rfl, rfl⟩ := h; exact ⟨.int _ _, rfl, rfl⟩
  · simp at h; subst h; exact ⟨.str _, rfl, rfl⟩
  · exact ⟨.nilp, rfl, rfl⟩
  · exact ⟨.nilf, rfl, rfl⟩
  · exact ⟨.nilm, rfl, rfl⟩
  · exact ⟨.nili, rfl, rfl⟩
  · exact ⟨.nils, rfl, rfl⟩
  · simp at h

theorem zip_all {p : Value → D → Bool} : ∀ {l : List Value} {ds : List D}, ((l.zip ds).all fun x => p x.1 x.2) = true → ∀ (i : Nat) (v : Value) (d : D), l[i]? = some v → ds[i]? = some d → p v d = true
  | [], _, _, i, v, d, h, _ => by simp at h
  | _ :: _, [], _, i, v, d, _, h => by simp at h
  | x :: l, y :: ds, h, i, v, d, hv, hd => by
    simp at h
    cases i with
    | zero => simp at hv hd; subst hv; subst hd; exact h.1
    | succ i => exact zip_all (by simpa using h.2) i v d (by simpa using hv) (by simpa using hd)

theorem const_rep {w : World} {N : Nat → Prop} {st : St} {bl : Bl} {v : Value} {d : D} (h : constOK v d = true) : Rep w N st bl v d := by
  unfold constOK at h
  split at h
  · rename_i cs ds
    simp only [Bool.and_eq_true, beq_iff_eq] at h
    refine .agg cs ds h.1 (fun i d hd => ?_) (fun i v d hv hd => (constC_rep (zip_all h.2 i v d (by simpa using hv) hd)).1)
    have hi : i < cs.size := by have := (List.getElem?_eq_some_iff.1 hd).1; omega
    exact (constC_rep (w := w) (N := N) (st := st) (bl := bl) (zip_all h.2 i cs[i] d (by simp [hi]) hd)).2.1
  · rename_i vs ds
    simp only [Bool.and_eq_true, beq_iff_eq, List.isEmpty_iff] at h
    obtain ⟨h1, rfl⟩ := h
    exact .tup vs [] (by simpa using h1) (fun i v d _ hd => by simp at hd)
  · exact (constC_rep h).1

def opdOK : Operand → Opd → Bool
  | .tmp t, .t n => t == n
  | .const v, .c d => constOK v d
  | .func f, .f n => f == n
  | _, _ => false
def opdsOK : List Operand → List Opd → Bool
  | [], [] => true
  | x :: xs, y :: ys => opdOK x y && opdsOK xs ys
  | _, _ => false
def opdO : Option Operand → Option Opd → Bool
  | none, none => true
  | some x, some y => opdOK x y
  | _, _ => false

variable {P : Program} {X : Cx} {c : Cfg} {bl : Bl} {lb : Nat → Nat} {a : Act} {w : World}

abbrev NX (X : Cx) (c : Cfg) (bl : Bl) (lb : Nat → Nat) : Nat → Prop := NN (X.LL c.1.b lb) c.2 bl
abbrev SR (X : Cx) (c : Cfg) (bl : Bl) (lb : Nat → Nat) (w : World) (v : Value) (d : D) : Prop := SRep w (NX X c bl lb) c.2 bl (getB c.1.b) lb v d
abbrev RR (X : Cx) (c : Cfg) (bl : Bl) (lb : Nat → Nat) (w : World) (v : Value) (d : D) : Prop := Rep w (NX X c bl lb) c.2 bl v d

theorem opd_rep (C : CR X c bl lb a w) {x : Operand} {y : Opd} (h : opdOK x y = true) : SR X c bl lb w (a.eval x) (y.ev c.1.s) := by
  unfold opdOK at h
  split at h
  · rename_i t n; simp at h; subst h; exact C.slots t
  · exact (const_rep h).slot _ _
  · rename_i f n; simp at h; subst h
    exact (Rep.fn f #[] #[] [] [] rfl rfl (fun i v d hv _ => by simp at hv) (fun i v d hv _ => by simp at hv)).slot _ _
  · simp at h

theorem opds_rep (C : CR X c bl lb a w) : ∀ {xs : List Operand} {ys : List Opd}, opdsOK xs ys = true → xs.length = ys.length ∧ ∀ (i : Nat) (v : Value) (d : D), (xs.map a.eval)[i]? = some v → (ys.map (Opd.ev c.1.s))[i]? = some d → SR X c bl lb w v d
  | [], [], _ => ⟨rfl, fun i v d hv _ => by simp at hv⟩
  | [], _ :: _, h => by simp [opdsOK] at h
  | _ :: _, [], h => by simp [opdsOK] at h
  | x :: xs, y :: ys, h => by
    simp only [opdsOK, Bool.and_eq_true] at h
    obtain ⟨h1, h2⟩ := opds_rep C h.2
    refine ⟨by simp [h1], fun i v d hv hd => ?_⟩
    cases i with
    | zero => simp at hv hd; subst hv; subst hd; exact opd_rep C h.1
    | succ i => exact h2 i v d (by simpa using hv) (by simpa using hd)

/-- A variable's shape: a struct or an array of so many cells, or one cell. -/
def shapeOK (P : Program) (t : TypeId) (n : Option Nat) : Bool :=
  match P.underlying t, P.info? t with
  | some (.struct _), some i | some (.array ..), some i => n == some i.size
  | some _, some i => n == none && i.size == 1
  | _, _ => false
def sizeOK (P : Program) (t : TypeId) (n : Nat) : Bool :=
  match P.info? t with
  | some i => i.size == n
  | none => false
def zeroOK (P : Program) (t : TypeId) (d : D) : Bool :=
  match (P.info? t).bind (·.zero) with
  | some z => constOK z d
  | none => false

theorem size_run {t : TypeId} {n : Nat} (h : sizeOK P t n = true) (w : World) : (sizeOf t).run P w = .ok n w := by
  unfold sizeOK at h
  cases hi : P.info? t with
  | none => simp [hi] at h
  | some i => simp [hi] at h; simp [sizeOf, typeInfo, hi, h]

theorem shape_run {t : TypeId} {n : Option Nat} (h : shapeOK P t n = true) (w : World) : (isAgg t).run P w = .ok n.isSome w ∧ (sizeOf t).run P w = .ok (n.getD 1) w := by
  unfold shapeOK at h
  have hs : ∀ i, P.info? t = some i → (sizeOf t).run P w = .ok i.size w := fun i hi => by simp [sizeOf, typeInfo, hi]
  split at h
  · rename_i f i hu hi
    simp at h; subst h
    exact ⟨by simp [isAgg, run_underlying hu], hs i hi⟩
  · rename_i i hu hi
    simp at h; subst h
    exact ⟨by simp [isAgg, run_underlying hu], hs i hi⟩
  · rename_i d i h1 h2 hu hi
    simp at h; obtain ⟨rfl, h⟩ := h
    refine ⟨?_, by rw [hs i hi, h]; rfl⟩
    unfold isAgg
    rw [Sem.run_bind, run_underlying hu]
    cases d <;> first | rfl | exact absurd rfl (h1 _) | exact absurd rfl (h2 _ _)
  · simp at h

theorem zero_run {t : TypeId} {d : D} (h : zeroOK P t d = true) (w : World) : ∃ z, (zeroValue t).run P w = .ok z w ∧ constOK z d = true := by
  unfold zeroOK at h
  cases hi : P.info? t with
  | none => simp [hi] at h
  | some i =>
    cases hz : i.zero with
    | none => simp [hi, hz] at h
    | some z => exact ⟨z, by simp [zeroValue, typeInfo, hi, hz], by simpa [hi, hz] using h⟩

/-! ### Reading cells -/

/-- Cells that stand in a block. -/
def Cells (w : World) (N : Nat → Prop) (st : St) (bl : Bl) (b o : Nat) (ds : List D) : Prop := ∀ (j : Nat) (d : D), ds[j]? = some d → d.cell = true ∧ ∃ v, w.cell? ⟨b, o + j, none⟩ = some v ∧ Rep w N st bl v d

theorem part_run {N : Nat → Prop} {st : St} {b o off : Nat} {ds : List D} {n : Option Nat} {d : D} (h : Cells w N st bl b o ds) (hp : part ds off n = some d) :
    ∃ v, (∀ t, shapeOK P t n = true → (loadVar t ⟨b, o + off, none⟩).run P w = .ok v w) ∧ Rep w N st bl v d ∧ ∀ (j : Nat) (x : Value), v.cells[j]? = some x → w.cell? ⟨b, o + off + j, none⟩ = some x := by
  cases n with
  | none =>
    simp only [part] at hp
    obtain ⟨hc, v, hv, hr⟩ := h off d hp
    refine ⟨v, fun t hs => ?_, hr, fun j x hx => ?_⟩
    · obtain ⟨h1, h2⟩ := shape_run hs w
      simp [loadVar, h1, load, Sem.run, hv]
    · rw [(hr.cells_one (fun cs e => by subst e; simp [D.cell] at hc)).1] at hx
      cases j with
      | zero => simp at hx; subst hx; exact hv
      | succ j => simp at hx
  | some k =>
    simp only [part] at hp
    split at hp
    · rename_i hle
      simp at hp; subst hp
      have hx : ∀ j, j < k → ∃ d, ds[off + j]? = some d := fun j hj => ⟨ds[off + j], by simp⟩
      have hf : ∀ j, j < k → ∃ v, w.cell? ⟨b, o + off + j, none⟩ = some v := fun j hj => by
        obtain ⟨d, hd⟩ := hx j hj
        obtain ⟨_, v, hv, _⟩ := h _ d hd
        exact ⟨v, by rw [Nat.add_assoc]; exact hv⟩
      refine ⟨.agg ((List.range k).map fun j => (w.cell? ⟨b, o + off + j, none⟩).getD undef).toArray, fun t hs => ?_, ?_, fun j x hx => ?_⟩
      · obtain ⟨h1, h2⟩ := shape_run hs w
        have := run_loadCells (P := P) w ⟨b, o + off, none⟩ k (fun j => (w.cell? ⟨b, o + off + j, none⟩).getD undef) (fun j hj => by
          obtain ⟨v, hv⟩ := hf j hj
          rw [Addr.add_mid, hv]; rfl)
        simp [loadVar, h1, h2, this]
      · have hl : ((List.range k).map fun j => (w.cell? ⟨b, o + off + j, none⟩).getD undef).length = k := by simp
        have hget : ∀ (i : Nat) (d : D), ((ds.drop off).take k)[i]? = some d → i < k ∧ ds[off + i]? = some d := fun i d hd => by
          rw [List.getElem?_take] at hd
          split at hd
          · rename_i hi; rw [List.getElem?_drop] at hd; exact ⟨hi, hd⟩
          · simp at hd
        refine .agg _ _ (by simp; omega) (fun i d hd => (h _ d (hget i d hd).2).1) (fun i v d hv hd => ?_)
        obtain ⟨hi, hd'⟩ := hget i d hd
        obtain ⟨_, u, hu, hr⟩ := h _ d hd'
        simp only [List.getElem?_toArray, List.getElem?_map, List.getElem?_range hi, Option.map_some, Option.some.injEq] at hv
        rw [Nat.add_assoc, hu] at hv
        simp at hv; subst hv; exact hr
      · simp only [Value.cells, List.getElem?_toArray, List.getElem?_map, Option.map_eq_some_iff] at hx
        obtain ⟨j', hj', hx⟩ := hx
        obtain ⟨hj, hj''⟩ := List.getElem?_eq_some_iff.1 hj'
        simp at hj hj''; subst hj''
        obtain ⟨v, hv⟩ := hf j hj
        rw [hv] at hx ⊢; simpa using hx
    · simp at hp

theorem part_pure {d u : D} {off : Nat} {n : Option Nat} (h : d.pure = true) (hp : part d.cells off n = some u) : u.pure = true := by
  have key : ∀ x ∈ d.cells, x.pure1 = true := by
    by_cases hd : ∃ cs, d = .agg cs
    · obtain ⟨cs, rfl⟩ := hd
      exact List.all_eq_true.1 h
    · have : d.cells = [d] := by cases d <;> first | rfl | exact absurd ⟨_, rfl⟩ hd
      rw [this]
      intro x hx
      simp at hx; subst hx
      cases x <;> first | exact h | exact absurd ⟨_, rfl⟩ hd
  cases n with
  | none => exact D.p1 (key u (List.mem_of_getElem? hp))
  | some k =>
    simp only [part] at hp
    split at hp
    · simp at hp; subst hp
      simp only [D.pure, List.all_eq_true]
      exact fun x hx => key x (List.mem_of_mem_drop (List.mem_of_mem_take hx))
    · simp at hp

/-- The box's cells. -/
theorem box_cells (C : CR X c bl lb a w) {b : Nat} (hg : (getB c.1.b b).1 ≠ 0) : Cells w (NX X c bl lb) c.2 bl (lb b) 0 (getB c.1.b b).2 := by
  obtain ⟨_, cs, e, h2, _, h4⟩ := C.boxes b hg
  intro j d hd
  obtain ⟨h5, v, h6, h7⟩ := h4 j d hd
  exact ⟨h5, v, by rw [Nat.zero_add, cell_of_row _ _ _ _ _ _ h2]; exact h6, h7⟩

/-- An element's cells, in an object. -/
theorem ob_cells {N : Nat → Prop} {st : St} {b : Nat} {box : Bool} {sz v m : Nat} {fr : Bool} {elems : List D} (h : ObRel w N st bl b (.cells box sz v m fr elems)) {i : Nat} {d : D} (hd : elems[i]? = some d) :
    d.cells.length = sz ∧ d.okv = true ∧ (box = false → d.pure = true) ∧ Cells w N st bl b (i * sz) d.cells := by
  obtain ⟨cs, e, lo, hi, h1, h2, h3, h4⟩ := h
  obtain ⟨a1, a2, a3, a4⟩ := h4 i d hd
  refine ⟨a1, a2, a3, fun j u hu => ?_⟩
  obtain ⟨b1, v, b2, b3⟩ := a4 j u hu
  exact ⟨b1, v, by rw [cell_of_row _ _ _ _ _ _ h1]; exact b2, b3⟩

theorem pure_cell {d : D} (h : d.pure = true) (hn : ∀ cs, d ≠ .agg cs) : d.cell = true ∧ d.cells = [d] := by
  cases d <;> first | exact ⟨rfl, rfl⟩ | exact absurd rfl (hn _) | (simp [D.pure, D.pure1, D.pure0] at h; done)

/-- A pointer's memory, inline. -/
theorem mem_cells {N : Nat → Prop} {st : St} {b o : Nat} {v : Value} {d : D} (hm : MemAt w N b o v) (hr : Rep w N st bl v d) (ht : d.pure = true) : Cells w N st bl b o d.cells := by
  obtain ⟨h1, h2, h3⟩ := hm
  intro j u hu
  have hj : j < v.cells.size := by rw [hr.cells_size]; exact (List.getElem?_eq_some_iff.1 hu).1
  have hv : v.cells[j]? = some v.cells[j] := by simp [hj]
  refine ⟨?_, v.cells[j], h3 j _ hv, hr.cells hv hu⟩
  by_cases hd : ∃ cs, d = .agg cs
  · obtain ⟨cs, rfl⟩ := hd
    cases hr with
    | agg cs ds hl hc h => exact hc j u hu
  · obtain ⟨k1, k2⟩ := pure_cell ht (fun cs e => hd ⟨cs, e⟩)
    rw [k2] at hu
    cases j with
    | zero => simp at hu; subst hu; exact k1
    | succ j => simp at hu

theorem fits_part {d : D} {n : Option Nat} (h : d.fits n = true) : part d.cells 0 n = some d := by
  cases d <;> cases n <;> simp_all [D.fits, part, D.cells]
  rename_i cs k
  subst h; simp

/-! ### The operations that only reckon or read -/

theorem wp_val {o : Oper} {v : Value} {w' : World} {K : Act → World → Prop} {Q : Exit → Act → World → Prop} (h : (execOp a.eval o).run P w = .ok (.value v) w') (hK : K (a.put o.dst v) w') : o.wp P a w K Q := by
  unfold Oper.wp; rw [h]; exact hK
theorem wp_skp {o : Oper} {w' : World} {K : Act → World → Prop} {Q : Exit → Act → World → Prop} (h : (execOp a.eval o).run P w = .ok .skip w') (hK : K (a.put o.dst undef) w') : o.wp P a w K Q := by
  unfold Oper.wp; rw [h]; exact hK

theorem sr_bool (C : CR X c bl lb a w) {x : Operand} {y : Opd} {t : Bool} (h : opdOK x y = true) (hy : y.ev c.1.s = .bool t) : a.eval x = .bool t := by
  have := opd_rep C h
  rw [hy] at this
  generalize a.eval x = v at this
  cases this; rfl
theorem sr_int (C : CR X c bl lb a w) {x : Operand} {y : Opd} {k : IntKind} {n : Int} (h : opdOK x y = true) (hy : y.ev c.1.s = .int k n) : a.eval x = .int k n := by
  have := opd_rep C h
  rw [hy] at this
  generalize a.eval x = v at this
  cases this; rfl
theorem sr_str (C : CR X c bl lb a w) {x : Operand} {y : Opd} {s : List UInt8} (h : opdOK x y = true) (hy : y.ev c.1.s = .str s) : ∃ b : ByteArray, a.eval x = .string b ∧ b.data.toList = s := by
  have := opd_rep C h
  rw [hy] at this
  generalize a.eval x = v at this
  cases this; exact ⟨_, rfl, rfl⟩

theorem rep_str {N : Nat → Prop} {st : St} (s : ByteArray) {l : List UInt8} (h : s.data.toList = l) : Rep w N st bl (.string s) (.str l) := by subst h; exact .str s

/-- The simulation's form for what gives a value and leaves the world alone. -/
def GivesV (P : Program) (X : Cx) (c : Cfg) (bl : Bl) (lb : Nat → Nat) (a : Act) (w : World) (o : Oper) (d : D) : Prop := ∃ v, (execOp a.eval o).run P w = .ok (.value v) w ∧ SR X c bl lb w v d

theorem gv {o : Oper} {v : Value} {d : D} (hr : RR X c bl lb w v d) (h : (execOp a.eval o).run P w = .ok (.value v) w) : GivesV P X c bl lb a w o d := ⟨v, h, hr.slot _ _⟩

theorem sim_move (C : CR X c bl lb a w) {o : Oper} {x : Operand} {y : Opd} (ho : o.op = .move x ∨ o.op = .assign x) (h : opdOK x y = true) : GivesV P X c bl lb a w o (y.ev c.1.s) := by
  rcases ho with ho | ho <;> exact ⟨a.eval x, by simp [execOp, ho], opd_rep C h⟩

theorem sim_pick (C : CR X c bl lb a w) {o : Oper} {x y z : Operand} {x' y' z' : Opd} (ho : o.op = .pick x y z) (h1 : opdOK x x' = true) (h2 : opdOK y y' = true) (h3 : opdOK z z' = true) {t : Bool} (ht : x'.ev c.1.s = .bool t) :
    GivesV P X c bl lb a w o (if t then y'.ev c.1.s else z'.ev c.1.s) := by
  refine ⟨if t then a.eval y else a.eval z, by simp [execOp, ho, sr_bool C h1 ht, asBool], ?_⟩
  cases t
  · exact opd_rep C h3
  · exact opd_rep C h2

theorem bytesLess_eq (x y : List UInt8) : Op.bytesLess x y = bytesLess x y := by
  induction x generalizing y with
  | nil => cases y <;> rfl
  | cons a x ih => cases y with
    | nil => rfl
    | cons b y => simp [Op.bytesLess, bytesLess, ih]

theorem eqGuard_run (op : BinOp) (t : TypeId) (x y : Operand) (u v : Value) (hu : ∀ cs, u ≠ .agg cs) (hv : v ≠ .nilIface) (w : World) : (eqGuard op t x y u v).run P w = .ok () w := by
  cases op <;> first
    | rfl
    | (cases u with
       | agg cs => exact absurd rfl (hu cs)
       | nilIface => cases v <;> first | rfl | exact absurd rfl hv
       | _ => rfl)

theorem sim_bin (C : CR X c bl lb a w) {o : Oper} {op : BinOp} {t u : TypeId} {x y : Operand} {x' y' : Opd} (ho : o.op = .binOp op t x y u) (h1 : opdOK x x' = true) (h2 : opdOK y y' = true) {d : D}
    (hd : binD op (x'.ev c.1.s) (y'.ev c.1.s) = some d) : GivesV P X c bl lb a w o d := by
  unfold binD at hd
  split at hd
  · rename_i k m k' n hx hy
    have e1 := sr_int C h1 hx
    have e2 := sr_int C h2 hy
    have hrun : ∀ v, (binOp op t (.int k m) (.int k' n)).run P w = .ok v w → (execOp a.eval o).run P w = .ok (.value v) w := by
      intro v hv
      simp only [execOp, ho, e1, e2, Sem.run_bind, eqGuard_run op t x y (.int k m) (.int k' n) (fun _ h => nomatch h) (fun h => nomatch h), Result.andThen_ok, hv, Sem.run_pure]
    unfold intD at hd
    split at hd
    · unfold shiftD at hd
      split at hd
      · simp at hd
      · rename_i hn
        simp at hd; subst hd
        exact gv (.int _ _) (hrun _ (by simp [binOp, Op.shift, hn]))
    · unfold shiftD at hd
      split at hd
      · simp at hd
      · rename_i hn
        simp at hd; subst hd
        exact gv (.int _ _) (hrun _ (by simp [binOp, Op.shift, hn]))
    · split at hd
      · rename_i n1 n2 hk
        subst hk
        split at hd
        all_goals first
          | (simp at hd; subst hd; exact gv (.int _ _) (hrun _ (by simp [binOp, Op.intArith])))
          | (simp at hd; subst hd; exact gv (.bool _) (hrun _ (by simp [binOp, Op.intCmp])))
          | (split at hd
             · simp at hd
             · rename_i hz; simp at hd; subst hd; exact gv (.int _ _) (hrun _ (by simp [binOp, Op.intDiv, hz])))
          | skip
        unfold bitsD at hd
        split at hd <;> first | (simp at hd; done) | (simp at hd; subst hd; exact gv (.int _ _) (hrun _ (by simp [binOp, Op.intBits])))
      · simp at hd
  · rename_i p q hx hy
    obtain ⟨b1, e1, q1⟩ := sr_str C h1 hx
    obtain ⟨b2, e2, q2⟩ := sr_str C h2 hy
    have hrun : ∀ v, (binOp op t (.string b1) (.string b2)).run P w = .ok v w → (execOp a.eval o).run P w = .ok (.value v) w := by
      intro v hv
      simp only [execOp, ho, e1, e2, Sem.run_bind, eqGuard_run op t x y (.string b1) (.string b2) (fun _ h => nomatch h) (fun h => nomatch h), Result.andThen_ok, hv, Sem.run_pure]
    have hl1 : b1.toList = p := by rw [← q1]; exact ByteArray.toList_eq b1
    have hl2 : b2.toList = q := by rw [← q2]; exact ByteArray.toList_eq b2
    unfold strD at hd
    split at hd
    all_goals first
      | (simp at hd; subst hd; exact gv (.bool _) (hrun _ (by simp [binOp, Op.stringOp, hl1, hl2, bytesLess_eq])))
      | skip
    · split at hd
      · rename_i hle
        simp at hd; subst hd
        have z1 : b1.size = p.length := by rw [← q1]; simp
        have z2 : b2.size = q.length := by rw [← q2]; simp
        exact gv (rep_str (b1 ++ b2) (by simp [ByteArray.data_append, q1, q2])) (hrun _ (by rw [binOp_string_add]; exact run_string_add_sum w b1 b2 (by unfold most at hle; omega)))
      · simp at hd
    · simp at hd
  · simp at hd

/-! ### Comparing with nil -/

def kindOK (P : Program) (t : TypeId) (k : Kd) : Bool :=
  match k, P.underlying t with
  | .bool, some .bool => true
  | .ptr, some (.pointer _) => true
  | .slice, some (.slice _) => true
  | .func, some (.func ..) => true
  | .map, some (.map ..) => true
  | .str, some .string => true
  | .int, some (.int _) => true
  | _, _ => false

/-- What a nil, or a thing that is none, looks like. -/
def NilV (k : Kd) (v : Value) (b : Bool) : Prop :=
  match k with
  | .ptr => ∃ x, v = .pointer x ∧ x.isNone = b
  | .slice => ∃ x l n, v = .slice x l n ∧ x.isNone = b
  | .func => (b = true ∧ v = .nilFunc) ∨ (b = false ∧ ∃ f x y, v = .func f x y)
  | .map => ∃ x, v = .map x ∧ x.isNone = b
  | _ => False

theorem nil_val {N : Nat → Prop} {st : St} {k : Kd} {v : Value} {d : D} {b : Bool} (h : nilD k d = some b) (hr : Rep w N st bl v d) : NilV k v b := by
  unfold nilD at h
  split at h <;> first | (simp at h; done) | skip
  all_goals (simp at h; subst h; cases hr)
  all_goals first
    | exact ⟨_, rfl, rfl⟩
    | exact ⟨_, _, _, rfl, rfl⟩
    | exact .inl ⟨rfl, rfl⟩
    | exact .inr ⟨rfl, _, _, _, rfl⟩

theorem nil_noLp {k : Kd} {d : D} {b : Bool} (h : nilD k d = some b) : ∀ x g off, d ≠ .lp x g off := by
  intro x g off e; subst e; cases k <;> simp [nilD] at h

theorem equalIn_nil (d : Nat) {t : TypeId} {k : Kd} {u v : Value} {b : Bool} (hk : kindOK P t k = true) (h : (NilV k u true ∧ NilV k v b) ∨ (NilV k u b ∧ NilV k v true)) : (Op.equalIn (d + 1) t u v).run P w = .ok b w := by
  unfold kindOK at hk
  split at hk <;> first | (simp at hk; done) | skip
  all_goals rename_i hu
  all_goals simp only [NilV] at h
  · rcases h with ⟨h, _⟩ | ⟨h, _⟩ <;> exact h.elim
  · rcases h with ⟨⟨x, rfl, hx⟩, ⟨y, rfl, hy⟩⟩ | ⟨⟨x, rfl, hx⟩, ⟨y, rfl, hy⟩⟩
    · cases x <;> simp at hx
      simp [Op.equalIn, run_underlying hu, hy]
    · cases y <;> simp at hy
      cases x <;> simp at hx <;> subst hx <;> simp [Op.equalIn, run_underlying hu]
  · rcases h with ⟨⟨x, _, _, rfl, hx⟩, ⟨y, _, _, rfl, hy⟩⟩ | ⟨⟨x, _, _, rfl, hx⟩, ⟨y, _, _, rfl, hy⟩⟩
    · cases x <;> simp at hx
      simp [Op.equalIn, run_underlying hu, hy]
    · cases y <;> simp at hy
      cases x <;> simp at hx <;> subst hx <;> simp [Op.equalIn, run_underlying hu]
  · rcases h with ⟨⟨_, rfl⟩ | ⟨h, _⟩, ⟨rfl, rfl⟩ | ⟨rfl, _, _, _, rfl⟩⟩ | ⟨⟨rfl, rfl⟩ | ⟨rfl, _, _, _, rfl⟩, ⟨_, rfl⟩ | ⟨h, _⟩⟩
    all_goals first | (simp at h; done) | simp [Op.equalIn, run_underlying hu]
  · rcases h with ⟨⟨x, rfl, hx⟩, ⟨y, rfl, hy⟩⟩ | ⟨⟨x, rfl, hx⟩, ⟨y, rfl, hy⟩⟩
    · cases x <;> simp at hx
      simp [Op.equalIn, run_underlying hu, hy]
    · cases y <;> simp at hy
      cases x <;> simp at hx <;> subst hx <;> simp [Op.equalIn, run_underlying hu]
  · rcases h with ⟨h, _⟩ | ⟨h, _⟩ <;> exact h.elim
  · rcases h with ⟨h, _⟩ | ⟨h, _⟩ <;> exact h.elim

theorem equalIn_bool (d : Nat) {t : TypeId} {p q : Bool} (hu : P.underlying t = some .bool) : (Op.equalIn (d + 1) t (.bool p) (.bool q)).run P w = .ok (p == q) w := by
  simp [Op.equalIn, run_underlying hu]

theorem equal_nil {t : TypeId} {k : Kd} {u v : Value} {b : Bool} (hk : kindOK P t k = true) (h : (NilV k u true ∧ NilV k v b) ∨ (NilV k u b ∧ NilV k v true)) : (Op.equal t u v).run P w = .ok b w :=
  equalIn_nil 9999 hk h

theorem sim_eqn (C : CR X c bl lb a w) {o : Oper} {neg : Bool} {t u : TypeId} {k : Kd} {x y : Operand} {x' y' : Opd} (ho : o.op = .binOp (if neg then .neq else .eql) t x y u) (hk : kindOK P t k = true)
    (h1 : opdOK x x' = true) (h2 : opdOK y y' = true) {b : Bool} (hd : eqnD k (x'.ev c.1.s) (y'.ev c.1.s) = some b) : GivesV P X c bl lb a w o (.bool (if neg then !b else b)) := by
  have main : (Op.equal t (a.eval x) (a.eval y)).run P w = .ok b w ∧ (∀ cs, a.eval x ≠ .agg cs) ∧ a.eval y ≠ .nilIface ∧ (∀ p q, a.eval x ≠ .int p q) ∧ (∀ p q, a.eval x ≠ .float p q) ∧ (∀ p q r, a.eval x ≠ .complex p q r) ∧ (∀ p, a.eval x ≠ .string p) := by
    unfold eqnD at hd
    split at hd
    · split at hd
      · rename_i p q hx hy
        simp at hd; subst hd
        rw [sr_bool C h1 hx, sr_bool C h2 hy]
        refine ⟨?_, by simp, by simp, by simp, by simp, by simp, by simp⟩
        have hu : P.underlying t = some .bool := by
          unfold kindOK at hk; split at hk <;> simp_all
        exact equalIn_bool 9999 hu
      · simp at hd
    · have key : ∃ e, (NilV k (a.eval x) true ∧ NilV k (a.eval y) e ∨ NilV k (a.eval x) e ∧ NilV k (a.eval y) true) ∧ e = b := by
        split at hd
        · rename_i r hx
          exact ⟨b, .inl ⟨nil_val hx ((opd_rep C h1).rep (nil_noLp hx)), nil_val hd ((opd_rep C h2).rep (nil_noLp hd))⟩, rfl⟩
        · rename_i r hy _
          exact ⟨b, .inr ⟨nil_val hd ((opd_rep C h1).rep (nil_noLp hd)), nil_val hy ((opd_rep C h2).rep (nil_noLp hy))⟩, rfl⟩
        · simp at hd
      obtain ⟨e, key, rfl⟩ := key
      refine ⟨equal_nil hk key, ?_⟩
      have shp : ∀ {v : Value} {q : Bool}, NilV k v q → (∀ cs, v ≠ .agg cs) ∧ v ≠ .nilIface ∧ (∀ p q, v ≠ .int p q) ∧ (∀ p q, v ≠ .float p q) ∧ (∀ p q r, v ≠ .complex p q r) ∧ (∀ p, v ≠ .string p) := by
        intro v q hv
        cases k <;> simp only [NilV] at hv
        · obtain ⟨x, rfl, _⟩ := hv; simp
        · obtain ⟨x, _, _, rfl, _⟩ := hv; simp
        · rcases hv with ⟨_, rfl⟩ | ⟨_, _, _, _, rfl⟩ <;> simp
        · obtain ⟨x, rfl, _⟩ := hv; simp
      rcases key with ⟨p, q⟩ | ⟨p, q⟩
      · exact ⟨(shp p).1, (shp q).2.1, (shp p).2.2⟩
      · exact ⟨(shp p).1, (shp q).2.1, (shp p).2.2⟩
  obtain ⟨m1, m2, m3, m4, m5, m6, m7⟩ := main
  refine gv (.bool _) ?_
  have hb : ∀ op, op = BinOp.eql ∨ op = BinOp.neq → binOp op t (a.eval x) (a.eval y) = (if op = .eql then (do pure (.bool (← Op.equal t (a.eval x) (a.eval y)))) else (do pure (.bool (!(← Op.equal t (a.eval x) (a.eval y)))))) := by
    intro op hop
    generalize a.eval x = u at *
    generalize a.eval y = v at *
    rcases hop with rfl | rfl <;> cases u <;> first | rfl | exact absurd rfl (m4 _ _) | exact absurd rfl (m5 _ _) | exact absurd rfl (m6 _ _ _) | exact absurd rfl (m7 _) | (cases v <;> rfl)
  cases neg
  · simp only [execOp, ho, Bool.false_eq_true, if_false, Sem.run_bind, eqGuard_run _ t x y _ _ m2 m3, Result.andThen_ok, hb .eql (.inl rfl), if_true, m1, Sem.run_pure]
  · simp only [execOp, ho, if_true, Sem.run_bind, eqGuard_run _ t x y _ _ m2 m3, Result.andThen_ok, hb .neq (.inr rfl), Sem.run_pure]
    simp [m1]

end Go.Nt
