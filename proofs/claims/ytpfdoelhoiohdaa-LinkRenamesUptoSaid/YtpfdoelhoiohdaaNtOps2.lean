/-
  THE SIMULATION OF MORE OPERATIONS THAT ONLY RECKON OR READ: conversions, functions, fields, elements, slices, lengths, loads.
  No condition: lemmas.
-/
import Derived.Test.YtpfdoelhoiohdaaNtOps
import Derived.Lib.IndexBytes
namespace Go.Nt

variable {P : Program} {X : Cx} {c : Cfg} {bl : Bl} {lb : Nat → Nat} {a : Act} {w : World}

theorem sim_un (C : CR X c bl lb a w) {o : Oper} {op : UnOp} {t : TypeId} {x : Operand} {x' : Opd} (ho : o.op = .unOp op t x) (h1 : opdOK x x' = true) {d : D} (hd : unD op (x'.ev c.1.s) = some d) : GivesV P X c bl lb a w o d := by
  unfold unD at hd
  split at hd
  · rename_i k n hx
    simp at hd; subst hd
    exact gv (.int _ _) (by simp [execOp, ho, sr_int C h1 hx, Op.unary, Op.intArith])
  · rename_i k n hx
    simp [bitsD] at hd; subst hd
    exact gv (.int _ _) (by simp [execOp, ho, sr_int C h1 hx, Op.unary, Op.intBits])
  · rename_i t hx
    simp at hd; subst hd
    exact gv (.bool _) (by simp [execOp, ho, sr_bool C h1 hx, Op.unary])
  · simp at hd

theorem sim_mkfn (C : CR X c bl lb a w) {o : Oper} {f : Nat} {xs ys : Array Operand} {xs' ys' : List Opd} (ho : o.op = .makeFunc (.func f) xs ys) (h1 : opdsOK xs.toList xs' = true) (h2 : opdsOK ys.toList ys' = true)
    (k1 : (xs'.map (Opd.ev c.1.s)).all D.okv = true) (k2 : (ys'.map (Opd.ev c.1.s)).all D.okv = true) : GivesV P X c bl lb a w o (.fn f (xs'.map (Opd.ev c.1.s)) (ys'.map (Opd.ev c.1.s))) := by
  obtain ⟨l1, r1⟩ := opds_rep C h1
  obtain ⟨l2, r2⟩ := opds_rep C h2
  refine gv (.fn f (xs.map a.eval) (ys.map a.eval) _ _ (by simpa using l1) (by simpa using l2) (fun i v d hv hd => ?_) (fun i v d hv hd => ?_)) (by simp [execOp, ho, Instr.makeFunc])
  · exact (r1 i v d (by simpa using hv) hd).okv (all_get k1 hd)
  · exact (r2 i v d (by simpa using hv) hd).okv (all_get k2 hd)

def fieldOK (P : Program) (t : TypeId) (f off : Nat) (n : Option Nat) : Bool :=
  match P.underlying t with
  | some (.struct fs) => (match fs[f]? with | some fd => fd.offset == off && (shapeOK P fd.type n && n.getD 1 != 0) | none => false)
  | _ => false

theorem field_run {t : TypeId} {f off : Nat} {n : Option Nat} (h : fieldOK P t f off n = true) (w : World) (b o : Nat) :
    (Instr.fieldAt t (.pointer (some ⟨b, o, none⟩)) f).run P w = .ok (.pointer (some ⟨b, o + off, none⟩)) w := by
  unfold fieldOK at h
  split at h
  · rename_i fs hu
    split at h
    · rename_i fd hf
      simp only [Bool.and_eq_true, beq_iff_eq, bne_iff_ne, ne_eq] at h
      obtain ⟨rfl, hs, hz⟩ := h
      have := (shape_run hs w).2
      simp [Instr.fieldAt, run_underlying hu, hf, Instr.sureAddr, fieldPlace, this, hz, Addr.add_mid]
    · simp at h
  · simp at h

theorem field_run' {t : TypeId} {f off : Nat} {n : Option Nat} (h : fieldOK P t f off n = true) (w : World) (p : Addr) :
    ∃ q : Addr, (Instr.fieldAt t (.pointer (some p)) f).run P w = .ok (.pointer (some q)) w := by
  unfold fieldOK at h
  split at h
  · rename_i fs hu
    split at h
    · rename_i fd hf
      simp only [Bool.and_eq_true, beq_iff_eq, bne_iff_ne, ne_eq] at h
      obtain ⟨rfl, hs, hz⟩ := h
      have := (shape_run hs w).2
      exact ⟨p.add fd.offset, by simp [Instr.fieldAt, run_underlying hu, hf, Instr.sureAddr, fieldPlace, this, hz]⟩
    · simp at h
  · simp at h

/-- A part of what a pointer leads to, inline. -/
theorem iptr_part {N : Nat → Prop} {st : St} {b o off : Nat} {v : Value} {d u : D} {n : Option Nat} (hm : MemAt w N b o v) (hp : d.pure = true) (hr : Rep w N st bl v d) (h : part d.cells off n = some u) :
    Rep w N st bl (.pointer (some ⟨b, o + off, none⟩)) (.iptr u) := by
  obtain ⟨v1, _, h2, h3⟩ := part_run (P := default) (mem_cells hm hr hp) h
  exact .iptr b (o + off) v1 u ⟨hm.1, hm.2.1, h3⟩ (part_pure hp h) h2

theorem sim_fldA (C : CR X c bl lb a w) {o : Oper} {t : TypeId} {x : Operand} {x' : Opd} {f off : Nat} {n : Option Nat} (ho : o.op = .fieldAddr t x f) (h1 : opdOK x x' = true) (hf : fieldOK P t f off n = true) {d : D}
    (hd : fldD (x'.ev c.1.s) off n = some d) :
    GivesV P X c bl lb a w o d := by
  have r := opd_rep C h1
  have he : execOp a.eval o = (do pure (.value (← Instr.fieldAt t (a.eval x) f))) := by simp [execOp, ho]
  unfold fldD at hd
  split at hd
  · rename_i v hx
    rw [hx] at r
    cases hpt : part v.cells off n with
    | none => simp [hpt] at hd
    | some u =>
      simp [hpt] at hd; subst hd
      generalize a.eval x = y at *
      cases (show Rep w (NX X c bl lb) c.2 bl y (.iptr v) from r) with
      | iptr b o v0 d0 hm hp hr => exact gv (iptr_part hm hp hr hpt) (by rw [he]; simp [field_run hf])
  · rename_i b g o' hx
    rw [hx] at r
    simp at hd; subst hd
    obtain ⟨p, hp, hle, hq⟩ := r
    obtain ⟨q, hq'⟩ := field_run' hf w p
    refine ⟨.pointer (some q), by rw [he, hp]; simp [hq'], q, rfl, hle, fun hg => ?_⟩
    obtain ⟨rfl, hg0⟩ := hq hg
    rw [field_run hf] at hq'
    simp at hq'
    exact ⟨hq'.symm, hg0⟩
  · rename_i id ver sz i o' hx
    rw [hx] at r
    simp at hd; subst hd
    generalize a.eval x = y at *
    cases (show Rep w (NX X c bl lb) c.2 bl y (.hp id ver sz i o') from r) with
    | hp _ _ _ _ _ p hi hv ha =>
      obtain ⟨q, hq'⟩ := field_run' hf w p
      refine gv (.hp id ver sz i (o' + off) q hi hv fun e => ?_) (by rw [he]; simp [hq'])
      rw [ha e, field_run hf] at hq'
      simp at hq'
      rw [← hq', Nat.add_assoc]
  · simp at hd

theorem sim_ext (C : CR X c bl lb a w) {o : Oper} {x : Operand} {x' : Opd} {i : Nat} (ho : o.op = .extract x i) (h1 : opdOK x x' = true) {ds : List D} (hx : x'.ev c.1.s = .tup ds) {d : D} (hd : ds[i]? = some d) :
    GivesV P X c bl lb a w o d := by
  have r := opd_rep C h1
  rw [hx] at r
  have he : execOp a.eval o = (do pure (.value (← Instr.extract (a.eval x) i))) := by simp [execOp, ho]
  generalize a.eval x = y at *
  cases (show Rep w (NX X c bl lb) c.2 bl y (.tup ds) from r) with
  | tup vs _ hl h =>
    have hi : i < vs.size := by rw [hl]; exact (List.getElem?_eq_some_iff.1 hd).1
    refine gv (h i vs[i] d (by simp [hi]) hd) ?_
    rw [he]
    simp [Instr.extract, hi]

theorem sim_nilc (C : CR X c bl lb a w) {o : Oper} {x : Operand} {x' : Opd} (ho : o.op = .nilCheck x) (h1 : opdOK x x' = true) (hx : nilD .ptr (x'.ev c.1.s) = some false) : GivesV P X c bl lb a w o (x'.ev c.1.s) := by
  have r := (opd_rep C h1).rep (nil_noLp hx)
  obtain ⟨p, hp, hq⟩ := nil_val hx r
  cases p with
  | none => simp at hq
  | some p => exact gv r (by simp [execOp, ho, hp])

theorem sim_mm (C : CR X c bl lb a w) {o : Oper} {mx : Bool} {cl : Call} {x y : Operand} {x' y' : Opd} (ho : o.op = .call cl) (hc : cl.callee = .builtin (if mx then .max else .min)) (hargs : cl.args = #[x, y])
    (h1 : opdOK x x' = true) (h2 : opdOK y y' = true) {k : IntKind} {m n : Int} (hx : x'.ev c.1.s = .int k m) (hy : y'.ev c.1.s = .int k n) :
    GivesV P X c bl lb a w o (.int k (if mx then (if n > m then n else m) else (if n < m then n else m))) := by
  refine gv (.int _ _) ?_
  have e1 := sr_int C h1 hx
  have e2 := sr_int C h2 hy
  cases mx
  · simp [execOp, ho, resolve, hc, hargs, invoke, builtin, Builtin.min_, e1, e2, Builtin.min2]
  · simp [execOp, ho, resolve, hc, hargs, invoke, builtin, Builtin.max_, e1, e2, Builtin.max2]

def lenOK (P : Program) (t : TypeId) (k : Kd) : Bool := kindOK P t k && (k == .str || (k == .slice || k == .map))

theorem sim_len (C : CR X c bl lb a w) {o : Oper} {k : Kd} {cl : Call} {t : TypeId} {x : Operand} {x' : Opd} {q : Bool} (ho : o.op = .call cl) (hc : cl.callee = .builtin .len) (hargs : cl.args = #[x]) (ht : cl.argTypes[0]? = some t)
    (hk : lenOK P t k = true) (h1 : opdOK x x' = true) {d : D}
    (hd : lenD c.2 k (x'.ev c.1.s) q = some d) : GivesV P X c bl lb a w o d := by
  have r := opd_rep C h1
  have he : execOp a.eval o = (do pure (.value (← Builtin.len_ cl.argTypes o.type #[a.eval x]))) := by simp [execOp, ho, resolve, hc, hargs, invoke, builtin]
  simp only [lenOK, Bool.and_eq_true] at hk
  have hku := hk.1
  unfold kindOK at hku
  unfold lenD at hd
  split at hd
  all_goals first | (simp at hd; done) | skip
  all_goals rename_i hx
  all_goals rw [hx] at r
  · obtain ⟨b, e1, q1⟩ := sr_str C h1 hx
    simp at hd; subst hd
    split at hku <;> first | contradiction | skip
    rename_i hu
    refine gv (.int _ _) ?_
    rw [he, e1]
    simp [Builtin.len_, ht, run_underlying hu, goInt, ← q1]
  all_goals (split at hku <;> first | contradiction | skip)
  all_goals rename_i hu
  · simp at hd; subst hd
    generalize a.eval x = y at *
    cases (show Rep w (NX X c bl lb) c.2 bl y .nils from r)
    exact gv (.int _ _) (by rw [he]; simp [Builtin.len_, ht, run_underlying hu, goInt])
  · simp at hd; subst hd
    generalize a.eval x = y at *
    cases (show Rep w (NX X c bl lb) c.2 bl y .nilm from r)
    exact gv (.int _ _) (by rw [he]; simp [Builtin.len_, ht, run_underlying hu, goInt])
  · simp at hd; subst hd
    generalize a.eval x = y at *
    cases (show Rep w (NX X c bl lb) c.2 bl y (.sl _ _ _) from r)
    exact gv (.int _ _) (by rw [he]; simp [Builtin.len_, ht, run_underlying hu, goInt])
  · simp at hd; subst hd
    generalize a.eval x = y at *
    cases (show Rep w (NX X c bl lb) c.2 bl y (.rs _ _ _ _ _ _) from r)
    exact gv (.int _ _) (by rw [he]; simp [Builtin.len_, ht, run_underlying hu, goInt])
  · split at hd
    · simp at hd
    · split at hd
      · rename_i m ents hob
        simp at hd; subst hd
        generalize a.eval x = y at *
        cases (show Rep w (NX X c bl lb) c.2 bl y (.mp _) from r) with
        | mp _ hi hm =>
          have := C.heap.obj _ hi
          rw [hob] at this
          obtain ⟨es, clock, h1', h2', _⟩ := this
          exact gv (.int _ _) (by rw [he]; simp [Builtin.len_, ht, run_underlying hu, goInt, getObj, Sem.run, h1', h2'])
      · simp at hd

/-- What is read behind a pointer. -/
theorem load_rep (C : CR X c bl lb a w) {v : Value} {p d : D} {n : Option Nat} {l : Option Nat} {q : Bool} (hv : SR X c bl lb w v p) (hd : loadD (getB c.1.b) c.2 p n l q = some d) :
    ∃ b o u, v = .pointer (some ⟨b, o, none⟩) ∧ (∀ t, shapeOK P t n = true → (loadVar t ⟨b, o, none⟩).run P w = .ok u w) ∧ RR X c bl lb w u d := by
  unfold loadD at hd
  split at hd
  · rename_i b
    split at hd
    · rename_i b' g off
      split at hd
      · rename_i hb
        obtain ⟨rfl, hg⟩ := hb
        obtain ⟨p, hp, hle, hq⟩ := hv
        obtain ⟨rfl, hg0⟩ := hq hg
        obtain ⟨u, hrun, hr, _⟩ := part_run (P := P) (box_cells C (b := b') (by omega)) hd
        rw [Nat.zero_add] at hrun
        exact ⟨_, _, u, hp, hrun, hr⟩
      · simp at hd
    · simp at hd
  · split at hd
    · rename_i d0
      split at hd
      · rename_i hf
        simp at hd; subst hd
        cases (show Rep w (NX X c bl lb) c.2 bl v (.iptr d0) from hv) with
        | iptr b o v0 _ hm hp hr =>
          obtain ⟨u, hrun, hr', _⟩ := part_run (P := P) (mem_cells hm hr hp) (fits_part hf)
          exact ⟨b, o, u, rfl, hrun, hr'⟩
      · simp at hd
    · rename_i id ver sz idx off
      split at hd
      · simp at hd
      · split at hd
        · rename_i box sz' ver' m fr elems hob
          split at hd
          · rename_i hvs
            obtain ⟨rfl, rfl⟩ := hvs
            cases he : elems[idx]? with
            | none => simp [he] at hd
            | some e =>
              simp [he] at hd
              cases (show Rep w (NX X c bl lb) c.2 bl v (.hp id ver' sz' idx off) from hv) with
              | hp _ _ _ _ _ p hi hv' ha =>
                rw [hob] at ha
                have := C.heap.obj id hi
                rw [hob] at this
                obtain ⟨_, _, _, hcells⟩ := ob_cells this he
                obtain ⟨u, hrun, hr', _⟩ := part_run (P := P) hcells hd
                exact ⟨_, _, u, by rw [ha rfl], hrun, hr'⟩
          · simp at hd
        · simp at hd
    · simp at hd

theorem sim_load (C : CR X c bl lb a w) {o : Oper} {t : TypeId} {x : Operand} {x' : Opd} {n : Option Nat} {l : Option Nat} {q : Bool} (ho : o.op = .load t x) (h1 : opdOK x x' = true) (hs : shapeOK P t n = true) {d : D}
    (hd : loadD (getB c.1.b) c.2 (x'.ev c.1.s) n l q = some d) : GivesV P X c bl lb a w o d := by
  obtain ⟨b, o', u, hp, hrun, hr⟩ := load_rep (P := P) C (opd_rep C h1) hd
  exact gv hr (by simp [execOp, ho, hp, Instr.loadAt, Instr.sureAddr, hrun t hs])

def elemOK (P : Program) (t : TypeId) (sz : Nat) (n : Option Nat) (arr : Option Nat) : Bool :=
  match P.underlying t, arr with
  | some (.slice e), none => sizeOK P e sz && shapeOK P e n
  | some (.array k e), some k' => k == k' && (sizeOK P e sz && shapeOK P e n)
  | _, _ => false

theorem add_eq (p : Addr) (k : Nat) (h : p.spot = none) : p.add k = ⟨p.block, p.off + k, none⟩ := by
  unfold Addr.add
  split
  · rename_i hk; subst hk; cases p; simp_all
  · simp

theorem sim_idxA (C : CR X c bl lb a w) {o : Oper} {t : TypeId} {x y : Operand} {x' y' : Opd} {sz : Nat} {n arr : Option Nat} (ho : o.op = .indexAddr t x y) (h1 : opdOK x x' = true) (h2 : opdOK y y' = true) (he : elemOK P t sz n arr = true)
    {k : IntKind} {i : Int} (hy : y'.ev c.1.s = .int k i) (hi : ¬ i < 0) {d : D}
    (hd : idxAD (x'.ev c.1.s) i.toNat sz n arr = some d) : GivesV P X c bl lb a w o d := by
  have r := opd_rep C h1
  have ei := sr_int C h2 hy
  have hrun : execOp a.eval o = (do pure (.value (← Instr.indexAt t (a.eval x) (.int k i)))) := by simp [execOp, ho, ei]
  unfold idxAD at hd
  unfold elemOK at he
  split at he
  · rename_i e hu
    simp only [Bool.and_eq_true] at he
    have hsz := size_run he.1 w
    have hix : ∀ (p : Addr) (len cap : Nat), i.toNat < len → (Instr.indexAt t (.slice (some p) len cap) (.int k i)).run P w = .ok (.pointer (some (p.add (i.toNat * sz)))) w := by
      intro p len cap hl
      have : 0 ≤ i ∧ i < (len : Int) := by omega
      simp [Instr.indexAt, asIntOf, run_underlying hu, this, hsz]
    simp only at hd
    split at hd
    · rename_i sz' full ds hx
      rw [hx] at r
      split at hd
      · rename_i hsz'
        subst hsz'
        cases hg : ds[i.toNat]? with
        | none => simp [hg] at hd
        | some u =>
          simp [hg] at hd
          obtain ⟨hf, rfl⟩ := hd
          generalize a.eval x = v at *
          have hl := (List.getElem?_eq_some_iff.1 hg).1
          cases (show Rep w (NX X c bl lb) c.2 bl v (.sl sz' full ds) from r) with
          | sl _ _ _ p cap vs hc hfull hs hp hm hrep =>
            refine gv (v := .pointer (some ⟨p.block, p.off + i.toNat * sz', none⟩)) (.iptr _ _ (vs i.toNat) u (hm _ _ hg) (hp _ _ hg).1 (hrep _ _ hg)) ?_
            rw [hrun]
            have hn : ds ≠ [] := by intro e; subst e; simp at hl
            simp only [Sem.run_bind, hix p _ cap hl, add_eq p _ (hs hn), Result.andThen_ok, Sem.run_pure]
      · simp at hd
    · rename_i id ver sz' off len full hx
      rw [hx] at r
      split at hd
      · rename_i hsz'
        obtain ⟨rfl, hl⟩ := hsz'
        simp at hd; subst hd
        generalize a.eval x = v at *
        cases (show Rep w (NX X c bl lb) c.2 bl v (.rs id ver sz' off len full) from r) with
        | rs _ _ _ _ _ _ p cap hid hv hc hfull ha =>
          refine gv (.hp id ver sz' (off + i.toNat) 0 (p.add (i.toNat * sz')) hid hv fun e => ?_) (by rw [hrun]; simp [hix p _ cap hl])
          obtain ⟨h3, _⟩ := ha e
          rw [h3 (by omega), Addr.add_mid, Nat.add_mul]
          simp
      · simp at hd
    · simp at hd
  · rename_i k0 e k' hu
    simp only [Bool.and_eq_true, beq_iff_eq] at he
    obtain ⟨rfl, he1, he2⟩ := he
    have hsz := size_run he1 w
    have hix : ∀ (p : Addr), i.toNat < k0 → (Instr.indexAt t (.pointer (some p)) (.int k i)).run P w = .ok (.pointer (some (p.add (i.toNat * sz)))) w := by
      intro p hl
      have : 0 ≤ i ∧ i < (k0 : Int) := by omega
      simp [Instr.indexAt, asIntOf, run_underlying hu, this, hsz, Instr.sureAddr]
    simp only at hd
    split at hd
    · rename_i hl
      split at hd
      · rename_i v0 hx
        rw [hx] at r
        cases hpt : part v0.cells (i.toNat * sz) n with
        | none => simp [hpt] at hd
        | some u =>
          simp [hpt] at hd; subst hd
          generalize a.eval x = y0 at *
          cases (show Rep w (NX X c bl lb) c.2 bl y0 (.iptr v0) from r) with
          | iptr b o' v1 _ hm hp hr => exact gv (iptr_part hm hp hr hpt) (by rw [hrun]; simp [hix _ hl, Addr.add_mid])
      · rename_i b g o' hx
        rw [hx] at r
        simp at hd; subst hd
        obtain ⟨p, hp, hle, hq⟩ := r
        refine ⟨.pointer (some (p.add (i.toNat * sz))), by rw [hrun, hp]; simp [hix p hl], _, rfl, hle, fun hg => ?_⟩
        obtain ⟨rfl, hg0⟩ := hq hg
        exact ⟨Addr.add_mid _ _ _, hg0⟩
      · rename_i id ver sz' j o' hx
        rw [hx] at r
        simp at hd; subst hd
        generalize a.eval x = y0 at *
        cases (show Rep w (NX X c bl lb) c.2 bl y0 (.hp id ver sz' j o') from r) with
        | hp _ _ _ _ _ p hid hv ha =>
          refine gv (.hp id ver sz' j (o' + i.toNat * sz) (p.add (i.toNat * sz)) hid hv fun e => ?_) (by rw [hrun]; simp [hix p hl])
          rw [ha e, Addr.add_mid, Nat.add_assoc]
      · simp at hd
    · simp at hd
  · simp at he

theorem rep_u8 {N : Nat → Prop} {st : St} (b : UInt8) : Rep w N st bl (.int .u8 b.toNat) (byteD b) := .int _ _

theorem sim_idxS (C : CR X c bl lb a w) {o : Oper} {t : TypeId} {x y : Operand} {x' y' : Opd} (ho : o.op = .index t x y) (h1 : opdOK x x' = true) (h2 : opdOK y y' = true) (ht : kindOK P t .str = true)
    {k : IntKind} {i : Int} (hy : y'.ev c.1.s = .int k i) (hi : ¬ i < 0) {s : List UInt8} (hx : x'.ev c.1.s = .str s) {b : UInt8} (hb : s[i.toNat]? = some b) : GivesV P X c bl lb a w o (byteD b) := by
  obtain ⟨z, e1, q1⟩ := sr_str C h1 hx
  have ei := sr_int C h2 hy
  have hu : P.underlying t = some .string := by unfold kindOK at ht; split at ht <;> simp_all
  refine gv (rep_u8 b) ?_
  have hz : z[i.toNat]? = some b := by
    rw [← q1] at hb
    have hl : i.toNat < z.size := by have := (List.getElem?_eq_some_iff.1 hb).1; simpa using this
    rw [Lib.data_getElem? z _ hl] at hb
    rw [ByteArray.getElem?_lt' z _ hl]
    exact hb
  have : 0 ≤ i := by omega
  simp [execOp, ho, e1, ei, Instr.index, asIntOf, run_underlying hu, this, hz]

end Go.Nt
