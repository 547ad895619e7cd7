/-
  WHEN AN OPERATION IS THE MODEL's, ALL KINDS TOGETHER; one step's simulation.
  No condition: definitions and lemmas.
-/
import Derived.Test.YtpfdoelhoiohdaaNtCall
namespace Go.Nt

variable {P : Program} {X : Cx} {c : Cfg} {bl : Bl} {lb : Nat → Nat} {a : Act} {w : World}

def calleeF : Callee → Nat → Bool
  | .value (.func g), f => g == f
  | _, _ => false
def calleeV : Callee → Opd → Bool
  | .value x, y => opdOK x y
  | _, _ => false
def calleeB : Callee → Builtin → Bool
  | .builtin b, b' => b == b'
  | _, _ => false
def is1 (xs : Array Operand) (y : Opd) : Bool :=
  match xs.toList with
  | [x] => opdOK x y
  | _ => false
def is2 (xs : Array Operand) (y y2 : Opd) : Bool :=
  match xs.toList with
  | [x, x2] => opdOK x y && opdOK x2 y2
  | _ => false

/-- The appended slice's elements are of that type. -/
def elemIs (P : Program) (ts : Array TypeId) (ty : TypeId) : Bool :=
  match ts[0]? with
  | some t => (match P.underlying t with | some (.slice e) => e == ty | _ => false)
  | none => false
theorem elemIs_ok {ts : Array TypeId} {ty : TypeId} (h : elemIs P ts ty = true) : ∀ t0, ts[0]? = some t0 → P.underlying t0 = some (.slice ty) := by
  intro t0 h0
  unfold elemIs at h
  simp only [h0] at h
  split at h
  · rename_i e he; simp at h; subst h; exact he
  · cases h

def opOK (P : Program) (n : Nat) (o : Oper) (io : Io) : Bool :=
  o.dst == io.dst && (match io.dst with | some d => decide (d < n) | none => true) &&
  match o.op, io with
  | .move x, .mv _ y | .assign x, .mv _ y => opdOK x y
  | .move _, .mvn | .assign _, .mvn => true
  | .pick x y z, .pick _ x' y' z' => opdOK x x' && (opdOK y y' && opdOK z z')
  | .box _ x, .boxL _ _ (some y) _ => opdOK x y
  | .alloc e, .boxL _ _ none zero => zerosOK P e zero
  | .box _ x, .boxH _ _ y => opdOK x y
  | .alloc e, .boxH _ _ (.c z) => zeroOK P e z
  | .box _ x, .boxI _ _ y => opdOK x y
  | .build t parts, .build _ zero ps => builtOK P t && (placesOK P t parts.toList ps && zerosOK P t zero)
  | .buildSlice t len parts, .bsl _ sz _ ys => sliceT P t sz && (bslOK parts.toList 0 ys && (len == ys.length && decide (len ≤ 4096)))
  | .load t x, .load _ y n _ _ => opdOK x y && shapeOK P t n
  | .store t p x, .store p' x' n _ => opdOK p p' && (opdOK x x' && sizeOK P t n)
  | .store t p x, .storeX _ p' x' n => opdOK p p' && (opdOK x x' && sizeOK P t n)
  | .nilCheck x, .nilc _ y => opdOK x y
  | .binOp op _ x y _, .bin _ op' x' y' => op == op' && (opdOK x x' && opdOK y y')
  | .binOp op t x y _, .eqn _ neg k x' y' => op == (if neg then .neq else .eql) && (kindOK P t k && (opdOK x x' && opdOK y y'))
  | .unOp op _ x, .un _ op' y => op == op' && opdOK x y
  | .convert s t x, .conv _ (.int k) y => (match P.underlying t with | some (.int k') => k == k' | _ => false) && ((P.underlying s).isSome && opdOK x y)
  | .convert s t x, .conv _ .same y => kindOK P t .str && ((P.underlying s).isSome && opdOK x y)
  | .makeFunc (.func f) xs ys, .mkfn _ f' xs' ys' => f == f' && (opdsOK xs.toList xs' && opdsOK ys.toList ys')
  | .fieldAddr t x f, .fldA _ y off n => opdOK x y && fieldOK P t f off n
  | .indexAddr t x y, .idxA _ x' y' sz n arr => opdOK x x' && (opdOK y y' && elemOK P t sz n arr)
  | .index t x y, .idx _ x' y' _ _ none => kindOK P t .str && (opdOK x x' && opdOK y y')
  | .field t x f, .fld _ y off n => opdOK x y && fieldOK P t f off n
  | .makeSlice t x y, .mksl _ sz zero x' y' => sliceT P t sz && (madeOK P t sz zero && (opdOK x x' && opdOK y y'))
  | .slice t x lo hi mx, .slc _ s x' lo' hi' mx' => opdOK x x' && (opdO lo lo' && (opdO hi hi' && (opdO mx mx' && slcOK P t s)))
  | .extract x i, .ext _ y i' => opdOK x y && i == i'
  | .call cl, .call _ f xs => calleeF cl.callee f && opdsOK cl.args.toList xs
  | .call cl, .callQ _ f xs => calleeF cl.callee f && opdsOK cl.args.toList xs
  | .call cl, .callV _ f xs => calleeV cl.callee f && opdsOK cl.args.toList xs
  | .call cl, .len _ k x _ => calleeB cl.callee .len && (is1 cl.args x && (match cl.argTypes[0]? with | some t => lenOK P t k | none => false))
  | .alloc e, .boxT _ _ z ty => e == ty && zeroOK P e z
  | .call cl, .appT _ s x sz ty => calleeB cl.callee .append && (is2 cl.args s x && (appT P cl.argTypes sz && elemIs P cl.argTypes ty))
  | .call cl, .app _ s x sz => calleeB cl.callee .append && (is2 cl.args s x && appT P cl.argTypes sz)
  | .call cl, .mm _ mx x y => calleeB cl.callee (if mx then .max else .min) && is2 cl.args x y
  | _, _ => false

theorem calleeF_eq {cl : Callee} {f : Nat} (h : calleeF cl f = true) : cl = .value (.func f) := by
  unfold calleeF at h; split at h
  · simp at h; rw [h]
  · simp at h
theorem calleeV_eq {cl : Callee} {y : Opd} (h : calleeV cl y = true) : ∃ x, cl = .value x ∧ opdOK x y = true := by
  unfold calleeV at h; split at h
  · exact ⟨_, rfl, h⟩
  · simp at h
theorem calleeB_eq {cl : Callee} {b : Builtin} (h : calleeB cl b = true) : cl = .builtin b := by
  unfold calleeB at h; split at h
  · simp at h; rw [h]
  · simp at h
theorem is1_eq {xs : Array Operand} {y : Opd} (h : is1 xs y = true) : ∃ x, xs = #[x] ∧ opdOK x y = true := by
  unfold is1 at h; split at h
  · rename_i x hx
    exact ⟨x, Array.toList_inj.1 (by rw [hx]), h⟩
  · simp at h
theorem is2_eq {xs : Array Operand} {y y2 : Opd} (h : is2 xs y y2 = true) : ∃ x x2, xs = #[x, x2] ∧ opdOK x y = true ∧ opdOK x2 y2 = true := by
  unfold is2 at h; split at h
  · rename_i x x2 hx
    simp only [Bool.and_eq_true] at h
    exact ⟨x, x2, Array.toList_inj.1 (by rw [hx]), h.1, h.2⟩
  · simp at h

/-- What the table says of a function of the program, beside its text. -/
def Known (P : Program) (f : Nat) : Prop := ∃ fn code, P.funcs[f]? = some fn ∧ fn.body = some code ∧ (fn.name == "runtime.NumGoroutine") = false

theorem callFunc_run {f : Nat} (h : Known P f) (vs : Array Value) (w : World) : (callFunc f vs).run P w = .ok (.enter f vs) w := by
  obtain ⟨fn, code, h1, h2, h3⟩ := h
  simp only [callFunc, Sem.run_bind, run_program, Result.andThen_ok, h1, h3, h2]
  simp

theorem val_some {v : D} {e : Eff} (h : val v = some e) : e = (v, none, none) := by simp [val] at h; exact h.symm

theorem gives_wp (C : CR X c bl lb a w) {o : Oper} {d : D} (h : GivesV P X c bl lb a w o d) (hd : ∀ x, o.dst = some x → x < X.n) {K : Act → World → Prop} {Q : Exit → Act → World → Prop}
    (hK : ∀ a' w', RelC X (apply c o.dst (d, none, none)) a' w' → K a' w') : o.wp P a w K Q := by
  obtain ⟨v, h1, h2⟩ := h
  exact wp_val h1 (hK _ _ ⟨bl, lb, C.put hd fun _ => h2⟩)

theorem sim_conv_int (C : CR X c bl lb a w) {o : Oper} {s t : TypeId} {k k' : IntKind} {x : Operand} {x' : Opd} {n : Int} (ho : o.op = .convert s t x) (ht : P.underlying t = some (.int k)) (hs : (P.underlying s).isSome = true) (h1 : opdOK x x' = true) (hx : x'.ev c.1.s = .int k' n) :
    GivesV P X c bl lb a w o (.int k (k.wrap n)) := by
  obtain ⟨ds, hs⟩ := Option.isSome_iff_exists.1 hs
  refine gv (.int _ _) ?_
  have : (convert s t (.int k' n)).run P w = .ok (.int k (k.wrap n)) w := by
    unfold convert
    simp only [Sem.run_bind, run_underlying hs, run_underlying ht, Result.andThen_ok]
    rfl
  simp [execOp, ho, sr_int C h1 hx, this]

theorem sim_conv_same (C : CR X c bl lb a w) {o : Oper} {s t : TypeId} {x : Operand} {x' : Opd} {b : List UInt8} (ho : o.op = .convert s t x) (ht : kindOK P t .str = true) (hs : (P.underlying s).isSome = true) (h1 : opdOK x x' = true) (hx : x'.ev c.1.s = .str b) :
    GivesV P X c bl lb a w o (.str b) := by
  obtain ⟨ds, hs⟩ := Option.isSome_iff_exists.1 hs
  have hu : P.underlying t = some .string := by unfold kindOK at ht; split at ht <;> simp_all
  obtain ⟨z, e1, q1⟩ := sr_str C h1 hx
  refine gv (rep_str z q1) ?_
  have : (convert s t (.string z)).run P w = .ok (.string z) w := by
    unfold convert
    simp only [Sem.run_bind, run_underlying hs, run_underlying hu, Result.andThen_ok]
    cases ds <;> rfl
  simp [execOp, ho, e1, this]

theorem arr_list {xs : Array Operand} (a : Act) (i : Nat) (v : Value) : (xs.map a.eval)[i]? = some v ↔ (xs.toList.map a.eval)[i]? = some v := by simp

theorem ite_some {α : Type} {p : Prop} [Decidable p] {x : Option α} {e : α} (h : (if p then x else none) = some e) : p ∧ x = some e := by
  split at h
  · exact ⟨by assumption, h⟩
  · simp at h
theorem bind_some {α β : Type} {x : Option α} {f : α → Option β} {e : β} (h : x.bind f = some e) : ∃ d, x = some d ∧ f d = some e := Option.bind_eq_some_iff.1 h

theorem fz0_pure {st : St} {d : D} (h : d.pure1 = true) : fz0 st d = some (d, st) := by
  cases d <;> first | rfl | (simp [D.pure1, D.pure0] at h; done)
theorem fzL_pure {st : St} : ∀ {cs : List D}, cs.all D.pure1 = true → fzL fz0 st cs = some (cs, st)
  | [], _ => rfl
  | d :: cs, h => by
    simp only [List.all_cons, Bool.and_eq_true] at h
    simp only [fzL, fz0_pure h.1, Option.bind_some, fzL_pure h.2]
theorem fz1_pure {st : St} {d : D} (h : d.pure = true) : fz1 st d = some (d, st) := by
  cases d with
  | agg cs => simp only [fz1, fzL_pure (show cs.all D.pure1 = true from h), Option.bind_some]
  | tup ds => simp [D.pure, D.pure1, D.pure0] at h
  | _ => first | rfl | (simp [D.pure, D.pure1, D.pure0] at h; done)

theorem storeXD_eq (rb : Nat → Nat × List D) {box : Bool} {st : St} {p x : D} {n : Nat} {e : Eff} (h : storeXD box st p x n = some e) : storeD rb st p x n none = some e := by
  unfold storeXD at h
  obtain ⟨⟨h1, h2, h3⟩, h4⟩ := ite_some h
  clear h
  cases p with
  | hp id ver sz idx off =>
    obtain ⟨s, hs, h5⟩ := bind_some h4
    clear h4
    cases h5
    unfold locU at hs
    obtain ⟨o, ho, h6⟩ := bind_some hs
    clear hs
    cases h6
    cases hat : St.at st id with
    | map => rw [hat] at ho; simp [cellU] at ho
    | cells b sz' ver' mod fr elems =>
      rw [hat] at ho
      simp only [cellU] at ho
      obtain ⟨hc, ho2⟩ := ite_some ho
      clear ho
      obtain ⟨rfl, rfl, rfl, rfl⟩ := hc
      obtain ⟨d, k1, ho3⟩ := bind_some ho2
      obtain ⟨cs, k2, ho4⟩ := bind_some ho3
      obtain ⟨d', k3, ho5⟩ := bind_some ho4
      cases ho5
      simp only [storeD, h1, h2, and_self, if_true, hat]
      cases b with
      | true => simp [k1, k2, k3]
      | false =>
        have hp : x.pure = true := h3.resolve_left (by simp)
        simp [fz1_pure hp, hp, hat, k1, k2, k3]
  | _ => cases h4

/-- ONE OPERATION. -/
theorem sim_op (C : CR X c bl lb a w) {T : Nat → Option IFunc} {go : GoF} (hT : ∀ f, (T f).isSome = true → Known P f) (hgo : ∀ f args st r st', go f args st = some (r, st') → (T f).isSome = true → CallOK P f args st r st')
    {o : Oper} {io : Io} (hok : opOK P X.n o io = true) {e : Eff} (he : actO T go (Opd.ev c.1.s) (getB c.1.b) c.2 io = some e)
    {K : Act → World → Prop} {Q : Exit → Act → World → Prop} (hK : ∀ a' w', RelC X (apply c io.dst e) a' w' → K a' w') : o.wp P a w K Q := by
  unfold opOK at hok
  simp only [Bool.and_eq_true, beq_iff_eq] at hok
  obtain ⟨⟨hdst, hdn⟩, hm⟩ := hok
  have hdn' : ∀ x, o.dst = some x → x < X.n := by
    intro x hx; rw [hdst] at hx; rw [hx] at hdn; simpa using hdn
  have hcallD : ∀ f ds r vs, callD T go f ds c.2 = some r → (execOp a.eval o).run P w = .ok (.enter f vs) w → vs.size = ds.length → (∀ (i : Nat) (v : Value) (d : D), vs[i]? = some v → ds[i]? = some d → SR X c bl lb w v d) →
      e = (r.1, none, some r.2) → o.wp P a w K Q := by
    intro f ds r vs h1 h2 h3 h4 h5
    subst h5
    rw [← hdst] at hK
    exact sim_callD C hgo h2 hdn' h3 h4 h1 hK
  have isS : ∀ f ds r, callD T go f ds c.2 = some r → (T f).isSome = true := by
    intro f ds r h; unfold callD at h; cases hq : T f <;> simp [hq] at h ⊢
  have run1 : ∀ (cl : Call) (f : Nat), o.op = .call cl → cl.callee = .value (.func f) → (T f).isSome = true → (execOp a.eval o).run P w = .ok (.enter f (cl.args.map a.eval)) w := by
    intro cl f h1 h2 h3
    simp [execOp, h1, resolve, h2, Act.eval, Deferred.ofValue, invoke, callFunc_run (hT f h3)]
  generalize hop : o.op = op at hm
  split at hm
  all_goals try simp only [Bool.and_eq_true, beq_iff_eq, decide_eq_true_eq] at hm
  all_goals try (simp at hm; done)
  all_goals simp only [actO] at he
  · obtain rfl := val_some he
    rw [← hdst] at hK
    exact gives_wp C (sim_move C (.inl hop) hm) hdn' hK
  · obtain rfl := val_some he
    rw [← hdst] at hK
    exact gives_wp C (sim_move C (.inr hop) hm) hdn' hK
  · obtain rfl := val_some he
    rw [← hdst] at hK
    refine wp_val (v := a.eval _) (by simp [execOp, hop]; rfl) (hK _ _ ⟨bl, lb, C.put hdn' fun h => ?_⟩)
    exact absurd hdst h
  · obtain rfl := val_some he
    rw [← hdst] at hK
    refine wp_val (v := a.eval _) (by simp [execOp, hop]; rfl) (hK _ _ ⟨bl, lb, C.put hdn' fun h => ?_⟩)
    exact absurd hdst h
  · -- pick
    split at he
    · rename_i t ht
      obtain rfl := val_some he
      rw [← hdst] at hK
      exact gives_wp C (sim_pick C hop hm.1 hm.2.1 hm.2.2 ht) hdn' hK
    · simp at he
  · -- boxL of a value
    obtain ⟨hcs, he⟩ := ite_some he
    simp only [Option.some.injEq] at he
    subst he
    exact sim_boxL C hop hdst (by simpa [Io.dst] using hdn) hm hcs.2 hK
  · -- boxL of a zero
    obtain ⟨hcs, he⟩ := ite_some he
    simp only [Option.some.injEq] at he
    subst he
    exact sim_allocL C hop hdst (by simpa [Io.dst] using hdn) hm hK
  · -- boxH of a value
    obtain ⟨hf, he⟩ := ite_some he
    simp only [Option.some.injEq] at he
    subst he
    exact sim_boxH C (by simp [execOp, hop, Instr.box, newVar_run]; rfl) hdst (by simpa [Io.dst] using hdn) (opd_rep C hm) hf hK
  · -- boxH of a zero
    obtain ⟨hf, he⟩ := ite_some he
    simp only [Option.some.injEq] at he
    subst he
    obtain ⟨z, hz, hzc⟩ := zero_run hm w
    exact sim_boxH C (v := z) (by simp [execOp, hop, Instr.alloc, hz, newVar_run]; rfl) hdst (by simpa [Io.dst] using hdn) ((const_rep hzc).slot _ _) hf hK
  · -- boxI
    obtain ⟨hf, he⟩ := ite_some he
    simp only [Bool.and_eq_true] at hf
    obtain rfl := val_some he
    exact sim_boxI C hop hdst (by simpa [Io.dst] using hdn) hm hf.1 hf.2 hK
  · -- build
    obtain ⟨hf, he⟩ := ite_some he
    obtain ⟨cs, hfd, he⟩ := bind_some he
    obtain rfl := val_some he
    rw [← hdst] at hK
    exact gives_wp C (sim_build C hop hm.1 hm.2.1 hm.2.2 hf hfd) hdn' hK
  · -- bsl
    obtain ⟨hf, he⟩ := ite_some he
    obtain rfl := val_some he
    exact sim_bsl C hop hdst (by simpa [Io.dst] using hdn) hm.1 hm.2.1 hm.2.2.1 hm.2.2.2 hf hK
  · -- load
    obtain ⟨d, hl, he⟩ := bind_some he
    obtain rfl := val_some he
    rw [← hdst] at hK
    exact gives_wp C (sim_load C hop hm.1 hm.2 hl) hdn' hK
  · -- store
    rename_i l
    cases l with
    | none => exact sim_storeH C hop hdst hm.1 hm.2.1 hm.2.2 he hK
    | some b =>
      unfold storeD at he
      obtain ⟨hc, he⟩ := ite_some he
      simp only at he
      split at he
      · rename_i b' g off hp
        obtain ⟨hb, he⟩ := ite_some he
        obtain ⟨cs, hsp, he⟩ := bind_some he
        simp only [Option.some.injEq] at he
        subst he
        exact sim_storeL C hop hdst hm.1 hm.2.1 hm.2.2 hc.1 hc.2 hp hb hsp hK
      · simp at he
  · -- storeX
    exact sim_storeH C hop hdst hm.1 hm.2.1 hm.2.2 (storeXD_eq (getB c.1.b) he) hK
  · -- nilc
    split at he
    · rename_i hn
      obtain rfl := val_some he
      rw [← hdst] at hK
      exact gives_wp C (sim_nilc C hop hm hn) hdn' hK
    · simp at he
  · -- bin
    obtain ⟨rfl, h1, h2⟩ := hm
    obtain ⟨d, hb, he⟩ := bind_some he
    obtain rfl := val_some he
    rw [← hdst] at hK
    exact gives_wp C (sim_bin C hop h1 h2 hb) hdn' hK
  · -- eqn
    obtain ⟨rfl, h1, h2, h3⟩ := hm
    obtain ⟨d, hb, he⟩ := bind_some he
    obtain rfl := val_some he
    rw [← hdst] at hK
    exact gives_wp C (sim_eqn C hop h1 h2 h3 hb) hdn' hK
  · -- un
    obtain ⟨rfl, h1⟩ := hm
    obtain ⟨d, hb, he⟩ := bind_some he
    obtain rfl := val_some he
    rw [← hdst] at hK
    exact gives_wp C (sim_un C hop h1 hb) hdn' hK
  · -- conv int
    obtain ⟨h1, h2, h3⟩ := hm
    split at h1
    · rename_i k' hu
      simp at h1; subst h1
      split at he
      · rename_i hcv hx
        cases hcv
        obtain rfl := val_some he
        rw [← hdst] at hK
        exact gives_wp C (sim_conv_int C hop hu h2 h3 hx) hdn' hK
      all_goals first | (simp at he; done) | (rename_i hcv _; cases hcv; done) | (rename_i hcv; cases hcv; done)
    · simp at h1
  · -- conv same
    obtain ⟨h1, h2, h3⟩ := hm
    split at he
    all_goals first | (simp at he; done) | skip
    all_goals first
      | (rename_i hcv hx; cases hcv; obtain rfl := val_some he; rw [← hdst] at hK; exact gives_wp C (sim_conv_same C hop h1 h2 h3 hx) hdn' hK)
      | (rename_i hcv hx; cases hcv; done)
      | (rename_i hcv; cases hcv; done)
      | skip
  · -- mkfn
    obtain ⟨rfl, h1, h2⟩ := hm
    obtain ⟨hf, he⟩ := ite_some he
    simp only [Bool.and_eq_true] at hf
    obtain rfl := val_some he
    rw [← hdst] at hK
    exact gives_wp C (sim_mkfn C hop h1 h2 hf.1 hf.2) hdn' hK
  · -- fldA
    obtain ⟨d, hb, he⟩ := bind_some he
    obtain rfl := val_some he
    rw [← hdst] at hK
    exact gives_wp C (sim_fldA C hop hm.1 hm.2 hb) hdn' hK
  · -- idxA
    split at he
    · rename_i k i hi
      split at he
      · simp at he
      · rename_i h0
        obtain ⟨d, hb, he⟩ := bind_some he
        obtain rfl := val_some he
        rw [← hdst] at hK
        exact gives_wp C (sim_idxA C hop hm.1 hm.2.1 hm.2.2 hi h0 hb) hdn' hK
    · simp at he
  · -- idx of a string
    split at he
    · rename_i k i hi
      split at he
      · simp at he
      · rename_i h0
        split at he
        · rename_i s hs
          obtain ⟨b, hb, he⟩ := bind_some he
          obtain rfl := val_some he
          rw [← hdst] at hK
          exact gives_wp C (sim_idxS C hop hm.2.1 hm.2.2 hm.1 hi h0 hs hb) hdn' hK
        · simp at he
    · simp at he
  · -- fld
    split at he
    · rename_i cs hx
      obtain ⟨d, hb, he⟩ := bind_some he
      obtain rfl := val_some he
      rw [← hdst] at hK
      exact gives_wp C (sim_fld C hop hm.1 hm.2 hx hb) hdn' hK
    · simp at he
  · -- mksl
    split at he
    · rename_i k n k' m hx hy
      obtain ⟨hb, he⟩ := ite_some he
      simp only [Option.some.injEq] at he
      subst he
      exact sim_mksl C hop hdst (by simpa [Io.dst] using hdn) hm.1 hm.2.1 hm.2.2.1 hm.2.2.2 hx hy hb hK
    · simp at he
  · -- slc
    obtain ⟨hty, he⟩ := ite_some he
    obtain ⟨d, hb, he⟩ := bind_some he
    obtain rfl := val_some he
    rw [← hdst] at hK
    exact gives_wp C (sim_slc C hop hm.1 hm.2.1 hm.2.2.1 hm.2.2.2.1 hm.2.2.2.2 hty hb) hdn' hK
  · -- ext
    obtain ⟨h1, rfl⟩ := hm
    split at he
    · rename_i ds hx
      obtain ⟨d, hb, he⟩ := bind_some he
      obtain rfl := val_some he
      rw [← hdst] at hK
      exact gives_wp C (sim_ext C hop h1 hx hb) hdn' hK
    · simp at he
  · -- call
    rename_i cl d f xs
    obtain ⟨r, hr, he⟩ := bind_some he
    simp only [Option.some.injEq] at he
    obtain ⟨hl, hrep⟩ := opds_rep C hm.2
    exact hcallD f _ r _ hr (run1 cl f hop (calleeF_eq hm.1) (isS f _ r hr)) (by simpa using hl) (fun i v d hv hd => hrep i v d ((arr_list a i v).1 hv) hd) he.symm
  · -- callQ
    rename_i cl d f xs
    obtain ⟨r, hr, he⟩ := bind_some he
    obtain rfl := val_some he
    obtain ⟨hl, hrep⟩ := opds_rep C hm.2
    have hs : (T f).isSome = true := by unfold callQD at hr; cases hq : T f <;> simp [hq] at hr ⊢
    rw [← hdst] at hK
    exact sim_callQ C hgo (run1 cl f hop (calleeF_eq hm.1) hs) hdn' (by simpa using hl) (fun i v d hv hd => hrep i v d ((arr_list a i v).1 hv) hd) hr hK
  · -- callV
    rename_i cl d f xs
    split at he
    · rename_i g first cap hf
      obtain ⟨r, hr, he⟩ := bind_some he
      simp only [Option.some.injEq] at he
      obtain ⟨x, hx, hxo⟩ := calleeV_eq hm.1
      obtain ⟨hl, hrep⟩ := opds_rep C hm.2
      have rf := opd_rep C hxo
      rw [hf] at rf
      have hs := isS g _ r hr
      obtain ⟨fs, cs, hv, k1, k2, k3, k4⟩ : ∃ fs cs, a.eval x = .func (.func g) fs cs ∧ fs.size = first.length ∧ cs.size = cap.length ∧ (∀ (i : Nat) (v : Value) (d : D), fs[i]? = some v → first[i]? = some d → RR X c bl lb w v d) ∧
          (∀ (i : Nat) (v : Value) (d : D), cs[i]? = some v → cap[i]? = some d → RR X c bl lb w v d) := by
        generalize a.eval x = y at rf
        cases (show Rep w (NX X c bl lb) c.2 bl y (.fn g first cap) from rf) with
        | fn _ fs cs _ _ h1 h2 h3 h4 => exact ⟨fs, cs, rfl, h1, h2, h3, h4⟩
      refine hcallD g _ r (fs ++ cl.args.map a.eval ++ cs) hr ?_ ?_ ?_ he.symm
      · simp [execOp, hop, resolve, hx, hv, Deferred.ofValue, invoke, callFunc_run (hT g hs)]
      · have : cl.args.size = xs.length := by simpa using hl
        simp [k1, k2, this]
      · have hal : (cl.args.map a.eval).size = (xs.map (Opd.ev c.1.s)).length := by simpa using hl
        intro i v d hv' hd'
        by_cases hi : i < fs.size
        · rw [Array.append_assoc, Array.getElem?_append_left hi] at hv'
          rw [List.append_assoc, List.getElem?_append_left (by rw [← k1]; exact hi)] at hd'
          exact (k3 i v d hv' hd').slot _ _
        · by_cases hi2 : i < fs.size + (cl.args.map a.eval).size
          · rw [Array.getElem?_append_left (by simp only [Array.size_append]; exact hi2), Array.getElem?_append_right (by omega)] at hv'
            rw [List.getElem?_append_left (by simp only [List.length_append]; omega), List.getElem?_append_right (by omega), ← k1] at hd'
            exact hrep _ v d ((arr_list a _ v).1 hv') hd'
          · rw [Array.getElem?_append_right (by simp only [Array.size_append]; omega)] at hv'
            rw [List.getElem?_append_right (by simp only [List.length_append]; omega)] at hd'
            simp only [Array.size_append, hal, k1, List.length_append] at hv' hd'
            exact (k4 _ v d hv' hd').slot _ _
    · simp at he
  · -- len
    obtain ⟨h1, h2, h3⟩ := hm
    obtain ⟨x, hx, hxo⟩ := is1_eq h2
    split at h3
    · rename_i t ht
      obtain ⟨d, hb, he⟩ := bind_some he
      obtain rfl := val_some he
      rw [← hdst] at hK
      exact gives_wp C (sim_len C hop (calleeB_eq h1) hx ht h3 hxo hb) hdn' hK
    · simp at h3
  · -- boxT
    obtain ⟨rfl, hz0⟩ := hm
    obtain ⟨hf, he⟩ := ite_some he
    simp only [Option.some.injEq] at he
    subst he
    obtain ⟨z, hz, hzc⟩ := zero_run hz0 w
    exact sim_boxT C (v := z) (by simp [execOp, hop, Instr.alloc, hz, newVar_run]) hdst (by simpa [Io.dst] using hdn) ((const_rep hzc).slot _ _) hf hK
  · -- appT
    obtain ⟨h1, h2, h3, h4⟩ := hm
    obtain ⟨x, y, hx, hxo, hyo⟩ := is2_eq h2
    obtain ⟨l, hl, he⟩ := bind_some he
    obtain ⟨r, hr, he⟩ := bind_some he
    simp only [Option.some.injEq] at he
    subst he
    exact sim_appT C hop (calleeB_eq h1) hx h3 hdst (by simpa [Io.dst] using hdn) hxo hyo hl (elemIs_ok h4) hr hK
  · -- app
    obtain ⟨h1, h2, h3⟩ := hm
    obtain ⟨x, y, hx, hxo, hyo⟩ := is2_eq h2
    obtain ⟨l, hl, he⟩ := bind_some he
    obtain ⟨r, hr, he⟩ := bind_some he
    simp only [Option.some.injEq] at he
    subst he
    exact sim_app C hop (calleeB_eq h1) hx h3 hdst (by simpa [Io.dst] using hdn) hxo hyo hl hr hK
  · -- mm
    obtain ⟨h1, h2⟩ := hm
    obtain ⟨x, y, hx, hxo, hyo⟩ := is2_eq h2
    split at he
    · rename_i k m k' n hm' hn'
      obtain ⟨hkk, he'⟩ := ite_some he
      subst hkk
      obtain rfl := val_some he'
      rw [← hdst] at hK
      exact gives_wp C (sim_mm C hop (calleeB_eq h1) hx hxo hyo hm' hn') hdn' hK
    · simp at he

end Go.Nt
