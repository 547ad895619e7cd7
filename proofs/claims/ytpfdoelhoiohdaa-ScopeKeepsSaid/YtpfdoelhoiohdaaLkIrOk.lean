/-
  HEAPS, POINT BY POINT; objects behind a heap.
  No condition.
-/
import Derived.Test.YtpfdoelhoiohdaaNtSim
import Derived.Test.YtpfdoelhoiohdaaChecked
namespace Go.Nt

theorem at_get {st : St} {i : Nat} (h : i < st.length) : St.at st i = st[i] := by simp [St.at, h]

theorem settledN_of {n : Nat} : ∀ {st st' : St}, st.length ≤ st'.length → (∀ i, i < st.length → St.at st' i = St.at st i ∨ (St.at st' i).pureO = true ∨ (St.at st' i).old n = true) → settledN n st st' = true
  | [], _, _, _ => rfl
  | _ :: _, [], h, _ => by simp at h
  | o :: st, o' :: st', hl, h => by
    simp only [settledN, Bool.and_eq_true, Bool.or_eq_true, beq_iff_eq]
    refine ⟨?_, settledN_of (by simpa using hl) fun i hi => h (i + 1) (by simpa using hi)⟩
    rcases h 0 (by simp) with q | q | q
    · left; left; have q' : o' = o := q
      rw [q']
    · exact .inl (.inr q)
    · exact .inr q
theorem settled_old {st st' : St} (hl : st.length ≤ st'.length) (h : ∀ i, i < st.length → St.at st' i = St.at st i ∨ (St.at st' i).pureO = true ∨ (St.at st' i).old st.length = true) : settled st st' = true := settledN_of hl h
theorem settled_of {st st' : St} (hl : st.length ≤ st'.length) (h : ∀ i, i < st.length → St.at st' i = St.at st i ∨ (St.at st' i).pureO = true) : settled st st' = true :=
  settledN_of hl fun i hi => (h i hi).elim .inl fun q => .inr (.inl q)

theorem take_of {st st' : St} (hl : st.length ≤ st'.length) (h : ∀ i, i < st.length → St.at st' i = St.at st i) : st'.take st.length = st := by
  refine List.ext_getElem (by rw [List.length_take]; omega) fun i h1 h2 => ?_
  have := h i h2
  rw [at_get h2, at_get (by omega)] at this
  rw [List.getElem_take]; exact this

theorem settled_set {st : St} {i : Nat} {o : Ob} (ho : o.pureO = true) : settled st (List.set st i o) = true := by
  refine settled_of (by simp) fun j hj => ?_
  by_cases hi : i < st.length
  · rw [at_set _ _ _ _ hi]
    by_cases e : j = i
    · rw [if_pos e]; exact .inr ho
    · rw [if_neg e]; exact .inl rfl
  · rw [List.set_eq_of_length_le (by omega)]; exact .inl rfl

/-! ### Objects behind a heap -/

theorem at_app (st l : St) (k : Nat) : St.at (st ++ l) (st.length + k) = St.at l k := by
  simp only [St.at, List.getD_eq_getElem?_getD]
  rw [List.getElem?_append_right (by omega), Nat.add_sub_cancel_left]
theorem at_app0 (st l : St) : St.at (st ++ l) st.length = St.at l 0 := at_app st l 0
theorem at_lt (st l : St) {i : Nat} (h : i < st.length) : St.at (st ++ l) i = St.at st i := by simp [St.at, List.getElem?_append_left h]
theorem set_app (st l : St) (k : Nat) (o : Ob) : List.set (st ++ l) (st.length + k) o = st ++ List.set l k o := by
  rw [List.set_append_right _ _ (by omega)]; simp
theorem set_app0 (st l : St) (o : Ob) : List.set (st ++ l) st.length o = st ++ List.set l 0 o := set_app st l 0 o
theorem set_lt (st l : St) {i : Nat} (h : i < st.length) (o : Ob) : List.set (st ++ l) i o = List.set st i o ++ l := List.set_append_left _ _ h

/-- A pure call, its arguments freed first. -/
theorem callD_free {T : Nat → Option IFunc} {go : GoF} {f : Nat} {fn : IFunc} (hT : T f = some fn) (hm : fn.mode = .pure) {args args' : List D} {st st' : St} {q : D} (h1 : pureArgs st args = some (args', st')) (h2 : pureArgs st' args' = some (args', st'))
    (h : callD T go f args' st' = some (q, st')) : callD T go f args st = some (q, st') := by
  simp only [callD, hT, hm, h1, h2, Option.bind_some] at h ⊢
  exact h

@[simp] theorem rewrap_nils (d : D) : rewrap .nils [d] = some d := (rfl)
@[simp] theorem rewrap_rs (i v z o l : Nat) (f : Bool) (d : D) : rewrap (.rs i v z o l f) [d] = some d := (rfl)
@[simp] theorem rewrap_sl (z : Nat) (f : Bool) (ds : List D) (d : D) : rewrap (.sl z f ds) [d] = some d := (rfl)
@[simp] theorem rewrap_int (k : IntKind) (n : Int) (d : D) : rewrap (.int k n) [d] = some d := (rfl)
@[simp] theorem rewrap_bool (b : Bool) (d : D) : rewrap (.bool b) [d] = some d := (rfl)
@[simp] theorem rewrap_str (s : List UInt8) (d : D) : rewrap (.str s) [d] = some d := (rfl)

/-- How a run ends that a call by 'cut' comes to. -/
def Ends (st : St) (q : D) (st3 : St) (res : Option (D × St)) : Prop := ∃ r st1 st2, res = some (r, st1) ∧ fz st1 r = some (q, st2) ∧ settled st st2 = true ∧ st2.take st.length = st3
theorem Ends.mk {st st3 st1 st2 : St} {q r : D} (h1 : fz st1 r = some (q, st2)) (h2 : settled st st2 = true ∧ st2.take st.length = st3) : Ends st q st3 (some (r, st1)) := ⟨r, st1, st2, rfl, h1, h2.1, h2.2⟩

theorem callD_cutE {T : Nat → Option IFunc} {f : Nat} {fn : IFunc} (hT : T f = some fn) (hm : fn.mode = .cut) {args : List D} {st st3 : St} {q : D} (hargs : args.all D.okv = true)
    (hp : q.pureT = true) (h : Ends st q st3 (ev T f args st)) : callD T (ev T) f args st = some (q, st3) := by
  obtain ⟨r, st1, st2, h1, h2, h3, h4⟩ := h
  exact callD_cut hT hm hargs h1 h2 hp h3 h4

end Go.Nt

/-
  BRANCHES that are not decided yet, by 'simp'; what a loop does not write; how calls and runs end.
  No condition.
-/
namespace Go.Nt

variable {T : Nat → Option IFunc} {go : GoF} {lp' : Ic → Cfg → Option (Ex × Cfg)}

theorem kC_b (t : Bool) (a b : Ic) (c : Cfg) : kC T go lp' a b c (.bool t) = if t = true then rn T go lp' a c else rn T go lp' b c := by cases t <;> rfl
theorem kG_b (w t : Bool) (io : Io) (os : List Gi) (s : List D) (b : List (Nat × List D)) (st : St) : kG T go w io os s b st (.bool t) = if t = w then runOps T go (g0 io :: os) ⟨⟨s, b⟩, st⟩ else runOps T go os ⟨⟨putO s io.dst .undef, b⟩, st⟩ := (rfl)
theorem kseq_ite {p : Prop} [Decidable p] (k : Cfg → Option (Ex × Cfg)) (x y : Option (Ex × Cfg)) : kseq k (if p then x else y) = if p then kseq k x else kseq k y := by split <;> rfl
theorem kblock_ite {p : Prop} [Decidable p] (id : Nat) (x y : Option (Ex × Cfg)) : kblock id (if p then x else y) = if p then kblock id x else kblock id y := by split <;> rfl
theorem kfin_ite {p : Prop} [Decidable p] (r : List Rv) (x y : Option (Ex × Cfg)) : kfin r (if p then x else y) = if p then kfin r x else kfin r y := by split <;> rfl
theorem kL_ite {p : Prop} [Decidable p] (a : Ic) (x y : Option (Ex × Cfg)) : kL T a (if p then x else y) = if p then kL T a x else kL T a y := by split <;> rfl
theorem kE_ite {p : Prop} [Decidable p] (d : Option Nat) (s : List D) (b : List (Nat × List D)) (st : St) (os : List Gi) (x y : Option Eff) :
    kE T go d s b st os (if p then x else y) = if p then kE T go d s b st os x else kE T go d s b st os y := by split <;> rfl
theorem map_ite {α β : Type} {p : Prop} [Decidable p] (f : α → β) (x y : Option α) : Option.map f (if p then x else y) = if p then Option.map f x else Option.map f y := by split <;> rfl
theorem obind_ite {α β : Type} {p : Prop} [Decidable p] (f : α → Option β) (x y : Option α) : Option.bind (if p then x else y) f = if p then Option.bind x f else Option.bind y f := by split <;> rfl
theorem Stops_ite {p : Prop} [Decidable p] (x y : Option (Ex × Cfg)) (Q : Ex → List D → List (Nat × List D) → St → Prop) : Stops (if p then x else y) Q = if p then Stops x Q else Stops y Q := by split <;> rfl

/-- How a function's run ends. -/
def Ret (x : Option (D × St)) (Q : D → St → Prop) : Prop := ∃ r st, x = some (r, st) ∧ Q r st
@[simp] theorem Ret_some (r : D) (st : St) (Q : D → St → Prop) : Ret (some (r, st)) Q ↔ Q r st := by
  constructor
  · rintro ⟨r', st', h, q⟩; cases h; exact q
  · exact fun h => ⟨r, st, rfl, h⟩
theorem Ret_ite {p : Prop} [Decidable p] (x y : Option (D × St)) (Q : D → St → Prop) : Ret (if p then x else y) Q = if p then Ret x Q else Ret y Q := by split <;> rfl

theorem callD_rawE {f : Nat} {fn : IFunc} (hT : T f = some fn) (hm : fn.mode = .raw) {args : List D} {st : St} (hargs : args.all D.okv = true) : callD T (ev T) f args st = ev T f args st := by
  simp only [callD, hT, hm, hargs, if_true]

/-- A call by 'fre'. -/
theorem callD_freE {f : Nat} {fn : IFunc} (hT : T f = some fn) (hm : fn.mode = .fre) {args : List D} {st : St} {r q : D} {st1 st2 : St} (hargs : args.all D.okv = true)
    (h : ev T f args st = some (r, st1)) (hr : fz st1 r = some (q, st2)) (hp : q.pureT = true) : callD T (ev T) f args st = some (q, st2) := by
  simp only [callD, hT, hm, hargs, if_true, h, Option.bind_some, hr, hp]

/-- A call by 'pure' whose run ends so. -/
theorem callD_pureR {f : Nat} {fn : IFunc} (hT : T f = some fn) (hm : fn.mode = .pure) {args : List D} {st : St} {q : D} (hargs : pureArgs st args = some (args, st)) (hp : q.pureT = true)
    (h : Ret (ev T f args []) fun r st1 => ∃ st2, fz st1 r = some (q, st2)) : callD T (ev T) f args st = some (q, st) := by
  obtain ⟨r, st1, h1, st2, h2⟩ := h
  exact callD_pure hT hm hargs h1 h2 hp

/-- The same where the run's value is free of the heap. -/
theorem callD_pureQ {f : Nat} {fn : IFunc} (hT : T f = some fn) (hm : fn.mode = .pure) {args : List D} {st : St} {q : D} (hargs : pureArgs st args = some (args, st)) (hp : q.pureT = true)
    (hf : ∀ st, fz st q = some (q, st)) (h : Ret (ev T f args []) fun r _ => r = q) : callD T (ev T) f args st = some (q, st) := by
  obtain ⟨r, st1, h1, rfl⟩ := h
  exact callD_pure hT hm hargs h1 (hf st1) hp

/-- A round of a loop. -/
theorem lp_at (L body : Ic) (h : L = body) (c : Cfg) : lp T L c = kL T L (rn T (ev T) (lp T) body c) := by subst h; exact lp_eq L c

/-! ### What a loop does not write -/

theorem putO_frame (s : List D) (d : Option Nat) (x : D) (t : Nat) (h : d ≠ some t) : get (putO s d x) t = get s t := by
  cases d with
  | none => rfl
  | some d =>
    simp only [putO, get_put]
    rw [if_neg]
    intro e; subst e; exact h rfl

theorem step_frame {c c' : Cfg} {o : Gi} (h : step T go c o = some c') : (∀ t, o.io.dst ≠ some t → get c'.1.s t = get c.1.s t) ∧ ∀ x, o.io.wbox ≠ some x → getB c'.1.b x = getB c.1.b x := by
  unfold step at h
  split at h
  · cases h
  split at h
  · obtain ⟨e, he, rfl⟩ := Option.map_eq_some_iff.1 h
    have hw := (act_writes he).1
    refine ⟨fun t ht => putO_frame _ _ _ _ ht, fun x hx => ?_⟩
    simp only [apply]
    split
    · rename_i y hy
      rw [getB_putB, if_neg]
      intro q
      exact hx (by rw [hw y hy, q])
    · rfl
  · simp only [Option.some.injEq] at h
    subst h
    exact ⟨fun t ht => putO_frame _ _ _ _ ht, fun x _ => rfl⟩

theorem runOps_frame : ∀ {l : List Gi} {c c' : Cfg}, runOps T go l c = some c' → (∀ t, t ∉ l.filterMap (fun g => g.io.dst) → get c'.1.s t = get c.1.s t) ∧ ∀ x, x ∉ l.filterMap (fun g => g.io.wbox) → getB c'.1.b x = getB c.1.b x
  | [], c, c', h => by simp only [runOps, Option.some.injEq] at h; subst h; exact ⟨fun _ _ => rfl, fun _ _ => rfl⟩
  | o :: l, c, c', h => by
    simp only [runOps, Option.bind_eq_some_iff] at h
    obtain ⟨c1, h1, h2⟩ := h
    obtain ⟨a1, a2⟩ := step_frame h1
    obtain ⟨b1, b2⟩ := runOps_frame h2
    refine ⟨fun t ht => ?_, fun x hx => ?_⟩
    · rw [b1 t fun q => ht (by rw [List.mem_filterMap] at q ⊢; obtain ⟨g, k1, k2⟩ := q; exact ⟨g, List.mem_cons_of_mem _ k1, k2⟩)]
      exact a1 t fun q => ht (List.mem_filterMap.2 ⟨o, by simp, q⟩)
    · rw [b2 x fun q => hx (by rw [List.mem_filterMap] at q ⊢; obtain ⟨g, k1, k2⟩ := q; exact ⟨g, List.mem_cons_of_mem _ k1, k2⟩)]
      exact a2 x fun q => hx (List.mem_filterMap.2 ⟨o, by simp, q⟩)

/-- A frame and what it was. -/
def Fram (L : Ic) (c c' : Cfg) : Prop := (∀ t, t ∉ L.wr → get c'.1.s t = get c.1.s t) ∧ ∀ x, x ∉ L.wrB → getB c'.1.b x = getB c.1.b x
theorem Fram.refl (L : Ic) (c : Cfg) : Fram L c c := ⟨fun _ _ => rfl, fun _ _ => rfl⟩

theorem run_frame {fuel : Nat} : ∀ {a : Ic} {c c' : Cfg} {e : Ex}, a.plain = true → run T go fuel a c = some (e, c') → Fram a c c'
  | .skip, c, c', e, _, h => by simp only [run, Option.some.injEq, Prod.mk.injEq] at h; obtain ⟨rfl, rfl⟩ := h; exact .refl _ _
  | .exit id, c, c', e, _, h => by simp only [run, Option.some.injEq, Prod.mk.injEq] at h; obtain ⟨rfl, rfl⟩ := h; exact .refl _ _
  | .ret, c, c', e, _, h => by simp only [run, Option.some.injEq, Prod.mk.injEq] at h; obtain ⟨rfl, rfl⟩ := h; exact .refl _ _
  | .prim k, c, c', e, hp, h => by cases hp
  | .amb y x a b, c, c', e, hp, h => by
    have F := run_far hp h
    refine ⟨F.1, fun z hz => ?_⟩
    simp only [run, Option.bind_eq_some_iff] at h
    obtain ⟨⟨e1, c1⟩, _, ⟨e2, c2⟩, _, h⟩ := h
    unfold ambJ at h
    split at h
    · rw [Option.map_eq_some_iff] at h
      obtain ⟨st, _, h⟩ := h
      simp only [Prod.mk.injEq] at h
      obtain ⟨_, rfl⟩ := h
      rfl
    · cases h
  | .ops l, c, c', e, _, h => by
    simp only [run, Option.bind_eq_some_iff, Option.some.injEq, Prod.mk.injEq] at h
    obtain ⟨c1, h1, rfl, rfl⟩ := h
    exact runOps_frame h1
  | .seq a b, c, c', e, hp, h => by
    simp only [Ic.plain, Bool.and_eq_true] at hp
    simp only [run, Option.bind_eq_some_iff] at h
    obtain ⟨⟨e1, c1⟩, h1, h2⟩ := h
    obtain ⟨a1, a2⟩ := run_frame hp.1 h1
    cases e1 with
    | normal =>
      obtain ⟨b1, b2⟩ := run_frame hp.2 h2
      refine ⟨fun t ht => ?_, fun t ht => ?_⟩
      · simp only [Ic.wr, List.mem_append, not_or] at ht
        rw [b1 t ht.2, a1 t ht.1]
      · simp only [Ic.wrB, List.mem_append, not_or] at ht
        rw [b2 t ht.2, a2 t ht.1]
    | ret =>
      simp only [Option.some.injEq, Prod.mk.injEq] at h2
      obtain ⟨_, rfl⟩ := h2
      refine ⟨fun t ht => ?_, fun t ht => ?_⟩
      · simp only [Ic.wr, List.mem_append, not_or] at ht
        exact a1 t ht.1
      · simp only [Ic.wrB, List.mem_append, not_or] at ht
        exact a2 t ht.1
    | exit id =>
      simp only [Option.some.injEq, Prod.mk.injEq] at h2
      obtain ⟨_, rfl⟩ := h2
      refine ⟨fun t ht => ?_, fun t ht => ?_⟩
      · simp only [Ic.wr, List.mem_append, not_or] at ht
        exact a1 t ht.1
      · simp only [Ic.wrB, List.mem_append, not_or] at ht
        exact a2 t ht.1
  | .cond x a b, c, c', e, hp, h => by
    simp only [Ic.plain, Bool.and_eq_true] at hp
    simp only [run] at h
    split at h
    · rename_i t _
      cases t with
      | true =>
        obtain ⟨a1, a2⟩ := run_frame hp.1 h
        refine ⟨fun t ht => ?_, fun t ht => ?_⟩
        · simp only [Ic.wr, List.mem_append, not_or] at ht; exact a1 t ht.1
        · simp only [Ic.wrB, List.mem_append, not_or] at ht; exact a2 t ht.1
      | false =>
        obtain ⟨a1, a2⟩ := run_frame hp.2 h
        refine ⟨fun t ht => ?_, fun t ht => ?_⟩
        · simp only [Ic.wr, List.mem_append, not_or] at ht; exact a1 t ht.2
        · simp only [Ic.wrB, List.mem_append, not_or] at ht; exact a2 t ht.2
    · cases h
  | .block id a, c, c', e, hp, h => by
    simp only [run, Option.bind_eq_some_iff] at h
    obtain ⟨⟨e1, c1⟩, h1, h2⟩ := h
    obtain ⟨a1, a2⟩ := run_frame (show a.plain = true from hp) h1
    cases e1 <;> (simp only [Option.some.injEq, Prod.mk.injEq] at h2; obtain ⟨_, rfl⟩ := h2; exact ⟨a1, a2⟩)
  | .loop a, c, c', e, hp, h => by
    simp only [run] at h
    have key : ∀ n c, iter (run T go fuel a) n c = some (e, c') → Fram a c c' := by
      intro n
      induction n with
      | zero => intro c h; cases h
      | succ n ih =>
        intro c h
        simp only [iter, Option.bind_eq_some_iff] at h
        obtain ⟨⟨e1, c1⟩, h1, h2⟩ := h
        obtain ⟨a1, a2⟩ := run_frame (show a.plain = true from hp) h1
        cases e1 with
        | normal =>
          obtain ⟨b1, b2⟩ := ih c1 h2
          exact ⟨fun t ht => by rw [b1 t ht, a1 t ht], fun t ht => by rw [b2 t ht, a2 t ht]⟩
        | ret => simp only [Option.some.injEq, Prod.mk.injEq] at h2; obtain ⟨_, rfl⟩ := h2; exact ⟨a1, a2⟩
        | exit id => simp only [Option.some.injEq, Prod.mk.injEq] at h2; obtain ⟨_, rfl⟩ := h2; exact ⟨a1, a2⟩
    exact key _ _ h

theorem lp_frame {a : Ic} (hp : a.plain = true) {c c' : Cfg} {e : Ex} (h : lp T a c = some (e, c')) : Fram a c c' := by
  obtain ⟨k, hk⟩ := (lim_iff (lp_mono a c) _).1 h
  exact run_frame (a := .loop a) (T := T) (go := evT T k) (fuel := k) hp hk

/-- A loop's end, and what it left as it was. -/
theorem Stops.fr {L : Ic} (hp : L.plain = true) {W : List Nat} (hW : L.wr = W) {s0 : List D} {b0 : List (Nat × List D)} {st0 : St} {Q : Ex → List D → List (Nat × List D) → St → Prop} (h : Stops (lp T L ⟨⟨s0, b0⟩, st0⟩) Q)
    (F : Option (Ex × Cfg) → Prop) (k : ∀ e s b st, Q e s b st → (∀ t, W.contains t = false → get s t = get s0 t) → F (some (e, ⟨⟨s, b⟩, st⟩))) : F (lp T L ⟨⟨s0, b0⟩, st0⟩) := by
  obtain ⟨e, s, b, st, hr, q⟩ := h
  obtain ⟨f1, _⟩ := lp_frame hp hr
  rw [hr]
  refine k e s b st q fun t ht => f1 t ?_
  rw [hW]
  intro hm
  rw [List.contains_iff_mem.2 hm] at ht
  cases ht
theorem Stops.frB {L : Ic} (hp : L.plain = true) {W WB : List Nat} (hW : L.wr = W) (hB : L.wrB = WB) {s0 : List D} {b0 : List (Nat × List D)} {st0 : St} {Q : Ex → List D → List (Nat × List D) → St → Prop} (h : Stops (lp T L ⟨⟨s0, b0⟩, st0⟩) Q)
    (F : Option (Ex × Cfg) → Prop) (k : ∀ e s b st, Q e s b st → (∀ t, W.contains t = false → get s t = get s0 t) → (∀ t, WB.contains t = false → getB b t = getB b0 t) → F (some (e, ⟨⟨s, b⟩, st⟩))) : F (lp T L ⟨⟨s0, b0⟩, st0⟩) := by
  obtain ⟨e, s, b, st, hr, q⟩ := h
  obtain ⟨f1, f2⟩ := lp_frame hp hr
  rw [hr]
  refine k e s b st q (fun t ht => f1 t ?_) fun t ht => f2 t ?_
  · rw [hW]
    intro hm
    rw [List.contains_iff_mem.2 hm] at ht
    cases ht
  · rw [hB]
    intro hm
    rw [List.contains_iff_mem.2 hm] at ht
    cases ht

end Go.Nt

/-
  SHORT NAMES for operations that come often in printed functions.
  No condition.
-/
namespace Go.Nt
open Go
abbrev zT : List D := [(.int .i64 0), (.int .i64 0), (.str []), .nils, (.int .i64 0), (.int .i64 0)]
abbrev kI (k : Int) : Opd := .c (.int .i64 k)
abbrev fA (d x o : Nat) : Gi := g0 (.fldA d (.t x) o none)
abbrev mV (d x : Nat) : Gi := g0 (.mv d (.t x))
abbrev mK (d : Nat) (k : Int) : Gi := g0 (.mv d (kI k))
abbrev lA (d x b : Nat) : Gi := g0 (.load d (.t x) none (some b) false)
abbrev lF (d x b : Nat) : Gi := g0 (.load d (.t x) (some 6) (some b) false)
abbrev lO (d x : Nat) : Gi := g0 (.load d (.t x) none none false)
abbrev lP (d x : Nat) : Gi := g0 (.load d (.t x) (some 6) none false)
abbrev eX (d x i : Nat) : Gi := g0 (.ext d (.t x) i)
abbrev bF (d x : Nat) : Gi := g0 (.boxL d 6 (some (.t x)) [])
abbrev bZ (d : Nat) : Gi := g0 (.boxL d 6 none zT)
abbrev sT (p x n b : Nat) : Gi := g0 (.store (.t p) (.t x) n (some b))
abbrev iX (d x i : Nat) : Gi := g0 (.idxA d (.t x) (.t i) 6 (some 6) none)
abbrev lN (d x : Nat) : Gi := g0 (.len d .slice (.t x) false)
abbrev nC (d x : Nat) : Gi := g0 (.nilc (some d) (.t x))
abbrev bT (d : Nat) (op : BinOp) (x y : Nat) : Gi := g0 (.bin d op (.t x) (.t y))
abbrev bK (d : Nat) (op : BinOp) (x : Nat) (k : Int) : Gi := g0 (.bin d op (.t x) (kI k))
abbrev pO (d c b : Nat) : Gi := g0 (.pick d (.t c) (.c (.bool true)) (.t b))
abbrev pA (d c a : Nat) : Gi := g0 (.pick d (.t c) (.t a) (.c (.bool false)))
abbrev cA (d f : Nat) (xs : List Opd) : Gi := g0 (.call (some d) f xs)

/-- Functions by their numbers. -/
inductive FTree where
  | e
  | n (l : FTree) (k : Nat) (F : IFunc) (r : FTree)
def lookT (f : Nat) : FTree → Option IFunc
  | .e => none
  | .n l k F r => bif Nat.ble (f + 1) k then lookT f l else bif Nat.beq f k then some F else lookT f r
def allF (P : Nat → IFunc → Prop) : FTree → Prop
  | .e => True
  | .n l k F r => allF P l ∧ (P k F ∧ allF P r)
theorem all_look {P : Nat → IFunc → Prop} {f : Nat} {ifn : IFunc} : ∀ (t : FTree), allF P t → lookT f t = some ifn → P f ifn
  | .e, _, h => by cases h
  | .n l k F r, h, q => by
    rw [lookT] at q
    cases h1 : Nat.ble (f + 1) k with
    | true => rw [h1] at q; exact all_look l h.1 q
    | false =>
      rw [h1] at q
      cases h2 : Nat.beq f k with
      | true => rw [h2] at q; rw [Nat.eq_of_beq_eq_true h2]; cases q; exact h.2.1
      | false => rw [h2] at q; exact all_look r h.2.2 q
end Go.Nt

/-
  THE FUNCTIONS OF THE SEAT as the abstract machine reads them (printed by a program of ours), and that they are the program's ('ok': FuncOK, by the kernel).
  No condition.
-/
namespace Go.Nt.Lk
open Go Go.Nt

/-- notary/notarylaw13.ScopeResolves -/
def F3 : IFunc := ⟨.pure, .seq (.ops [g0 (.mv 2 (.c (.bool false)))])
  (.seq (.seq (.ops [mV 12 0, g0 (.len 13 .str (.t 12) false), bK 14 .gtr 13 2000])
  (.cond (.t 14) (.seq (.ops [cA 15 11 [], mV 2 15])
  (.ret))
  (.skip)))
  (.seq (.ops [mV 17 0, cA 18 12 [(.t 17)], mV 16 18, eX 19 16 0, eX 20 16 1, eX 21 16 2, bZ 3, sT 3 19 6 3, mV 4 20, mV 5 21])
  (.seq (.seq (.ops [mV 22 5, bK 23 .neq 22 0])
  (.cond (.t 23) (.seq (.ops [cA 24 11 [], mV 2 24])
  (.ret))
  (.skip)))
  (.seq (.ops [lF 26 3 3, cA 27 13 [(.t 26)], mV 25 27, eX 28 25 0, eX 29 25 1, eX 30 25 2, bZ 6, sT 6 28 6 6, mV 7 29, mV 8 30])
  (.seq (.ops [lF 32 3 3, cA 33 14 [(.t 32)], mV 31 33, eX 34 31 0, eX 35 31 1, eX 36 31 2, bZ 9, sT 9 34 6 9, mV 10 35, mV 11 36])
  (.seq (.ops [mV 37 8, mV 38 11, bT 39 .eql 37 38, mV 40 39, g1 40 true (.mv 41 (.t 7)), g1 40 true (.mv 42 (.t 10)), g1 40 true (.bin 43 .eql (.t 41) (.t 42)), pA 44 40 43, mV 45 44, g1 45 true (.load 46 (.t 6) (some 6) (some 6) false), g1 45 true (.load 47 (.t 9) (some 6) (some 9) false), g1 45 true (.call (some 48) 15 [(.t 46), (.t 47)]), pA 49 45 48, mV 50 49, g1 50 true (.call (some 51) 11 []), pA 52 50 51, mV 2 52])
  (.ret))))))),
  [.t 2]⟩
def L4_0 : Ic := .seq (.seq (.ops [mV 32 7, mV 33 3, lN 34 33, bT 35 .lss 32 34])
  (.cond (.t 35) (.skip)
  (.exit 0)))
  (.seq (.block 1 (.seq (.ops [mV 38 6, mV 39 3, mV 40 7, g0 (.idxA 41 (.t 39) (.t 40) 5 (some 5) none), g0 (.load 42 (.t 41) (some 5) none false), cA 43 17 [(.t 42)], bT 44 .add 38 43, mV 6 44])
  (.seq (.seq (.ops [mV 45 3, mV 46 7, g0 (.idxA 47 (.t 45) (.t 46) 5 (some 5) none), fA 48 47 0, lO 49 48, bK 50 .eql 49 1])
  (.cond (.t 50) (.seq (.seq (.ops [mV 51 3, mV 52 7, g0 (.idxA 53 (.t 51) (.t 52) 5 (some 5) none), fA 54 53 2, lO 55 54, g0 (.len 56 .str (.t 55) false), bK 57 .geq 56 16])
  (.cond (.t 57) (.seq (.ops [cA 58 11 [], mV 2 58])
  (.ret))
  (.skip)))
  (.ops [mV 59 6, g0 (.bin 60 .add (.t 59) (.c (.str [122]))), mV 6 60]))
  (.skip)))
  (.ops [mV 61 6, g0 (.bin 62 .add (.t 61) (.c (.str [32]))), mV 6 62]))))
  (.ops [mV 36 7, bK 37 .add 36 1, mV 7 37]))
/-- notary/notarylaw13.ScopeNames -/
def F4 : IFunc := ⟨.pure, .seq (.ops [g0 (.mv 2 (.c (.bool false)))])
  (.seq (.seq (.ops [mV 19 0, g0 (.len 20 .str (.t 19) false), bK 21 .gtr 20 1500])
  (.cond (.t 21) (.seq (.ops [cA 22 11 [], mV 2 22])
  (.ret))
  (.skip)))
  (.seq (.ops [mV 24 0, cA 25 16 [(.t 24)], mV 23 25, eX 26 23 0, eX 27 23 1, eX 28 23 2, mV 3 26, mV 4 27, mV 5 28])
  (.seq (.seq (.ops [mV 29 5, bK 30 .neq 29 0])
  (.cond (.t 30) (.seq (.ops [cA 31 11 [], mV 2 31])
  (.ret))
  (.skip)))
  (.seq (.ops [g0 (.mv 6 (.c (.str [])))])
  (.seq (.seq (.ops [mK 7 0])
  (.block 0 (.loop L4_0)))
  (.seq (.ops [mV 64 0, cA 65 12 [(.t 64)], mV 63 65, eX 66 63 0, eX 67 63 1, eX 68 63 2, bZ 8, sT 8 66 6 8, mV 9 67, mV 5 68])
  (.seq (.ops [mV 70 6, cA 71 12 [(.t 70)], mV 69 71, eX 72 69 0, eX 73 69 1, eX 74 69 2, bZ 10, sT 10 72 6 10, mV 11 73, mV 12 74])
  (.seq (.seq (.ops [mV 75 5, bK 76 .neq 75 0, mV 77 76, g1 77 false (.mv 78 (.t 12)), g1 77 false (.bin 79 .neq (.t 78) (kI 0)), pO 80 77 79])
  (.cond (.t 80) (.seq (.ops [cA 81 11 [], mV 2 81])
  (.ret))
  (.skip)))
  (.seq (.ops [lF 83 8 8, cA 84 13 [(.t 83)], mV 82 84, eX 85 82 0, eX 86 82 1, eX 87 82 2, bZ 13, sT 13 85 6 13, mV 14 86, mV 15 87])
  (.seq (.ops [lF 89 10 10, cA 90 13 [(.t 89)], mV 88 90, eX 91 88 0, eX 92 88 1, eX 93 88 2, bZ 16, sT 16 91 6 16, mV 17 92, mV 18 93])
  (.seq (.ops [mV 94 15, mV 95 18, bT 96 .eql 94 95, mV 97 96, g1 97 true (.load 98 (.t 13) (some 6) (some 13) false), g1 97 true (.call (some 99) 19 [(.t 98)]), g1 97 true (.load 100 (.t 16) (some 6) (some 16) false), g1 97 true (.call (some 101) 19 [(.t 100)]), g1 97 true (.call (some 102) 18 [(.t 99), (.t 101)]), pA 103 97 102, mV 104 103, g1 104 true (.call (some 105) 11 []), pA 106 104 105, mV 2 106])
  (.ret)))))))))))),
  [.t 2]⟩
/-- notary/notarylaw13.ScopeKeeps -/
def F5 : IFunc := ⟨.pure, .seq (.ops [g0 (.mv 2 (.c (.bool false)))])
  (.seq (.seq (.ops [mV 8 0, g0 (.len 9 .str (.t 8) false), bK 10 .gtr 9 1000])
  (.cond (.t 10) (.seq (.ops [cA 11 11 [], mV 2 11])
  (.ret))
  (.skip)))
  (.seq (.ops [mV 13 0, cA 14 12 [(.t 13)], mV 12 14, eX 15 12 0, eX 16 12 1, eX 17 12 2, bZ 3, sT 3 15 6 3, mV 4 16, mV 5 17])
  (.seq (.seq (.ops [mV 18 5, bK 19 .neq 18 0])
  (.cond (.t 19) (.seq (.ops [cA 20 11 [], mV 2 20])
  (.ret))
  (.skip)))
  (.seq (.ops [lF 22 3 3, cA 23 13 [(.t 22)], mV 21 23, eX 24 21 0, eX 25 21 1, eX 26 21 2, bZ 6, sT 6 24 6 6, mV 7 25, mV 5 26])
  (.seq (.seq (.ops [mV 27 5, bK 28 .neq 27 0])
  (.cond (.t 28) (.seq (.ops [cA 29 11 [], mV 2 29])
  (.ret))
  (.skip)))
  (.seq (.ops [lF 30 3 3, lF 31 6 6, cA 32 20 [(.t 30), (.t 31)], mV 33 32, g1 33 true (.call (some 34) 11 []), pA 35 33 34, mV 2 35])
  (.ret))))))),
  [.t 2]⟩
/-- notary/notarylaw13.awake -/
def F11 : IFunc := ⟨.pure, .seq (.ops [g0 (.mv 0 (.c (.bool false)))])
  (.seq (.ops [g0 (.build 5 zT [(0, 1, (kI 1))]), g0 (.bsl 6 6 true [(.t 5)]), g0 (.build 7 zT [(0, 1, (kI 32)), (2, 1, (.c (.str [97]))), (3, 1, (.t 6))]), g0 (.bsl 8 6 true [(.t 7)]), g0 (.build 9 zT [(0, 1, (kI 36)), (3, 1, (.t 8))]), cA 10 13 [(.t 9)], mV 4 10, eX 11 4 0, eX 12 4 1, eX 13 4 2, bZ 1, sT 1 11 6 1, mV 2 12, mV 3 13])
  (.seq (.ops [mV 14 3, bK 15 .eql 14 0, mV 16 15, g1 16 true (.fldA 17 (.t 1) 3 none), g1 16 true (.load 18 (.t 17) none (some 1) false), g1 16 true (.len 19 .slice (.t 18) false), g1 16 true (.bin 20 .eql (.t 19) (kI 1)), pA 21 16 20, mV 22 21, g1 22 true (.fldA 23 (.t 1) 3 none), g1 22 true (.load 24 (.t 23) none (some 1) false), g1 22 true (.idxA 25 (.t 24) (kI 0) 6 (some 6) none), g1 22 true (.fldA 26 (.t 25) 2 none), g1 22 true (.load 27 (.t 26) none none false), g1 22 true (.bin 28 .eql (.t 27) (.c (.str []))), pA 29 22 28, mV 0 29])
  (.ret))),
  [.t 0]⟩
def L12_0 : Ic := .seq (.seq (.ops [mV 24 9, mV 25 5, lN 26 25, bK 27 .sub 26 1, bT 28 .lss 24 27])
  (.cond (.t 28) (.skip)
  (.exit 0)))
  (.block 1 (.seq (.ops [mV 29 5, mV 30 9, cA 31 35 [(.t 29), (.t 30)], g0 (.boxL 10 8 none [(.int .i64 0), (.int .i64 0), (.str []), .nils, (.int .i64 0), (.int .i64 0), (.int .i64 0), (.int .i64 0)]), sT 10 31 8 10])
  (.seq (.seq (.ops [fA 32 10 7, lA 33 32 10, bK 34 .neq 33 0])
  (.cond (.t 34) (.seq (.ops [g0 (.build 35 zT []), mV 36 5, fA 37 10 6, lA 38 37 10, g0 (.idxA 39 (.t 36) (.t 38) 5 (some 5) none), fA 40 39 3, lO 41 40, fA 42 10 7, lA 43 42 10, sT 2 35 6 2, mV 3 41, mV 4 43])
  (.ret))
  (.skip)))
  (.seq (.ops [mV 44 8, g0 (.fldA 45 (.t 10) 0 (some 6)), lF 46 45 10, g0 (.bsl 47 6 true [(.t 46)]), g0 (.app 48 (.t 44) (.t 47) 6), mV 8 48])
  (.ops [fA 49 10 6, lA 50 49 10, mV 9 50])))))
/-- notary/notaryref09.Parse -/
def F12 : IFunc := ⟨.pure, .seq (.ops [bZ 2, mK 3 0, mK 4 0])
  (.seq (.ops [mV 13 0, cA 14 16 [(.t 13)], mV 12 14, eX 15 12 0, eX 16 12 1, eX 17 12 2, mV 5 15, mV 6 16, mV 7 17])
  (.seq (.seq (.ops [mV 18 7, bK 19 .neq 18 0])
  (.cond (.t 19) (.seq (.ops [g0 (.build 20 zT []), mV 21 6, mV 22 7, sT 2 20 6 2, mV 3 21, mV 4 22])
  (.ret))
  (.skip)))
  (.seq (.ops [g0 (.bsl 23 6 true []), mV 8 23])
  (.seq (.ops [mK 9 0])
  (.seq (.block 0 (.loop L12_0))
  (.seq (.ops [mV 51 8, mV 52 0, g0 (.len 53 .str (.t 52) false), g0 (.build 54 zT [(0, 1, (kI 36)), (3, 1, (.t 51)), (5, 1, (.t 53))]), bZ 11, sT 11 54 6 11])
  (.seq (.seq (.ops [mV 55 8, lN 56 55, bK 57 .gtr 56 64])
  (.cond (.t 57) (.seq (.ops [g0 (.build 58 zT []), sT 2 58 6 2, mK 3 0, mK 4 11])
  (.ret))
  (.skip)))
  (.seq (.seq (.ops [lF 59 11 11, cA 60 36 [(.t 59)], bK 61 .gtr 60 64])
  (.cond (.t 61) (.seq (.ops [g0 (.build 62 zT []), sT 2 62 6 2, mK 3 0, mK 4 7])
  (.ret))
  (.skip)))
  (.seq (.ops [lF 63 11 11, sT 2 63 6 2, mK 3 0, mK 4 0])
  (.ret)))))))))),
  [.cell 2 (some 6) (some 2), .t 3, .t 4]⟩
def L13_0 : Ic := .seq (.ops [bT 19 .lss 18 17])
  (.seq (.cond (.t 19) (.skip)
  (.exit 0))
  (.seq (.block 1 (.seq (.ops [mV 20 18, iX 21 16 18, lP 22 21, bZ 7, mV 6 20, sT 7 22 6 7])
  (.seq (.seq (.ops [mV 24 5, nC 25 24, fA 26 25 0, lO 27 26, fA 28 7 2, lA 29 28 7, g0 (.look 30 .str (.t 27) (.t 29) (.int .i64 0) true), mV 23 30, eX 31 23 0, eX 32 23 1, mV 8 31, mV 9 32])
  (.seq (.ops [mV 33 9])
  (.cond (.t 33) (.seq (.ops [g0 (.build 34 zT []), fA 35 7 4, lA 36 35 7, sT 2 34 6 2, mV 3 36, mK 4 9])
  (.ret))
  (.skip))))
  (.ops [mV 37 5, nC 38 37, fA 39 38 0, lO 40 39, fA 41 7 2, lA 42 41 7, mV 43 6, g0 (.mupd .str (.t 40) (.t 42) (.t 43))]))))
  (.ops [bK 44 .add 18 1, mV 18 44])))
/-- notary/scope.Resolve -/
def F13 : IFunc := ⟨.pure, .seq (.ops [bF 1 0, bZ 2, mK 3 0, mK 4 0])
  (.seq (.ops [g0 (.mkmap 11), lF 12 1 1, g0 (.build 13 [.nilm, (.int .i64 0), (.int .i64 0), (.str []), .nils, (.int .i64 0), (.int .i64 0), .nils, (.int .i64 0), (.int .i64 0)] [(0, 1, (.t 11)), (1, 6, (.t 12))]), g0 (.boxH 14 (some 10) (.t 13)), mV 5 14])
  (.seq (.seq (.ops [fA 15 1 3, lA 16 15 1, lN 17 16, mK 18 0])
  (.block 0 (.loop L13_0)))
  (.seq (.ops [lF 45 1 1, bZ 10, sT 10 45 6 10])
  (.seq (.ops [fA 46 10 2, g0 (.store (.t 46) (.c (.str [])) 1 (some 10))])
  (.seq (.ops [mV 47 5, fA 48 1 3, lA 49 48 1, mV 50 5, g0 (.mkfn 51 38 [(.t 50)] []), cA 52 37 [(.t 47), (.t 49), (.t 51)], fA 53 10 3, sT 53 52 1 10])
  (.seq (.seq (.ops [mV 54 5, nC 55 54, fA 56 55 9, lO 57 56, bK 58 .neq 57 0])
  (.cond (.t 58) (.seq (.ops [g0 (.build 59 zT []), mV 60 5, nC 61 60, fA 62 61 8, lO 63 62, mV 64 5, nC 65 64, fA 66 65 9, lO 67 66, sT 2 59 6 2, mV 3 63, mV 4 67])
  (.ret))
  (.skip)))
  (.seq (.ops [lF 68 10 10, sT 2 68 6 2, mK 3 0, mK 4 0])
  (.ret)))))))),
  [.cell 2 (some 6) (some 2), .t 3, .t 4]⟩
def L14_1 : Ic := .seq (.seq (.ops [mV 43 7, fA 44 1 3, lA 45 44 1, lN 46 45, bT 47 .lss 43 46])
  (.cond (.t 47) (.skip)
  (.exit 2)))
  (.seq (.block 3 (.seq (.ops [lF 50 1 1, fA 51 1 3, lA 52 51 1, mV 53 7, iX 54 52 53, lP 55 54, cA 56 40 [(.t 50), (.t 55)], g0 (.boxL 8 8 none [(.int .i64 0), (.int .i64 0), (.str []), .nils, (.int .i64 0), (.int .i64 0), (.int .i64 0), (.int .i64 0)]), sT 8 56 8 8])
  (.seq (.seq (.ops [fA 57 8 7, lA 58 57 8, bK 59 .neq 58 0])
  (.cond (.t 59) (.seq (.ops [g0 (.build 60 zT []), fA 61 8 6, lA 62 61 8, fA 63 8 7, lA 64 63 8, sT 2 60 6 2, mV 3 62, mV 4 64])
  (.ret))
  (.skip)))
  (.ops [fA 65 6 3, lA 66 65 6, g0 (.fldA 67 (.t 8) 0 (some 6)), lF 68 67 8, g0 (.bsl 69 6 true [(.t 68)]), g0 (.app 70 (.t 66) (.t 69) 6), fA 71 6 3, sT 71 70 1 6]))))
  (.ops [mV 48 7, bK 49 .add 48 1, mV 7 49]))
def L14_0 : Ic := .seq (.seq (.ops [mV 9 5, fA 10 1 3, lA 11 10 1, lN 12 11, bT 13 .lss 9 12])
  (.cond (.t 13) (.skip)
  (.exit 0)))
  (.seq (.block 1 (.seq (.ops [lF 16 1 1, fA 17 1 3, lA 18 17 1, mV 19 5, iX 20 18 19, fA 21 20 2, lO 22 21, cA 23 39 [(.t 16), (.t 22)], mV 24 5, bT 25 .lss 23 24])
  (.cond (.t 25) (.seq (.ops [g0 (.build 26 zT []), fA 27 1 3, lA 28 27 1, mV 29 5, iX 30 28 29, fA 31 30 4, lO 32 31, sT 2 26 6 2, mV 3 32, mK 4 9])
  (.ret))
  (.skip))))
  (.ops [mV 14 5, bK 15 .add 14 1, mV 5 15]))
/-- notary/notaryref13.Resolve -/
def F14 : IFunc := ⟨.pure, .seq (.ops [bF 1 0, bZ 2, mK 3 0, mK 4 0])
  (.seq (.seq (.ops [mK 5 0])
  (.block 0 (.loop L14_0)))
  (.seq (.ops [fA 33 1 0, lA 34 33 1, fA 35 1 1, lA 36 35 1, g0 (.bsl 37 6 true []), fA 38 1 4, lA 39 38 1, fA 40 1 5, lA 41 40 1, g0 (.build 42 zT [(0, 1, (.t 34)), (1, 1, (.t 36)), (3, 1, (.t 37)), (4, 1, (.t 39)), (5, 1, (.t 41))]), bZ 6, sT 6 42 6 6])
  (.seq (.seq (.ops [mK 7 0])
  (.block 2 (.loop L14_1)))
  (.seq (.ops [lF 72 6 6, sT 2 72 6 2, mK 3 0, mK 4 0])
  (.ret))))),
  [.cell 2 (some 6) (some 2), .t 3, .t 4]⟩
def L15_0 : Ic := .seq (.seq (.ops [mV 48 5, fA 49 2 3, lA 50 49 2, lN 51 50, bT 52 .lss 48 51])
  (.cond (.t 52) (.skip)
  (.exit 0)))
  (.seq (.block 1 (.seq (.ops [fA 55 2 3, lA 56 55 2, mV 57 5, iX 58 56 57, lP 59 58, fA 60 3 3, lA 61 60 3, mV 62 5, iX 63 61 62, lP 64 63, cA 65 15 [(.t 59), (.t 64)], g0 (.un 66 .not (.t 65))])
  (.cond (.t 66) (.seq (.ops [g0 (.mv 4 (.c (.bool false)))])
  (.ret))
  (.skip))))
  (.ops [mV 53 5, bK 54 .add 53 1, mV 5 54]))
/-- notary/notaryref06.Placed -/
def F15 : IFunc := ⟨.pure, .seq (.ops [bF 2 0, bF 3 1, g0 (.mv 4 (.c (.bool false)))])
  (.seq (.seq (.ops [fA 6 2 0, lA 7 6 2, fA 8 3 0, lA 9 8 3, bT 10 .neq 7 9, mV 11 10, g1 11 false (.fldA 12 (.t 2) 1 none), g1 11 false (.load 13 (.t 12) none (some 2) false), g1 11 false (.fldA 14 (.t 3) 1 none), g1 11 false (.load 15 (.t 14) none (some 3) false), g1 11 false (.bin 16 .neq (.t 13) (.t 15)), pO 17 11 16, mV 18 17, g1 18 false (.fldA 19 (.t 2) 2 none), g1 18 false (.load 20 (.t 19) none (some 2) false), g1 18 false (.fldA 21 (.t 3) 2 none), g1 18 false (.load 22 (.t 21) none (some 3) false), g1 18 false (.bin 23 .neq (.t 20) (.t 22)), pO 24 18 23, mV 25 24, g1 25 false (.fldA 26 (.t 2) 4 none), g1 25 false (.load 27 (.t 26) none (some 2) false), g1 25 false (.fldA 28 (.t 3) 4 none), g1 25 false (.load 29 (.t 28) none (some 3) false), g1 25 false (.bin 30 .neq (.t 27) (.t 29)), pO 31 25 30, mV 32 31, g1 32 false (.fldA 33 (.t 2) 5 none), g1 32 false (.load 34 (.t 33) none (some 2) false), g1 32 false (.fldA 35 (.t 3) 5 none), g1 32 false (.load 36 (.t 35) none (some 3) false), g1 32 false (.bin 37 .neq (.t 34) (.t 36)), pO 38 32 37, mV 39 38, g1 39 false (.fldA 40 (.t 2) 3 none), g1 39 false (.load 41 (.t 40) none (some 2) false), g1 39 false (.len 42 .slice (.t 41) false), g1 39 false (.fldA 43 (.t 3) 3 none), g1 39 false (.load 44 (.t 43) none (some 3) false), g1 39 false (.len 45 .slice (.t 44) false), g1 39 false (.bin 46 .neq (.t 42) (.t 45)), pO 47 39 46])
  (.cond (.t 47) (.seq (.ops [g0 (.mv 4 (.c (.bool false)))])
  (.ret))
  (.skip)))
  (.seq (.seq (.ops [mK 5 0])
  (.block 0 (.loop L15_0)))
  (.seq (.ops [g0 (.mv 4 (.c (.bool true)))])
  (.ret)))),
  [.t 4]⟩
def L16_0 : Ic := .seq (.seq (.ops [mV 16 6, mV 17 0, g0 (.len 18 .str (.t 17) false), bT 19 .lss 16 18])
  (.cond (.t 19) (.skip)
  (.exit 0)))
  (.block 1 (.seq (.ops [mV 21 0, mV 22 6, cA 23 42 [(.t 21), (.t 22)], mV 20 23, eX 24 20 0, eX 25 20 1, g0 (.boxL 7 5 none [(.int .i64 0), (.int .i64 0), (.str []), (.int .i64 0), (.int .i64 0)]), sT 7 24 5 7, mV 8 25])
  (.seq (.seq (.ops [mV 26 8, bK 27 .neq 26 0])
  (.cond (.t 27) (.seq (.ops [g0 (.bsl 28 5 true []), mV 29 6, mV 30 8, mV 2 28, mV 3 29, mV 4 30])
  (.ret))
  (.skip)))
  (.seq (.ops [mV 31 5, g0 (.load 32 (.t 7) (some 5) (some 7) false), g0 (.bsl 33 5 true [(.t 32)]), g0 (.app 34 (.t 31) (.t 33) 5), mV 5 34])
  (.ops [mV 35 0, fA 36 7 4, lA 37 36 7, cA 38 41 [(.t 35), (.t 37)], mV 6 38])))))
/-- notary/notaryref05.Tokens -/
def F16 : IFunc := ⟨.pure, .seq (.ops [g0 (.mv 2 (.c .nils)), mK 3 0, mK 4 0])
  (.seq (.ops [g0 (.bsl 9 5 true []), mV 5 9])
  (.seq (.seq (.ops [mV 10 0, g0 (.len 11 .str (.t 10) false), bK 12 .gtr 11 8192])
  (.cond (.t 12) (.seq (.ops [mV 13 5, mV 2 13, mK 3 0, mK 4 3])
  (.ret))
  (.skip)))
  (.seq (.ops [mV 14 0, cA 15 41 [(.t 14), (kI 0)], mV 6 15])
  (.seq (.block 0 (.loop L16_0))
  (.seq (.ops [mV 39 5, mV 40 0, g0 (.len 41 .str (.t 40) false), mV 42 0, g0 (.len 43 .str (.t 42) false), g0 (.build 44 [(.int .i64 0), (.int .i64 0), (.str []), (.int .i64 0), (.int .i64 0)] [(0, 1, (kI 5)), (3, 1, (.t 41)), (4, 1, (.t 43))]), g0 (.bsl 45 5 true [(.t 44)]), g0 (.app 46 (.t 39) (.t 45) 5), mV 2 46, mK 3 0, mK 4 0])
  (.ret)))))),
  [.t 2, .t 3, .t 4]⟩
/-- notary/notaryref05.Spell -/
def F17 : IFunc := ⟨.pure, .seq (.ops [g0 (.boxL 1 5 (some (.t 0)) []), g0 (.mv 2 (.c (.str [])))])
  (.seq (.seq (.ops [fA 3 1 0, lA 4 3 1, bK 5 .eql 4 2])
  (.cond (.t 5) (.seq (.ops [fA 6 1 1, lA 7 6 1, cA 8 43 [(.t 7)], mV 2 8])
  (.ret))
  (.skip)))
  (.seq (.seq (.ops [fA 9 1 0, lA 10 9 1, bK 11 .eql 10 1, mV 12 11, g1 12 false (.fldA 13 (.t 1) 0 none), g1 12 false (.load 14 (.t 13) none (some 1) false), g1 12 false (.bin 15 .eql (.t 14) (kI 3)), pO 16 12 15, mV 17 16, g1 17 false (.fldA 18 (.t 1) 0 none), g1 17 false (.load 19 (.t 18) none (some 1) false), g1 17 false (.bin 20 .eql (.t 19) (kI 4)), pO 21 17 20])
  (.cond (.t 21) (.seq (.ops [fA 22 1 2, lA 23 22 1, mV 2 23])
  (.ret))
  (.skip)))
  (.seq (.ops [g0 (.mv 2 (.c (.str [])))])
  (.ret)))),
  [.t 2]⟩
def L18_0 : Ic := .seq (.seq (.ops [mV 34 5, fA 35 2 3, lA 36 35 2, lN 37 36, bT 38 .lss 34 37])
  (.cond (.t 38) (.skip)
  (.exit 0)))
  (.seq (.block 1 (.seq (.ops [fA 41 2 3, lA 42 41 2, mV 43 5, iX 44 42 43, lP 45 44, fA 46 3 3, lA 47 46 3, mV 48 5, iX 49 47 48, lP 50 49, cA 51 18 [(.t 45), (.t 50)], g0 (.un 52 .not (.t 51))])
  (.cond (.t 52) (.seq (.ops [g0 (.mv 4 (.c (.bool false)))])
  (.ret))
  (.skip))))
  (.ops [mV 39 5, bK 40 .add 39 1, mV 5 40]))
/-- notary/notaryref06.Same -/
def F18 : IFunc := ⟨.pure, .seq (.ops [bF 2 0, bF 3 1, g0 (.mv 4 (.c (.bool false)))])
  (.seq (.seq (.ops [fA 6 2 0, lA 7 6 2, fA 8 3 0, lA 9 8 3, bT 10 .neq 7 9, mV 11 10, g1 11 false (.fldA 12 (.t 2) 1 none), g1 11 false (.load 13 (.t 12) none (some 2) false), g1 11 false (.fldA 14 (.t 3) 1 none), g1 11 false (.load 15 (.t 14) none (some 3) false), g1 11 false (.bin 16 .neq (.t 13) (.t 15)), pO 17 11 16, mV 18 17, g1 18 false (.fldA 19 (.t 2) 2 none), g1 18 false (.load 20 (.t 19) none (some 2) false), g1 18 false (.fldA 21 (.t 3) 2 none), g1 18 false (.load 22 (.t 21) none (some 3) false), g1 18 false (.bin 23 .neq (.t 20) (.t 22)), pO 24 18 23, mV 25 24, g1 25 false (.fldA 26 (.t 2) 3 none), g1 25 false (.load 27 (.t 26) none (some 2) false), g1 25 false (.len 28 .slice (.t 27) false), g1 25 false (.fldA 29 (.t 3) 3 none), g1 25 false (.load 30 (.t 29) none (some 3) false), g1 25 false (.len 31 .slice (.t 30) false), g1 25 false (.bin 32 .neq (.t 28) (.t 31)), pO 33 25 32])
  (.cond (.t 33) (.seq (.ops [g0 (.mv 4 (.c (.bool false)))])
  (.ret))
  (.skip)))
  (.seq (.seq (.ops [mK 5 0])
  (.block 0 (.loop L18_0)))
  (.seq (.ops [g0 (.mv 4 (.c (.bool true)))])
  (.ret)))),
  [.t 4]⟩
def L19_0 : Ic := .seq (.seq (.ops [mV 10 4, fA 11 1 3, lA 12 11 1, lN 13 12, bT 14 .lss 10 13])
  (.cond (.t 14) (.skip)
  (.exit 0)))
  (.seq (.block 1 (.ops [fA 17 3 3, lA 18 17 3, fA 19 1 3, lA 20 19 1, mV 21 4, iX 22 20 21, lP 23 22, cA 24 19 [(.t 23)], g0 (.bsl 25 6 true [(.t 24)]), g0 (.app 26 (.t 18) (.t 25) 6), fA 27 3 3, sT 27 26 1 3]))
  (.ops [mV 15 4, bK 16 .add 15 1, mV 4 16]))
/-- notary/notaryref13.Nameless -/
def F19 : IFunc := ⟨.pure, .seq (.ops [bF 1 0, bZ 2])
  (.seq (.ops [fA 5 1 0, lA 6 5 1, fA 7 1 1, lA 8 7 1, g0 (.build 9 zT [(0, 1, (.t 6)), (1, 1, (.t 8))]), bZ 3, sT 3 9 6 3])
  (.seq (.seq (.ops [mK 4 0])
  (.block 0 (.loop L19_0)))
  (.seq (.ops [lF 28 3 3, sT 2 28 6 2])
  (.ret)))),
  [.cell 2 (some 6) (some 2)]⟩
def L20_0 : Ic := .seq (.seq (.ops [mV 62 5, fA 63 2 3, lA 64 63 2, lN 65 64, bT 66 .lss 62 65])
  (.cond (.t 66) (.skip)
  (.exit 0)))
  (.seq (.block 1 (.seq (.ops [fA 69 2 3, lA 70 69 2, mV 71 5, iX 72 70 71, lP 73 72, fA 74 3 3, lA 75 74 3, mV 76 5, iX 77 75 76, lP 78 77, cA 79 20 [(.t 73), (.t 78)], g0 (.un 80 .not (.t 79))])
  (.cond (.t 80) (.seq (.ops [g0 (.mv 4 (.c (.bool false)))])
  (.ret))
  (.skip))))
  (.ops [mV 67 5, bK 68 .add 67 1, mV 5 68]))
/-- notary/notarylaw13.kept -/
def F20 : IFunc := ⟨.pure, .seq (.ops [bF 2 0, bF 3 1, g0 (.mv 4 (.c (.bool false)))])
  (.seq (.seq (.ops [fA 6 2 4, lA 7 6 2, fA 8 3 4, lA 9 8 3, bT 10 .neq 7 9, mV 11 10, g1 11 false (.fldA 12 (.t 2) 5 none), g1 11 false (.load 13 (.t 12) none (some 2) false), g1 11 false (.fldA 14 (.t 3) 5 none), g1 11 false (.load 15 (.t 14) none (some 3) false), g1 11 false (.bin 16 .neq (.t 13) (.t 15)), pO 17 11 16, mV 18 17, g1 18 false (.fldA 19 (.t 2) 3 none), g1 18 false (.load 20 (.t 19) none (some 2) false), g1 18 false (.len 21 .slice (.t 20) false), g1 18 false (.fldA 22 (.t 3) 3 none), g1 18 false (.load 23 (.t 22) none (some 3) false), g1 18 false (.len 24 .slice (.t 23) false), g1 18 false (.bin 25 .neq (.t 21) (.t 24)), pO 26 18 25, mV 27 26, g1 27 false (.fldA 28 (.t 3) 0 none), g1 27 false (.load 29 (.t 28) none (some 3) false), g1 27 false (.bin 30 .eql (.t 29) (kI 19)), pO 31 27 30, mV 32 31, g1 32 false (.fldA 33 (.t 2) 0 none), g1 32 false (.load 34 (.t 33) none (some 2) false), g1 32 false (.bin 35 .neq (.t 34) (kI 19)), g1 32 false (.mv 36 (.t 35)), g1 36 true (.fldA 37 (.t 2) 0 none), g1 36 true (.load 38 (.t 37) none (some 2) false), g1 36 true (.fldA 39 (.t 3) 0 none), g1 36 true (.load 40 (.t 39) none (some 3) false), g1 36 true (.bin 41 .neq (.t 38) (.t 40)), g1 32 false (.pick 42 (.t 36) (.t 41) (.c (.bool false))), pO 43 32 42])
  (.cond (.t 43) (.seq (.ops [g0 (.mv 4 (.c (.bool false)))])
  (.ret))
  (.skip)))
  (.seq (.seq (.ops [fA 44 3 2, lA 45 44 3, g0 (.bin 46 .neq (.t 45) (.c (.str []))), mV 47 46, g1 47 true (.fldA 48 (.t 3) 0 none), g1 47 true (.load 49 (.t 48) none (some 3) false), g1 47 true (.bin 50 .neq (.t 49) (kI 13)), pA 51 47 50, mV 52 51, g1 52 true (.fldA 53 (.t 3) 0 none), g1 52 true (.load 54 (.t 53) none (some 3) false), g1 52 true (.bin 55 .neq (.t 54) (kI 17)), pA 56 52 55, mV 57 56, g1 57 true (.fldA 58 (.t 3) 0 none), g1 57 true (.load 59 (.t 58) none (some 3) false), g1 57 true (.bin 60 .neq (.t 59) (kI 34)), pA 61 57 60])
  (.cond (.t 61) (.seq (.ops [g0 (.mv 4 (.c (.bool false)))])
  (.ret))
  (.skip)))
  (.seq (.seq (.ops [mK 5 0])
  (.block 0 (.loop L20_0)))
  (.seq (.ops [g0 (.mv 4 (.c (.bool true)))])
  (.ret))))),
  [.t 4]⟩
/-- notary/notaryref09.Decl -/
def F35 : IFunc := ⟨.pure, .seq (.ops [g0 (.boxL 4 8 none [(.int .i64 0), (.int .i64 0), (.str []), .nils, (.int .i64 0), (.int .i64 0), (.int .i64 0), (.int .i64 0)])])
  (.seq (.seq (.ops [mV 8 0, mV 9 1, g0 (.call (some 10) 64 [(.t 8), (.t 9), (.c (.str [99, 111, 110, 115, 116]))]), mV 11 10, g1 11 false (.mv 12 (.t 0)), g1 11 false (.mv 13 (.t 1)), g1 11 false (.call (some 14) 64 [(.t 12), (.t 13), (.c (.str [118, 97, 114]))]), pO 15 11 14])
  (.cond (.t 15) (.seq (.ops [mV 16 0, mV 17 1, cA 18 65 [(.t 16), (.t 17)], sT 4 18 8 4])
  (.ret))
  (.skip)))
  (.seq (.seq (.ops [mV 19 0, mV 20 1, g0 (.call (some 21) 64 [(.t 19), (.t 20), (.c (.str [112, 117, 98]))])])
  (.cond (.t 21) (.seq (.ops [mV 22 0, mV 23 1, mV 24 1, bK 25 .add 24 1, cA 26 66 [(.t 22), (.t 23), (.t 25), (kI 1)], sT 4 26 8 4])
  (.ret))
  (.skip)))
  (.seq (.seq (.ops [mV 27 0, mV 28 1, g0 (.call (some 29) 64 [(.t 27), (.t 28), (.c (.str [102, 110]))])])
  (.cond (.t 29) (.seq (.ops [mV 30 0, mV 31 1, mV 32 1, cA 33 66 [(.t 30), (.t 31), (.t 32), (kI 0)], sT 4 33 8 4])
  (.ret))
  (.skip)))
  (.seq (.seq (.ops [mV 34 0, mV 35 1, g0 (.call (some 36) 64 [(.t 34), (.t 35), (.c (.str [114, 101, 99]))]), g0 (.un 37 .not (.t 36))])
  (.cond (.t 37) (.seq (.ops [mV 38 1, cA 39 67 [(.t 38)], sT 4 39 8 4])
  (.ret))
  (.skip)))
  (.seq (.seq (.ops [mV 40 0, mV 41 1, bK 42 .add 41 1, cA 43 68 [(.t 40), (.t 42)], g0 (.fld 44 (.t 43) 0 none), bK 45 .neq 44 1])
  (.cond (.t 45) (.seq (.ops [mV 46 1, bK 47 .add 46 1, cA 48 67 [(.t 47)], sT 4 48 8 4])
  (.ret))
  (.skip)))
  (.seq (.seq (.ops [mV 49 0, mV 50 1, bK 51 .add 50 2, g0 (.call (some 52) 69 [(.t 49), (.t 51), (.c (.str [123]))]), g0 (.un 53 .not (.t 52))])
  (.cond (.t 53) (.seq (.ops [mV 54 1, bK 55 .add 54 2, cA 56 67 [(.t 55)], sT 4 56 8 4])
  (.ret))
  (.skip)))
  (.seq (.ops [mV 58 0, mV 59 1, bK 60 .add 59 3, cA 61 70 [(.t 58), (.t 60)], mV 57 61, eX 62 57 0, eX 63 57 1, eX 64 57 2, mV 5 62, mV 6 63, mV 7 64])
  (.seq (.seq (.ops [mV 65 7, bK 66 .neq 65 0])
  (.cond (.t 66) (.seq (.ops [mV 67 6, mV 68 7, g0 (.build 69 [(.int .i64 0), (.int .i64 0), (.str []), .nils, (.int .i64 0), (.int .i64 0), (.int .i64 0), (.int .i64 0)] [(6, 1, (.t 67)), (7, 1, (.t 68))]), sT 4 69 8 4])
  (.ret))
  (.skip)))
  (.seq (.ops [mV 70 0, mV 71 1, mV 72 6, mV 73 0, mV 74 1, bK 75 .add 74 1, g0 (.idxA 76 (.t 73) (.t 75) 5 (some 5) none), fA 77 76 2, lO 78 77, mV 79 5, cA 80 71 [(.t 70), (.t 71), (.t 72), (kI 30), (kI 0), (.t 78), (.t 79)], sT 4 80 8 4])
  (.ret)))))))))),
  [.cell 4 (some 8) (some 4)]⟩
def L36_0 : Ic := .seq (.seq (.ops [mV 6 4, fA 7 1 3, lA 8 7 1, lN 9 8, bT 10 .lss 6 9])
  (.cond (.t 10) (.skip)
  (.exit 0)))
  (.seq (.block 1 (.seq (.ops [fA 13 1 3, lA 14 13 1, mV 15 4, iX 16 14 15, lP 17 16, cA 18 36 [(.t 17)], mV 5 18])
  (.seq (.ops [mV 19 5, mV 20 3, bT 21 .gtr 19 20])
  (.cond (.t 21) (.ops [mV 22 5, mV 3 22])
  (.skip)))))
  (.ops [mV 11 4, bK 12 .add 11 1, mV 4 12]))
/-- notary/notaryref06.Depth -/
def F36 : IFunc := ⟨.pure, .seq (.ops [bF 1 0, mK 2 0])
  (.seq (.ops [mK 3 0])
  (.seq (.seq (.ops [mK 4 0])
  (.block 0 (.loop L36_0)))
  (.seq (.ops [mV 23 3, bK 24 .add 23 1, mV 2 24])
  (.ret)))),
  [.t 2]⟩
def L37_0 : Ic := .seq (.ops [bT 13 .lss 12 11])
  (.seq (.cond (.t 13) (.skip)
  (.exit 0))
  (.seq (.block 1 (.seq (.ops [iX 14 10 12, lP 15 14, bZ 9, sT 9 15 6 9])
  (.seq (.seq (.ops [mV 16 0, nC 17 16, fA 18 17 9, lO 19 18, bK 20 .neq 19 0])
  (.cond (.t 20) (.seq (.ops [g0 (.mv 6 (.c .nils))])
  (.ret))
  (.skip)))
  (.ops [mV 21 7, mV 22 2, lF 23 9 9, g0 (.callV (some 24) (.t 22) [(.t 23)]), g0 (.bsl 25 6 true [(.t 24)]), g0 (.app 26 (.t 21) (.t 25) 6), mV 7 26]))))
  (.ops [bK 27 .add 12 1, mV 12 27])))
/-- (*notary/scope.scope).parts -/
def F37 : IFunc := ⟨.fre, .seq (.ops [g0 (.mv 6 (.c .nils))])
  (.seq (.ops [g0 (.mv 7 (.c .nils))])
  (.seq (.seq (.ops [mV 10 1, lN 11 10, mK 12 0])
  (.block 0 (.loop L37_0)))
  (.seq (.ops [mV 28 7, mV 6 28])
  (.ret)))),
  [.t 6]⟩
def L38_0 : Ic := .seq (.ops [bT 51 .lss 50 49])
  (.seq (.cond (.t 51) (.skip)
  (.exit 1))
  (.seq (.block 2 (.seq (.ops [iX 52 48 50, lP 53 52, bZ 8, sT 8 53 6 8])
  (.ops [mV 54 0, mV 55 0, nC 56 55, fA 57 56 7, lO 58 57, fA 59 8 2, lA 60 59 8, g0 (.bsl 61 1 false [(.t 60)]), g0 (.app 62 (.t 58) (.t 61) 1), nC 63 54, fA 64 63 7, g0 (.store (.t 64) (.t 62) 1 none)])))
  (.ops [bK 65 .add 50 1, mV 50 65])))
/-- (*notary/scope.scope).decl -/
def F38 : IFunc := ⟨.fre, .seq (.ops [bF 3 1, bZ 4])
  (.seq (.seq (.ops [fA 10 3 0, lA 11 10 3])
  (.block 0 (.seq (.ops [bK 13 .eql 11 30, mV 12 13])
  (.cond (.t 12) (.seq (.ops [fA 14 3 2, g0 (.store (.t 14) (.c (.str [])) 1 (some 3))])
  (.seq (.ops [mV 15 0, fA 16 3 3, lA 17 16 3, cA 18 72 [(.t 15), (.t 17), (.c (.bool true))], fA 19 3 3, sT 19 18 1 3])
  (.seq (.ops [lF 20 3 3, sT 4 20 6 4])
  (.ret))))
  (.seq (.ops [bK 22 .eql 11 33, mV 21 22])
  (.cond (.t 21) (.seq (.seq (.ops [fA 23 3 3, lA 24 23 3, lN 25 24, bK 26 .neq 25 3])
  (.cond (.t 26) (.seq (.ops [g0 (.build 27 zT []), sT 4 27 6 4])
  (.ret))
  (.skip)))
  (.seq (.ops [fA 28 3 2, g0 (.store (.t 28) (.c (.str [])) 1 (some 3))])
  (.seq (.ops [fA 29 3 3, lA 30 29 3, g0 (.idxA 31 (.t 30) (kI 0) 6 (some 6) none), lP 32 31, bZ 5, sT 5 32 6 5])
  (.seq (.ops [mV 33 0, fA 34 5 3, lA 35 34 5, cA 36 72 [(.t 33), (.t 35), (.c (.bool false))], fA 37 5 3, sT 37 36 1 5])
  (.seq (.ops [mV 38 0, fA 39 3 3, lA 40 39 3, g0 (.idxA 41 (.t 40) (kI 1) 6 (some 6) none), lP 42 41, cA 43 73 [(.t 38), (.t 42)], bZ 6, sT 6 43 6 6])
  (.seq (.seq (.ops [fA 44 3 3, lA 45 44 3, g0 (.idxA 46 (.t 45) (kI 0) 6 (some 6) none), fA 47 46 3, lO 48 47, lN 49 48, mK 50 0])
  (.block 1 (.loop L38_0)))
  (.seq (.ops [fA 66 3 3, lA 67 66 3, g0 (.idxA 68 (.t 67) (kI 2) 6 (some 6) none), lP 69 68, bZ 9, sT 9 69 6 9])
  (.seq (.seq (.ops [mV 70 0, nC 71 70, fA 72 71 9, lO 73 72, bK 74 .eql 73 0])
  (.cond (.t 74) (.ops [mV 75 0, lF 76 9 9, cA 77 74 [(.t 75), (.t 76)], sT 9 77 6 9])
  (.skip)))
  (.seq (.ops [mV 78 0, mV 79 0, nC 80 79, fA 81 80 7, lO 82 81, g0 (.slc 83 (some 1) (.t 82) none (some (kI 0)) none), nC 84 78, fA 85 84 7, g0 (.store (.t 85) (.t 83) 1 none)])
  (.seq (.ops [lF 86 5 5, lF 87 6 6, lF 88 9 9, g0 (.bsl 89 6 true [(.t 86), (.t 87), (.t 88)]), fA 90 3 3, sT 90 89 1 3])
  (.seq (.ops [lF 91 3 3, sT 4 91 6 4])
  (.ret))))))))))))
  (.skip)))))))
  (.seq (.ops [mV 92 0, lF 93 3 3, cA 94 73 [(.t 92), (.t 93)], sT 4 94 6 4])
  (.ret))),
  [.cell 4 (some 6) (some 4)]⟩
def L39_0 : Ic := .seq (.seq (.ops [mV 6 5, fA 7 2 3, lA 8 7 2, lN 9 8, bT 10 .lss 6 9])
  (.cond (.t 10) (.skip)
  (.exit 0)))
  (.seq (.block 1 (.seq (.ops [fA 13 2 3, lA 14 13 2, mV 15 5, iX 16 14 15, fA 17 16 2, lO 18 17, mV 19 1, bT 20 .eql 18 19])
  (.cond (.t 20) (.seq (.ops [mV 21 5, mV 4 21])
  (.ret))
  (.skip))))
  (.ops [mV 11 5, bK 12 .add 11 1, mV 5 12]))
/-- notary/notaryref13.Decl -/
def F39 : IFunc := ⟨.pure, .seq (.ops [bF 2 0, mK 4 0])
  (.seq (.seq (.ops [mK 5 0])
  (.block 0 (.loop L39_0)))
  (.seq (.ops [g0 (.mv 4 (.c (.int .i64 (-1))))])
  (.ret))),
  [.t 4]⟩
def L40_0 : Ic := .seq (.seq (.ops [mV 95 14, fA 96 3 3, lA 97 96 3, g0 (.idxA 98 (.t 97) (kI 0) 6 (some 6) none), fA 99 98 3, lO 100 99, lN 101 100, bT 102 .lss 95 101])
  (.cond (.t 102) (.skip)
  (.exit 0)))
  (.seq (.block 1 (.ops [mV 105 13, fA 106 3 3, lA 107 106 3, g0 (.idxA 108 (.t 107) (kI 0) 6 (some 6) none), fA 109 108 3, lO 110 109, mV 111 14, iX 112 110 111, fA 113 112 2, lO 114 113, g0 (.bsl 115 1 false [(.t 114)]), g0 (.app 116 (.t 105) (.t 115) 1), mV 13 116]))
  (.ops [mV 103 14, bK 104 .add 103 1, mV 14 104]))
/-- notary/notaryref13.Declared -/
def F40 : IFunc := ⟨.pure, .seq (.ops [bF 2 0, bF 3 1, g0 (.boxL 4 8 none [(.int .i64 0), (.int .i64 0), (.str []), .nils, (.int .i64 0), (.int .i64 0), (.int .i64 0), (.int .i64 0)])])
  (.seq (.seq (.ops [fA 16 3 0, lA 17 16 3, bK 18 .eql 17 30])
  (.cond (.t 18) (.seq (.ops [lF 20 2 2, fA 21 3 3, lA 22 21 3, cA 23 75 [(.t 20), (.t 22), (.c (.bool true))], mV 19 23, eX 24 19 0, eX 25 19 1, eX 26 19 2, mV 5 24, mV 6 25, mV 7 26])
  (.seq (.seq (.ops [mV 27 7, bK 28 .neq 27 0])
  (.cond (.t 28) (.seq (.ops [mV 29 6, mV 30 7, g0 (.build 31 [(.int .i64 0), (.int .i64 0), (.str []), .nils, (.int .i64 0), (.int .i64 0), (.int .i64 0), (.int .i64 0)] [(6, 1, (.t 29)), (7, 1, (.t 30))]), sT 4 31 8 4])
  (.ret))
  (.skip)))
  (.seq (.ops [fA 32 3 0, lA 33 32 3, fA 34 3 1, lA 35 34 3, mV 36 5, fA 37 3 4, lA 38 37 3, fA 39 3 5, lA 40 39 3, g0 (.build 41 zT [(0, 1, (.t 33)), (1, 1, (.t 35)), (3, 1, (.t 36)), (4, 1, (.t 38)), (5, 1, (.t 40))]), g0 (.build 42 [(.int .i64 0), (.int .i64 0), (.str []), .nils, (.int .i64 0), (.int .i64 0), (.int .i64 0), (.int .i64 0)] [(0, 6, (.t 41))]), sT 4 42 8 4])
  (.ret))))
  (.skip)))
  (.seq (.seq (.ops [fA 43 3 0, lA 44 43 3, bK 45 .neq 44 33])
  (.cond (.t 45) (.seq (.ops [lF 46 2 2, g0 (.bsl 47 1 false []), lF 48 3 3, cA 49 76 [(.t 46), (.t 47), (.t 48)], sT 4 49 8 4])
  (.ret))
  (.skip)))
  (.seq (.ops [lF 51 2 2, fA 52 3 3, lA 53 52 3, g0 (.idxA 54 (.t 53) (kI 0) 6 (some 6) none), fA 55 54 3, lO 56 55, cA 57 75 [(.t 51), (.t 56), (.c (.bool false))], mV 50 57, eX 58 50 0, eX 59 50 1, eX 60 50 2, mV 8 58, mV 9 59, mV 10 60])
  (.seq (.seq (.ops [mV 61 10, bK 62 .neq 61 0])
  (.cond (.t 62) (.seq (.ops [mV 63 9, mV 64 10, g0 (.build 65 [(.int .i64 0), (.int .i64 0), (.str []), .nils, (.int .i64 0), (.int .i64 0), (.int .i64 0), (.int .i64 0)] [(6, 1, (.t 63)), (7, 1, (.t 64))]), sT 4 65 8 4])
  (.ret))
  (.skip)))
  (.seq (.ops [fA 66 3 3, lA 67 66 3, g0 (.idxA 68 (.t 67) (kI 0) 6 (some 6) none), fA 69 68 0, lO 70 69, mV 71 8, fA 72 3 3, lA 73 72 3, g0 (.idxA 74 (.t 73) (kI 0) 6 (some 6) none), fA 75 74 4, lO 76 75, fA 77 3 3, lA 78 77 3, g0 (.idxA 79 (.t 78) (kI 0) 6 (some 6) none), fA 80 79 5, lO 81 80, g0 (.build 82 zT [(0, 1, (.t 70)), (3, 1, (.t 71)), (4, 1, (.t 76)), (5, 1, (.t 81))]), bZ 11, sT 11 82 6 11])
  (.seq (.ops [lF 83 2 2, g0 (.bsl 84 1 false []), fA 85 3 3, lA 86 85 3, g0 (.idxA 87 (.t 86) (kI 1) 6 (some 6) none), lP 88 87, cA 89 76 [(.t 83), (.t 84), (.t 88)], g0 (.boxL 12 8 none [(.int .i64 0), (.int .i64 0), (.str []), .nils, (.int .i64 0), (.int .i64 0), (.int .i64 0), (.int .i64 0)]), sT 12 89 8 12])
  (.seq (.seq (.ops [fA 90 12 7, lA 91 90 12, bK 92 .neq 91 0])
  (.cond (.t 92) (.seq (.ops [g0 (.load 93 (.t 12) (some 8) (some 12) false), sT 4 93 8 4])
  (.ret))
  (.skip)))
  (.seq (.ops [g0 (.bsl 94 1 false []), mV 13 94])
  (.seq (.seq (.ops [mK 14 0])
  (.block 0 (.loop L40_0)))
  (.seq (.ops [lF 117 2 2, mV 118 13, fA 119 3 3, lA 120 119 3, g0 (.idxA 121 (.t 120) (kI 2) 6 (some 6) none), lP 122 121, cA 123 76 [(.t 117), (.t 118), (.t 122)], g0 (.boxL 15 8 none [(.int .i64 0), (.int .i64 0), (.str []), .nils, (.int .i64 0), (.int .i64 0), (.int .i64 0), (.int .i64 0)]), sT 15 123 8 15])
  (.seq (.seq (.ops [fA 124 15 7, lA 125 124 15, bK 126 .neq 125 0])
  (.cond (.t 126) (.seq (.ops [g0 (.load 127 (.t 15) (some 8) (some 15) false), sT 4 127 8 4])
  (.ret))
  (.skip)))
  (.seq (.ops [fA 128 3 0, lA 129 128 3, fA 130 3 1, lA 131 130 3, lF 132 11 11, g0 (.fldA 133 (.t 12) 0 (some 6)), lF 134 133 12, g0 (.fldA 135 (.t 15) 0 (some 6)), lF 136 135 15, g0 (.bsl 137 6 true [(.t 132), (.t 134), (.t 136)]), fA 138 3 4, lA 139 138 3, fA 140 3 5, lA 141 140 3, g0 (.build 142 zT [(0, 1, (.t 129)), (1, 1, (.t 131)), (3, 1, (.t 137)), (4, 1, (.t 139)), (5, 1, (.t 141))]), g0 (.build 143 [(.int .i64 0), (.int .i64 0), (.str []), .nils, (.int .i64 0), (.int .i64 0), (.int .i64 0), (.int .i64 0)] [(0, 6, (.t 142))]), sT 4 143 8 4])
  (.ret))))))))))))),
  [.cell 4 (some 8) (some 4)]⟩
def L41_1 : Ic := .seq (.seq (.ops [mV 18 1, mV 19 0, g0 (.len 20 .str (.t 19) false), bT 21 .lss 18 20, mV 22 21, g1 22 true (.mv 23 (.t 0)), g1 22 true (.mv 24 (.t 1)), g1 22 true (.idx 25 (.t 23) (.t 24) none 1 none), g1 22 true (.bin 26 .neq (.t 25) (.c (.int .u8 10))), pA 27 22 26])
  (.cond (.t 27) (.skip)
  (.exit 2)))
  (.block 3 (.ops [mV 28 1, bK 29 .add 28 1, mV 1 29]))
def L41_0 : Ic := .seq (.seq (.ops [mV 5 1, mV 6 0, g0 (.len 7 .str (.t 6) false), bT 8 .lss 5 7])
  (.cond (.t 8) (.skip)
  (.exit 0)))
  (.block 1 (.seq (.ops [mV 9 0, mV 10 1, g0 (.idx 11 (.t 9) (.t 10) none 1 none), cA 12 77 [(.t 11)]])
  (.cond (.t 12) (.ops [mV 13 1, bK 14 .add 13 1, mV 1 14])
  (.seq (.ops [mV 15 0, mV 16 1, g0 (.call (some 17) 78 [(.t 15), (.t 16), (.c (.str [47, 47]))])])
  (.cond (.t 17) (.block 2 (.loop L41_1))
  (.seq (.ops [mV 30 1, mV 4 30])
  (.ret)))))))
/-- notary/notaryref05.Next -/
def F41 : IFunc := ⟨.pure, .seq (.ops [mK 4 0])
  (.seq (.block 0 (.loop L41_0))
  (.seq (.ops [mV 31 1, mV 4 31])
  (.ret))),
  [.t 4]⟩
def L42_2 : Ic := .seq (.seq (.ops [mV 87 12, mV 88 11, lN 89 88, bT 90 .lss 87 89])
  (.cond (.t 90) (.skip)
  (.exit 4)))
  (.seq (.block 5 (.seq (.ops [mV 93 0, mV 94 1, mV 95 11, mV 96 12, g0 (.idxA 97 (.t 95) (.t 96) 1 none none), lO 98 97, cA 99 78 [(.t 93), (.t 94), (.t 98)]])
  (.cond (.t 99) (.seq (.ops [mV 100 11, mV 101 12, g0 (.idxA 102 (.t 100) (.t 101) 1 none none), lO 103 102, mV 104 1, mV 105 1, mV 106 11, mV 107 12, g0 (.idxA 108 (.t 106) (.t 107) 1 none none), lO 109 108, g0 (.len 110 .str (.t 109) false), bT 111 .add 105 110, g0 (.build 112 [(.int .i64 0), (.int .i64 0), (.str []), (.int .i64 0), (.int .i64 0)] [(0, 1, (kI 4)), (2, 1, (.t 103)), (3, 1, (.t 104)), (4, 1, (.t 111))]), sT 4 112 5 4, mK 5 0])
  (.ret))
  (.skip))))
  (.ops [mV 91 12, bK 92 .add 91 1, mV 12 92]))
def L42_1 : Ic := .seq (.seq (.ops [mV 59 7, mV 60 0, g0 (.len 61 .str (.t 60) false), bT 62 .lss 59 61, mV 63 62, g1 63 true (.mv 64 (.t 0)), g1 63 true (.mv 65 (.t 7)), g1 63 true (.idx 66 (.t 64) (.t 65) none 1 none), g1 63 true (.call (some 67) 80 [(.t 66)]), pA 68 63 67])
  (.cond (.t 68) (.skip)
  (.exit 2)))
  (.block 3 (.ops [mV 69 7, bK 70 .add 69 1, mV 7 70]))
def L42_0 : Ic := .seq (.seq (.ops [mV 19 7, mV 20 0, g0 (.len 21 .str (.t 20) false), bT 22 .lss 19 21, mV 23 22, g1 23 true (.mv 24 (.t 0)), g1 23 true (.mv 25 (.t 7)), g1 23 true (.idx 26 (.t 24) (.t 25) none 1 none), g1 23 true (.call (some 27) 79 [(.t 26)]), g1 23 true (.mv 28 (.t 27)), g1 28 false (.mv 29 (.t 0)), g1 28 false (.mv 30 (.t 7)), g1 28 false (.idx 31 (.t 29) (.t 30) none 1 none), g1 28 false (.call (some 32) 80 [(.t 31)]), g1 23 true (.pick 33 (.t 28) (.c (.bool true)) (.t 32)), pA 34 23 33])
  (.cond (.t 34) (.skip)
  (.exit 0)))
  (.block 1 (.ops [mV 35 7, bK 36 .add 35 1, mV 7 36]))
/-- notary/notaryref05.One -/
def F42 : IFunc := ⟨.pure, .seq (.ops [g0 (.boxL 4 5 none [(.int .i64 0), (.int .i64 0), (.str []), (.int .i64 0), (.int .i64 0)]), mK 5 0])
  (.seq (.ops [mV 13 0, mV 14 1, g0 (.idx 15 (.t 13) (.t 14) none 1 none), mV 6 15])
  (.seq (.ops [mV 16 1, mV 7 16])
  (.seq (.seq (.ops [mV 17 6, cA 18 79 [(.t 17)]])
  (.cond (.t 18) (.seq (.block 0 (.loop L42_0))
  (.seq (.seq (.ops [mV 37 7, mV 38 1, bT 39 .sub 37 38, bK 40 .gtr 39 16])
  (.cond (.t 40) (.seq (.ops [g0 (.build 41 [(.int .i64 0), (.int .i64 0), (.str []), (.int .i64 0), (.int .i64 0)] []), sT 4 41 5 4, mK 5 3])
  (.ret))
  (.skip)))
  (.seq (.ops [mV 42 0, mV 43 1, mV 44 7, g0 (.slc 45 none (.t 42) (some (.t 43)) (some (.t 44)) none), mV 8 45])
  (.seq (.seq (.ops [mV 46 8, cA 47 82 [], cA 48 81 [(.t 46), (.t 47)]])
  (.cond (.t 48) (.seq (.ops [mV 49 8, mV 50 1, mV 51 7, g0 (.build 52 [(.int .i64 0), (.int .i64 0), (.str []), (.int .i64 0), (.int .i64 0)] [(0, 1, (kI 3)), (2, 1, (.t 49)), (3, 1, (.t 50)), (4, 1, (.t 51))]), sT 4 52 5 4, mK 5 0])
  (.ret))
  (.skip)))
  (.seq (.ops [mV 53 8, mV 54 1, mV 55 7, g0 (.build 56 [(.int .i64 0), (.int .i64 0), (.str []), (.int .i64 0), (.int .i64 0)] [(0, 1, (kI 1)), (2, 1, (.t 53)), (3, 1, (.t 54)), (4, 1, (.t 55))]), sT 4 56 5 4, mK 5 0])
  (.ret))))))
  (.skip)))
  (.seq (.seq (.ops [mV 57 6, cA 58 80 [(.t 57)]])
  (.cond (.t 58) (.seq (.block 2 (.loop L42_1))
  (.seq (.ops [mV 72 0, mV 73 1, mV 74 7, g0 (.slc 75 none (.t 72) (some (.t 73)) (some (.t 74)) none), cA 76 83 [(.t 75)], mV 71 76, eX 77 71 0, eX 78 71 1, mV 9 77, mV 10 78])
  (.seq (.seq (.ops [mV 79 10, g0 (.un 80 .not (.t 79))])
  (.cond (.t 80) (.seq (.ops [g0 (.build 81 [(.int .i64 0), (.int .i64 0), (.str []), (.int .i64 0), (.int .i64 0)] []), sT 4 81 5 4, mK 5 5])
  (.ret))
  (.skip)))
  (.seq (.ops [mV 82 9, mV 83 1, mV 84 7, g0 (.build 85 [(.int .i64 0), (.int .i64 0), (.str []), (.int .i64 0), (.int .i64 0)] [(0, 1, (kI 2)), (1, 1, (.t 82)), (3, 1, (.t 83)), (4, 1, (.t 84))]), sT 4 85 5 4, mK 5 0])
  (.ret)))))
  (.skip)))
  (.seq (.ops [cA 86 84 [], mV 11 86])
  (.seq (.seq (.ops [mK 12 0])
  (.block 4 (.loop L42_2)))
  (.seq (.ops [g0 (.build 113 [(.int .i64 0), (.int .i64 0), (.str []), (.int .i64 0), (.int .i64 0)] []), sT 4 113 5 4, mK 5 4])
  (.ret)))))))),
  [.cell 4 (some 5) (some 4), .t 5]⟩
/-- notary/notaryref05.Digits -/
def F43 : IFunc := ⟨.pure, .seq (.ops [g0 (.mv 2 (.c (.str [])))])
  (.seq (.seq (.ops [mV 3 0, bK 4 .lss 3 0])
  (.cond (.t 4) (.seq (.seq (.ops [mV 5 0, g0 (.bin 6 .gtr (.t 5) (.c (.int .i64 (-10))))])
  (.cond (.t 6) (.seq (.ops [mV 7 0, g0 (.bin 8 .sub (kI 48) (.t 7)), g0 (.conv 9 (.int .u8) (.t 8)), g0 (.bsl 10 1 false [(.t 9)]), g0 (.conv 11 .bytesstr (.t 10)), g0 (.bin 12 .add (.c (.str [45])) (.t 11)), mV 2 12])
  (.ret))
  (.skip)))
  (.seq (.ops [mV 13 0, bK 14 .quo 13 10, g0 (.callQ (some 15) 43 [(.t 14)]), mV 16 0, bK 17 .rem 16 10, g0 (.bin 18 .sub (kI 48) (.t 17)), g0 (.conv 19 (.int .u8) (.t 18)), g0 (.bsl 20 1 false [(.t 19)]), g0 (.conv 21 .bytesstr (.t 20)), bT 22 .add 15 21, mV 2 22])
  (.ret)))
  (.skip)))
  (.seq (.seq (.ops [mV 23 0, bK 24 .lss 23 10])
  (.cond (.t 24) (.seq (.ops [mV 25 0, g0 (.bin 26 .add (kI 48) (.t 25)), g0 (.conv 27 (.int .u8) (.t 26)), g0 (.bsl 28 1 false [(.t 27)]), g0 (.conv 29 .bytesstr (.t 28)), mV 2 29])
  (.ret))
  (.skip)))
  (.seq (.ops [mV 30 0, bK 31 .quo 30 10, g0 (.callQ (some 32) 43 [(.t 31)]), mV 33 0, bK 34 .rem 33 10, g0 (.bin 35 .add (kI 48) (.t 34)), g0 (.conv 36 (.int .u8) (.t 35)), g0 (.bsl 37 1 false [(.t 36)]), g0 (.conv 38 .bytesstr (.t 37)), bT 39 .add 32 38, mV 2 39])
  (.ret)))),
  [.t 2]⟩
def L44_0 : Ic := .seq (.seq (.ops [mV 16 5, nC 17 16, fA 18 17 1, lO 19 18, mV 20 0, g0 (.len 21 .str (.t 20) false), bT 22 .lss 19 21])
  (.cond (.t 22) (.skip)
  (.exit 0)))
  (.seq (.block 1 (.seq (.ops [mV 25 5, nC 26 25, fA 27 26 1, lO 28 27, mV 6 28])
  (.seq (.ops [mV 29 5, cA 30 86 [(.t 29)], mV 7 30])
  (.seq (.ops [mV 31 7, bK 32 .neq 31 0])
  (.cond (.t 32) (.seq (.ops [mV 33 6, mV 34 7, g0 (.mv 2 (.c .nils)), mV 3 33, mV 4 34])
  (.ret))
  (.skip))))))
  (.ops [mV 23 5, cA 24 85 [(.t 23)]]))
/-- notary/lex.Tokens -/
def F44 : IFunc := ⟨.pure, .seq (.ops [g0 (.mv 2 (.c .nils)), mK 3 0, mK 4 0])
  (.seq (.seq (.ops [mV 8 0, g0 (.len 9 .str (.t 8) false), bK 10 .gtr 9 8192])
  (.cond (.t 10) (.seq (.ops [g0 (.mv 2 (.c .nils)), mK 3 0, mK 4 3])
  (.ret))
  (.skip)))
  (.seq (.ops [mV 11 0, g0 (.build 12 [(.str []), (.int .i64 0), .nils] [(0, 1, (.t 11))]), g0 (.boxH 13 (some 3) (.t 12)), mV 5 13])
  (.seq (.seq (.ops [mV 14 5, cA 15 85 [(.t 14)]])
  (.block 0 (.loop L44_0)))
  (.seq (.ops [mV 35 5, mV 36 5, nC 37 36, fA 38 37 1, lO 39 38, g0 (.call (some 40) 87 [(.t 35), (kI 5), (kI 0), (.c (.str [])), (.t 39)])])
  (.seq (.ops [mV 41 5, nC 42 41, fA 43 42 2, lO 44 43, mV 2 44, mK 3 0, mK 4 0])
  (.ret)))))),
  [.t 2, .t 3, .t 4]⟩
/-- notary/notaryref07.Word -/
def F64 : IFunc := ⟨.pure, .seq (.ops [g0 (.mv 6 (.c (.bool false)))])
  (.seq (.ops [mV 7 0, mV 8 1, cA 9 68 [(.t 7), (.t 8)], g0 (.fld 10 (.t 9) 0 none), bK 11 .eql 10 3, mV 12 11, g1 12 true (.mv 13 (.t 0)), g1 12 true (.mv 14 (.t 1)), g1 12 true (.call (some 15) 68 [(.t 13), (.t 14)]), g1 12 true (.fld 16 (.t 15) 2 none), g1 12 true (.mv 17 (.t 2)), g1 12 true (.bin 18 .eql (.t 16) (.t 17)), pA 19 12 18, mV 6 19])
  (.ret)),
  [.t 6]⟩
/-- notary/notaryref09.Short -/
def F65 : IFunc := ⟨.pure, .seq (.ops [g0 (.boxL 4 8 none [(.int .i64 0), (.int .i64 0), (.str []), .nils, (.int .i64 0), (.int .i64 0), (.int .i64 0), (.int .i64 0)])])
  (.seq (.seq (.ops [mV 8 0, mV 9 1, bK 10 .add 9 1, cA 11 68 [(.t 8), (.t 10)], g0 (.fld 12 (.t 11) 0 none), bK 13 .neq 12 1])
  (.cond (.t 13) (.seq (.ops [mV 14 1, bK 15 .add 14 1, cA 16 67 [(.t 15)], sT 4 16 8 4])
  (.ret))
  (.skip)))
  (.seq (.ops [mK 5 32, g0 (.mv 6 (.c (.str [58])))])
  (.seq (.seq (.ops [mV 17 0, mV 18 1, g0 (.call (some 19) 64 [(.t 17), (.t 18), (.c (.str [99, 111, 110, 115, 116]))])])
  (.cond (.t 19) (.ops [mK 5 31, g0 (.mv 6 (.c (.str [61])))])
  (.skip)))
  (.seq (.seq (.ops [mV 20 0, mV 21 1, bK 22 .add 21 2, mV 23 6, cA 24 69 [(.t 20), (.t 22), (.t 23)], g0 (.un 25 .not (.t 24))])
  (.cond (.t 25) (.seq (.ops [mV 26 1, bK 27 .add 26 2, cA 28 67 [(.t 27)], sT 4 28 8 4])
  (.ret))
  (.skip)))
  (.seq (.ops [g0 (.boxL 7 8 none [(.int .i64 0), (.int .i64 0), (.str []), .nils, (.int .i64 0), (.int .i64 0), (.int .i64 0), (.int .i64 0)])])
  (.seq (.seq (.ops [mV 29 5, bK 30 .eql 29 32])
  (.cond (.t 30) (.ops [mV 31 0, mV 32 1, bK 33 .add 32 3, cA 34 110 [(.t 31), (.t 33)], sT 7 34 8 7])
  (.seq (.ops [mV 35 0, mV 36 1, bK 37 .add 36 3, cA 38 68 [(.t 35), (.t 37)], g0 (.fld 39 (.t 38) 0 none), bK 40 .eql 39 2, mV 41 40, g1 41 false (.mv 42 (.t 0)), g1 41 false (.mv 43 (.t 1)), g1 41 false (.bin 44 .add (.t 43) (kI 3)), g1 41 false (.call (some 45) 64 [(.t 42), (.t 44), (.c (.str [116, 114, 117, 101]))]), pO 46 41 45, mV 47 46, g1 47 false (.mv 48 (.t 0)), g1 47 false (.mv 49 (.t 1)), g1 47 false (.bin 50 .add (.t 49) (kI 3)), g1 47 false (.call (some 51) 64 [(.t 48), (.t 50), (.c (.str [102, 97, 108, 115, 101]))]), pO 52 47 51])
  (.cond (.t 52) (.ops [mV 53 0, mV 54 1, bK 55 .add 54 3, cA 56 111 [(.t 53), (.t 55)], sT 7 56 8 7])
  (.ops [mV 57 1, bK 58 .add 57 3, cA 59 67 [(.t 58)], sT 7 59 8 7])))))
  (.seq (.seq (.ops [fA 60 7 7, lA 61 60 7, bK 62 .neq 61 0])
  (.cond (.t 62) (.seq (.ops [g0 (.load 63 (.t 7) (some 8) (some 7) false), sT 4 63 8 4])
  (.ret))
  (.skip)))
  (.seq (.seq (.ops [mV 64 0, fA 65 7 6, lA 66 65 7, g0 (.call (some 67) 69 [(.t 64), (.t 66), (.c (.str [59]))]), g0 (.un 68 .not (.t 67))])
  (.cond (.t 68) (.seq (.ops [fA 69 7 6, lA 70 69 7, cA 71 67 [(.t 70)], sT 4 71 8 4])
  (.ret))
  (.skip)))
  (.seq (.ops [mV 72 0, mV 73 1, fA 74 7 6, lA 75 74 7, bK 76 .add 75 1, mV 77 5, mV 78 0, mV 79 1, bK 80 .add 79 1, g0 (.idxA 81 (.t 78) (.t 80) 5 (some 5) none), fA 82 81 2, lO 83 82, g0 (.fldA 84 (.t 7) 0 (some 6)), lF 85 84 7, g0 (.bsl 86 6 true [(.t 85)]), cA 87 71 [(.t 72), (.t 73), (.t 76), (.t 77), (kI 0), (.t 83), (.t 86)], sT 4 87 8 4])
  (.ret)))))))))),
  [.cell 4 (some 8) (some 4)]⟩
/-- notary/notaryref09.Fn -/
def F66 : IFunc := ⟨.pure, .seq (.ops [g0 (.boxL 8 8 none [(.int .i64 0), (.int .i64 0), (.str []), .nils, (.int .i64 0), (.int .i64 0), (.int .i64 0), (.int .i64 0)])])
  (.seq (.seq (.ops [mV 12 0, mV 13 2, g0 (.call (some 14) 64 [(.t 12), (.t 13), (.c (.str [102, 110]))]), g0 (.un 15 .not (.t 14))])
  (.cond (.t 15) (.seq (.ops [mV 16 2, cA 17 67 [(.t 16)], sT 8 17 8 8])
  (.ret))
  (.skip)))
  (.seq (.seq (.ops [mV 18 0, mV 19 2, bK 20 .add 19 1, cA 21 68 [(.t 18), (.t 20)], g0 (.fld 22 (.t 21) 0 none), bK 23 .neq 22 1])
  (.cond (.t 23) (.seq (.ops [mV 24 2, bK 25 .add 24 1, cA 26 67 [(.t 25)], sT 8 26 8 8])
  (.ret))
  (.skip)))
  (.seq (.ops [mV 27 0, mV 28 2, bK 29 .add 28 2, cA 30 112 [(.t 27), (.t 29)], g0 (.boxL 9 8 none [(.int .i64 0), (.int .i64 0), (.str []), .nils, (.int .i64 0), (.int .i64 0), (.int .i64 0), (.int .i64 0)]), sT 9 30 8 9])
  (.seq (.seq (.ops [fA 31 9 7, lA 32 31 9, bK 33 .neq 32 0])
  (.cond (.t 33) (.seq (.ops [g0 (.load 34 (.t 9) (some 8) (some 9) false), sT 8 34 8 8])
  (.ret))
  (.skip)))
  (.seq (.seq (.ops [mV 35 0, fA 36 9 6, lA 37 36 9, g0 (.call (some 38) 69 [(.t 35), (.t 37), (.c (.str [58]))]), g0 (.un 39 .not (.t 38))])
  (.cond (.t 39) (.seq (.ops [fA 40 9 6, lA 41 40 9, cA 42 67 [(.t 41)], sT 8 42 8 8])
  (.ret))
  (.skip)))
  (.seq (.ops [mV 43 0, fA 44 9 6, lA 45 44 9, bK 46 .add 45 1, cA 47 110 [(.t 43), (.t 46)], g0 (.boxL 10 8 none [(.int .i64 0), (.int .i64 0), (.str []), .nils, (.int .i64 0), (.int .i64 0), (.int .i64 0), (.int .i64 0)]), sT 10 47 8 10])
  (.seq (.seq (.ops [fA 48 10 7, lA 49 48 10, bK 50 .neq 49 0])
  (.cond (.t 50) (.seq (.ops [g0 (.load 51 (.t 10) (some 8) (some 10) false), sT 8 51 8 8])
  (.ret))
  (.skip)))
  (.seq (.ops [mV 52 0, fA 53 10 6, lA 54 53 10, cA 55 113 [(.t 52), (.t 54)], g0 (.boxL 11 8 none [(.int .i64 0), (.int .i64 0), (.str []), .nils, (.int .i64 0), (.int .i64 0), (.int .i64 0), (.int .i64 0)]), sT 11 55 8 11])
  (.seq (.seq (.ops [fA 56 11 7, lA 57 56 11, bK 58 .neq 57 0])
  (.cond (.t 58) (.seq (.ops [g0 (.load 59 (.t 11) (some 8) (some 11) false), sT 8 59 8 8])
  (.ret))
  (.skip)))
  (.seq (.ops [mV 60 0, mV 61 1, fA 62 11 6, lA 63 62 11, mV 64 3, mV 65 0, mV 66 2, bK 67 .add 66 1, g0 (.idxA 68 (.t 65) (.t 67) 5 (some 5) none), fA 69 68 2, lO 70 69, g0 (.fldA 71 (.t 9) 0 (some 6)), lF 72 71 9, g0 (.fldA 73 (.t 10) 0 (some 6)), lF 74 73 10, g0 (.fldA 75 (.t 11) 0 (some 6)), lF 76 75 11, g0 (.bsl 77 6 true [(.t 72), (.t 74), (.t 76)]), cA 78 71 [(.t 60), (.t 61), (.t 63), (kI 33), (.t 64), (.t 70), (.t 77)], sT 8 78 8 8])
  (.ret))))))))))),
  [.cell 8 (some 8) (some 8)]⟩
/-- notary/notaryref07.Bad -/
def F67 : IFunc := ⟨.pure, .seq (.ops [g0 (.boxL 2 8 none [(.int .i64 0), (.int .i64 0), (.str []), .nils, (.int .i64 0), (.int .i64 0), (.int .i64 0), (.int .i64 0)])])
  (.seq (.ops [mV 3 0, g0 (.build 4 [(.int .i64 0), (.int .i64 0), (.str []), .nils, (.int .i64 0), (.int .i64 0), (.int .i64 0), (.int .i64 0)] [(6, 1, (.t 3)), (7, 1, (kI 6))]), sT 2 4 8 2])
  (.ret)),
  [.cell 2 (some 8) (some 2)]⟩
/-- notary/notaryref07.Now -/
def F68 : IFunc := ⟨.pure, .seq (.ops [g0 (.boxL 4 5 none [(.int .i64 0), (.int .i64 0), (.str []), (.int .i64 0), (.int .i64 0)])])
  (.seq (.seq (.ops [mV 5 1, mV 6 0, lN 7 6, bT 8 .lss 5 7])
  (.cond (.t 8) (.seq (.ops [mV 9 0, mV 10 1, g0 (.idxA 11 (.t 9) (.t 10) 5 (some 5) none), g0 (.load 12 (.t 11) (some 5) none false), sT 4 12 5 4])
  (.ret))
  (.skip)))
  (.seq (.ops [g0 (.build 13 [(.int .i64 0), (.int .i64 0), (.str []), (.int .i64 0), (.int .i64 0)] [(0, 1, (kI 5))]), sT 4 13 5 4])
  (.ret))),
  [.cell 4 (some 5) (some 4)]⟩
/-- notary/notaryref07.Sign -/
def F69 : IFunc := ⟨.pure, .seq (.ops [g0 (.mv 6 (.c (.bool false)))])
  (.seq (.ops [mV 7 0, mV 8 1, cA 9 68 [(.t 7), (.t 8)], g0 (.fld 10 (.t 9) 0 none), bK 11 .eql 10 4, mV 12 11, g1 12 true (.mv 13 (.t 0)), g1 12 true (.mv 14 (.t 1)), g1 12 true (.call (some 15) 68 [(.t 13), (.t 14)]), g1 12 true (.fld 16 (.t 15) 2 none), g1 12 true (.mv 17 (.t 2)), g1 12 true (.bin 18 .eql (.t 16) (.t 17)), pA 19 12 18, mV 6 19])
  (.ret)),
  [.t 6]⟩
def L70_0 : Ic := .seq (.seq (.ops [mV 10 7, lN 11 10, bK 12 .eql 11 0, mV 13 12, g1 13 false (.mv 14 (.t 0)), g1 13 false (.mv 15 (.t 1)), g1 13 false (.call (some 16) 69 [(.t 14), (.t 15), (.c (.str [125]))]), g1 13 false (.un 17 .not (.t 16)), pO 18 13 17])
  (.cond (.t 18) (.skip)
  (.exit 0)))
  (.block 1 (.seq (.ops [mV 19 0, mV 20 1, cA 21 114 [(.t 19), (.t 20)], g0 (.boxL 8 8 none [(.int .i64 0), (.int .i64 0), (.str []), .nils, (.int .i64 0), (.int .i64 0), (.int .i64 0), (.int .i64 0)]), sT 8 21 8 8])
  (.seq (.seq (.ops [fA 22 8 7, lA 23 22 8, bK 24 .neq 23 0])
  (.cond (.t 24) (.seq (.ops [mV 25 7, fA 26 8 6, lA 27 26 8, fA 28 8 7, lA 29 28 8, mV 4 25, mV 5 27, mV 6 29])
  (.ret))
  (.skip)))
  (.seq (.seq (.ops [mV 30 0, fA 31 8 6, lA 32 31 8, g0 (.call (some 33) 69 [(.t 30), (.t 32), (.c (.str [59]))]), g0 (.un 34 .not (.t 33))])
  (.cond (.t 34) (.seq (.ops [mV 35 7, fA 36 8 6, lA 37 36 8, mV 4 35, mV 5 37, mK 6 6])
  (.ret))
  (.skip)))
  (.seq (.ops [mV 38 7, g0 (.fldA 39 (.t 8) 0 (some 6)), lF 40 39 8, g0 (.bsl 41 6 true [(.t 40)]), g0 (.app 42 (.t 38) (.t 41) 6), mV 7 42])
  (.ops [fA 43 8 6, lA 44 43 8, bK 45 .add 44 1, mV 1 45]))))))
/-- notary/notaryref09.Fields -/
def F70 : IFunc := ⟨.pure, .seq (.ops [g0 (.mv 4 (.c .nils)), mK 5 0, mK 6 0])
  (.seq (.ops [g0 (.bsl 9 6 true []), mV 7 9])
  (.seq (.block 0 (.loop L70_0))
  (.seq (.ops [mV 46 7, mV 47 1, bK 48 .add 47 1, mV 4 46, mV 5 48, mK 6 0])
  (.ret)))),
  [.t 4, .t 5, .t 6]⟩
/-- notary/notaryref07.Make -/
def F71 : IFunc := ⟨.pure, .seq (.ops [g0 (.boxL 14 8 none [(.int .i64 0), (.int .i64 0), (.str []), .nils, (.int .i64 0), (.int .i64 0), (.int .i64 0), (.int .i64 0)])])
  (.seq (.ops [mV 15 3, mV 16 4, mV 17 5, mV 18 6, mV 19 0, mV 20 1, g0 (.idxA 21 (.t 19) (.t 20) 5 (some 5) none), fA 22 21 3, lO 23 22, mV 24 0, mV 25 2, bK 26 .sub 25 1, g0 (.idxA 27 (.t 24) (.t 26) 5 (some 5) none), fA 28 27 4, lO 29 28, g0 (.build 30 zT [(0, 1, (.t 15)), (1, 1, (.t 16)), (2, 1, (.t 17)), (3, 1, (.t 18)), (4, 1, (.t 23)), (5, 1, (.t 29))]), mV 31 2, g0 (.build 32 [(.int .i64 0), (.int .i64 0), (.str []), .nils, (.int .i64 0), (.int .i64 0), (.int .i64 0), (.int .i64 0)] [(0, 6, (.t 30)), (6, 1, (.t 31))]), sT 14 32 8 14])
  (.ret)),
  [.cell 14 (some 8) (some 14)]⟩
/-- (*notary/scope.scope).named -/
def F72 : IFunc := ⟨.fre, .seq (.ops [g0 (.boxI 3 none (.t 0)), g0 (.boxI 5 none (.t 2)), g0 (.mv 6 (.c .nils))])
  (.seq (.ops [g0 (.mkmap 8), g0 (.boxH 7 none (.c .nilm)), g0 (.store (.t 7) (.t 8) 1 none)])
  (.seq (.ops [lO 9 3, mV 10 1, g0 (.mkfn 11 115 [] [(.t 7), (.t 3), (.t 5)]), cA 12 37 [(.t 9), (.t 10), (.t 11)], mV 6 12])
  (.ret))),
  [.t 6]⟩
/-- (*notary/scope.scope).term -/
def F73 : IFunc := ⟨.fre, .seq (.ops [bF 3 1, bZ 4])
  (.seq (.seq (.ops [mV 7 0, nC 8 7, fA 9 8 9, lO 10 9, bK 11 .neq 10 0])
  (.cond (.t 11) (.seq (.ops [g0 (.build 12 zT []), sT 4 12 6 4])
  (.ret))
  (.skip)))
  (.seq (.ops [mK 5 0])
  (.seq (.seq (.ops [fA 13 3 0, lA 14 13 3])
  (.block 0 (.seq (.ops [bK 16 .eql 14 19, mV 15 16])
  (.cond (.t 15) (.seq (.ops [mV 17 0, lF 18 3 3, cA 19 117 [(.t 17), (.t 18)], sT 4 19 6 4])
  (.ret))
  (.seq (.ops [bK 21 .eql 14 16, mV 20 21])
  (.cond (.t 20) (.ops [mV 23 0, lF 24 3 3, g0 (.bsl 25 1 false [(kI 33)]), cA 26 118 [(.t 23), (.t 24), (.t 25)], mV 22 26, eX 27 22 0, eX 28 22 1, mV 5 27])
  (.seq (.seq (.ops [bK 30 .eql 14 15, mV 29 30])
  (.cond (.t 29) (.skip)
  (.ops [bK 31 .eql 14 4, mV 29 31])))
  (.cond (.t 29) (.ops [mV 33 0, lF 34 3 3, g0 (.bsl 35 1 false [(kI 30)]), cA 36 118 [(.t 33), (.t 34), (.t 35)], mV 32 36, eX 37 32 0, eX 38 32 1, mV 5 37])
  (.skip)))))))))
  (.seq (.ops [lF 39 3 3, bZ 6, sT 6 39 6 6])
  (.seq (.seq (.ops [fA 40 3 0, lA 41 40 3, bK 42 .eql 41 16, mV 43 42, g1 43 false (.fldA 44 (.t 3) 0 none), g1 43 false (.load 45 (.t 44) none (some 3) false), g1 43 false (.bin 46 .eql (.t 45) (kI 15)), pO 47 43 46, mV 48 47, g1 48 false (.fldA 49 (.t 3) 0 none), g1 48 false (.load 50 (.t 49) none (some 3) false), g1 48 false (.bin 51 .eql (.t 50) (kI 4)), pO 52 48 51])
  (.cond (.t 52) (.ops [mV 53 5, fA 54 6 1, sT 54 53 1 6])
  (.skip)))
  (.seq (.seq (.ops [fA 55 3 0, lA 56 55 3, bK 57 .neq 56 13, mV 58 57, g1 58 true (.fldA 59 (.t 3) 0 none), g1 58 true (.load 60 (.t 59) none (some 3) false), g1 58 true (.bin 61 .neq (.t 60) (kI 17)), pA 62 58 61])
  (.cond (.t 62) (.ops [fA 63 6 2, g0 (.store (.t 63) (.c (.str [])) 1 (some 6))])
  (.skip)))
  (.seq (.ops [mV 64 0, fA 65 3 3, lA 66 65 3, mV 67 0, g0 (.mkfn 68 73 [(.t 67)] []), cA 69 37 [(.t 64), (.t 66), (.t 68)], fA 70 6 3, sT 70 69 1 6])
  (.seq (.ops [lF 71 6 6, sT 4 71 6 4])
  (.ret))))))))),
  [.cell 4 (some 6) (some 4)]⟩
/-- (*notary/scope.scope).block -/
def F74 : IFunc := ⟨.fre, .seq (.ops [bF 3 1, bZ 4])
  (.seq (.ops [mV 6 0, nC 7 6, fA 8 7 7, lO 9 8, lN 10 9, mV 5 10])
  (.seq (.ops [fA 11 3 2, g0 (.store (.t 11) (.c (.str [])) 1 (some 3))])
  (.seq (.ops [mV 12 0, fA 13 3 3, lA 14 13 3, mV 15 0, g0 (.mkfn 16 119 [(.t 15)] []), cA 17 37 [(.t 12), (.t 14), (.t 16)], fA 18 3 3, sT 18 17 1 3])
  (.seq (.ops [mV 19 0, mV 20 0, nC 21 20, fA 22 21 7, lO 23 22, mV 24 5, g0 (.slc 25 (some 1) (.t 23) none (some (.t 24)) none), nC 26 19, fA 27 26 7, g0 (.store (.t 27) (.t 25) 1 none)])
  (.seq (.ops [lF 28 3 3, sT 4 28 6 4])
  (.ret)))))),
  [.cell 4 (some 6) (some 4)]⟩
def L75_1 : Ic := .seq (.seq (.ops [mV 20 11, mV 21 10, bT 22 .lss 20 21])
  (.cond (.t 22) (.skip)
  (.exit 2)))
  (.seq (.block 3 (.seq (.ops [mV 25 1, mV 26 11, iX 27 25 26, fA 28 27 2, lO 29 28, mV 30 1, mV 31 10, iX 32 30 31, fA 33 32 2, lO 34 33, bT 35 .eql 29 34])
  (.cond (.t 35) (.seq (.ops [mV 36 9, mV 37 1, mV 38 10, iX 39 37 38, fA 40 39 4, lO 41 40, mV 6 36, mV 7 41, mK 8 9])
  (.ret))
  (.skip))))
  (.ops [mV 23 11, bK 24 .add 23 1, mV 11 24]))
def L75_0 : Ic := .seq (.seq (.ops [mV 14 10, mV 15 1, lN 16 15, bT 17 .lss 14 16])
  (.cond (.t 17) (.skip)
  (.exit 0)))
  (.seq (.block 1 (.seq (.seq (.ops [mK 11 0])
  (.block 2 (.loop L75_1)))
  (.seq (.ops [lF 42 3 3, g0 (.bsl 43 1 false []), mV 44 1, mV 45 10, iX 46 44 45, lP 47 46, cA 48 76 [(.t 42), (.t 43), (.t 47)], g0 (.boxL 12 8 none [(.int .i64 0), (.int .i64 0), (.str []), .nils, (.int .i64 0), (.int .i64 0), (.int .i64 0), (.int .i64 0)]), sT 12 48 8 12])
  (.seq (.seq (.ops [fA 49 12 7, lA 50 49 12, bK 51 .neq 50 0])
  (.cond (.t 51) (.seq (.ops [mV 52 9, fA 53 12 6, lA 54 53 12, fA 55 12 7, lA 56 55 12, mV 6 52, mV 7 54, mV 8 56])
  (.ret))
  (.skip)))
  (.seq (.seq (.ops [mV 57 2])
  (.cond (.t 57) (.ops [mV 58 1, mV 59 10, iX 60 58 59, fA 61 60 2, lO 62 61, g0 (.fldA 63 (.t 12) 0 (some 6)), fA 64 63 2, sT 64 62 1 12])
  (.skip)))
  (.ops [mV 65 9, g0 (.fldA 66 (.t 12) 0 (some 6)), lF 67 66 12, g0 (.bsl 68 6 true [(.t 67)]), g0 (.app 69 (.t 65) (.t 68) 6), mV 9 69]))))))
  (.ops [mV 18 10, bK 19 .add 18 1, mV 10 19]))
/-- notary/notaryref13.Parts -/
def F75 : IFunc := ⟨.pure, .seq (.ops [bF 3 0, g0 (.mv 6 (.c .nils)), mK 7 0, mK 8 0])
  (.seq (.ops [g0 (.bsl 13 6 true []), mV 9 13])
  (.seq (.seq (.ops [mK 10 0])
  (.block 0 (.loop L75_0)))
  (.seq (.ops [mV 70 9, mV 6 70, mK 7 0, mK 8 0])
  (.ret)))),
  [.t 6, .t 7, .t 8]⟩
def L76_0 : Ic := .seq (.seq (.ops [mV 87 9, fA 88 5 3, lA 89 88 5, lN 90 89, bT 91 .lss 87 90])
  (.cond (.t 91) (.skip)
  (.exit 0)))
  (.seq (.block 1 (.seq (.seq (.ops [fA 94 5 0, lA 95 94 5, bK 96 .eql 95 25, mV 97 96, g1 97 true (.mv 98 (.t 9)), g1 97 true (.bin 99 .eql (.t 98) (kI 2)), pA 100 97 99])
  (.cond (.t 100) (.ops [g0 (.bsl 101 1 false []), mV 102 1, g0 (.app 103 (.t 101) (.t 102) 1), fA 104 5 2, lA 105 104 5, g0 (.bsl 106 1 false [(.t 105)]), g0 (.app 107 (.t 103) (.t 106) 1), mV 8 107])
  (.skip)))
  (.seq (.ops [lF 108 3 3, mV 109 8, fA 110 5 3, lA 111 110 5, mV 112 9, iX 113 111 112, lP 114 113, cA 115 76 [(.t 108), (.t 109), (.t 114)], g0 (.boxL 10 8 none [(.int .i64 0), (.int .i64 0), (.str []), .nils, (.int .i64 0), (.int .i64 0), (.int .i64 0), (.int .i64 0)]), sT 10 115 8 10])
  (.seq (.seq (.ops [fA 116 10 7, lA 117 116 10, bK 118 .neq 117 0])
  (.cond (.t 118) (.seq (.ops [g0 (.load 119 (.t 10) (some 8) (some 10) false), sT 6 119 8 6])
  (.ret))
  (.skip)))
  (.seq (.ops [fA 120 7 3, lA 121 120 7, g0 (.fldA 122 (.t 10) 0 (some 6)), lF 123 122 10, g0 (.bsl 124 6 true [(.t 123)]), g0 (.app 125 (.t 121) (.t 124) 6), fA 126 7 3, sT 126 125 1 7])
  (.seq (.ops [fA 127 5 0, lA 128 127 5, bK 129 .eql 128 29])
  (.cond (.t 129) (.ops [mV 130 8, fA 131 5 3, lA 132 131 5, mV 133 9, iX 134 132 133, lP 135 134, cA 136 123 [(.t 130), (.t 135)], mV 8 136])
  (.skip))))))))
  (.ops [mV 92 9, bK 93 .add 92 1, mV 9 93]))
/-- notary/notaryref13.Any -/
def F76 : IFunc := ⟨.pure, .seq (.ops [bF 3 0, bF 5 2, g0 (.boxL 6 8 none [(.int .i64 0), (.int .i64 0), (.str []), .nils, (.int .i64 0), (.int .i64 0), (.int .i64 0), (.int .i64 0)])])
  (.seq (.seq (.ops [fA 11 5 0, lA 12 11 5, bK 13 .eql 12 19])
  (.cond (.t 13) (.seq (.ops [lF 14 3 3, mV 15 1, lF 16 5 5, cA 17 120 [(.t 14), (.t 15), (.t 16)], sT 6 17 8 6])
  (.ret))
  (.skip)))
  (.seq (.ops [fA 18 5 0, lA 19 18 5, fA 20 5 1, lA 21 20 5, g0 (.bsl 22 6 true []), fA 23 5 4, lA 24 23 5, fA 25 5 5, lA 26 25 5, g0 (.build 27 zT [(0, 1, (.t 19)), (1, 1, (.t 21)), (3, 1, (.t 22)), (4, 1, (.t 24)), (5, 1, (.t 26))]), bZ 7, sT 7 27 6 7])
  (.seq (.seq (.ops [fA 28 5 0, lA 29 28 5, bK 30 .eql 29 13, mV 31 30, g1 31 false (.fldA 32 (.t 5) 0 none), g1 31 false (.load 33 (.t 32) none (some 5) false), g1 31 false (.bin 34 .eql (.t 33) (kI 17)), pO 35 31 34])
  (.cond (.t 35) (.ops [fA 36 5 2, lA 37 36 5, fA 38 7 2, sT 38 37 1 7])
  (.skip)))
  (.seq (.seq (.ops [fA 39 5 0, lA 40 39 5, bK 41 .eql 40 16, mV 42 41, g1 42 true (.load 43 (.t 3) (some 6) (some 3) false), g1 42 true (.fldA 44 (.t 5) 2 none), g1 42 true (.load 45 (.t 44) none (some 5) false), g1 42 true (.call (some 46) 121 [(.t 43), (.t 45)]), g1 42 true (.bin 47 .neq (.t 46) (kI 33)), pA 48 42 47, mV 49 48, g1 49 false (.fldA 50 (.t 5) 0 none), g1 49 false (.load 51 (.t 50) none (some 5) false), g1 49 false (.bin 52 .eql (.t 51) (kI 15)), g1 49 false (.mv 53 (.t 52)), g1 53 false (.fldA 54 (.t 5) 0 none), g1 53 false (.load 55 (.t 54) none (some 5) false), g1 53 false (.bin 56 .eql (.t 55) (kI 4)), g1 49 false (.pick 57 (.t 53) (.c (.bool true)) (.t 56)), g1 49 false (.mv 58 (.t 57)), g1 58 true (.load 59 (.t 3) (some 6) (some 3) false), g1 58 true (.fldA 60 (.t 5) 2 none), g1 58 true (.load 61 (.t 60) none (some 5) false), g1 58 true (.call (some 62) 121 [(.t 59), (.t 61)]), g1 58 true (.bin 63 .neq (.t 62) (kI 30)), g1 49 false (.pick 64 (.t 58) (.t 63) (.c (.bool false))), pO 65 49 64])
  (.cond (.t 65) (.seq (.ops [lF 66 5 5, cA 67 122 [(.t 66), (kI 8)], sT 6 67 8 6])
  (.ret))
  (.skip)))
  (.seq (.seq (.ops [fA 68 5 0, lA 69 68 5, bK 70 .eql 69 16, mV 71 70, g1 71 false (.fldA 72 (.t 5) 0 none), g1 71 false (.load 73 (.t 72) none (some 5) false), g1 71 false (.bin 74 .eql (.t 73) (kI 15)), pO 75 71 74, mV 76 75, g1 76 false (.fldA 77 (.t 5) 0 none), g1 76 false (.load 78 (.t 77) none (some 5) false), g1 76 false (.bin 79 .eql (.t 78) (kI 4)), pO 80 76 79])
  (.cond (.t 80) (.ops [lF 81 3 3, fA 82 5 2, lA 83 82 5, cA 84 39 [(.t 81), (.t 83)], fA 85 7 1, sT 85 84 1 7])
  (.skip)))
  (.seq (.ops [mV 86 1, mV 8 86])
  (.seq (.seq (.ops [mK 9 0])
  (.block 0 (.loop L76_0)))
  (.seq (.ops [lF 137 7 7, g0 (.build 138 [(.int .i64 0), (.int .i64 0), (.str []), .nils, (.int .i64 0), (.int .i64 0), (.int .i64 0), (.int .i64 0)] [(0, 6, (.t 137))]), sT 6 138 8 6])
  (.ret))))))))),
  [.cell 6 (some 8) (some 6)]⟩
/-- notary/notaryref05.Blank -/
def F77 : IFunc := ⟨.pure, .seq (.ops [g0 (.mv 2 (.c (.bool false)))])
  (.seq (.ops [mV 3 0, g0 (.bin 4 .eql (.t 3) (.c (.int .u8 32))), mV 5 4, g1 5 false (.mv 6 (.t 0)), g1 5 false (.bin 7 .eql (.t 6) (.c (.int .u8 9))), pO 8 5 7, mV 9 8, g1 9 false (.mv 10 (.t 0)), g1 9 false (.bin 11 .eql (.t 10) (.c (.int .u8 10))), pO 12 9 11, mV 13 12, g1 13 false (.mv 14 (.t 0)), g1 13 false (.bin 15 .eql (.t 14) (.c (.int .u8 13))), pO 16 13 15, mV 2 16])
  (.ret)),
  [.t 2]⟩
/-- notary/notaryref05.Begins -/
def F78 : IFunc := ⟨.pure, .seq (.ops [g0 (.mv 6 (.c (.bool false)))])
  (.seq (.ops [mV 7 2, g0 (.len 8 .str (.t 7) false), mV 9 0, g0 (.len 10 .str (.t 9) false), mV 11 1, bT 12 .sub 10 11, bT 13 .leq 8 12, mV 14 13, g1 14 true (.mv 15 (.t 0)), g1 14 true (.mv 16 (.t 1)), g1 14 true (.mv 17 (.t 1)), g1 14 true (.mv 18 (.t 2)), g1 14 true (.len 19 .str (.t 18) false), g1 14 true (.bin 20 .add (.t 17) (.t 19)), g1 14 true (.slc 21 none (.t 15) (some (.t 16)) (some (.t 20)) none), g1 14 true (.mv 22 (.t 2)), g1 14 true (.bin 23 .eql (.t 21) (.t 22)), pA 24 14 23, mV 6 24])
  (.ret)),
  [.t 6]⟩
/-- notary/notaryref05.Letter -/
def F79 : IFunc := ⟨.pure, .seq (.ops [g0 (.mv 2 (.c (.bool false)))])
  (.seq (.ops [mV 3 0, g0 (.bin 4 .leq (.c (.int .u8 97)) (.t 3)), mV 5 4, g1 5 true (.mv 6 (.t 0)), g1 5 true (.bin 7 .leq (.t 6) (.c (.int .u8 122))), pA 8 5 7, mV 9 8, g1 9 false (.mv 10 (.t 0)), g1 9 false (.bin 11 .leq (.c (.int .u8 65)) (.t 10)), g1 9 false (.mv 12 (.t 11)), g1 12 true (.mv 13 (.t 0)), g1 12 true (.bin 14 .leq (.t 13) (.c (.int .u8 90))), g1 9 false (.pick 15 (.t 12) (.t 14) (.c (.bool false))), pO 16 9 15, mV 17 16, g1 17 false (.mv 18 (.t 0)), g1 17 false (.bin 19 .eql (.t 18) (.c (.int .u8 95))), pO 20 17 19, mV 2 20])
  (.ret)),
  [.t 2]⟩
/-- notary/notaryref05.Digit -/
def F80 : IFunc := ⟨.pure, .seq (.ops [g0 (.mv 2 (.c (.bool false)))])
  (.seq (.ops [mV 3 0, g0 (.bin 4 .leq (.c (.int .u8 48)) (.t 3)), mV 5 4, g1 5 true (.mv 6 (.t 0)), g1 5 true (.bin 7 .leq (.t 6) (.c (.int .u8 57))), pA 8 5 7, mV 2 8])
  (.ret)),
  [.t 2]⟩
def L81_0 : Ic := .seq (.seq (.ops [mV 6 5, mV 7 1, lN 8 7, bT 9 .lss 6 8])
  (.cond (.t 9) (.skip)
  (.exit 0)))
  (.seq (.block 1 (.seq (.ops [mV 12 1, mV 13 5, g0 (.idxA 14 (.t 12) (.t 13) 1 none none), lO 15 14, mV 16 0, bT 17 .eql 15 16])
  (.cond (.t 17) (.seq (.ops [g0 (.mv 4 (.c (.bool true)))])
  (.ret))
  (.skip))))
  (.ops [mV 10 5, bK 11 .add 10 1, mV 5 11]))
/-- notary/notaryref05.Among -/
def F81 : IFunc := ⟨.pure, .seq (.ops [g0 (.mv 4 (.c (.bool false)))])
  (.seq (.seq (.ops [mK 5 0])
  (.block 0 (.loop L81_0)))
  (.seq (.ops [g0 (.mv 4 (.c (.bool false)))])
  (.ret))),
  [.t 4]⟩
/-- notary/notaryref05.Words -/
def F82 : IFunc := ⟨.pure, .seq (.ops [g0 (.mv 0 (.c .nils))])
  (.seq (.ops [g0 (.bsl 1 1 false [(.c (.str [114, 101, 99])), (.c (.str [99, 111, 110, 115, 116])), (.c (.str [118, 97, 114])), (.c (.str [112, 117, 98])), (.c (.str [102, 110])), (.c (.str [105, 110, 116])), (.c (.str [98, 111, 111, 108])), (.c (.str [108, 101, 116])), (.c (.str [105, 102])), (.c (.str [101, 108, 115, 101])), (.c (.str [119, 104, 105, 108, 101])), (.c (.str [102, 111, 114])), (.c (.str [116, 111])), (.c (.str [112, 114, 105, 110, 116])), (.c (.str [114, 101, 116, 117, 114, 110])), (.c (.str [100, 111])), (.c (.str [116, 114, 117, 101])), (.c (.str [102, 97, 108, 115, 101])), (.c (.str [114, 101, 97, 100])), (.c (.str [110, 101, 119]))]), mV 0 1])
  (.ret)),
  [.t 0]⟩
def L83_0 : Ic := .seq (.seq (.ops [mV 20 5, mV 21 0, g0 (.len 22 .str (.t 21) false), bT 23 .lss 20 22])
  (.cond (.t 23) (.skip)
  (.exit 0)))
  (.seq (.block 1 (.seq (.ops [mV 26 0, mV 27 5, g0 (.idx 28 (.t 26) (.t 27) none 1 none), g0 (.bin 29 .sub (.t 28) (.c (.int .u8 48))), g0 (.conv 30 (.int .i64) (.t 29)), mV 6 30])
  (.seq (.seq (.ops [mV 31 4, mV 32 6, g0 (.bin 33 .sub (kI 9223372036854775807) (.t 32)), bK 34 .quo 33 10, bT 35 .gtr 31 34])
  (.cond (.t 35) (.seq (.ops [mK 2 0, g0 (.mv 3 (.c (.bool false)))])
  (.ret))
  (.skip)))
  (.ops [mV 36 4, bK 37 .mul 36 10, mV 38 6, bT 39 .add 37 38, mV 4 39]))))
  (.ops [mV 24 5, bK 25 .add 24 1, mV 5 25]))
/-- notary/notaryref05.Number -/
def F83 : IFunc := ⟨.pure, .seq (.ops [mK 2 0, g0 (.mv 3 (.c (.bool false)))])
  (.seq (.seq (.ops [mV 7 0, g0 (.len 8 .str (.t 7) false), bK 9 .eql 8 0, mV 10 9, g1 10 false (.mv 11 (.t 0)), g1 10 false (.len 12 .str (.t 11) false), g1 10 false (.bin 13 .gtr (.t 12) (kI 1)), g1 10 false (.mv 14 (.t 13)), g1 14 true (.mv 15 (.t 0)), g1 14 true (.idx 16 (.t 15) (kI 0) none 1 none), g1 14 true (.bin 17 .eql (.t 16) (.c (.int .u8 48))), g1 10 false (.pick 18 (.t 14) (.t 17) (.c (.bool false))), pO 19 10 18])
  (.cond (.t 19) (.seq (.ops [mK 2 0, g0 (.mv 3 (.c (.bool false)))])
  (.ret))
  (.skip)))
  (.seq (.ops [mK 4 0])
  (.seq (.seq (.ops [mK 5 0])
  (.block 0 (.loop L83_0)))
  (.seq (.ops [mV 40 4, mV 2 40, g0 (.mv 3 (.c (.bool true)))])
  (.ret))))),
  [.t 2, .t 3]⟩
/-- notary/notaryref05.Signs -/
def F84 : IFunc := ⟨.pure, .seq (.ops [g0 (.mv 0 (.c .nils))])
  (.seq (.ops [g0 (.bsl 1 1 false [(.c (.str [61, 61])), (.c (.str [33, 61])), (.c (.str [60, 61])), (.c (.str [62, 61])), (.c (.str [38, 38])), (.c (.str [124, 124])), (.c (.str [123])), (.c (.str [125])), (.c (.str [40])), (.c (.str [41])), (.c (.str [91])), (.c (.str [93])), (.c (.str [44])), (.c (.str [59])), (.c (.str [58])), (.c (.str [46])), (.c (.str [61])), (.c (.str [60])), (.c (.str [62])), (.c (.str [43])), (.c (.str [45])), (.c (.str [42])), (.c (.str [47])), (.c (.str [37])), (.c (.str [33])), (.c (.str [64]))]), mV 0 1])
  (.ret)),
  [.t 0]⟩
def L85_0 : Ic := .seq (.seq (.ops [mV 3 0, nC 4 3, fA 5 4 1, lO 6 5, mV 7 0, nC 8 7, fA 9 8 0, lO 10 9, g0 (.len 11 .str (.t 10) false), bT 12 .lss 6 11])
  (.cond (.t 12) (.skip)
  (.exit 0)))
  (.block 1 (.seq (.ops [mV 13 0, nC 14 13, fA 15 14 0, lO 16 15, mV 17 0, nC 18 17, fA 19 18 1, lO 20 19, g0 (.idx 21 (.t 16) (.t 20) none 1 none), mV 2 21])
  (.block 2 (.seq (.ops [mV 23 2, g0 (.bin 24 .eql (.t 23) (.c (.int .u8 32))), mV 25 24, g1 25 false (.mv 26 (.t 2)), g1 25 false (.bin 27 .eql (.t 26) (.c (.int .u8 9))), pO 28 25 27, mV 29 28, g1 29 false (.mv 30 (.t 2)), g1 29 false (.bin 31 .eql (.t 30) (.c (.int .u8 10))), pO 32 29 31, mV 33 32, g1 33 false (.mv 34 (.t 2)), g1 33 false (.bin 35 .eql (.t 34) (.c (.int .u8 13))), pO 36 33 35, mV 22 36])
  (.cond (.t 22) (.ops [mV 37 0, nC 38 37, fA 39 38 1, lO 40 39, bK 41 .add 40 1, nC 42 37, fA 43 42 1, g0 (.store (.t 43) (.t 41) 1 none)])
  (.seq (.ops [mV 45 2, g0 (.bin 46 .eql (.t 45) (.c (.int .u8 47))), mV 47 46, g1 47 true (.mv 48 (.t 0)), g1 47 true (.call (some 49) 124 [(.t 48), (kI 1)]), g1 47 true (.bin 50 .eql (.t 49) (.c (.int .u8 47))), pA 51 47 50, mV 44 51])
  (.cond (.t 44) (.ops [mV 52 0, mV 53 0, g0 (.mkfn 54 126 [(.t 53)] []), cA 55 125 [(.t 52), (.t 54)]])
  (.ret))))))))
/-- (*notary/lex.reader).skip -/
def F85 : IFunc := ⟨.raw, .block 0 (.loop L85_0),
  []⟩
/-- (*notary/lex.reader).one -/
def F86 : IFunc := ⟨.raw, .seq (.ops [mK 2 0])
  (.seq (.ops [mV 6 0, nC 7 6, fA 8 7 0, lO 9 8, mV 10 0, nC 11 10, fA 12 11 1, lO 13 12, g0 (.idx 14 (.t 9) (.t 13) none 1 none), mV 3 14])
  (.seq (.block 0 (.seq (.ops [mV 16 0, mV 17 3, cA 18 127 [(.t 16), (.t 17)], mV 15 18])
  (.cond (.t 15) (.seq (.ops [mV 19 0, cA 20 128 [(.t 19)], mV 2 20])
  (.ret))
  (.seq (.ops [mV 22 0, mV 23 3, cA 24 129 [(.t 22), (.t 23)], mV 21 24])
  (.cond (.t 21) (.seq (.ops [mV 25 0, cA 26 130 [(.t 25)], mV 2 26])
  (.ret))
  (.skip))))))
  (.seq (.ops [mV 27 3, mV 28 0, cA 29 124 [(.t 28), (kI 1)], cA 30 131 [(.t 27), (.t 29)], mV 4 30])
  (.seq (.seq (.ops [mV 31 4, bK 32 .eql 31 0])
  (.cond (.t 32) (.seq (.ops [mK 2 4])
  (.ret))
  (.skip)))
  (.seq (.ops [mV 33 0, nC 34 33, fA 35 34 1, lO 36 35, mV 5 36])
  (.seq (.ops [mV 37 0, nC 38 37, fA 39 38 1, lO 40 39, mV 41 4, bT 42 .add 40 41, nC 43 37, fA 44 43 1, g0 (.store (.t 44) (.t 42) 1 none)])
  (.seq (.ops [mV 45 0, mV 46 0, nC 47 46, fA 48 47 0, lO 49 48, mV 50 5, mV 51 0, nC 52 51, fA 53 52 1, lO 54 53, g0 (.slc 55 none (.t 49) (some (.t 50)) (some (.t 54)) none), mV 56 5, cA 57 87 [(.t 45), (kI 4), (kI 0), (.t 55), (.t 56)]])
  (.seq (.ops [mK 2 0])
  (.ret))))))))),
  [.t 2]⟩
/-- (*notary/lex.reader).put -/
def F87 : IFunc := ⟨.raw, .ops [mV 10 0, mV 11 0, nC 12 11, fA 13 12 2, lO 14 13, mV 15 1, mV 16 2, mV 17 3, mV 18 4, mV 19 0, nC 20 19, fA 21 20 1, lO 22 21, g0 (.build 23 [(.int .i64 0), (.int .i64 0), (.str []), (.int .i64 0), (.int .i64 0)] [(0, 1, (.t 15)), (1, 1, (.t 16)), (2, 1, (.t 17)), (3, 1, (.t 18)), (4, 1, (.t 22))]), g0 (.bsl 24 5 true [(.t 23)]), g0 (.app 25 (.t 14) (.t 24) 5), nC 26 10, fA 27 26 2, g0 (.store (.t 27) (.t 25) 1 none)],
  []⟩

theorem L4_0_w : L4_0.wr = [32, 33, 34, 35, 38, 39, 40, 41, 42, 43, 44, 6, 45, 46, 47, 48, 49, 50, 51, 52, 53, 54, 55, 56, 57, 58, 2, 59, 60, 6, 61, 62, 6, 36, 37, 7] := by kernel_rfl
theorem L4_0_p : L4_0.plain = true := by kernel_rfl
theorem L12_0_w : L12_0.wr = [24, 25, 26, 27, 28, 29, 30, 31, 10, 32, 33, 34, 35, 36, 37, 38, 39, 40, 41, 42, 43, 3, 4, 44, 45, 46, 47, 48, 8, 49, 50, 9] := by kernel_rfl
theorem L12_0_p : L12_0.plain = true := by kernel_rfl
theorem L13_0_w : L13_0.wr = [19, 20, 21, 22, 7, 6, 24, 25, 26, 27, 28, 29, 30, 23, 31, 32, 8, 9, 33, 34, 35, 36, 3, 4, 37, 38, 39, 40, 41, 42, 43, 44, 18] := by kernel_rfl
theorem L13_0_p : L13_0.plain = true := by kernel_rfl
theorem L14_1_w : L14_1.wr = [43, 44, 45, 46, 47, 50, 51, 52, 53, 54, 55, 56, 8, 57, 58, 59, 60, 61, 62, 63, 64, 3, 4, 65, 66, 67, 68, 69, 70, 71, 48, 49, 7] := by kernel_rfl
theorem L14_1_p : L14_1.plain = true := by kernel_rfl
theorem L14_0_w : L14_0.wr = [9, 10, 11, 12, 13, 16, 17, 18, 19, 20, 21, 22, 23, 24, 25, 26, 27, 28, 29, 30, 31, 32, 3, 4, 14, 15, 5] := by kernel_rfl
theorem L14_0_p : L14_0.plain = true := by kernel_rfl
theorem L15_0_w : L15_0.wr = [48, 49, 50, 51, 52, 55, 56, 57, 58, 59, 60, 61, 62, 63, 64, 65, 66, 4, 53, 54, 5] := by kernel_rfl
theorem L15_0_p : L15_0.plain = true := by kernel_rfl
theorem L16_0_w : L16_0.wr = [16, 17, 18, 19, 21, 22, 23, 20, 24, 25, 7, 8, 26, 27, 28, 29, 30, 2, 3, 4, 31, 32, 33, 34, 5, 35, 36, 37, 38, 6] := by kernel_rfl
theorem L16_0_p : L16_0.plain = true := by kernel_rfl
theorem L18_0_w : L18_0.wr = [34, 35, 36, 37, 38, 41, 42, 43, 44, 45, 46, 47, 48, 49, 50, 51, 52, 4, 39, 40, 5] := by kernel_rfl
theorem L18_0_p : L18_0.plain = true := by kernel_rfl
theorem L19_0_w : L19_0.wr = [10, 11, 12, 13, 14, 17, 18, 19, 20, 21, 22, 23, 24, 25, 26, 27, 15, 16, 4] := by kernel_rfl
theorem L19_0_p : L19_0.plain = true := by kernel_rfl
theorem L20_0_w : L20_0.wr = [62, 63, 64, 65, 66, 69, 70, 71, 72, 73, 74, 75, 76, 77, 78, 79, 80, 4, 67, 68, 5] := by kernel_rfl
theorem L20_0_p : L20_0.plain = true := by kernel_rfl
theorem L36_0_w : L36_0.wr = [6, 7, 8, 9, 10, 13, 14, 15, 16, 17, 18, 5, 19, 20, 21, 22, 3, 11, 12, 4] := by kernel_rfl
theorem L36_0_p : L36_0.plain = true := by kernel_rfl
theorem L37_0_w : L37_0.wr = [13, 14, 15, 9, 16, 17, 18, 19, 20, 6, 21, 22, 23, 24, 25, 26, 7, 27, 12] := by kernel_rfl
theorem L37_0_p : L37_0.plain = true := by kernel_rfl
theorem L38_0_w : L38_0.wr = [51, 52, 53, 8, 54, 55, 56, 57, 58, 59, 60, 61, 62, 63, 64, 65, 50] := by kernel_rfl
theorem L38_0_p : L38_0.plain = true := by kernel_rfl
theorem L39_0_w : L39_0.wr = [6, 7, 8, 9, 10, 13, 14, 15, 16, 17, 18, 19, 20, 21, 4, 11, 12, 5] := by kernel_rfl
theorem L39_0_p : L39_0.plain = true := by kernel_rfl
theorem L40_0_w : L40_0.wr = [95, 96, 97, 98, 99, 100, 101, 102, 105, 106, 107, 108, 109, 110, 111, 112, 113, 114, 115, 116, 13, 103, 104, 14] := by kernel_rfl
theorem L40_0_p : L40_0.plain = true := by kernel_rfl
theorem L41_1_w : L41_1.wr = [18, 19, 20, 21, 22, 23, 24, 25, 26, 27, 28, 29, 1] := by kernel_rfl
theorem L41_1_p : L41_1.plain = true := by kernel_rfl
theorem L41_0_w : L41_0.wr = [5, 6, 7, 8, 9, 10, 11, 12, 13, 14, 1, 15, 16, 17, 18, 19, 20, 21, 22, 23, 24, 25, 26, 27, 28, 29, 1, 30, 4] := by kernel_rfl
theorem L41_0_p : L41_0.plain = true := by kernel_rfl
theorem L42_2_w : L42_2.wr = [87, 88, 89, 90, 93, 94, 95, 96, 97, 98, 99, 100, 101, 102, 103, 104, 105, 106, 107, 108, 109, 110, 111, 112, 5, 91, 92, 12] := by kernel_rfl
theorem L42_2_p : L42_2.plain = true := by kernel_rfl
theorem L42_1_w : L42_1.wr = [59, 60, 61, 62, 63, 64, 65, 66, 67, 68, 69, 70, 7] := by kernel_rfl
theorem L42_1_p : L42_1.plain = true := by kernel_rfl
theorem L42_0_w : L42_0.wr = [19, 20, 21, 22, 23, 24, 25, 26, 27, 28, 29, 30, 31, 32, 33, 34, 35, 36, 7] := by kernel_rfl
theorem L42_0_p : L42_0.plain = true := by kernel_rfl
theorem L44_0_w : L44_0.wr = [16, 17, 18, 19, 20, 21, 22, 25, 26, 27, 28, 6, 29, 30, 7, 31, 32, 33, 34, 2, 3, 4, 23, 24] := by kernel_rfl
theorem L44_0_p : L44_0.plain = true := by kernel_rfl
theorem L70_0_w : L70_0.wr = [10, 11, 12, 13, 14, 15, 16, 17, 18, 19, 20, 21, 8, 22, 23, 24, 25, 26, 27, 28, 29, 4, 5, 6, 30, 31, 32, 33, 34, 35, 36, 37, 4, 5, 6, 38, 39, 40, 41, 42, 7, 43, 44, 45, 1] := by kernel_rfl
theorem L70_0_p : L70_0.plain = true := by kernel_rfl
theorem L75_1_w : L75_1.wr = [20, 21, 22, 25, 26, 27, 28, 29, 30, 31, 32, 33, 34, 35, 36, 37, 38, 39, 40, 41, 6, 7, 8, 23, 24, 11] := by kernel_rfl
theorem L75_1_p : L75_1.plain = true := by kernel_rfl
theorem L75_0_w : L75_0.wr = [14, 15, 16, 17, 11, 20, 21, 22, 25, 26, 27, 28, 29, 30, 31, 32, 33, 34, 35, 36, 37, 38, 39, 40, 41, 6, 7, 8, 23, 24, 11, 42, 43, 44, 45, 46, 47, 48, 12, 49, 50, 51, 52, 53, 54, 55, 56, 6, 7, 8, 57, 58, 59, 60, 61, 62, 63, 64, 65, 66, 67, 68, 69, 9, 18, 19, 10] := by kernel_rfl
theorem L75_0_p : L75_0.plain = true := by kernel_rfl
theorem L76_0_w : L76_0.wr = [87, 88, 89, 90, 91, 94, 95, 96, 97, 98, 99, 100, 101, 102, 103, 104, 105, 106, 107, 8, 108, 109, 110, 111, 112, 113, 114, 115, 10, 116, 117, 118, 119, 120, 121, 122, 123, 124, 125, 126, 127, 128, 129, 130, 131, 132, 133, 134, 135, 136, 8, 92, 93, 9] := by kernel_rfl
theorem L76_0_p : L76_0.plain = true := by kernel_rfl
theorem L81_0_w : L81_0.wr = [6, 7, 8, 9, 12, 13, 14, 15, 16, 17, 4, 10, 11, 5] := by kernel_rfl
theorem L81_0_p : L81_0.plain = true := by kernel_rfl
theorem L83_0_w : L83_0.wr = [20, 21, 22, 23, 26, 27, 28, 29, 30, 6, 31, 32, 33, 34, 35, 2, 3, 36, 37, 38, 39, 4, 24, 25, 5] := by kernel_rfl
theorem L83_0_p : L83_0.plain = true := by kernel_rfl
theorem L85_0_w : L85_0.wr = [3, 4, 5, 6, 7, 8, 9, 10, 11, 12, 13, 14, 15, 16, 17, 18, 19, 20, 21, 2, 23, 24, 25, 26, 27, 28, 29, 30, 31, 32, 33, 34, 35, 36, 22, 37, 38, 39, 40, 41, 42, 43, 45, 46, 47, 48, 49, 50, 51, 44, 52, 53, 54, 55] := by kernel_rfl
theorem L85_0_p : L85_0.plain = true := by kernel_rfl

end Go.Nt.Lk

/-
  THE FUNCTIONS OF THE SEAT as the abstract machine reads them (printed by a program of ours), and that they are the program's ('ok': FuncOK, by the kernel).
  No condition.
-/
namespace Go.Nt.Lk
open Go Go.Nt

/-- notary/notaryref07.Type -/
def F110 : IFunc := ⟨.pure, .seq (.ops [g0 (.boxL 4 8 none [(.int .i64 0), (.int .i64 0), (.str []), .nils, (.int .i64 0), (.int .i64 0), (.int .i64 0), (.int .i64 0)])])
  (.seq (.seq (.ops [mV 6 0, mV 7 1, g0 (.call (some 8) 64 [(.t 6), (.t 7), (.c (.str [105, 110, 116]))])])
  (.cond (.t 8) (.seq (.ops [mV 9 0, mV 10 1, mV 11 1, bK 12 .add 11 1, g0 (.bsl 13 6 true []), g0 (.call (some 14) 71 [(.t 9), (.t 10), (.t 12), (kI 1), (kI 0), (.c (.str [])), (.t 13)]), sT 4 14 8 4])
  (.ret))
  (.skip)))
  (.seq (.seq (.ops [mV 15 0, mV 16 1, g0 (.call (some 17) 64 [(.t 15), (.t 16), (.c (.str [98, 111, 111, 108]))])])
  (.cond (.t 17) (.seq (.ops [mV 18 0, mV 19 1, mV 20 1, bK 21 .add 20 1, g0 (.bsl 22 6 true []), g0 (.call (some 23) 71 [(.t 18), (.t 19), (.t 21), (kI 2), (kI 0), (.c (.str [])), (.t 22)]), sT 4 23 8 4])
  (.ret))
  (.skip)))
  (.seq (.seq (.ops [mV 24 0, mV 25 1, cA 26 68 [(.t 24), (.t 25)], g0 (.fld 27 (.t 26) 0 none), bK 28 .eql 27 1])
  (.cond (.t 28) (.seq (.ops [mV 29 0, mV 30 1, mV 31 1, bK 32 .add 31 1, mV 33 0, mV 34 1, cA 35 68 [(.t 33), (.t 34)], g0 (.fld 36 (.t 35) 2 none), g0 (.bsl 37 6 true []), cA 38 71 [(.t 29), (.t 30), (.t 32), (kI 4), (kI 0), (.t 36), (.t 37)], sT 4 38 8 4])
  (.ret))
  (.skip)))
  (.seq (.seq (.ops [mV 39 0, mV 40 1, g0 (.call (some 41) 69 [(.t 39), (.t 40), (.c (.str [91]))]), g0 (.un 42 .not (.t 41))])
  (.cond (.t 42) (.seq (.ops [mV 43 1, cA 44 67 [(.t 43)], sT 4 44 8 4])
  (.ret))
  (.skip)))
  (.seq (.seq (.ops [mV 45 0, mV 46 1, bK 47 .add 46 1, cA 48 68 [(.t 45), (.t 47)], g0 (.fld 49 (.t 48) 0 none), bK 50 .neq 49 2])
  (.cond (.t 50) (.seq (.ops [mV 51 1, bK 52 .add 51 1, cA 53 67 [(.t 52)], sT 4 53 8 4])
  (.ret))
  (.skip)))
  (.seq (.seq (.ops [mV 54 0, mV 55 1, bK 56 .add 55 2, g0 (.call (some 57) 69 [(.t 54), (.t 56), (.c (.str [93]))]), g0 (.un 58 .not (.t 57))])
  (.cond (.t 58) (.seq (.ops [mV 59 1, bK 60 .add 59 2, cA 61 67 [(.t 60)], sT 4 61 8 4])
  (.ret))
  (.skip)))
  (.seq (.ops [mV 62 0, mV 63 1, bK 64 .add 63 3, cA 65 110 [(.t 62), (.t 64)], g0 (.boxL 5 8 none [(.int .i64 0), (.int .i64 0), (.str []), .nils, (.int .i64 0), (.int .i64 0), (.int .i64 0), (.int .i64 0)]), sT 5 65 8 5])
  (.seq (.seq (.ops [fA 66 5 7, lA 67 66 5, bK 68 .neq 67 0])
  (.cond (.t 68) (.seq (.ops [g0 (.load 69 (.t 5) (some 8) (some 5) false), sT 4 69 8 4])
  (.ret))
  (.skip)))
  (.seq (.ops [mV 70 0, mV 71 1, fA 72 5 6, lA 73 72 5, mV 74 0, mV 75 1, bK 76 .add 75 1, cA 77 68 [(.t 74), (.t 76)], g0 (.fld 78 (.t 77) 1 none), g0 (.fldA 79 (.t 5) 0 (some 6)), lF 80 79 5, g0 (.bsl 81 6 true [(.t 80)]), g0 (.call (some 82) 71 [(.t 70), (.t 71), (.t 73), (kI 3), (.t 78), (.c (.str [])), (.t 81)]), sT 4 82 8 4])
  (.ret)))))))))),
  [.cell 4 (some 8) (some 4)]⟩
/-- notary/notaryref07.Atom -/
def F111 : IFunc := ⟨.pure, .seq (.ops [g0 (.boxL 4 8 none [(.int .i64 0), (.int .i64 0), (.str []), .nils, (.int .i64 0), (.int .i64 0), (.int .i64 0), (.int .i64 0)])])
  (.seq (.ops [mV 7 0, mV 8 1, cA 9 68 [(.t 7), (.t 8)], g0 (.boxL 5 5 none [(.int .i64 0), (.int .i64 0), (.str []), (.int .i64 0), (.int .i64 0)]), sT 5 9 5 5])
  (.seq (.seq (.ops [fA 10 5 0, lA 11 10 5, bK 12 .eql 11 2])
  (.cond (.t 12) (.seq (.ops [mV 13 0, mV 14 1, mV 15 1, bK 16 .add 15 1, fA 17 5 1, lA 18 17 5, g0 (.bsl 19 6 true []), g0 (.call (some 20) 71 [(.t 13), (.t 14), (.t 16), (kI 5), (.t 18), (.c (.str [])), (.t 19)]), sT 4 20 8 4])
  (.ret))
  (.skip)))
  (.seq (.seq (.ops [mV 21 0, mV 22 1, g0 (.call (some 23) 64 [(.t 21), (.t 22), (.c (.str [116, 114, 117, 101]))])])
  (.cond (.t 23) (.seq (.ops [mV 24 0, mV 25 1, mV 26 1, bK 27 .add 26 1, g0 (.bsl 28 6 true []), g0 (.call (some 29) 71 [(.t 24), (.t 25), (.t 27), (kI 6), (kI 1), (.c (.str [])), (.t 28)]), sT 4 29 8 4])
  (.ret))
  (.skip)))
  (.seq (.seq (.ops [mV 30 0, mV 31 1, g0 (.call (some 32) 64 [(.t 30), (.t 31), (.c (.str [102, 97, 108, 115, 101]))])])
  (.cond (.t 32) (.seq (.ops [mV 33 0, mV 34 1, mV 35 1, bK 36 .add 35 1, g0 (.bsl 37 6 true []), g0 (.call (some 38) 71 [(.t 33), (.t 34), (.t 36), (kI 6), (kI 0), (.c (.str [])), (.t 37)]), sT 4 38 8 4])
  (.ret))
  (.skip)))
  (.seq (.seq (.ops [mV 39 0, mV 40 1, g0 (.call (some 41) 64 [(.t 39), (.t 40), (.c (.str [114, 101, 97, 100]))])])
  (.cond (.t 41) (.seq (.ops [mV 42 0, mV 43 1, mV 44 1, bK 45 .add 44 1, g0 (.bsl 46 6 true []), g0 (.call (some 47) 71 [(.t 42), (.t 43), (.t 45), (kI 18), (kI 0), (.c (.str [])), (.t 46)]), sT 4 47 8 4])
  (.ret))
  (.skip)))
  (.seq (.seq (.ops [fA 48 5 0, lA 49 48 5, bK 50 .eql 49 1, mV 51 50, g1 51 true (.mv 52 (.t 0)), g1 51 true (.mv 53 (.t 1)), g1 51 true (.bin 54 .add (.t 53) (kI 1)), g1 51 true (.call (some 55) 69 [(.t 52), (.t 54), (.c (.str [40]))]), g1 51 true (.un 56 .not (.t 55)), pA 57 51 56])
  (.cond (.t 57) (.seq (.ops [mV 58 0, mV 59 1, mV 60 1, bK 61 .add 60 1, fA 62 5 2, lA 63 62 5, g0 (.bsl 64 6 true []), cA 65 71 [(.t 58), (.t 59), (.t 61), (kI 19), (kI 0), (.t 63), (.t 64)], sT 4 65 8 4])
  (.ret))
  (.skip)))
  (.seq (.seq (.ops [mV 66 0, mV 67 1, g0 (.call (some 68) 69 [(.t 66), (.t 67), (.c (.str [40]))])])
  (.cond (.t 68) (.seq (.ops [mV 69 0, mV 70 1, bK 71 .add 70 1, cA 72 139 [(.t 69), (.t 71)], g0 (.boxL 6 8 none [(.int .i64 0), (.int .i64 0), (.str []), .nils, (.int .i64 0), (.int .i64 0), (.int .i64 0), (.int .i64 0)]), sT 6 72 8 6])
  (.seq (.seq (.ops [fA 73 6 7, lA 74 73 6, bK 75 .eql 74 0, mV 76 75, g1 76 true (.mv 77 (.t 0)), g1 76 true (.fldA 78 (.t 6) 6 none), g1 76 true (.load 79 (.t 78) none (some 6) false), g1 76 true (.call (some 80) 69 [(.t 77), (.t 79), (.c (.str [41]))]), g1 76 true (.un 81 .not (.t 80)), pA 82 76 81])
  (.cond (.t 82) (.seq (.ops [fA 83 6 6, lA 84 83 6, cA 85 67 [(.t 84)], sT 4 85 8 4])
  (.ret))
  (.skip)))
  (.seq (.seq (.ops [fA 86 6 7, lA 87 86 6, bK 88 .eql 87 0])
  (.cond (.t 88) (.ops [fA 89 6 6, lA 90 89 6, bK 91 .add 90 1, fA 92 6 6, sT 92 91 1 6])
  (.skip)))
  (.seq (.ops [g0 (.load 93 (.t 6) (some 8) (some 6) false), sT 4 93 8 4])
  (.ret)))))
  (.skip)))
  (.seq (.ops [mV 94 0, mV 95 1, cA 96 140 [(.t 94), (.t 95)], sT 4 96 8 4])
  (.ret))))))))),
  [.cell 4 (some 8) (some 4)]⟩
def L112_0 : Ic := .seq (.seq (.ops [mV 22 7])
  (.cond (.t 22) (.skip)
  (.exit 0)))
  (.block 1 (.seq (.ops [mV 23 0, mV 24 6, cA 25 114 [(.t 23), (.t 24)], g0 (.boxL 8 8 none [(.int .i64 0), (.int .i64 0), (.str []), .nils, (.int .i64 0), (.int .i64 0), (.int .i64 0), (.int .i64 0)]), sT 8 25 8 8])
  (.seq (.seq (.ops [fA 26 8 7, lA 27 26 8, bK 28 .neq 27 0])
  (.cond (.t 28) (.seq (.ops [g0 (.load 29 (.t 8) (some 8) (some 8) false), sT 4 29 8 4])
  (.ret))
  (.skip)))
  (.seq (.ops [mV 30 5, g0 (.fldA 31 (.t 8) 0 (some 6)), lF 32 31 8, g0 (.bsl 33 6 true [(.t 32)]), g0 (.app 34 (.t 30) (.t 33) 6), mV 5 34])
  (.seq (.ops [fA 35 8 6, lA 36 35 8, mV 6 36])
  (.seq (.ops [mV 37 0, mV 38 6, g0 (.call (some 39) 69 [(.t 37), (.t 38), (.c (.str [44]))]), mV 7 39])
  (.seq (.ops [mV 40 7])
  (.cond (.t 40) (.ops [mV 41 6, bK 42 .add 41 1, mV 6 42])
  (.skip)))))))))
/-- notary/notaryref09.Params -/
def F112 : IFunc := ⟨.pure, .seq (.ops [g0 (.boxL 4 8 none [(.int .i64 0), (.int .i64 0), (.str []), .nils, (.int .i64 0), (.int .i64 0), (.int .i64 0), (.int .i64 0)])])
  (.seq (.ops [g0 (.bsl 9 6 true []), mV 5 9])
  (.seq (.seq (.ops [mV 10 0, mV 11 1, g0 (.call (some 12) 69 [(.t 10), (.t 11), (.c (.str [40]))]), g0 (.un 13 .not (.t 12))])
  (.cond (.t 13) (.seq (.ops [mV 14 1, cA 15 67 [(.t 14)], sT 4 15 8 4])
  (.ret))
  (.skip)))
  (.seq (.ops [mV 16 1, bK 17 .add 16 1, mV 6 17])
  (.seq (.seq (.ops [mV 18 0, mV 19 6, g0 (.call (some 20) 69 [(.t 18), (.t 19), (.c (.str [41]))]), g0 (.un 21 .not (.t 20))])
  (.cond (.t 21) (.seq (.ops [g0 (.mv 7 (.c (.bool true)))])
  (.seq (.block 0 (.loop L112_0))
  (.seq (.ops [mV 43 0, mV 44 6, g0 (.call (some 45) 69 [(.t 43), (.t 44), (.c (.str [41]))]), g0 (.un 46 .not (.t 45))])
  (.cond (.t 46) (.seq (.ops [mV 47 6, cA 48 67 [(.t 47)], sT 4 48 8 4])
  (.ret))
  (.skip)))))
  (.skip)))
  (.seq (.ops [mV 49 0, mV 50 1, mV 51 6, bK 52 .add 51 1, mV 53 5, g0 (.call (some 54) 71 [(.t 49), (.t 50), (.t 52), (kI 35), (kI 0), (.c (.str [])), (.t 53)]), sT 4 54 8 4])
  (.ret)))))),
  [.cell 4 (some 8) (some 4)]⟩
def L113_0 : Ic := .seq (.seq (.ops [mV 17 0, mV 18 6, g0 (.call (some 19) 69 [(.t 17), (.t 18), (.c (.str [125]))]), g0 (.un 20 .not (.t 19))])
  (.cond (.t 20) (.skip)
  (.exit 0)))
  (.block 1 (.seq (.ops [mV 21 0, mV 22 6, cA 23 141 [(.t 21), (.t 22)], g0 (.boxL 7 8 none [(.int .i64 0), (.int .i64 0), (.str []), .nils, (.int .i64 0), (.int .i64 0), (.int .i64 0), (.int .i64 0)]), sT 7 23 8 7])
  (.seq (.seq (.ops [fA 24 7 7, lA 25 24 7, bK 26 .neq 25 0])
  (.cond (.t 26) (.seq (.ops [g0 (.load 27 (.t 7) (some 8) (some 7) false), sT 4 27 8 4])
  (.ret))
  (.skip)))
  (.seq (.ops [mV 28 5, g0 (.fldA 29 (.t 7) 0 (some 6)), lF 30 29 7, g0 (.bsl 31 6 true [(.t 30)]), g0 (.app 32 (.t 28) (.t 31) 6), mV 5 32])
  (.ops [fA 33 7 6, lA 34 33 7, mV 6 34])))))
/-- notary/notaryref08.Block -/
def F113 : IFunc := ⟨.pure, .seq (.ops [g0 (.boxL 4 8 none [(.int .i64 0), (.int .i64 0), (.str []), .nils, (.int .i64 0), (.int .i64 0), (.int .i64 0), (.int .i64 0)])])
  (.seq (.seq (.ops [mV 8 0, mV 9 1, g0 (.call (some 10) 69 [(.t 8), (.t 9), (.c (.str [123]))]), g0 (.un 11 .not (.t 10))])
  (.cond (.t 11) (.seq (.ops [mV 12 1, cA 13 67 [(.t 12)], sT 4 13 8 4])
  (.ret))
  (.skip)))
  (.seq (.ops [g0 (.bsl 14 6 true []), mV 5 14])
  (.seq (.ops [mV 15 1, bK 16 .add 15 1, mV 6 16])
  (.seq (.block 0 (.loop L113_0))
  (.seq (.ops [mV 35 0, mV 36 1, mV 37 6, bK 38 .add 37 1, mV 39 5, g0 (.call (some 40) 71 [(.t 35), (.t 36), (.t 38), (kI 29), (kI 0), (.c (.str [])), (.t 39)]), sT 4 40 8 4])
  (.ret)))))),
  [.cell 4 (some 8) (some 4)]⟩
/-- notary/notaryref09.Part -/
def F114 : IFunc := ⟨.pure, .seq (.ops [g0 (.boxL 4 8 none [(.int .i64 0), (.int .i64 0), (.str []), .nils, (.int .i64 0), (.int .i64 0), (.int .i64 0), (.int .i64 0)])])
  (.seq (.seq (.ops [mV 6 0, mV 7 1, cA 8 68 [(.t 6), (.t 7)], g0 (.fld 9 (.t 8) 0 none), bK 10 .neq 9 1])
  (.cond (.t 10) (.seq (.ops [mV 11 1, cA 12 67 [(.t 11)], sT 4 12 8 4])
  (.ret))
  (.skip)))
  (.seq (.seq (.ops [mV 13 0, mV 14 1, bK 15 .add 14 1, g0 (.call (some 16) 69 [(.t 13), (.t 15), (.c (.str [58]))]), g0 (.un 17 .not (.t 16))])
  (.cond (.t 17) (.seq (.ops [mV 18 1, bK 19 .add 18 1, cA 20 67 [(.t 19)], sT 4 20 8 4])
  (.ret))
  (.skip)))
  (.seq (.ops [mV 21 0, mV 22 1, bK 23 .add 22 2, cA 24 110 [(.t 21), (.t 23)], g0 (.boxL 5 8 none [(.int .i64 0), (.int .i64 0), (.str []), .nils, (.int .i64 0), (.int .i64 0), (.int .i64 0), (.int .i64 0)]), sT 5 24 8 5])
  (.seq (.seq (.ops [fA 25 5 7, lA 26 25 5, bK 27 .neq 26 0])
  (.cond (.t 27) (.seq (.ops [g0 (.load 28 (.t 5) (some 8) (some 5) false), sT 4 28 8 4])
  (.ret))
  (.skip)))
  (.seq (.ops [mV 29 0, mV 30 1, fA 31 5 6, lA 32 31 5, mV 33 0, mV 34 1, g0 (.idxA 35 (.t 33) (.t 34) 5 (some 5) none), fA 36 35 2, lO 37 36, g0 (.fldA 38 (.t 5) 0 (some 6)), lF 39 38 5, g0 (.bsl 40 6 true [(.t 39)]), cA 41 71 [(.t 29), (.t 30), (.t 32), (kI 34), (kI 0), (.t 37), (.t 40)], sT 4 41 8 4])
  (.ret)))))),
  [.cell 4 (some 8) (some 4)]⟩
/-- (*notary/scope.scope).named$1 -/
def F115 : IFunc := ⟨.fre, .seq (.ops [bF 4 0, bZ 5])
  (.seq (.seq (.ops [lO 7 1, fA 8 4 2, lA 9 8 4, g0 (.look 10 .str (.t 7) (.t 9) (.int .i64 0) false), bK 11 .add 10 1, g0 (.mupd .str (.t 7) (.t 9) (.t 11))])
  (.seq (.ops [lO 12 1, fA 13 4 2, lA 14 13 4, g0 (.look 15 .str (.t 12) (.t 14) (.int .i64 0) false), bK 16 .gtr 15 1])
  (.cond (.t 16) (.seq (.ops [lO 17 2, lF 18 4 4, cA 19 116 [(.t 17), (.t 18), (kI 9)]])
  (.seq (.ops [g0 (.build 20 zT []), sT 5 20 6 5])
  (.ret)))
  (.skip))))
  (.seq (.ops [lO 21 2, lF 22 4 4, cA 23 73 [(.t 21), (.t 22)], bZ 6, sT 6 23 6 6])
  (.seq (.seq (.ops [lO 24 3])
  (.cond (.t 24) (.ops [fA 25 4 2, lA 26 25 4, fA 27 6 2, sT 27 26 1 6])
  (.skip)))
  (.seq (.ops [lF 28 6 6, sT 5 28 6 5])
  (.ret))))),
  [.cell 5 (some 6) (some 5)]⟩
/-- (*notary/scope.scope).fail -/
def F116 : IFunc := ⟨.raw, .seq (.ops [bF 4 1])
  (.seq (.ops [mV 6 0, nC 7 6, fA 8 7 9, lO 9 8, bK 10 .eql 9 0])
  (.cond (.t 10) (.ops [mV 11 0, mV 12 0, fA 13 4 4, lA 14 13 4, mV 15 2, nC 16 11, fA 17 16 8, g0 (.store (.t 17) (.t 14) 1 none), nC 18 12, fA 19 18 9, g0 (.store (.t 19) (.t 15) 1 none)])
  (.skip))),
  []⟩
def L117_0 : Ic := .seq (.seq (.ops [mV 20 6, bK 21 .geq 20 0])
  (.cond (.t 21) (.skip)
  (.exit 0)))
  (.seq (.block 1 (.seq (.ops [mV 24 0, nC 25 24, fA 26 25 7, lO 27 26, mV 28 6, g0 (.idxA 29 (.t 27) (.t 28) 1 none none), lO 30 29, fA 31 3 2, lA 32 31 3, bT 33 .eql 30 32])
  (.cond (.t 33) (.seq (.ops [mV 34 0, nC 35 34, fA 36 35 7, lO 37 36, lN 38 37, bK 39 .sub 38 1, mV 40 6, bT 41 .sub 39 40, fA 42 5 0, g0 (.store (.t 42) (kI 7) 1 (some 5)), fA 43 5 1, sT 43 41 1 5])
  (.seq (.ops [lF 44 5 5, sT 4 44 6 4])
  (.ret)))
  (.skip))))
  (.ops [mV 22 6, bK 23 .sub 22 1, mV 6 23]))
/-- (*notary/scope.scope).value -/
def F117 : IFunc := ⟨.fre, .seq (.ops [bF 3 1, bZ 4])
  (.seq (.ops [fA 9 3 4, lA 10 9 3, fA 11 3 5, lA 12 11 3, g0 (.build 13 zT [(4, 1, (.t 10)), (5, 1, (.t 12))]), bZ 5, sT 5 13 6 5])
  (.seq (.seq (.ops [mV 14 0, nC 15 14, fA 16 15 7, lO 17 16, lN 18 17, bK 19 .sub 18 1, mV 6 19])
  (.block 0 (.loop L117_0)))
  (.seq (.ops [mV 46 0, lF 47 3 3, g0 (.bsl 48 1 false [(kI 31), (kI 32)]), cA 49 118 [(.t 46), (.t 47), (.t 48)], mV 45 49, eX 50 45 0, eX 51 45 1, mV 7 50, mV 8 51])
  (.seq (.ops [mV 52 7, fA 53 5 0, g0 (.store (.t 53) (kI 9) 1 (some 5)), fA 54 5 1, sT 54 52 1 5])
  (.seq (.seq (.ops [mV 55 8, bK 56 .eql 55 31])
  (.cond (.t 56) (.ops [fA 57 5 0, g0 (.store (.t 57) (kI 8) 1 (some 5))])
  (.skip)))
  (.seq (.ops [lF 58 5 5, sT 4 58 6 4])
  (.ret))))))),
  [.cell 4 (some 6) (some 4)]⟩
def L118_0 : Ic := .seq (.ops [bT 26 .lss 25 24])
  (.seq (.cond (.t 26) (.skip)
  (.exit 0))
  (.seq (.block 1 (.seq (.ops [g0 (.idxA 27 (.t 23) (.t 25) 1 none none), lO 28 27, mV 11 28])
  (.seq (.ops [mV 29 0, nC 30 29, g0 (.fldA 31 (.t 30) 1 (some 6)), fA 32 31 3, lO 33 32, mV 34 8, iX 35 33 34, fA 36 35 0, lO 37 36, mV 38 11, bT 39 .eql 37 38])
  (.cond (.t 39) (.seq (.ops [mV 40 8, mV 41 11, mV 6 40, mV 7 41])
  (.ret))
  (.skip)))))
  (.ops [bK 42 .add 25 1, mV 25 42])))
/-- (*notary/scope.scope).find -/
def F118 : IFunc := ⟨.raw, .seq (.ops [bF 4 1, mK 6 0, mK 7 0])
  (.seq (.seq (.ops [mV 13 0, nC 14 13, fA 15 14 0, lO 16 15, fA 17 4 2, lA 18 17 4, g0 (.look 19 .str (.t 16) (.t 18) (.int .i64 0) true), mV 12 19, eX 20 12 0, eX 21 12 1, mV 8 20, mV 9 21])
  (.seq (.ops [mV 22 9])
  (.cond (.t 22) (.seq (.ops [mV 23 2, lN 24 23, mK 25 0])
  (.block 0 (.loop L118_0)))
  (.skip))))
  (.seq (.ops [mV 43 0, lF 44 4 4, cA 45 116 [(.t 43), (.t 44), (kI 8)]])
  (.seq (.ops [mK 6 0, mK 7 0])
  (.ret)))),
  [.t 6, .t 7]⟩
/-- (*notary/scope.scope).stmt -/
def F119 : IFunc := ⟨.fre, .seq (.ops [bF 3 1, bZ 4])
  (.seq (.seq (.ops [fA 6 3 0, lA 7 6 3])
  (.block 0 (.seq (.ops [bK 9 .eql 7 29, mV 8 9])
  (.cond (.t 8) (.seq (.ops [mV 10 0, lF 11 3 3, cA 12 74 [(.t 10), (.t 11)], sT 4 12 6 4])
  (.ret))
  (.seq (.seq (.ops [bK 14 .eql 7 20, mV 13 14])
  (.cond (.t 13) (.skip)
  (.ops [bK 15 .eql 7 21, mV 13 15])))
  (.cond (.t 13) (.seq (.ops [mV 16 0, lF 17 3 3, cA 18 73 [(.t 16), (.t 17)], bZ 5, sT 5 18 6 5])
  (.seq (.ops [mV 19 0, mV 20 0, nC 21 20, fA 22 21 7, lO 23 22, fA 24 3 2, lA 25 24 3, g0 (.bsl 26 1 false [(.t 25)]), g0 (.app 27 (.t 23) (.t 26) 1), nC 28 19, fA 29 28 7, g0 (.store (.t 29) (.t 27) 1 none)])
  (.seq (.ops [lF 30 5 5, sT 4 30 6 4])
  (.ret))))
  (.seq (.seq (.ops [bK 32 .eql 7 23, mV 31 32])
  (.cond (.t 31) (.skip)
  (.seq (.ops [bK 33 .eql 7 24, mV 31 33])
  (.cond (.t 31) (.skip)
  (.ops [bK 34 .eql 7 25, mV 31 34])))))
  (.cond (.t 31) (.seq (.ops [mV 35 0, lF 36 3 3, cA 37 142 [(.t 35), (.t 36)], sT 4 37 6 4])
  (.ret))
  (.skip)))))))))
  (.seq (.ops [mV 38 0, lF 39 3 3, cA 40 73 [(.t 38), (.t 39)], sT 4 40 6 4])
  (.ret))),
  [.cell 4 (some 6) (some 4)]⟩
/-- notary/notaryref13.Name -/
def F120 : IFunc := ⟨.pure, .seq (.ops [bF 3 0, bF 5 2, g0 (.boxL 6 8 none [(.int .i64 0), (.int .i64 0), (.str []), .nils, (.int .i64 0), (.int .i64 0), (.int .i64 0), (.int .i64 0)])])
  (.seq (.ops [mV 8 1, fA 9 5 2, lA 10 9 5, cA 11 143 [(.t 8), (.t 10)], mV 7 11])
  (.seq (.seq (.ops [mV 12 7, bK 13 .geq 12 0])
  (.cond (.t 13) (.seq (.ops [mV 14 7, fA 15 5 4, lA 16 15 5, fA 17 5 5, lA 18 17 5, g0 (.build 19 zT [(0, 1, (kI 7)), (1, 1, (.t 14)), (4, 1, (.t 16)), (5, 1, (.t 18))]), g0 (.build 20 [(.int .i64 0), (.int .i64 0), (.str []), .nils, (.int .i64 0), (.int .i64 0), (.int .i64 0), (.int .i64 0)] [(0, 6, (.t 19))]), sT 6 20 8 6])
  (.ret))
  (.skip)))
  (.seq (.seq (.ops [lF 21 3 3, fA 22 5 2, lA 23 22 5, cA 24 121 [(.t 21), (.t 23)], bK 25 .eql 24 31])
  (.cond (.t 25) (.seq (.ops [lF 26 3 3, fA 27 5 2, lA 28 27 5, cA 29 39 [(.t 26), (.t 28)], fA 30 5 4, lA 31 30 5, fA 32 5 5, lA 33 32 5, g0 (.build 34 zT [(0, 1, (kI 8)), (1, 1, (.t 29)), (4, 1, (.t 31)), (5, 1, (.t 33))]), g0 (.build 35 [(.int .i64 0), (.int .i64 0), (.str []), .nils, (.int .i64 0), (.int .i64 0), (.int .i64 0), (.int .i64 0)] [(0, 6, (.t 34))]), sT 6 35 8 6])
  (.ret))
  (.skip)))
  (.seq (.seq (.ops [lF 36 3 3, fA 37 5 2, lA 38 37 5, cA 39 121 [(.t 36), (.t 38)], bK 40 .eql 39 32])
  (.cond (.t 40) (.seq (.ops [lF 41 3 3, fA 42 5 2, lA 43 42 5, cA 44 39 [(.t 41), (.t 43)], fA 45 5 4, lA 46 45 5, fA 47 5 5, lA 48 47 5, g0 (.build 49 zT [(0, 1, (kI 9)), (1, 1, (.t 44)), (4, 1, (.t 46)), (5, 1, (.t 48))]), g0 (.build 50 [(.int .i64 0), (.int .i64 0), (.str []), .nils, (.int .i64 0), (.int .i64 0), (.int .i64 0), (.int .i64 0)] [(0, 6, (.t 49))]), sT 6 50 8 6])
  (.ret))
  (.skip)))
  (.seq (.ops [lF 51 5 5, cA 52 122 [(.t 51), (kI 8)], sT 6 52 8 6])
  (.ret)))))),
  [.cell 6 (some 8) (some 6)]⟩
/-- notary/notaryref13.Kind -/
def F121 : IFunc := ⟨.pure, .seq (.ops [bF 2 0, mK 4 0])
  (.seq (.ops [lF 6 2 2, mV 7 1, cA 8 39 [(.t 6), (.t 7)], mV 5 8])
  (.seq (.seq (.ops [mV 9 5, bK 10 .lss 9 0])
  (.cond (.t 10) (.seq (.ops [mK 4 0])
  (.ret))
  (.skip)))
  (.seq (.ops [fA 11 2 3, lA 12 11 2, mV 13 5, iX 14 12 13, fA 15 14 0, lO 16 15, mV 4 16])
  (.ret)))),
  [.t 4]⟩
/-- notary/notaryref13.Bad -/
def F122 : IFunc := ⟨.pure, .seq (.ops [bF 2 0, g0 (.boxL 4 8 none [(.int .i64 0), (.int .i64 0), (.str []), .nils, (.int .i64 0), (.int .i64 0), (.int .i64 0), (.int .i64 0)])])
  (.seq (.ops [fA 5 2 4, lA 6 5 2, mV 7 1, g0 (.build 8 [(.int .i64 0), (.int .i64 0), (.str []), .nils, (.int .i64 0), (.int .i64 0), (.int .i64 0), (.int .i64 0)] [(6, 1, (.t 6)), (7, 1, (.t 7))]), sT 4 8 8 4])
  (.ret)),
  [.cell 4 (some 8) (some 4)]⟩
/-- notary/notaryref13.More -/
def F123 : IFunc := ⟨.pure, .seq (.ops [bF 3 1, g0 (.mv 4 (.c .nils))])
  (.seq (.seq (.ops [fA 5 3 0, lA 6 5 3, bK 7 .eql 6 20, mV 8 7, g1 8 false (.fldA 9 (.t 3) 0 none), g1 8 false (.load 10 (.t 9) none (some 3) false), g1 8 false (.bin 11 .eql (.t 10) (kI 21)), pO 12 8 11])
  (.cond (.t 12) (.seq (.ops [g0 (.bsl 13 1 false []), mV 14 0, g0 (.app 15 (.t 13) (.t 14) 1), fA 16 3 2, lA 17 16 3, g0 (.bsl 18 1 false [(.t 17)]), g0 (.app 19 (.t 15) (.t 18) 1), mV 4 19])
  (.ret))
  (.skip)))
  (.seq (.ops [mV 20 0, mV 4 20])
  (.ret))),
  [.t 4]⟩
/-- (*notary/lex.reader).peek -/
def F124 : IFunc := ⟨.raw, .seq (.ops [g0 (.mv 4 (.c (.int .u8 0)))])
  (.seq (.seq (.ops [mV 5 0, nC 6 5, fA 7 6 1, lO 8 7, mV 9 1, bT 10 .add 8 9, mV 11 0, nC 12 11, fA 13 12 0, lO 14 13, g0 (.len 15 .str (.t 14) false), bT 16 .lss 10 15])
  (.cond (.t 16) (.seq (.ops [mV 17 0, nC 18 17, fA 19 18 0, lO 20 19, mV 21 0, nC 22 21, fA 23 22 1, lO 24 23, mV 25 1, bT 26 .add 24 25, g0 (.idx 27 (.t 20) (.t 26) none 1 none), mV 4 27])
  (.ret))
  (.skip)))
  (.seq (.ops [g0 (.mv 4 (.c (.int .u8 0)))])
  (.ret))),
  [.t 4]⟩
def L125_0 : Ic := .seq (.seq (.ops [mV 10 0, nC 11 10, fA 12 11 1, lO 13 12, mV 14 0, nC 15 14, fA 16 15 0, lO 17 16, g0 (.len 18 .str (.t 17) false), bT 19 .lss 13 18, mV 20 19, g1 20 true (.mv 21 (.t 1)), g1 20 true (.mv 22 (.t 0)), g1 20 true (.nilc (some 23) (.t 22)), g1 20 true (.fldA 24 (.t 23) 0 none), g1 20 true (.load 25 (.t 24) none none false), g1 20 true (.mv 26 (.t 0)), g1 20 true (.nilc (some 27) (.t 26)), g1 20 true (.fldA 28 (.t 27) 1 none), g1 20 true (.load 29 (.t 28) none none false), g1 20 true (.idx 30 (.t 25) (.t 29) none 1 none), g1 20 true (.callV (some 31) (.t 21) [(.t 30)]), pA 32 20 31])
  (.cond (.t 32) (.skip)
  (.exit 0)))
  (.block 1 (.ops [mV 33 0, nC 34 33, fA 35 34 1, lO 36 35, bK 37 .add 36 1, nC 38 33, fA 39 38 1, g0 (.store (.t 39) (.t 37) 1 none)]))
/-- (*notary/lex.reader).run -/
def F125 : IFunc := ⟨.raw, .seq (.ops [g0 (.mv 4 (.c (.str [])))])
  (.seq (.ops [mV 6 0, nC 7 6, fA 8 7 1, lO 9 8, mV 5 9])
  (.seq (.block 0 (.loop L125_0))
  (.seq (.ops [mV 40 0, nC 41 40, fA 42 41 0, lO 43 42, mV 44 5, mV 45 0, nC 46 45, fA 47 46 1, lO 48 47, g0 (.slc 49 none (.t 43) (some (.t 44)) (some (.t 48)) none), mV 4 49])
  (.ret)))),
  [.t 4]⟩
/-- (*notary/lex.reader).isLine -/
def F126 : IFunc := ⟨.raw, .seq (.ops [g0 (.mv 4 (.c (.bool false)))])
  (.seq (.ops [mV 5 1, g0 (.bin 6 .neq (.t 5) (.c (.int .u8 10))), mV 4 6])
  (.ret)),
  [.t 4]⟩
/-- (*notary/lex.reader).isLetter -/
def F127 : IFunc := ⟨.raw, .seq (.ops [g0 (.mv 4 (.c (.bool false)))])
  (.seq (.ops [mV 5 1, g0 (.bin 6 .geq (.t 5) (.c (.int .u8 97))), mV 7 6, g1 7 true (.mv 8 (.t 1)), g1 7 true (.bin 9 .leq (.t 8) (.c (.int .u8 122))), pA 10 7 9, mV 11 10, g1 11 false (.mv 12 (.t 1)), g1 11 false (.bin 13 .geq (.t 12) (.c (.int .u8 65))), g1 11 false (.mv 14 (.t 13)), g1 14 true (.mv 15 (.t 1)), g1 14 true (.bin 16 .leq (.t 15) (.c (.int .u8 90))), g1 11 false (.pick 17 (.t 14) (.t 16) (.c (.bool false))), pO 18 11 17, mV 19 18, g1 19 false (.mv 20 (.t 1)), g1 19 false (.bin 21 .eql (.t 20) (.c (.int .u8 95))), pO 22 19 21, mV 4 22])
  (.ret)),
  [.t 4]⟩
/-- (*notary/lex.reader).word -/
def F128 : IFunc := ⟨.raw, .seq (.ops [mK 2 0])
  (.seq (.ops [mV 5 0, nC 6 5, fA 7 6 1, lO 8 7, mV 3 8])
  (.seq (.ops [mV 9 0, mV 10 0, g0 (.mkfn 11 144 [(.t 10)] []), cA 12 125 [(.t 9), (.t 11)], mV 4 12])
  (.seq (.seq (.ops [mV 13 4, g0 (.len 14 .str (.t 13) false), bK 15 .gtr 14 16])
  (.cond (.t 15) (.seq (.ops [mK 2 3])
  (.ret))
  (.skip)))
  (.seq (.seq (.ops [mV 16 4, cA 17 145 [(.t 16)]])
  (.cond (.t 17) (.ops [mV 18 0, mV 19 4, mV 20 3, cA 21 87 [(.t 18), (kI 3), (kI 0), (.t 19), (.t 20)]])
  (.ops [mV 22 0, mV 23 4, mV 24 3, cA 25 87 [(.t 22), (kI 1), (kI 0), (.t 23), (.t 24)]])))
  (.seq (.ops [mK 2 0])
  (.ret)))))),
  [.t 2]⟩
/-- (*notary/lex.reader).isDigit -/
def F129 : IFunc := ⟨.raw, .seq (.ops [g0 (.mv 4 (.c (.bool false)))])
  (.seq (.ops [mV 5 1, g0 (.bin 6 .geq (.t 5) (.c (.int .u8 48))), mV 7 6, g1 7 true (.mv 8 (.t 1)), g1 7 true (.bin 9 .leq (.t 8) (.c (.int .u8 57))), pA 10 7 9, mV 4 10])
  (.ret)),
  [.t 4]⟩
def L130_0 : Ic := .seq (.ops [bT 31 .lss 30 29])
  (.seq (.cond (.t 31) (.skip)
  (.exit 0))
  (.seq (.block 1 (.seq (.ops [mV 32 30, mV 6 32])
  (.ops [mV 33 5, g0 (.bin 34 .mul (.t 33) (.c (.int .u64 10))), mV 35 4, mV 36 6, g0 (.idx 37 (.t 35) (.t 36) none 1 none), g0 (.bin 38 .sub (.t 37) (.c (.int .u8 48))), g0 (.conv 39 (.int .u64) (.t 38)), bT 40 .add 34 39, mV 5 40])))
  (.ops [bK 41 .add 30 1, mV 30 41])))
/-- (*notary/lex.reader).number -/
def F130 : IFunc := ⟨.raw, .seq (.ops [mK 2 0])
  (.seq (.ops [mV 7 0, nC 8 7, fA 9 8 1, lO 10 9, mV 3 10])
  (.seq (.ops [mV 11 0, mV 12 0, g0 (.mkfn 13 129 [(.t 12)] []), cA 14 125 [(.t 11), (.t 13)], mV 4 14])
  (.seq (.seq (.ops [mV 15 4, g0 (.len 16 .str (.t 15) false), bK 17 .gtr 16 19, mV 18 17, g1 18 false (.mv 19 (.t 4)), g1 18 false (.len 20 .str (.t 19) false), g1 18 false (.bin 21 .gtr (.t 20) (kI 1)), g1 18 false (.mv 22 (.t 21)), g1 22 true (.mv 23 (.t 4)), g1 22 true (.idx 24 (.t 23) (kI 0) none 1 none), g1 22 true (.bin 25 .eql (.t 24) (.c (.int .u8 48))), g1 18 false (.pick 26 (.t 22) (.t 25) (.c (.bool false))), pO 27 18 26])
  (.cond (.t 27) (.seq (.ops [mK 2 5])
  (.ret))
  (.skip)))
  (.seq (.ops [g0 (.mv 5 (.c (.int .u64 0)))])
  (.seq (.seq (.ops [mV 28 4, g0 (.len 29 .str (.t 28) false), mK 30 0])
  (.block 0 (.loop L130_0)))
  (.seq (.seq (.ops [mV 42 5, g0 (.bin 43 .gtr (.t 42) (.c (.int .u64 9223372036854775807)))])
  (.cond (.t 43) (.seq (.ops [mK 2 5])
  (.ret))
  (.skip)))
  (.seq (.ops [mV 44 0, mV 45 5, g0 (.conv 46 (.int .i64) (.t 45)), mV 47 3, g0 (.call (some 48) 87 [(.t 44), (kI 2), (.t 46), (.c (.str [])), (.t 47)])])
  (.seq (.ops [mK 2 0])
  (.ret))))))))),
  [.t 2]⟩
/-- notary/lex.signAt -/
def F131 : IFunc := ⟨.pure, .seq (.ops [mK 4 0])
  (.seq (.seq (.ops [mV 5 0])
  (.block 0 (.seq (.seq (.ops [g0 (.bin 7 .eql (.t 5) (.c (.int .u8 61))), mV 6 7])
  (.cond (.t 6) (.skip)
  (.seq (.ops [g0 (.bin 8 .eql (.t 5) (.c (.int .u8 33))), mV 6 8])
  (.cond (.t 6) (.skip)
  (.seq (.ops [g0 (.bin 9 .eql (.t 5) (.c (.int .u8 60))), mV 6 9])
  (.cond (.t 6) (.skip)
  (.ops [g0 (.bin 10 .eql (.t 5) (.c (.int .u8 62))), mV 6 10])))))))
  (.cond (.t 6) (.seq (.seq (.ops [mV 11 1, g0 (.bin 12 .eql (.t 11) (.c (.int .u8 61)))])
  (.cond (.t 12) (.seq (.ops [mK 4 2])
  (.ret))
  (.skip)))
  (.seq (.ops [mK 4 1])
  (.ret)))
  (.seq (.seq (.ops [g0 (.bin 14 .eql (.t 5) (.c (.int .u8 38))), mV 13 14])
  (.cond (.t 13) (.skip)
  (.ops [g0 (.bin 15 .eql (.t 5) (.c (.int .u8 124))), mV 13 15])))
  (.cond (.t 13) (.seq (.seq (.ops [mV 16 1, mV 17 0, bT 18 .eql 16 17])
  (.cond (.t 18) (.seq (.ops [mK 4 2])
  (.ret))
  (.skip)))
  (.seq (.ops [mK 4 0])
  (.ret)))
  (.seq (.seq (.ops [g0 (.bin 20 .eql (.t 5) (.c (.int .u8 123))), mV 19 20])
  (.cond (.t 19) (.skip)
  (.seq (.ops [g0 (.bin 21 .eql (.t 5) (.c (.int .u8 125))), mV 19 21])
  (.cond (.t 19) (.skip)
  (.seq (.ops [g0 (.bin 22 .eql (.t 5) (.c (.int .u8 40))), mV 19 22])
  (.cond (.t 19) (.skip)
  (.seq (.ops [g0 (.bin 23 .eql (.t 5) (.c (.int .u8 41))), mV 19 23])
  (.cond (.t 19) (.skip)
  (.seq (.ops [g0 (.bin 24 .eql (.t 5) (.c (.int .u8 91))), mV 19 24])
  (.cond (.t 19) (.skip)
  (.seq (.ops [g0 (.bin 25 .eql (.t 5) (.c (.int .u8 93))), mV 19 25])
  (.cond (.t 19) (.skip)
  (.seq (.ops [g0 (.bin 26 .eql (.t 5) (.c (.int .u8 44))), mV 19 26])
  (.cond (.t 19) (.skip)
  (.seq (.ops [g0 (.bin 27 .eql (.t 5) (.c (.int .u8 59))), mV 19 27])
  (.cond (.t 19) (.skip)
  (.seq (.ops [g0 (.bin 28 .eql (.t 5) (.c (.int .u8 58))), mV 19 28])
  (.cond (.t 19) (.skip)
  (.seq (.ops [g0 (.bin 29 .eql (.t 5) (.c (.int .u8 46))), mV 19 29])
  (.cond (.t 19) (.skip)
  (.seq (.ops [g0 (.bin 30 .eql (.t 5) (.c (.int .u8 43))), mV 19 30])
  (.cond (.t 19) (.skip)
  (.seq (.ops [g0 (.bin 31 .eql (.t 5) (.c (.int .u8 45))), mV 19 31])
  (.cond (.t 19) (.skip)
  (.seq (.ops [g0 (.bin 32 .eql (.t 5) (.c (.int .u8 42))), mV 19 32])
  (.cond (.t 19) (.skip)
  (.seq (.ops [g0 (.bin 33 .eql (.t 5) (.c (.int .u8 47))), mV 19 33])
  (.cond (.t 19) (.skip)
  (.seq (.ops [g0 (.bin 34 .eql (.t 5) (.c (.int .u8 37))), mV 19 34])
  (.cond (.t 19) (.skip)
  (.ops [g0 (.bin 35 .eql (.t 5) (.c (.int .u8 64))), mV 19 35])))))))))))))))))))))))))))))))
  (.cond (.t 19) (.seq (.ops [mK 4 1])
  (.ret))
  (.skip)))))))))
  (.seq (.ops [mK 4 0])
  (.ret))),
  [.t 4]⟩
/-- notary/notaryref07.Expr -/
def F139 : IFunc := ⟨.pure, .seq (.ops [g0 (.boxL 4 8 none [(.int .i64 0), (.int .i64 0), (.str []), .nils, (.int .i64 0), (.int .i64 0), (.int .i64 0), (.int .i64 0)])])
  (.seq (.ops [mV 5 0, mV 6 1, cA 7 153 [(.t 5), (.t 6), (kI 1)], sT 4 7 8 4])
  (.ret)),
  [.cell 4 (some 8) (some 4)]⟩
/-- notary/notaryref07.Called -/
def F140 : IFunc := ⟨.pure, .seq (.ops [g0 (.boxL 4 8 none [(.int .i64 0), (.int .i64 0), (.str []), .nils, (.int .i64 0), (.int .i64 0), (.int .i64 0), (.int .i64 0)])])
  (.seq (.ops [mV 14 1, bK 15 .add 14 1, mK 5 0, mV 6 15, g0 (.mv 7 (.c (.bool true)))])
  (.seq (.ops [g0 (.mv 8 (.c (.str [40]))), g0 (.mv 9 (.c (.str [41])))])
  (.seq (.ops [g0 (.mv 10 (.c (.str [])))])
  (.seq (.seq (.ops [mV 16 0, mV 17 1, cA 18 68 [(.t 16), (.t 17)], g0 (.fld 19 (.t 18) 0 none), bK 20 .eql 19 1])
  (.cond (.t 20) (.ops [mV 21 0, mV 22 1, cA 23 68 [(.t 21), (.t 22)], g0 (.fld 24 (.t 23) 2 none), mK 5 16, mV 10 24])
  (.seq (.ops [mV 25 0, mV 26 1, g0 (.call (some 27) 69 [(.t 25), (.t 26), (.c (.str [91]))])])
  (.cond (.t 27) (.ops [mV 28 1, mK 5 14, mV 6 28, g0 (.mv 7 (.c (.bool false))), g0 (.mv 8 (.c (.str [91]))), g0 (.mv 9 (.c (.str [93])))])
  (.seq (.ops [mV 29 0, mV 30 1, g0 (.call (some 31) 69 [(.t 29), (.t 30), (.c (.str [64]))]), mV 32 31, g1 32 false (.mv 33 (.t 0)), g1 32 false (.mv 34 (.t 1)), g1 32 false (.call (some 35) 64 [(.t 33), (.t 34), (.c (.str [110, 101, 119]))]), pO 36 32 35])
  (.cond (.t 36) (.seq (.seq (.ops [mV 37 0, mV 38 1, bK 39 .add 38 1, cA 40 68 [(.t 37), (.t 39)], g0 (.fld 41 (.t 40) 0 none), bK 42 .neq 41 1])
  (.cond (.t 42) (.seq (.ops [mV 43 1, bK 44 .add 43 1, cA 45 67 [(.t 44)], sT 4 45 8 4])
  (.ret))
  (.skip)))
  (.seq (.ops [mV 46 0, mV 47 1, bK 48 .add 47 1, cA 49 68 [(.t 46), (.t 48)], g0 (.fld 50 (.t 49) 2 none), mV 51 1, bK 52 .add 51 2, mK 5 17, mV 10 50, mV 6 52])
  (.seq (.ops [mV 53 0, mV 54 1, g0 (.call (some 55) 64 [(.t 53), (.t 54), (.c (.str [110, 101, 119]))])])
  (.cond (.t 55) (.ops [mK 5 15, g0 (.mv 7 (.c (.bool false)))])
  (.skip)))))
  (.seq (.ops [mV 56 1, cA 57 67 [(.t 56)], sT 4 57 8 4])
  (.ret))))))))
  (.seq (.ops [mV 59 0, mV 60 6, mV 61 7, mV 62 8, mV 63 9, cA 64 154 [(.t 59), (.t 60), (.t 61), (.t 62), (.t 63)], mV 58 64, eX 65 58 0, eX 66 58 1, eX 67 58 2, mV 11 65, mV 12 66, mV 13 67])
  (.seq (.seq (.ops [mV 68 13, bK 69 .neq 68 0])
  (.cond (.t 69) (.seq (.ops [mV 70 12, mV 71 13, g0 (.build 72 [(.int .i64 0), (.int .i64 0), (.str []), .nils, (.int .i64 0), (.int .i64 0), (.int .i64 0), (.int .i64 0)] [(6, 1, (.t 70)), (7, 1, (.t 71))]), sT 4 72 8 4])
  (.ret))
  (.skip)))
  (.seq (.ops [mV 73 0, mV 74 1, mV 75 12, mV 76 5, mV 77 10, mV 78 11, cA 79 71 [(.t 73), (.t 74), (.t 75), (.t 76), (kI 0), (.t 77), (.t 78)], sT 4 79 8 4])
  (.ret)))))))),
  [.cell 4 (some 8) (some 4)]⟩
def L141_0 : Ic := .seq (.seq (.ops [mV 28 10, mV 29 6, lN 30 29, bT 31 .lss 28 30])
  (.cond (.t 31) (.skip)
  (.exit 0)))
  (.seq (.block 1 (.seq (.ops [mV 34 6, mV 35 10, g0 (.idxA 36 (.t 34) (.t 35) 2 (some 2) none), fA 37 36 0, lO 38 37, mV 11 38])
  (.seq (.ops [mV 39 11, g0 (.bin 40 .eql (.t 39) (.c (.str [119, 111, 114, 100]))), mV 41 40, g1 41 false (.mv 42 (.t 11)), g1 41 false (.bin 43 .eql (.t 42) (.c (.str [115, 105, 103, 110]))), pO 44 41 43])
  (.cond (.t 44) (.seq (.seq (.ops [mV 45 11, g0 (.bin 46 .eql (.t 45) (.c (.str [119, 111, 114, 100]))), mV 47 46, g1 47 true (.mv 48 (.t 0)), g1 47 true (.mv 49 (.t 9)), g1 47 true (.mv 50 (.t 6)), g1 47 true (.mv 51 (.t 10)), g1 47 true (.idxA 52 (.t 50) (.t 51) 2 (some 2) none), g1 47 true (.fldA 53 (.t 52) 1 none), g1 47 true (.load 54 (.t 53) none none false), g1 47 true (.call (some 55) 64 [(.t 48), (.t 49), (.t 54)]), g1 47 true (.un 56 .not (.t 55)), pA 57 47 56, mV 58 57, g1 58 false (.mv 59 (.t 11)), g1 58 false (.bin 60 .eql (.t 59) (.c (.str [115, 105, 103, 110]))), g1 58 false (.mv 61 (.t 60)), g1 61 true (.mv 62 (.t 0)), g1 61 true (.mv 63 (.t 9)), g1 61 true (.mv 64 (.t 6)), g1 61 true (.mv 65 (.t 10)), g1 61 true (.idxA 66 (.t 64) (.t 65) 2 (some 2) none), g1 61 true (.fldA 67 (.t 66) 1 none), g1 61 true (.load 68 (.t 67) none none false), g1 61 true (.call (some 69) 69 [(.t 62), (.t 63), (.t 68)]), g1 61 true (.un 70 .not (.t 69)), g1 58 false (.pick 71 (.t 61) (.t 70) (.c (.bool false))), pO 72 58 71])
  (.cond (.t 72) (.seq (.ops [mV 73 9, cA 74 67 [(.t 73)], sT 4 74 8 4])
  (.ret))
  (.skip)))
  (.ops [mV 75 9, bK 76 .add 75 1, mV 9 76]))
  (.seq (.ops [mV 77 11, g0 (.bin 78 .eql (.t 77) (.c (.str [110, 97, 109, 101])))])
  (.cond (.t 78) (.seq (.seq (.ops [mV 79 0, mV 80 9, cA 81 68 [(.t 79), (.t 80)], g0 (.fld 82 (.t 81) 0 none), bK 83 .neq 82 1])
  (.cond (.t 83) (.seq (.ops [mV 84 9, cA 85 67 [(.t 84)], sT 4 85 8 4])
  (.ret))
  (.skip)))
  (.seq (.ops [mV 86 0, mV 87 9, g0 (.idxA 88 (.t 86) (.t 87) 5 (some 5) none), fA 89 88 2, lO 90 89, mV 8 90])
  (.ops [mV 91 9, bK 92 .add 91 1, mV 9 92])))
  (.seq (.ops [mV 93 11, g0 (.bin 94 .eql (.t 93) (.c (.str [101, 108, 115, 101]))), mV 95 94, g1 95 true (.mv 96 (.t 0)), g1 95 true (.mv 97 (.t 9)), g1 95 true (.call (some 98) 64 [(.t 96), (.t 97), (.c (.str [101, 108, 115, 101]))]), g1 95 true (.un 99 .not (.t 98)), pA 100 95 99])
  (.cond (.t 100) (.seq (.ops [mV 101 0, mV 102 9, bK 103 .sub 102 1, g0 (.idxA 104 (.t 101) (.t 103) 5 (some 5) none), fA 105 104 4, lO 106 105, mV 12 106])
  (.ops [mV 107 7, mV 108 12, mV 109 12, g0 (.build 110 zT [(0, 1, (kI 29)), (4, 1, (.t 108)), (5, 1, (.t 109))]), g0 (.bsl 111 6 true [(.t 110)]), g0 (.app 112 (.t 107) (.t 111) 6), mV 7 112]))
  (.seq (.seq (.ops [mV 113 11, g0 (.bin 114 .eql (.t 113) (.c (.str [101, 108, 115, 101])))])
  (.cond (.t 114) (.ops [mV 115 9, bK 116 .add 115 1, mV 9 116])
  (.skip)))
  (.seq (.ops [mV 117 0, mV 118 9, mV 119 11, cA 120 156 [(.t 117), (.t 118), (.t 119)], g0 (.boxL 13 8 none [(.int .i64 0), (.int .i64 0), (.str []), .nils, (.int .i64 0), (.int .i64 0), (.int .i64 0), (.int .i64 0)]), sT 13 120 8 13])
  (.seq (.seq (.ops [fA 121 13 7, lA 122 121 13, bK 123 .neq 122 0])
  (.cond (.t 123) (.seq (.ops [g0 (.load 124 (.t 13) (some 8) (some 13) false), sT 4 124 8 4])
  (.ret))
  (.skip)))
  (.seq (.ops [mV 125 7, g0 (.fldA 126 (.t 13) 0 (some 6)), lF 127 126 13, g0 (.bsl 128 6 true [(.t 127)]), g0 (.app 129 (.t 125) (.t 128) 6), mV 7 129])
  (.ops [fA 130 13 6, lA 131 130 13, mV 9 131])))))))))))))
  (.ops [mV 32 10, bK 33 .add 32 1, mV 10 33]))
/-- notary/notaryref08.Stmt -/
def F141 : IFunc := ⟨.pure, .seq (.ops [g0 (.boxL 4 8 none [(.int .i64 0), (.int .i64 0), (.str []), .nils, (.int .i64 0), (.int .i64 0), (.int .i64 0), (.int .i64 0)])])
  (.seq (.seq (.ops [mV 14 0, mV 15 1, g0 (.call (some 16) 69 [(.t 14), (.t 15), (.c (.str [123]))])])
  (.cond (.t 16) (.seq (.ops [mV 17 0, mV 18 1, cA 19 113 [(.t 17), (.t 18)], sT 4 19 8 4])
  (.ret))
  (.skip)))
  (.seq (.ops [mV 21 0, mV 22 1, cA 23 155 [(.t 21), (.t 22)], mV 20 23, eX 24 20 0, eX 25 20 1, mV 5 24, mV 6 25])
  (.seq (.ops [g0 (.bsl 26 6 true []), mV 7 26])
  (.seq (.ops [g0 (.mv 8 (.c (.str [])))])
  (.seq (.ops [mV 27 1, mV 9 27])
  (.seq (.seq (.ops [mK 10 0])
  (.block 0 (.loop L141_0)))
  (.seq (.ops [mV 132 0, mV 133 1, mV 134 9, mV 135 5, mV 136 8, mV 137 7, cA 138 71 [(.t 132), (.t 133), (.t 134), (.t 135), (kI 0), (.t 136), (.t 137)], sT 4 138 8 4])
  (.ret)))))))),
  [.cell 4 (some 8) (some 4)]⟩
/-- (*notary/scope.scope).nested -/
def F142 : IFunc := ⟨.fre, .seq (.ops [g0 (.boxI 2 none (.t 0)), g0 (.boxH 3 (some 6) (.t 1)), bZ 4])
  (.seq (.ops [fA 7 3 2, lO 8 7, g0 (.boxH 5 none (.c (.str []))), g0 (.store (.t 5) (.t 8) 1 none)])
  (.seq (.ops [lO 9 2, nC 10 9, fA 11 10 7, lO 12 11, lN 13 12, mV 6 13])
  (.seq (.ops [fA 14 3 2, g0 (.store (.t 14) (.c (.str [])) 1 none)])
  (.seq (.ops [lO 15 2, fA 16 3 3, lO 17 16, g0 (.mkfn 18 157 [] [(.t 2), (.t 3), (.t 5)]), cA 19 37 [(.t 15), (.t 17), (.t 18)], fA 20 3 3, g0 (.store (.t 20) (.t 19) 1 none)])
  (.seq (.ops [lO 21 2, lO 22 2, nC 23 22, fA 24 23 7, lO 25 24, mV 26 6, g0 (.slc 27 (some 1) (.t 25) none (some (.t 26)) none), nC 28 21, fA 29 28 7, g0 (.store (.t 29) (.t 27) 1 none)])
  (.seq (.ops [lP 30 3, sT 4 30 6 4])
  (.ret))))))),
  [.cell 4 (some 6) (some 4)]⟩
def L143_0 : Ic := .seq (.seq (.ops [mV 6 5, mV 7 0, lN 8 7, bT 9 .lss 6 8])
  (.cond (.t 9) (.skip)
  (.exit 0)))
  (.seq (.block 1 (.seq (.ops [mV 12 0, mV 13 0, lN 14 13, bK 15 .sub 14 1, mV 16 5, bT 17 .sub 15 16, g0 (.idxA 18 (.t 12) (.t 17) 1 none none), lO 19 18, mV 20 1, bT 21 .eql 19 20])
  (.cond (.t 21) (.seq (.ops [mV 22 5, mV 4 22])
  (.ret))
  (.skip))))
  (.ops [mV 10 5, bK 11 .add 10 1, mV 5 11]))
/-- notary/notaryref13.Local -/
def F143 : IFunc := ⟨.pure, .seq (.ops [mK 4 0])
  (.seq (.seq (.ops [mK 5 0])
  (.block 0 (.loop L143_0)))
  (.seq (.ops [g0 (.mv 4 (.c (.int .i64 (-1))))])
  (.ret))),
  [.t 4]⟩
/-- (*notary/lex.reader).isMore -/
def F144 : IFunc := ⟨.raw, .seq (.ops [g0 (.mv 4 (.c (.bool false)))])
  (.seq (.ops [mV 5 0, mV 6 1, cA 7 127 [(.t 5), (.t 6)], mV 8 7, g1 8 false (.mv 9 (.t 0)), g1 8 false (.mv 10 (.t 1)), g1 8 false (.call (some 11) 129 [(.t 9), (.t 10)]), pO 12 8 11, mV 4 12])
  (.ret)),
  [.t 4]⟩
/-- notary/lex.isWord -/
def F145 : IFunc := ⟨.pure, .seq (.ops [g0 (.mv 2 (.c (.bool false)))])
  (.seq (.seq (.ops [mV 3 0])
  (.block 0 (.seq (.seq (.ops [g0 (.bin 5 .eql (.t 3) (.c (.str [114, 101, 99]))), mV 4 5])
  (.cond (.t 4) (.skip)
  (.seq (.ops [g0 (.bin 6 .eql (.t 3) (.c (.str [99, 111, 110, 115, 116]))), mV 4 6])
  (.cond (.t 4) (.skip)
  (.seq (.ops [g0 (.bin 7 .eql (.t 3) (.c (.str [118, 97, 114]))), mV 4 7])
  (.cond (.t 4) (.skip)
  (.seq (.ops [g0 (.bin 8 .eql (.t 3) (.c (.str [112, 117, 98]))), mV 4 8])
  (.cond (.t 4) (.skip)
  (.seq (.ops [g0 (.bin 9 .eql (.t 3) (.c (.str [102, 110]))), mV 4 9])
  (.cond (.t 4) (.skip)
  (.seq (.ops [g0 (.bin 10 .eql (.t 3) (.c (.str [105, 110, 116]))), mV 4 10])
  (.cond (.t 4) (.skip)
  (.seq (.ops [g0 (.bin 11 .eql (.t 3) (.c (.str [98, 111, 111, 108]))), mV 4 11])
  (.cond (.t 4) (.skip)
  (.seq (.ops [g0 (.bin 12 .eql (.t 3) (.c (.str [108, 101, 116]))), mV 4 12])
  (.cond (.t 4) (.skip)
  (.seq (.ops [g0 (.bin 13 .eql (.t 3) (.c (.str [105, 102]))), mV 4 13])
  (.cond (.t 4) (.skip)
  (.seq (.ops [g0 (.bin 14 .eql (.t 3) (.c (.str [101, 108, 115, 101]))), mV 4 14])
  (.cond (.t 4) (.skip)
  (.seq (.ops [g0 (.bin 15 .eql (.t 3) (.c (.str [119, 104, 105, 108, 101]))), mV 4 15])
  (.cond (.t 4) (.skip)
  (.seq (.ops [g0 (.bin 16 .eql (.t 3) (.c (.str [102, 111, 114]))), mV 4 16])
  (.cond (.t 4) (.skip)
  (.seq (.ops [g0 (.bin 17 .eql (.t 3) (.c (.str [116, 111]))), mV 4 17])
  (.cond (.t 4) (.skip)
  (.seq (.ops [g0 (.bin 18 .eql (.t 3) (.c (.str [112, 114, 105, 110, 116]))), mV 4 18])
  (.cond (.t 4) (.skip)
  (.seq (.ops [g0 (.bin 19 .eql (.t 3) (.c (.str [114, 101, 116, 117, 114, 110]))), mV 4 19])
  (.cond (.t 4) (.skip)
  (.seq (.ops [g0 (.bin 20 .eql (.t 3) (.c (.str [100, 111]))), mV 4 20])
  (.cond (.t 4) (.skip)
  (.seq (.ops [g0 (.bin 21 .eql (.t 3) (.c (.str [116, 114, 117, 101]))), mV 4 21])
  (.cond (.t 4) (.skip)
  (.seq (.ops [g0 (.bin 22 .eql (.t 3) (.c (.str [102, 97, 108, 115, 101]))), mV 4 22])
  (.cond (.t 4) (.skip)
  (.seq (.ops [g0 (.bin 23 .eql (.t 3) (.c (.str [114, 101, 97, 100]))), mV 4 23])
  (.cond (.t 4) (.skip)
  (.ops [g0 (.bin 24 .eql (.t 3) (.c (.str [110, 101, 119]))), mV 4 24])))))))))))))))))))))))))))))))))))))))
  (.cond (.t 4) (.seq (.ops [g0 (.mv 2 (.c (.bool true)))])
  (.ret))
  (.skip)))))
  (.seq (.ops [g0 (.mv 2 (.c (.bool false)))])
  (.ret))),
  [.t 2]⟩
def L153_0 : Ic := .seq (.seq (.ops [fA 21 7 7, lA 22 21 7, bK 23 .eql 22 0])
  (.cond (.t 23) (.skip)
  (.exit 0)))
  (.block 1 (.seq (.ops [mV 24 0, fA 25 7 6, lA 26 25 7, mV 27 2, cA 28 162 [(.t 24), (.t 26), (.t 27)], mV 9 28])
  (.seq (.seq (.ops [mV 29 9, bK 30 .eql 29 0, mV 31 30, g1 31 false (.mv 32 (.t 2)), g1 31 false (.bin 33 .eql (.t 32) (kI 3)), g1 31 false (.mv 34 (.t 33)), g1 34 true (.mv 35 (.t 8)), g1 34 true (.bin 36 .eql (.t 35) (kI 1)), g1 31 false (.pick 37 (.t 34) (.t 36) (.c (.bool false))), pO 38 31 37])
  (.cond (.t 38) (.seq (.ops [g0 (.load 39 (.t 7) (some 8) (some 7) false), sT 6 39 8 6])
  (.ret))
  (.skip)))
  (.seq (.ops [mV 40 0, fA 41 7 6, lA 42 41 7, bK 43 .add 42 1, mV 44 2, bK 45 .add 44 1, cA 46 153 [(.t 40), (.t 43), (.t 45)], g0 (.boxL 10 8 none [(.int .i64 0), (.int .i64 0), (.str []), .nils, (.int .i64 0), (.int .i64 0), (.int .i64 0), (.int .i64 0)]), sT 10 46 8 10])
  (.seq (.seq (.ops [fA 47 10 7, lA 48 47 10, bK 49 .neq 48 0])
  (.cond (.t 49) (.seq (.ops [g0 (.load 50 (.t 10) (some 8) (some 10) false), sT 6 50 8 6])
  (.ret))
  (.skip)))
  (.seq (.ops [mV 51 0, mV 52 1, fA 53 10 6, lA 54 53 10, mV 55 9, g0 (.fldA 56 (.t 7) 0 (some 6)), lF 57 56 7, g0 (.fldA 58 (.t 10) 0 (some 6)), lF 59 58 10, g0 (.bsl 60 6 true [(.t 57), (.t 59)]), g0 (.call (some 61) 71 [(.t 51), (.t 52), (.t 54), (kI 10), (.t 55), (.c (.str [])), (.t 60)]), sT 7 61 8 7])
  (.ops [mV 62 8, bK 63 .add 62 1, mV 8 63])))))))
/-- notary/notaryref07.Level -/
def F153 : IFunc := ⟨.pure, .seq (.ops [g0 (.boxL 6 8 none [(.int .i64 0), (.int .i64 0), (.str []), .nils, (.int .i64 0), (.int .i64 0), (.int .i64 0), (.int .i64 0)])])
  (.seq (.seq (.ops [mV 11 2, bK 12 .eql 11 6])
  (.cond (.t 12) (.seq (.ops [mV 13 0, mV 14 1, cA 15 161 [(.t 13), (.t 14)], sT 6 15 8 6])
  (.ret))
  (.skip)))
  (.seq (.ops [mV 16 0, mV 17 1, mV 18 2, bK 19 .add 18 1, cA 20 153 [(.t 16), (.t 17), (.t 19)], g0 (.boxL 7 8 none [(.int .i64 0), (.int .i64 0), (.str []), .nils, (.int .i64 0), (.int .i64 0), (.int .i64 0), (.int .i64 0)]), sT 7 20 8 7])
  (.seq (.ops [mK 8 0])
  (.seq (.block 0 (.loop L153_0))
  (.seq (.ops [g0 (.load 64 (.t 7) (some 8) (some 7) false), sT 6 64 8 6])
  (.ret)))))),
  [.cell 6 (some 8) (some 6)]⟩
/-- notary/notaryref07.Closed -/
def F154 : IFunc := ⟨.pure, .seq (.ops [g0 (.mv 10 (.c .nils)), mK 11 0, mK 12 0])
  (.seq (.seq (.ops [mV 16 0, mV 17 1, mV 18 3, cA 19 69 [(.t 16), (.t 17), (.t 18)], g0 (.un 20 .not (.t 19))])
  (.cond (.t 20) (.seq (.ops [g0 (.bsl 21 6 true []), mV 22 1, mV 10 21, mV 11 22, mK 12 6])
  (.ret))
  (.skip)))
  (.seq (.seq (.ops [mV 23 2, mV 24 23, g1 24 true (.mv 25 (.t 0)), g1 24 true (.mv 26 (.t 1)), g1 24 true (.bin 27 .add (.t 26) (kI 1)), g1 24 true (.mv 28 (.t 4)), g1 24 true (.call (some 29) 69 [(.t 25), (.t 27), (.t 28)]), pA 30 24 29])
  (.cond (.t 30) (.seq (.ops [g0 (.bsl 31 6 true []), mV 32 1, bK 33 .add 32 2, mV 10 31, mV 11 33, mK 12 0])
  (.ret))
  (.skip)))
  (.seq (.ops [mV 35 0, mV 36 1, bK 37 .add 36 1, cA 38 163 [(.t 35), (.t 37)], mV 34 38, eX 39 34 0, eX 40 34 1, eX 41 34 2, mV 13 39, mV 14 40, mV 15 41])
  (.seq (.seq (.ops [mV 42 15, bK 43 .neq 42 0])
  (.cond (.t 43) (.seq (.ops [mV 44 13, mV 45 14, mV 46 15, mV 10 44, mV 11 45, mV 12 46])
  (.ret))
  (.skip)))
  (.seq (.seq (.ops [mV 47 0, mV 48 14, mV 49 4, cA 50 69 [(.t 47), (.t 48), (.t 49)], g0 (.un 51 .not (.t 50))])
  (.cond (.t 51) (.seq (.ops [mV 52 13, mV 53 14, mV 10 52, mV 11 53, mK 12 6])
  (.ret))
  (.skip)))
  (.seq (.ops [mV 54 13, mV 55 14, bK 56 .add 55 1, mV 10 54, mV 11 56, mK 12 0])
  (.ret))))))),
  [.t 10, .t 11, .t 12]⟩
/-- notary/notaryref08.Form -/
def F155 : IFunc := ⟨.pure, .seq (.ops [mK 4 0, g0 (.mv 5 (.c .nils))])
  (.seq (.ops [g0 (.build 11 [(.str []), (.str [])] [(0, 1, (.c (.str [101, 120, 112, 114])))]), g0 (.boxL 6 2 none [(.str []), (.str [])]), sT 6 11 2 6])
  (.seq (.ops [g0 (.build 12 [(.str []), (.str [])] [(0, 1, (.c (.str [98, 108, 111, 99, 107])))]), g0 (.boxL 7 2 none [(.str []), (.str [])]), sT 7 12 2 7])
  (.seq (.ops [g0 (.build 13 [(.str []), (.str [])] [(0, 1, (.c (.str [110, 97, 109, 101])))]), g0 (.boxL 8 2 none [(.str []), (.str [])]), sT 8 13 2 8])
  (.seq (.ops [g0 (.build 14 [(.str []), (.str [])] [(0, 1, (.c (.str [115, 105, 103, 110]))), (1, 1, (.c (.str [59])))]), g0 (.boxL 9 2 none [(.str []), (.str [])]), sT 9 14 2 9])
  (.seq (.ops [g0 (.build 15 [(.str []), (.str [])] [(0, 1, (.c (.str [115, 105, 103, 110]))), (1, 1, (.c (.str [61])))]), g0 (.boxL 10 2 none [(.str []), (.str [])]), sT 10 15 2 10])
  (.seq (.seq (.ops [mV 16 0, mV 17 1, g0 (.call (some 18) 64 [(.t 16), (.t 17), (.c (.str [108, 101, 116]))])])
  (.cond (.t 18) (.seq (.seq (.ops [mV 19 0, mV 20 1, bK 21 .add 20 1, cA 22 68 [(.t 19), (.t 21)], g0 (.fld 23 (.t 22) 0 none), bK 24 .eql 23 1, mV 25 24, g1 25 true (.mv 26 (.t 0)), g1 25 true (.mv 27 (.t 1)), g1 25 true (.bin 28 .add (.t 27) (kI 2)), g1 25 true (.call (some 29) 69 [(.t 26), (.t 28), (.c (.str [58]))]), pA 30 25 29])
  (.cond (.t 30) (.seq (.ops [g0 (.build 31 [(.str []), (.str [])] [(0, 1, (.c (.str [119, 111, 114, 100]))), (1, 1, (.c (.str [108, 101, 116])))]), g0 (.load 32 (.t 8) (some 2) (some 8) false), g0 (.build 33 [(.str []), (.str [])] [(0, 1, (.c (.str [115, 105, 103, 110]))), (1, 1, (.c (.str [58])))]), g0 (.build 34 [(.str []), (.str [])] [(0, 1, (.c (.str [116, 121, 112, 101]))), (1, 1, (.c (.str [])))]), g0 (.load 35 (.t 9) (some 2) (some 9) false), g0 (.bsl 36 2 true [(.t 31), (.t 32), (.t 33), (.t 34), (.t 35)]), mK 4 21, mV 5 36])
  (.ret))
  (.skip)))
  (.seq (.ops [g0 (.build 37 [(.str []), (.str [])] [(0, 1, (.c (.str [119, 111, 114, 100]))), (1, 1, (.c (.str [108, 101, 116])))]), g0 (.load 38 (.t 8) (some 2) (some 8) false), g0 (.load 39 (.t 10) (some 2) (some 10) false), g0 (.load 40 (.t 6) (some 2) (some 6) false), g0 (.load 41 (.t 9) (some 2) (some 9) false), g0 (.bsl 42 2 true [(.t 37), (.t 38), (.t 39), (.t 40), (.t 41)]), mK 4 20, mV 5 42])
  (.ret)))
  (.skip)))
  (.seq (.seq (.ops [mV 43 0, mV 44 1, g0 (.call (some 45) 64 [(.t 43), (.t 44), (.c (.str [105, 102]))])])
  (.cond (.t 45) (.seq (.ops [g0 (.build 46 [(.str []), (.str [])] [(0, 1, (.c (.str [119, 111, 114, 100]))), (1, 1, (.c (.str [105, 102])))]), g0 (.load 47 (.t 6) (some 2) (some 6) false), g0 (.load 48 (.t 7) (some 2) (some 7) false), g0 (.build 49 [(.str []), (.str [])] [(0, 1, (.c (.str [101, 108, 115, 101]))), (1, 1, (.c (.str [])))]), g0 (.bsl 50 2 true [(.t 46), (.t 47), (.t 48), (.t 49)]), mK 4 23, mV 5 50])
  (.ret))
  (.skip)))
  (.seq (.seq (.ops [mV 51 0, mV 52 1, g0 (.call (some 53) 64 [(.t 51), (.t 52), (.c (.str [119, 104, 105, 108, 101]))])])
  (.cond (.t 53) (.seq (.ops [g0 (.build 54 [(.str []), (.str [])] [(0, 1, (.c (.str [119, 111, 114, 100]))), (1, 1, (.c (.str [119, 104, 105, 108, 101])))]), g0 (.load 55 (.t 6) (some 2) (some 6) false), g0 (.load 56 (.t 7) (some 2) (some 7) false), g0 (.bsl 57 2 true [(.t 54), (.t 55), (.t 56)]), mK 4 24, mV 5 57])
  (.ret))
  (.skip)))
  (.seq (.seq (.ops [mV 58 0, mV 59 1, g0 (.call (some 60) 64 [(.t 58), (.t 59), (.c (.str [102, 111, 114]))])])
  (.cond (.t 60) (.seq (.ops [g0 (.build 61 [(.str []), (.str [])] [(0, 1, (.c (.str [119, 111, 114, 100]))), (1, 1, (.c (.str [102, 111, 114])))]), g0 (.load 62 (.t 8) (some 2) (some 8) false), g0 (.load 63 (.t 10) (some 2) (some 10) false), g0 (.load 64 (.t 6) (some 2) (some 6) false), g0 (.build 65 [(.str []), (.str [])] [(0, 1, (.c (.str [119, 111, 114, 100]))), (1, 1, (.c (.str [116, 111])))]), g0 (.load 66 (.t 6) (some 2) (some 6) false), g0 (.load 67 (.t 7) (some 2) (some 7) false), g0 (.bsl 68 2 true [(.t 61), (.t 62), (.t 63), (.t 64), (.t 65), (.t 66), (.t 67)]), mK 4 25, mV 5 68])
  (.ret))
  (.skip)))
  (.seq (.seq (.ops [mV 69 0, mV 70 1, g0 (.call (some 71) 64 [(.t 69), (.t 70), (.c (.str [112, 114, 105, 110, 116]))])])
  (.cond (.t 71) (.seq (.ops [g0 (.build 72 [(.str []), (.str [])] [(0, 1, (.c (.str [119, 111, 114, 100]))), (1, 1, (.c (.str [112, 114, 105, 110, 116])))]), g0 (.load 73 (.t 6) (some 2) (some 6) false), g0 (.load 74 (.t 9) (some 2) (some 9) false), g0 (.bsl 75 2 true [(.t 72), (.t 73), (.t 74)]), mK 4 26, mV 5 75])
  (.ret))
  (.skip)))
  (.seq (.seq (.ops [mV 76 0, mV 77 1, g0 (.call (some 78) 64 [(.t 76), (.t 77), (.c (.str [114, 101, 116, 117, 114, 110]))])])
  (.cond (.t 78) (.seq (.ops [g0 (.build 79 [(.str []), (.str [])] [(0, 1, (.c (.str [119, 111, 114, 100]))), (1, 1, (.c (.str [114, 101, 116, 117, 114, 110])))]), g0 (.load 80 (.t 6) (some 2) (some 6) false), g0 (.load 81 (.t 9) (some 2) (some 9) false), g0 (.bsl 82 2 true [(.t 79), (.t 80), (.t 81)]), mK 4 27, mV 5 82])
  (.ret))
  (.skip)))
  (.seq (.seq (.ops [mV 83 0, mV 84 1, g0 (.call (some 85) 64 [(.t 83), (.t 84), (.c (.str [100, 111]))])])
  (.cond (.t 85) (.seq (.ops [g0 (.build 86 [(.str []), (.str [])] [(0, 1, (.c (.str [119, 111, 114, 100]))), (1, 1, (.c (.str [100, 111])))]), g0 (.load 87 (.t 6) (some 2) (some 6) false), g0 (.load 88 (.t 9) (some 2) (some 9) false), g0 (.bsl 89 2 true [(.t 86), (.t 87), (.t 88)]), mK 4 28, mV 5 89])
  (.ret))
  (.skip)))
  (.seq (.ops [g0 (.load 90 (.t 6) (some 2) (some 6) false), g0 (.load 91 (.t 10) (some 2) (some 10) false), g0 (.load 92 (.t 6) (some 2) (some 6) false), g0 (.load 93 (.t 9) (some 2) (some 9) false), g0 (.bsl 94 2 true [(.t 90), (.t 91), (.t 92), (.t 93)]), mK 4 22, mV 5 94])
  (.ret)))))))))))))),
  [.t 4, .t 5]⟩
/-- notary/notaryref08.Part -/
def F156 : IFunc := ⟨.pure, .seq (.ops [g0 (.boxL 6 8 none [(.int .i64 0), (.int .i64 0), (.str []), .nils, (.int .i64 0), (.int .i64 0), (.int .i64 0), (.int .i64 0)])])
  (.seq (.seq (.ops [mV 7 2, g0 (.bin 8 .eql (.t 7) (.c (.str [101, 120, 112, 114])))])
  (.cond (.t 8) (.seq (.ops [mV 9 0, mV 10 1, cA 11 139 [(.t 9), (.t 10)], sT 6 11 8 6])
  (.ret))
  (.skip)))
  (.seq (.seq (.ops [mV 12 2, g0 (.bin 13 .eql (.t 12) (.c (.str [116, 121, 112, 101])))])
  (.cond (.t 13) (.seq (.ops [mV 14 0, mV 15 1, cA 16 110 [(.t 14), (.t 15)], sT 6 16 8 6])
  (.ret))
  (.skip)))
  (.seq (.ops [mV 17 0, mV 18 1, cA 19 113 [(.t 17), (.t 18)], sT 6 19 8 6])
  (.ret)))),
  [.cell 6 (some 8) (some 6)]⟩
/-- (*notary/scope.scope).nested$1 -/
def F157 : IFunc := ⟨.fre, .seq (.ops [bF 4 0, bZ 5])
  (.seq (.seq (.ops [fA 6 4 0, lA 7 6 4, bK 8 .neq 7 29])
  (.cond (.t 8) (.seq (.ops [lO 9 1, lF 10 4 4, cA 11 73 [(.t 9), (.t 10)], sT 5 11 6 5])
  (.ret))
  (.skip)))
  (.seq (.seq (.ops [fA 12 2 0, lO 13 12, bK 14 .eql 13 25])
  (.cond (.t 14) (.ops [g0 (.load 15 (.t 1) none none true), lO 16 1, nC 17 16, fA 18 17 7, lO 19 18, lO 20 3, g0 (.bsl 21 1 false [(.t 20)]), g0 (.app 22 (.t 19) (.t 21) 1), nC 23 15, fA 24 23 7, g0 (.store (.t 24) (.t 22) 1 none)])
  (.skip)))
  (.seq (.ops [lO 25 1, lF 26 4 4, cA 27 74 [(.t 25), (.t 26)], sT 5 27 6 5])
  (.ret)))),
  [.cell 5 (some 6) (some 5)]⟩
/-- notary/notaryref07.Un -/
def F161 : IFunc := ⟨.pure, .seq (.ops [g0 (.boxL 4 8 none [(.int .i64 0), (.int .i64 0), (.str []), .nils, (.int .i64 0), (.int .i64 0), (.int .i64 0), (.int .i64 0)])])
  (.seq (.ops [mK 5 0])
  (.seq (.seq (.ops [mV 7 0, mV 8 1, g0 (.call (some 9) 69 [(.t 7), (.t 8), (.c (.str [45]))])])
  (.cond (.t 9) (.ops [mK 5 1])
  (.skip)))
  (.seq (.seq (.ops [mV 10 0, mV 11 1, g0 (.call (some 12) 69 [(.t 10), (.t 11), (.c (.str [33]))])])
  (.cond (.t 12) (.ops [mK 5 2])
  (.skip)))
  (.seq (.seq (.ops [mV 13 5, bK 14 .eql 13 0])
  (.cond (.t 14) (.seq (.ops [mV 15 0, mV 16 1, cA 17 164 [(.t 15), (.t 16)], sT 4 17 8 4])
  (.ret))
  (.skip)))
  (.seq (.ops [mV 18 0, mV 19 1, bK 20 .add 19 1, cA 21 161 [(.t 18), (.t 20)], g0 (.boxL 6 8 none [(.int .i64 0), (.int .i64 0), (.str []), .nils, (.int .i64 0), (.int .i64 0), (.int .i64 0), (.int .i64 0)]), sT 6 21 8 6])
  (.seq (.seq (.ops [fA 22 6 7, lA 23 22 6, bK 24 .neq 23 0])
  (.cond (.t 24) (.seq (.ops [g0 (.load 25 (.t 6) (some 8) (some 6) false), sT 4 25 8 4])
  (.ret))
  (.skip)))
  (.seq (.ops [mV 26 0, mV 27 1, fA 28 6 6, lA 29 28 6, mV 30 5, g0 (.fldA 31 (.t 6) 0 (some 6)), lF 32 31 6, g0 (.bsl 33 6 true [(.t 32)]), g0 (.call (some 34) 71 [(.t 26), (.t 27), (.t 29), (kI 11), (.t 30), (.c (.str [])), (.t 33)]), sT 4 34 8 4])
  (.ret)))))))),
  [.cell 4 (some 8) (some 4)]⟩
def L162_0 : Ic := .seq (.seq (.ops [mV 15 9, mV 16 7, lN 17 16, bT 18 .lss 15 17])
  (.cond (.t 18) (.skip)
  (.exit 0)))
  (.seq (.block 1 (.seq (.ops [mV 21 0, mV 22 1, mV 23 7, mV 24 9, g0 (.idxA 25 (.t 23) (.t 24) 1 none none), lO 26 25, cA 27 69 [(.t 21), (.t 22), (.t 26)]])
  (.cond (.t 27) (.seq (.ops [mV 28 8, mV 29 9, g0 (.idxA 30 (.t 28) (.t 29) 1 none none), lO 31 30, mV 6 31])
  (.ret))
  (.skip))))
  (.ops [mV 19 9, bK 20 .add 19 1, mV 9 20]))
/-- notary/notaryref07.Op -/
def F162 : IFunc := ⟨.pure, .seq (.ops [mK 6 0])
  (.seq (.ops [mV 11 2, cA 12 165 [(.t 11)], mV 10 12, eX 13 10 0, eX 14 10 1, mV 7 13, mV 8 14])
  (.seq (.seq (.ops [mK 9 0])
  (.block 0 (.loop L162_0)))
  (.seq (.ops [mK 6 0])
  (.ret)))),
  [.t 6]⟩
def L163_0 : Ic := .block 1 (.seq (.ops [mV 10 0, mV 11 1, cA 12 139 [(.t 10), (.t 11)], g0 (.boxL 8 8 none [(.int .i64 0), (.int .i64 0), (.str []), .nils, (.int .i64 0), (.int .i64 0), (.int .i64 0), (.int .i64 0)]), sT 8 12 8 8])
  (.seq (.seq (.ops [fA 13 8 7, lA 14 13 8, bK 15 .neq 14 0])
  (.cond (.t 15) (.seq (.ops [mV 16 7, fA 17 8 6, lA 18 17 8, fA 19 8 7, lA 20 19 8, mV 4 16, mV 5 18, mV 6 20])
  (.ret))
  (.skip)))
  (.seq (.ops [mV 21 7, g0 (.fldA 22 (.t 8) 0 (some 6)), lF 23 22 8, g0 (.bsl 24 6 true [(.t 23)]), g0 (.app 25 (.t 21) (.t 24) 6), mV 7 25])
  (.seq (.seq (.ops [mV 26 0, fA 27 8 6, lA 28 27 8, g0 (.call (some 29) 69 [(.t 26), (.t 28), (.c (.str [44]))]), g0 (.un 30 .not (.t 29))])
  (.cond (.t 30) (.seq (.ops [mV 31 7, fA 32 8 6, lA 33 32 8, mV 4 31, mV 5 33, mK 6 0])
  (.ret))
  (.skip)))
  (.ops [fA 34 8 6, lA 35 34 8, bK 36 .add 35 1, mV 1 36])))))
/-- notary/notaryref07.List -/
def F163 : IFunc := ⟨.pure, .seq (.ops [g0 (.mv 4 (.c .nils)), mK 5 0, mK 6 0])
  (.seq (.ops [g0 (.bsl 9 6 true []), mV 7 9])
  (.block 0 (.loop L163_0))),
  [.t 4, .t 5, .t 6]⟩
def L164_0 : Ic := .seq (.seq (.ops [fA 11 5 7, lA 12 11 5, bK 13 .eql 12 0])
  (.cond (.t 13) (.skip)
  (.exit 0)))
  (.block 1 (.seq (.ops [mV 14 0, fA 15 5 6, lA 16 15 5, g0 (.call (some 17) 69 [(.t 14), (.t 16), (.c (.str [91]))])])
  (.cond (.t 17) (.seq (.ops [mV 18 0, fA 19 5 6, lA 20 19 5, bK 21 .add 20 1, cA 22 139 [(.t 18), (.t 21)], g0 (.boxL 6 8 none [(.int .i64 0), (.int .i64 0), (.str []), .nils, (.int .i64 0), (.int .i64 0), (.int .i64 0), (.int .i64 0)]), sT 6 22 8 6])
  (.seq (.seq (.ops [fA 23 6 7, lA 24 23 6, bK 25 .neq 24 0])
  (.cond (.t 25) (.seq (.ops [g0 (.load 26 (.t 6) (some 8) (some 6) false), sT 4 26 8 4])
  (.ret))
  (.skip)))
  (.seq (.seq (.ops [mV 27 0, fA 28 6 6, lA 29 28 6, g0 (.call (some 30) 69 [(.t 27), (.t 29), (.c (.str [93]))]), g0 (.un 31 .not (.t 30))])
  (.cond (.t 31) (.seq (.ops [fA 32 6 6, lA 33 32 6, cA 34 67 [(.t 33)], sT 4 34 8 4])
  (.ret))
  (.skip)))
  (.ops [mV 35 0, mV 36 1, fA 37 6 6, lA 38 37 6, bK 39 .add 38 1, g0 (.fldA 40 (.t 5) 0 (some 6)), lF 41 40 5, g0 (.fldA 42 (.t 6) 0 (some 6)), lF 43 42 6, g0 (.bsl 44 6 true [(.t 41), (.t 43)]), g0 (.call (some 45) 71 [(.t 35), (.t 36), (.t 39), (kI 12), (kI 0), (.c (.str [])), (.t 44)]), sT 5 45 8 5]))))
  (.seq (.ops [mV 46 0, fA 47 5 6, lA 48 47 5, g0 (.call (some 49) 69 [(.t 46), (.t 48), (.c (.str [46]))])])
  (.cond (.t 49) (.seq (.ops [mV 50 0, fA 51 5 6, lA 52 51 5, bK 53 .add 52 1, cA 54 68 [(.t 50), (.t 53)], g0 (.boxL 7 5 none [(.int .i64 0), (.int .i64 0), (.str []), (.int .i64 0), (.int .i64 0)]), sT 7 54 5 7])
  (.seq (.seq (.ops [fA 55 7 0, lA 56 55 7, bK 57 .neq 56 1])
  (.cond (.t 57) (.seq (.ops [fA 58 5 6, lA 59 58 5, bK 60 .add 59 1, cA 61 67 [(.t 60)], sT 4 61 8 4])
  (.ret))
  (.skip)))
  (.ops [mV 62 0, mV 63 1, fA 64 5 6, lA 65 64 5, bK 66 .add 65 2, fA 67 7 2, lA 68 67 7, g0 (.fldA 69 (.t 5) 0 (some 6)), lF 70 69 5, g0 (.bsl 71 6 true [(.t 70)]), cA 72 71 [(.t 62), (.t 63), (.t 66), (kI 13), (kI 0), (.t 68), (.t 71)], sT 5 72 8 5])))
  (.seq (.ops [g0 (.load 73 (.t 5) (some 8) (some 5) false), sT 4 73 8 4])
  (.ret)))))))
/-- notary/notaryref07.Post -/
def F164 : IFunc := ⟨.pure, .seq (.ops [g0 (.boxL 4 8 none [(.int .i64 0), (.int .i64 0), (.str []), .nils, (.int .i64 0), (.int .i64 0), (.int .i64 0), (.int .i64 0)])])
  (.seq (.ops [mV 8 0, mV 9 1, cA 10 111 [(.t 8), (.t 9)], g0 (.boxL 5 8 none [(.int .i64 0), (.int .i64 0), (.str []), .nils, (.int .i64 0), (.int .i64 0), (.int .i64 0), (.int .i64 0)]), sT 5 10 8 5])
  (.seq (.block 0 (.loop L164_0))
  (.seq (.ops [g0 (.load 74 (.t 5) (some 8) (some 5) false), sT 4 74 8 4])
  (.ret)))),
  [.cell 4 (some 8) (some 4)]⟩
/-- notary/notaryref07.Ops -/
def F165 : IFunc := ⟨.pure, .seq (.ops [g0 (.mv 2 (.c .nils)), g0 (.mv 3 (.c .nils))])
  (.seq (.seq (.ops [mV 4 0, bK 5 .eql 4 1])
  (.cond (.t 5) (.seq (.ops [g0 (.bsl 6 1 false [(.c (.str [124, 124]))]), g0 (.bsl 7 1 false [(kI 1)]), mV 2 6, mV 3 7])
  (.ret))
  (.skip)))
  (.seq (.seq (.ops [mV 8 0, bK 9 .eql 8 2])
  (.cond (.t 9) (.seq (.ops [g0 (.bsl 10 1 false [(.c (.str [38, 38]))]), g0 (.bsl 11 1 false [(kI 2)]), mV 2 10, mV 3 11])
  (.ret))
  (.skip)))
  (.seq (.seq (.ops [mV 12 0, bK 13 .eql 12 3])
  (.cond (.t 13) (.seq (.ops [g0 (.bsl 14 1 false [(.c (.str [61, 61])), (.c (.str [33, 61])), (.c (.str [60])), (.c (.str [60, 61])), (.c (.str [62])), (.c (.str [62, 61]))]), g0 (.bsl 15 1 false [(kI 3), (kI 4), (kI 5), (kI 6), (kI 7), (kI 8)]), mV 2 14, mV 3 15])
  (.ret))
  (.skip)))
  (.seq (.seq (.ops [mV 16 0, bK 17 .eql 16 4])
  (.cond (.t 17) (.seq (.ops [g0 (.bsl 18 1 false [(.c (.str [43])), (.c (.str [45]))]), g0 (.bsl 19 1 false [(kI 9), (kI 10)]), mV 2 18, mV 3 19])
  (.ret))
  (.skip)))
  (.seq (.ops [g0 (.bsl 20 1 false [(.c (.str [42])), (.c (.str [47])), (.c (.str [37]))]), g0 (.bsl 21 1 false [(kI 11), (kI 12), (kI 13)]), mV 2 20, mV 3 21])
  (.ret)))))),
  [.t 2, .t 3]⟩

def tab : FTree := .n (.n (.n (.n (.n (.n (.n .e 3 F3 .e) 4 F4 .e) 5 F5 (.n (.n .e 11 F11 .e) 12 F12 .e)) 13 F13 (.n (.n (.n .e 14 F14 .e) 15 F15 .e) 16 F16 (.n .e 17 F17 .e))) 18 F18 (.n (.n (.n (.n .e 19 F19 .e) 20 F20 .e) 35 F35 (.n (.n .e 36 F36 .e) 37 F37 .e)) 38 F38 (.n (.n (.n .e 39 F39 .e) 40 F40 .e) 41 F41 (.n .e 42 F42 .e)))) 43 F43 (.n (.n (.n (.n (.n .e 44 F44 .e) 64 F64 .e) 65 F65 (.n (.n .e 66 F66 .e) 67 F67 .e)) 68 F68 (.n (.n (.n .e 69 F69 .e) 70 F70 .e) 71 F71 (.n .e 72 F72 .e))) 73 F73 (.n (.n (.n (.n .e 74 F74 .e) 75 F75 .e) 76 F76 (.n (.n .e 77 F77 .e) 78 F78 .e)) 79 F79 (.n (.n (.n .e 80 F80 .e) 81 F81 .e) 82 F82 (.n .e 83 F83 .e))))) 84 F84 (.n (.n (.n (.n (.n (.n .e 85 F85 .e) 86 F86 .e) 87 F87 (.n (.n .e 110 F110 .e) 111 F111 .e)) 112 F112 (.n (.n (.n .e 113 F113 .e) 114 F114 .e) 115 F115 (.n .e 116 F116 .e))) 117 F117 (.n (.n (.n (.n .e 118 F118 .e) 119 F119 .e) 120 F120 (.n (.n .e 121 F121 .e) 122 F122 .e)) 123 F123 (.n (.n (.n .e 124 F124 .e) 125 F125 .e) 126 F126 (.n .e 127 F127 .e)))) 128 F128 (.n (.n (.n (.n (.n .e 129 F129 .e) 130 F130 .e) 131 F131 (.n (.n .e 139 F139 .e) 140 F140 .e)) 141 F141 (.n (.n (.n .e 142 F142 .e) 143 F143 .e) 144 F144 (.n .e 145 F145 .e))) 153 F153 (.n (.n (.n (.n .e 154 F154 .e) 155 F155 .e) 156 F156 (.n .e 157 F157 .e)) 161 F161 (.n (.n (.n .e 162 F162 .e) 163 F163 .e) 164 F164 (.n .e 165 F165 .e)))))
def T (f : Nat) : Option IFunc := lookT f tab

theorem L112_0_w : L112_0.wr = [22, 23, 24, 25, 8, 26, 27, 28, 29, 30, 31, 32, 33, 34, 5, 35, 36, 6, 37, 38, 39, 7, 40, 41, 42, 6] := by kernel_rfl
theorem L112_0_p : L112_0.plain = true := by kernel_rfl
theorem L113_0_w : L113_0.wr = [17, 18, 19, 20, 21, 22, 23, 7, 24, 25, 26, 27, 28, 29, 30, 31, 32, 5, 33, 34, 6] := by kernel_rfl
theorem L113_0_p : L113_0.plain = true := by kernel_rfl
theorem L117_0_w : L117_0.wr = [20, 21, 24, 25, 26, 27, 28, 29, 30, 31, 32, 33, 34, 35, 36, 37, 38, 39, 40, 41, 42, 43, 44, 22, 23, 6] := by kernel_rfl
theorem L117_0_p : L117_0.plain = true := by kernel_rfl
theorem L118_0_w : L118_0.wr = [26, 27, 28, 11, 29, 30, 31, 32, 33, 34, 35, 36, 37, 38, 39, 40, 41, 6, 7, 42, 25] := by kernel_rfl
theorem L118_0_p : L118_0.plain = true := by kernel_rfl
theorem L125_0_w : L125_0.wr = [10, 11, 12, 13, 14, 15, 16, 17, 18, 19, 20, 21, 22, 23, 24, 25, 26, 27, 28, 29, 30, 31, 32, 33, 34, 35, 36, 37, 38, 39] := by kernel_rfl
theorem L125_0_p : L125_0.plain = true := by kernel_rfl
theorem L130_0_w : L130_0.wr = [31, 32, 6, 33, 34, 35, 36, 37, 38, 39, 40, 5, 41, 30] := by kernel_rfl
theorem L130_0_p : L130_0.plain = true := by kernel_rfl
theorem L141_0_w : L141_0.wr = [28, 29, 30, 31, 34, 35, 36, 37, 38, 11, 39, 40, 41, 42, 43, 44, 45, 46, 47, 48, 49, 50, 51, 52, 53, 54, 55, 56, 57, 58, 59, 60, 61, 62, 63, 64, 65, 66, 67, 68, 69, 70, 71, 72, 73, 74, 75, 76, 9, 77, 78, 79, 80, 81, 82, 83, 84, 85, 86, 87, 88, 89, 90, 8, 91, 92, 9, 93, 94, 95, 96, 97, 98, 99, 100, 101, 102, 103, 104, 105, 106, 12, 107, 108, 109, 110, 111, 112, 7, 113, 114, 115, 116, 9, 117, 118, 119, 120, 13, 121, 122, 123, 124, 125, 126, 127, 128, 129, 7, 130, 131, 9, 32, 33, 10] := by kernel_rfl
theorem L141_0_p : L141_0.plain = true := by kernel_rfl
theorem L143_0_w : L143_0.wr = [6, 7, 8, 9, 12, 13, 14, 15, 16, 17, 18, 19, 20, 21, 22, 4, 10, 11, 5] := by kernel_rfl
theorem L143_0_p : L143_0.plain = true := by kernel_rfl
theorem L153_0_w : L153_0.wr = [21, 22, 23, 24, 25, 26, 27, 28, 9, 29, 30, 31, 32, 33, 34, 35, 36, 37, 38, 39, 40, 41, 42, 43, 44, 45, 46, 10, 47, 48, 49, 50, 51, 52, 53, 54, 55, 56, 57, 58, 59, 60, 61, 62, 63, 8] := by kernel_rfl
theorem L153_0_p : L153_0.plain = true := by kernel_rfl
theorem L162_0_w : L162_0.wr = [15, 16, 17, 18, 21, 22, 23, 24, 25, 26, 27, 28, 29, 30, 31, 6, 19, 20, 9] := by kernel_rfl
theorem L162_0_p : L162_0.plain = true := by kernel_rfl
theorem L163_0_w : L163_0.wr = [10, 11, 12, 8, 13, 14, 15, 16, 17, 18, 19, 20, 4, 5, 6, 21, 22, 23, 24, 25, 7, 26, 27, 28, 29, 30, 31, 32, 33, 4, 5, 6, 34, 35, 36, 1] := by kernel_rfl
theorem L163_0_p : L163_0.plain = true := by kernel_rfl
theorem L164_0_w : L164_0.wr = [11, 12, 13, 14, 15, 16, 17, 18, 19, 20, 21, 22, 6, 23, 24, 25, 26, 27, 28, 29, 30, 31, 32, 33, 34, 35, 36, 37, 38, 39, 40, 41, 42, 43, 44, 45, 46, 47, 48, 49, 50, 51, 52, 53, 54, 7, 55, 56, 57, 58, 59, 60, 61, 62, 63, 64, 65, 66, 67, 68, 69, 70, 71, 72, 73] := by kernel_rfl
theorem L164_0_p : L164_0.plain = true := by kernel_rfl

end Go.Nt.Lk

/-
  THE FUNCTIONS OF THE SEAT as the abstract machine reads them (printed by a program of ours), and that they are the program's ('ok': FuncOK, by the kernel).
  No condition.
-/
namespace Go.Nt.Lk
open Go Go.Nt

theorem ok3 : okB Proofs.Try.prog 3 F3 = true := by kernel_rfl
theorem ok4 : okB Proofs.Try.prog 4 F4 = true := by kernel_rfl
theorem ok5 : okB Proofs.Try.prog 5 F5 = true := by kernel_rfl
theorem ok11 : okB Proofs.Try.prog 11 F11 = true := by kernel_rfl
theorem ok12 : okB Proofs.Try.prog 12 F12 = true := by kernel_rfl
theorem ok13 : okB Proofs.Try.prog 13 F13 = true := by kernel_rfl
theorem ok14 : okB Proofs.Try.prog 14 F14 = true := by kernel_rfl
theorem ok15 : okB Proofs.Try.prog 15 F15 = true := by kernel_rfl
theorem ok16 : okB Proofs.Try.prog 16 F16 = true := by kernel_rfl
theorem ok17 : okB Proofs.Try.prog 17 F17 = true := by kernel_rfl
theorem ok18 : okB Proofs.Try.prog 18 F18 = true := by kernel_rfl
theorem ok19 : okB Proofs.Try.prog 19 F19 = true := by kernel_rfl
theorem ok20 : okB Proofs.Try.prog 20 F20 = true := by kernel_rfl
theorem ok35 : okB Proofs.Try.prog 35 F35 = true := by kernel_rfl
theorem ok36 : okB Proofs.Try.prog 36 F36 = true := by kernel_rfl
theorem ok37 : okB Proofs.Try.prog 37 F37 = true := by kernel_rfl
theorem ok38 : okB Proofs.Try.prog 38 F38 = true := by kernel_rfl
theorem ok39 : okB Proofs.Try.prog 39 F39 = true := by kernel_rfl
theorem ok40 : okB Proofs.Try.prog 40 F40 = true := by kernel_rfl
theorem ok41 : okB Proofs.Try.prog 41 F41 = true := by kernel_rfl
theorem ok42 : okB Proofs.Try.prog 42 F42 = true := by kernel_rfl
theorem ok43 : okB Proofs.Try.prog 43 F43 = true := by kernel_rfl
theorem ok44 : okB Proofs.Try.prog 44 F44 = true := by kernel_rfl
theorem ok64 : okB Proofs.Try.prog 64 F64 = true := by kernel_rfl
theorem ok65 : okB Proofs.Try.prog 65 F65 = true := by kernel_rfl
theorem ok66 : okB Proofs.Try.prog 66 F66 = true := by kernel_rfl
theorem ok67 : okB Proofs.Try.prog 67 F67 = true := by kernel_rfl
theorem ok68 : okB Proofs.Try.prog 68 F68 = true := by kernel_rfl
theorem ok69 : okB Proofs.Try.prog 69 F69 = true := by kernel_rfl
theorem ok70 : okB Proofs.Try.prog 70 F70 = true := by kernel_rfl
theorem ok71 : okB Proofs.Try.prog 71 F71 = true := by kernel_rfl
theorem ok72 : okB Proofs.Try.prog 72 F72 = true := by kernel_rfl
theorem ok73 : okB Proofs.Try.prog 73 F73 = true := by kernel_rfl
theorem ok74 : okB Proofs.Try.prog 74 F74 = true := by kernel_rfl
theorem ok75 : okB Proofs.Try.prog 75 F75 = true := by kernel_rfl
theorem ok76 : okB Proofs.Try.prog 76 F76 = true := by kernel_rfl
theorem ok77 : okB Proofs.Try.prog 77 F77 = true := by kernel_rfl
theorem ok78 : okB Proofs.Try.prog 78 F78 = true := by kernel_rfl
theorem ok79 : okB Proofs.Try.prog 79 F79 = true := by kernel_rfl
theorem ok80 : okB Proofs.Try.prog 80 F80 = true := by kernel_rfl
theorem ok81 : okB Proofs.Try.prog 81 F81 = true := by kernel_rfl
theorem ok82 : okB Proofs.Try.prog 82 F82 = true := by kernel_rfl
theorem ok83 : okB Proofs.Try.prog 83 F83 = true := by kernel_rfl
theorem ok84 : okB Proofs.Try.prog 84 F84 = true := by kernel_rfl
theorem ok85 : okB Proofs.Try.prog 85 F85 = true := by kernel_rfl
theorem ok86 : okB Proofs.Try.prog 86 F86 = true := by kernel_rfl
theorem ok87 : okB Proofs.Try.prog 87 F87 = true := by kernel_rfl
theorem ok110 : okB Proofs.Try.prog 110 F110 = true := by kernel_rfl
theorem ok111 : okB Proofs.Try.prog 111 F111 = true := by kernel_rfl
theorem ok112 : okB Proofs.Try.prog 112 F112 = true := by kernel_rfl
theorem ok113 : okB Proofs.Try.prog 113 F113 = true := by kernel_rfl
theorem ok114 : okB Proofs.Try.prog 114 F114 = true := by kernel_rfl
theorem ok115 : okB Proofs.Try.prog 115 F115 = true := by kernel_rfl
theorem ok116 : okB Proofs.Try.prog 116 F116 = true := by kernel_rfl
theorem ok117 : okB Proofs.Try.prog 117 F117 = true := by kernel_rfl
theorem ok118 : okB Proofs.Try.prog 118 F118 = true := by kernel_rfl
theorem ok119 : okB Proofs.Try.prog 119 F119 = true := by kernel_rfl
theorem ok120 : okB Proofs.Try.prog 120 F120 = true := by kernel_rfl
theorem ok121 : okB Proofs.Try.prog 121 F121 = true := by kernel_rfl
theorem ok122 : okB Proofs.Try.prog 122 F122 = true := by kernel_rfl
theorem ok123 : okB Proofs.Try.prog 123 F123 = true := by kernel_rfl
theorem ok124 : okB Proofs.Try.prog 124 F124 = true := by kernel_rfl
theorem ok125 : okB Proofs.Try.prog 125 F125 = true := by kernel_rfl
theorem ok126 : okB Proofs.Try.prog 126 F126 = true := by kernel_rfl
theorem ok127 : okB Proofs.Try.prog 127 F127 = true := by kernel_rfl
theorem ok128 : okB Proofs.Try.prog 128 F128 = true := by kernel_rfl
theorem ok129 : okB Proofs.Try.prog 129 F129 = true := by kernel_rfl
theorem ok130 : okB Proofs.Try.prog 130 F130 = true := by kernel_rfl
theorem ok131 : okB Proofs.Try.prog 131 F131 = true := by kernel_rfl
theorem ok139 : okB Proofs.Try.prog 139 F139 = true := by kernel_rfl
theorem ok140 : okB Proofs.Try.prog 140 F140 = true := by kernel_rfl
theorem ok141 : okB Proofs.Try.prog 141 F141 = true := by kernel_rfl
theorem ok142 : okB Proofs.Try.prog 142 F142 = true := by kernel_rfl
theorem ok143 : okB Proofs.Try.prog 143 F143 = true := by kernel_rfl
theorem ok144 : okB Proofs.Try.prog 144 F144 = true := by kernel_rfl
theorem ok145 : okB Proofs.Try.prog 145 F145 = true := by kernel_rfl
theorem ok153 : okB Proofs.Try.prog 153 F153 = true := by kernel_rfl
theorem ok154 : okB Proofs.Try.prog 154 F154 = true := by kernel_rfl
theorem ok155 : okB Proofs.Try.prog 155 F155 = true := by kernel_rfl
theorem ok156 : okB Proofs.Try.prog 156 F156 = true := by kernel_rfl
theorem ok157 : okB Proofs.Try.prog 157 F157 = true := by kernel_rfl
theorem ok161 : okB Proofs.Try.prog 161 F161 = true := by kernel_rfl
theorem ok162 : okB Proofs.Try.prog 162 F162 = true := by kernel_rfl
theorem ok163 : okB Proofs.Try.prog 163 F163 = true := by kernel_rfl
theorem ok164 : okB Proofs.Try.prog 164 F164 = true := by kernel_rfl
theorem ok165 : okB Proofs.Try.prog 165 F165 = true := by kernel_rfl

theorem oks : allF (FuncOK Proofs.Try.prog) tab := ⟨⟨⟨⟨⟨⟨⟨trivial, okB_ok ok3, trivial⟩, okB_ok ok4, trivial⟩, okB_ok ok5, ⟨⟨trivial, okB_ok ok11, trivial⟩, okB_ok ok12, trivial⟩⟩, okB_ok ok13, ⟨⟨⟨trivial, okB_ok ok14, trivial⟩, okB_ok ok15, trivial⟩, okB_ok ok16, ⟨trivial, okB_ok ok17, trivial⟩⟩⟩, okB_ok ok18, ⟨⟨⟨⟨trivial, okB_ok ok19, trivial⟩, okB_ok ok20, trivial⟩, okB_ok ok35, ⟨⟨trivial, okB_ok ok36, trivial⟩, okB_ok ok37, trivial⟩⟩, okB_ok ok38, ⟨⟨⟨trivial, okB_ok ok39, trivial⟩, okB_ok ok40, trivial⟩, okB_ok ok41, ⟨trivial, okB_ok ok42, trivial⟩⟩⟩⟩, okB_ok ok43, ⟨⟨⟨⟨⟨trivial, okB_ok ok44, trivial⟩, okB_ok ok64, trivial⟩, okB_ok ok65, ⟨⟨trivial, okB_ok ok66, trivial⟩, okB_ok ok67, trivial⟩⟩, okB_ok ok68, ⟨⟨⟨trivial, okB_ok ok69, trivial⟩, okB_ok ok70, trivial⟩, okB_ok ok71, ⟨trivial, okB_ok ok72, trivial⟩⟩⟩, okB_ok ok73, ⟨⟨⟨⟨trivial, okB_ok ok74, trivial⟩, okB_ok ok75, trivial⟩, okB_ok ok76, ⟨⟨trivial, okB_ok ok77, trivial⟩, okB_ok ok78, trivial⟩⟩, okB_ok ok79, ⟨⟨⟨trivial, okB_ok ok80, trivial⟩, okB_ok ok81, trivial⟩, okB_ok ok82, ⟨trivial, okB_ok ok83, trivial⟩⟩⟩⟩⟩, okB_ok ok84, ⟨⟨⟨⟨⟨⟨trivial, okB_ok ok85, trivial⟩, okB_ok ok86, trivial⟩, okB_ok ok87, ⟨⟨trivial, okB_ok ok110, trivial⟩, okB_ok ok111, trivial⟩⟩, okB_ok ok112, ⟨⟨⟨trivial, okB_ok ok113, trivial⟩, okB_ok ok114, trivial⟩, okB_ok ok115, ⟨trivial, okB_ok ok116, trivial⟩⟩⟩, okB_ok ok117, ⟨⟨⟨⟨trivial, okB_ok ok118, trivial⟩, okB_ok ok119, trivial⟩, okB_ok ok120, ⟨⟨trivial, okB_ok ok121, trivial⟩, okB_ok ok122, trivial⟩⟩, okB_ok ok123, ⟨⟨⟨trivial, okB_ok ok124, trivial⟩, okB_ok ok125, trivial⟩, okB_ok ok126, ⟨trivial, okB_ok ok127, trivial⟩⟩⟩⟩, okB_ok ok128, ⟨⟨⟨⟨⟨trivial, okB_ok ok129, trivial⟩, okB_ok ok130, trivial⟩, okB_ok ok131, ⟨⟨trivial, okB_ok ok139, trivial⟩, okB_ok ok140, trivial⟩⟩, okB_ok ok141, ⟨⟨⟨trivial, okB_ok ok142, trivial⟩, okB_ok ok143, trivial⟩, okB_ok ok144, ⟨trivial, okB_ok ok145, trivial⟩⟩⟩, okB_ok ok153, ⟨⟨⟨⟨trivial, okB_ok ok154, trivial⟩, okB_ok ok155, trivial⟩, okB_ok ok156, ⟨trivial, okB_ok ok157, trivial⟩⟩, okB_ok ok161, ⟨⟨⟨trivial, okB_ok ok162, trivial⟩, okB_ok ok163, trivial⟩, okB_ok ok164, ⟨trivial, okB_ok ok165, trivial⟩⟩⟩⟩⟩⟩
theorem ok (f : Nat) (ifn : IFunc) (h : T f = some ifn) : FuncOK Proofs.Try.prog f ifn := all_look tab (oks) h

end Go.Nt.Lk
