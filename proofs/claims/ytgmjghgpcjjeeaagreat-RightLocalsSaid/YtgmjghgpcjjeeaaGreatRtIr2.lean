/-
  HEAPS, POINT BY POINT; objects behind a heap.
  No condition.
-/
import Derived.Test.YtgmjghgpcjjeeaaGreatNtRead
namespace Go.Nt

theorem at_get {st : St} {i : Nat} (h : i < st.length) : St.at st i = st[i] := by simp [St.at, h]

theorem settledN_of {n : Nat} : ∀ {st st' : St}, st.length ≤ st'.length → (∀ i, i < st.length → St.at st' i = St.at st i ∨ (St.at st' i).pureO = true ∨ (St.at st' i).old n = true) → settledN n st st' = true
  | [], _, _, _ => rfl
  | _ :: _, [], h, _ => by simp at h
  | o :: st, o' :: st', hl, h => by
    simp only [settledN, Bool.and_eq_true, Bool.or_eq_true, beq_iff_eq]
    refine ⟨?_, settledN_of (by simpa using hl) fun i hi => h (i + 1) (by simpa using hi)⟩
    rcases h 0 (by simp) with q | q | q
    · left; left; have q' : o' = o := q
      rw [q']
    · exact .inl (.inr q)
    · exact .inr q
theorem settled_old {st st' : St} (hl : st.length ≤ st'.length) (h : ∀ i, i < st.length → St.at st' i = St.at st i ∨ (St.at st' i).pureO = true ∨ (St.at st' i).old st.length = true) : settled st st' = true := settledN_of hl h
theorem settled_of {st st' : St} (hl : st.length ≤ st'.length) (h : ∀ i, i < st.length → St.at st' i = St.at st i ∨ (St.at st' i).pureO = true) : settled st st' = true :=
  settledN_of hl fun i hi => (h i hi).elim .inl fun q => .inr (.inl q)

theorem take_of {st st' : St} (hl : st.length ≤ st'.length) (h : ∀ i, i < st.length → St.at st' i = St.at st i) : st'.take st.length = st := by
  refine List.ext_getElem (by rw [List.length_take]; omega) fun i h1 h2 => ?_
  have := h i h2
  rw [at_get h2, at_get (by omega)] at this
  rw [List.getElem_take]; exact this

theorem settled_set {st : St} {i : Nat} {o : Ob} (ho : o.pureO = true) : settled st (List.set st i o) = true := by
  refine settled_of (by simp) fun j hj => ?_
  by_cases hi : i < st.length
  · rw [at_set _ _ _ _ hi]
    by_cases e : j = i
    · rw [if_pos e]; exact .inr ho
    · rw [if_neg e]; exact .inl rfl
  · rw [List.set_eq_of_length_le (by omega)]; exact .inl rfl

/-! ### Objects behind a heap -/

theorem at_app (st l : St) (k : Nat) : St.at (st ++ l) (st.length + k) = St.at l k := by
  simp only [St.at, List.getD_eq_getElem?_getD]
  rw [List.getElem?_append_right (by omega), Nat.add_sub_cancel_left]
theorem at_app0 (st l : St) : St.at (st ++ l) st.length = St.at l 0 := at_app st l 0
theorem at_lt (st l : St) {i : Nat} (h : i < st.length) : St.at (st ++ l) i = St.at st i := by simp [St.at, List.getElem?_append_left h]
theorem set_app (st l : St) (k : Nat) (o : Ob) : List.set (st ++ l) (st.length + k) o = st ++ List.set l k o := by
  rw [List.set_append_right _ _ (by omega)]; simp
theorem set_app0 (st l : St) (o : Ob) : List.set (st ++ l) st.length o = st ++ List.set l 0 o := set_app st l 0 o
theorem set_lt (st l : St) {i : Nat} (h : i < st.length) (o : Ob) : List.set (st ++ l) i o = List.set st i o ++ l := List.set_append_left _ _ h

/-- A pure call, its arguments freed first. -/
theorem callD_free {T : Nat → Option IFunc} {go : GoF} {f : Nat} {fn : IFunc} (hT : T f = some fn) (hm : fn.mode = .pure) {args args' : List D} {st st' : St} {q : D} (h1 : pureArgs st args = some (args', st')) (h2 : pureArgs st' args' = some (args', st'))
    (h : callD T go f args' st' = some (q, st')) : callD T go f args st = some (q, st') := by
  simp only [callD, hT, hm, h1, h2, Option.bind_some] at h ⊢
  exact h

@[simp] theorem rewrap_nils (d : D) : rewrap .nils [d] = some d := (rfl)
@[simp] theorem rewrap_rs (i v z o l : Nat) (f : Bool) (d : D) : rewrap (.rs i v z o l f) [d] = some d := (rfl)
@[simp] theorem rewrap_sl (z : Nat) (f : Bool) (ds : List D) (d : D) : rewrap (.sl z f ds) [d] = some d := (rfl)
@[simp] theorem rewrap_int (k : IntKind) (n : Int) (d : D) : rewrap (.int k n) [d] = some d := (rfl)
@[simp] theorem rewrap_bool (b : Bool) (d : D) : rewrap (.bool b) [d] = some d := (rfl)
@[simp] theorem rewrap_str (s : List UInt8) (d : D) : rewrap (.str s) [d] = some d := (rfl)

/-- How a run ends that a call by 'cut' comes to. -/
def Ends (st : St) (q : D) (st3 : St) (res : Option (D × St)) : Prop := ∃ r st1 st2, res = some (r, st1) ∧ fz st1 r = some (q, st2) ∧ settled st st2 = true ∧ st2.take st.length = st3
theorem Ends.mk {st st3 st1 st2 : St} {q r : D} (h1 : fz st1 r = some (q, st2)) (h2 : settled st st2 = true ∧ st2.take st.length = st3) : Ends st q st3 (some (r, st1)) := ⟨r, st1, st2, rfl, h1, h2.1, h2.2⟩

theorem callD_cutE {T : Nat → Option IFunc} {f : Nat} {fn : IFunc} (hT : T f = some fn) (hm : fn.mode = .cut) {args : List D} {st st3 : St} {q : D} (hargs : args.all D.okv = true)
    (hp : q.pureT = true) (h : Ends st q st3 (ev T f args st)) : callD T (ev T) f args st = some (q, st3) := by
  obtain ⟨r, st1, st2, h1, h2, h3, h4⟩ := h
  exact callD_cut hT hm hargs h1 h2 hp h3 h4

end Go.Nt

/-
  BRANCHES that are not decided yet, by 'simp'; what a loop does not write; how calls and runs end.
  No condition.
-/
namespace Go.Nt

variable {T : Nat → Option IFunc} {go : GoF} {lp' : Ic → Cfg → Option (Ex × Cfg)}

theorem kC_b (t : Bool) (a b : Ic) (c : Cfg) : kC T go lp' a b c (.bool t) = if t = true then rn T go lp' a c else rn T go lp' b c := by cases t <;> rfl
theorem kG_b (w t : Bool) (io : Io) (os : List Gi) (s : List D) (b : List (Nat × List D)) (st : St) : kG T go w io os s b st (.bool t) = if t = w then runOps T go (g0 io :: os) ⟨⟨s, b⟩, st⟩ else runOps T go os ⟨⟨putO s io.dst .undef, b⟩, st⟩ := (rfl)
theorem kseq_ite {p : Prop} [Decidable p] (k : Cfg → Option (Ex × Cfg)) (x y : Option (Ex × Cfg)) : kseq k (if p then x else y) = if p then kseq k x else kseq k y := by split <;> rfl
theorem kblock_ite {p : Prop} [Decidable p] (id : Nat) (x y : Option (Ex × Cfg)) : kblock id (if p then x else y) = if p then kblock id x else kblock id y := by split <;> rfl
theorem kfin_ite {p : Prop} [Decidable p] (r : List Rv) (x y : Option (Ex × Cfg)) : kfin r (if p then x else y) = if p then kfin r x else kfin r y := by split <;> rfl
theorem kL_ite {p : Prop} [Decidable p] (a : Ic) (x y : Option (Ex × Cfg)) : kL T a (if p then x else y) = if p then kL T a x else kL T a y := by split <;> rfl
theorem kE_ite {p : Prop} [Decidable p] (d : Option Nat) (s : List D) (b : List (Nat × List D)) (st : St) (os : List Gi) (x y : Option Eff) :
    kE T go d s b st os (if p then x else y) = if p then kE T go d s b st os x else kE T go d s b st os y := by split <;> rfl
theorem map_ite {α β : Type} {p : Prop} [Decidable p] (f : α → β) (x y : Option α) : Option.map f (if p then x else y) = if p then Option.map f x else Option.map f y := by split <;> rfl
theorem obind_ite {α β : Type} {p : Prop} [Decidable p] (f : α → Option β) (x y : Option α) : Option.bind (if p then x else y) f = if p then Option.bind x f else Option.bind y f := by split <;> rfl
theorem Stops_ite {p : Prop} [Decidable p] (x y : Option (Ex × Cfg)) (Q : Ex → List D → List (Nat × List D) → St → Prop) : Stops (if p then x else y) Q = if p then Stops x Q else Stops y Q := by split <;> rfl

/-- How a function's run ends. -/
def Ret (x : Option (D × St)) (Q : D → St → Prop) : Prop := ∃ r st, x = some (r, st) ∧ Q r st
@[simp] theorem Ret_some (r : D) (st : St) (Q : D → St → Prop) : Ret (some (r, st)) Q ↔ Q r st := by
  constructor
  · rintro ⟨r', st', h, q⟩; cases h; exact q
  · exact fun h => ⟨r, st, rfl, h⟩
theorem Ret_ite {p : Prop} [Decidable p] (x y : Option (D × St)) (Q : D → St → Prop) : Ret (if p then x else y) Q = if p then Ret x Q else Ret y Q := by split <;> rfl

theorem callD_rawE {f : Nat} {fn : IFunc} (hT : T f = some fn) (hm : fn.mode = .raw) {args : List D} {st : St} (hargs : args.all D.okv = true) : callD T (ev T) f args st = ev T f args st := by
  simp only [callD, hT, hm, hargs, if_true]

/-- A call by 'fre'. -/
theorem callD_freE {f : Nat} {fn : IFunc} (hT : T f = some fn) (hm : fn.mode = .fre) {args : List D} {st : St} {r q : D} {st1 st2 : St} (hargs : args.all D.okv = true)
    (h : ev T f args st = some (r, st1)) (hr : fz st1 r = some (q, st2)) (hp : q.pureT = true) : callD T (ev T) f args st = some (q, st2) := by
  simp only [callD, hT, hm, hargs, if_true, h, Option.bind_some, hr, hp]

/-- A call by 'pure' whose run ends so. -/
theorem callD_pureR {f : Nat} {fn : IFunc} (hT : T f = some fn) (hm : fn.mode = .pure) {args : List D} {st : St} {q : D} (hargs : pureArgs st args = some (args, st)) (hp : q.pureT = true)
    (h : Ret (ev T f args []) fun r st1 => ∃ st2, fz st1 r = some (q, st2)) : callD T (ev T) f args st = some (q, st) := by
  obtain ⟨r, st1, h1, st2, h2⟩ := h
  exact callD_pure hT hm hargs h1 h2 hp

/-- The same where the run's value is free of the heap. -/
theorem callD_pureQ {f : Nat} {fn : IFunc} (hT : T f = some fn) (hm : fn.mode = .pure) {args : List D} {st : St} {q : D} (hargs : pureArgs st args = some (args, st)) (hp : q.pureT = true)
    (hf : ∀ st, fz st q = some (q, st)) (h : Ret (ev T f args []) fun r _ => r = q) : callD T (ev T) f args st = some (q, st) := by
  obtain ⟨r, st1, h1, rfl⟩ := h
  exact callD_pure hT hm hargs h1 (hf st1) hp

/-- A round of a loop. -/
theorem lp_at (L body : Ic) (h : L = body) (c : Cfg) : lp T L c = kL T L (rn T (ev T) (lp T) body c) := by subst h; exact lp_eq L c

/-! ### What a loop does not write -/

theorem putO_frame (s : List D) (d : Option Nat) (x : D) (t : Nat) (h : d ≠ some t) : get (putO s d x) t = get s t := by
  cases d with
  | none => rfl
  | some d =>
    simp only [putO, get_put]
    rw [if_neg]
    intro e; subst e; exact h rfl

theorem step_frame {c c' : Cfg} {o : Gi} (h : step T go c o = some c') : (∀ t, o.io.dst ≠ some t → get c'.1.s t = get c.1.s t) ∧ ∀ x, o.io.wbox ≠ some x → getB c'.1.b x = getB c.1.b x := by
  unfold step at h
  split at h
  · cases h
  split at h
  · obtain ⟨e, he, rfl⟩ := Option.map_eq_some_iff.1 h
    have hw := (act_writes he).1
    refine ⟨fun t ht => putO_frame _ _ _ _ ht, fun x hx => ?_⟩
    simp only [apply]
    split
    · rename_i y hy
      rw [getB_putB, if_neg]
      intro q
      exact hx (by rw [hw y hy, q])
    · rfl
  · simp only [Option.some.injEq] at h
    subst h
    exact ⟨fun t ht => putO_frame _ _ _ _ ht, fun x _ => rfl⟩

theorem runOps_frame : ∀ {l : List Gi} {c c' : Cfg}, runOps T go l c = some c' → (∀ t, t ∉ l.filterMap (fun g => g.io.dst) → get c'.1.s t = get c.1.s t) ∧ ∀ x, x ∉ l.filterMap (fun g => g.io.wbox) → getB c'.1.b x = getB c.1.b x
  | [], c, c', h => by simp only [runOps, Option.some.injEq] at h; subst h; exact ⟨fun _ _ => rfl, fun _ _ => rfl⟩
  | o :: l, c, c', h => by
    simp only [runOps, Option.bind_eq_some_iff] at h
    obtain ⟨c1, h1, h2⟩ := h
    obtain ⟨a1, a2⟩ := step_frame h1
    obtain ⟨b1, b2⟩ := runOps_frame h2
    refine ⟨fun t ht => ?_, fun x hx => ?_⟩
    · rw [b1 t fun q => ht (by rw [List.mem_filterMap] at q ⊢; obtain ⟨g, k1, k2⟩ := q; exact ⟨g, List.mem_cons_of_mem _ k1, k2⟩)]
      exact a1 t fun q => ht (List.mem_filterMap.2 ⟨o, by simp, q⟩)
    · rw [b2 x fun q => hx (by rw [List.mem_filterMap] at q ⊢; obtain ⟨g, k1, k2⟩ := q; exact ⟨g, List.mem_cons_of_mem _ k1, k2⟩)]
      exact a2 x fun q => hx (List.mem_filterMap.2 ⟨o, by simp, q⟩)

/-- A frame and what it was. -/
def Fram (L : Ic) (c c' : Cfg) : Prop := (∀ t, t ∉ L.wr → get c'.1.s t = get c.1.s t) ∧ ∀ x, x ∉ L.wrB → getB c'.1.b x = getB c.1.b x
theorem Fram.refl (L : Ic) (c : Cfg) : Fram L c c := ⟨fun _ _ => rfl, fun _ _ => rfl⟩

theorem run_frame {fuel : Nat} : ∀ {a : Ic} {c c' : Cfg} {e : Ex}, a.plain = true → run T go fuel a c = some (e, c') → Fram a c c'
  | .skip, c, c', e, _, h => by simp only [run, Option.some.injEq, Prod.mk.injEq] at h; obtain ⟨rfl, rfl⟩ := h; exact .refl _ _
  | .exit id, c, c', e, _, h => by simp only [run, Option.some.injEq, Prod.mk.injEq] at h; obtain ⟨rfl, rfl⟩ := h; exact .refl _ _
  | .ret, c, c', e, _, h => by simp only [run, Option.some.injEq, Prod.mk.injEq] at h; obtain ⟨rfl, rfl⟩ := h; exact .refl _ _
  | .prim k, c, c', e, hp, h => by cases hp
  | .amb y x a b, c, c', e, hp, h => by
    have F := run_far hp h
    refine ⟨F.1, fun z hz => ?_⟩
    simp only [run, Option.bind_eq_some_iff] at h
    obtain ⟨⟨e1, c1⟩, _, ⟨e2, c2⟩, _, h⟩ := h
    unfold ambJ at h
    split at h
    · rw [Option.map_eq_some_iff] at h
      obtain ⟨st, _, h⟩ := h
      simp only [Prod.mk.injEq] at h
      obtain ⟨_, rfl⟩ := h
      rfl
    · cases h
  | .ops l, c, c', e, _, h => by
    simp only [run, Option.bind_eq_some_iff, Option.some.injEq, Prod.mk.injEq] at h
    obtain ⟨c1, h1, rfl, rfl⟩ := h
    exact runOps_frame h1
  | .seq a b, c, c', e, hp, h => by
    simp only [Ic.plain, Bool.and_eq_true] at hp
    simp only [run, Option.bind_eq_some_iff] at h
    obtain ⟨⟨e1, c1⟩, h1, h2⟩ := h
    obtain ⟨a1, a2⟩ := run_frame hp.1 h1
    cases e1 with
    | normal =>
      obtain ⟨b1, b2⟩ := run_frame hp.2 h2
      refine ⟨fun t ht => ?_, fun t ht => ?_⟩
      · simp only [Ic.wr, List.mem_append, not_or] at ht
        rw [b1 t ht.2, a1 t ht.1]
      · simp only [Ic.wrB, List.mem_append, not_or] at ht
        rw [b2 t ht.2, a2 t ht.1]
    | ret =>
      simp only [Option.some.injEq, Prod.mk.injEq] at h2
      obtain ⟨_, rfl⟩ := h2
      refine ⟨fun t ht => ?_, fun t ht => ?_⟩
      · simp only [Ic.wr, List.mem_append, not_or] at ht
        exact a1 t ht.1
      · simp only [Ic.wrB, List.mem_append, not_or] at ht
        exact a2 t ht.1
    | exit id =>
      simp only [Option.some.injEq, Prod.mk.injEq] at h2
      obtain ⟨_, rfl⟩ := h2
      refine ⟨fun t ht => ?_, fun t ht => ?_⟩
      · simp only [Ic.wr, List.mem_append, not_or] at ht
        exact a1 t ht.1
      · simp only [Ic.wrB, List.mem_append, not_or] at ht
        exact a2 t ht.1
  | .cond x a b, c, c', e, hp, h => by
    simp only [Ic.plain, Bool.and_eq_true] at hp
    simp only [run] at h
    split at h
    · rename_i t _
      cases t with
      | true =>
        obtain ⟨a1, a2⟩ := run_frame hp.1 h
        refine ⟨fun t ht => ?_, fun t ht => ?_⟩
        · simp only [Ic.wr, List.mem_append, not_or] at ht; exact a1 t ht.1
        · simp only [Ic.wrB, List.mem_append, not_or] at ht; exact a2 t ht.1
      | false =>
        obtain ⟨a1, a2⟩ := run_frame hp.2 h
        refine ⟨fun t ht => ?_, fun t ht => ?_⟩
        · simp only [Ic.wr, List.mem_append, not_or] at ht; exact a1 t ht.2
        · simp only [Ic.wrB, List.mem_append, not_or] at ht; exact a2 t ht.2
    · cases h
  | .block id a, c, c', e, hp, h => by
    simp only [run, Option.bind_eq_some_iff] at h
    obtain ⟨⟨e1, c1⟩, h1, h2⟩ := h
    obtain ⟨a1, a2⟩ := run_frame (show a.plain = true from hp) h1
    cases e1 <;> (simp only [Option.some.injEq, Prod.mk.injEq] at h2; obtain ⟨_, rfl⟩ := h2; exact ⟨a1, a2⟩)
  | .loop a, c, c', e, hp, h => by
    simp only [run] at h
    have key : ∀ n c, iter (run T go fuel a) n c = some (e, c') → Fram a c c' := by
      intro n
      induction n with
      | zero => intro c h; cases h
      | succ n ih =>
        intro c h
        simp only [iter, Option.bind_eq_some_iff] at h
        obtain ⟨⟨e1, c1⟩, h1, h2⟩ := h
        obtain ⟨a1, a2⟩ := run_frame (show a.plain = true from hp) h1
        cases e1 with
        | normal =>
          obtain ⟨b1, b2⟩ := ih c1 h2
          exact ⟨fun t ht => by rw [b1 t ht, a1 t ht], fun t ht => by rw [b2 t ht, a2 t ht]⟩
        | ret => simp only [Option.some.injEq, Prod.mk.injEq] at h2; obtain ⟨_, rfl⟩ := h2; exact ⟨a1, a2⟩
        | exit id => simp only [Option.some.injEq, Prod.mk.injEq] at h2; obtain ⟨_, rfl⟩ := h2; exact ⟨a1, a2⟩
    exact key _ _ h

theorem lp_frame {a : Ic} (hp : a.plain = true) {c c' : Cfg} {e : Ex} (h : lp T a c = some (e, c')) : Fram a c c' := by
  obtain ⟨k, hk⟩ := (lim_iff (lp_mono a c) _).1 h
  exact run_frame (a := .loop a) (T := T) (go := evT T k) (fuel := k) hp hk

/-- A loop's end, and what it left as it was. -/
theorem Stops.fr {L : Ic} (hp : L.plain = true) {W : List Nat} (hW : L.wr = W) {s0 : List D} {b0 : List (Nat × List D)} {st0 : St} {Q : Ex → List D → List (Nat × List D) → St → Prop} (h : Stops (lp T L ⟨⟨s0, b0⟩, st0⟩) Q)
    (F : Option (Ex × Cfg) → Prop) (k : ∀ e s b st, Q e s b st → (∀ t, W.contains t = false → get s t = get s0 t) → F (some (e, ⟨⟨s, b⟩, st⟩))) : F (lp T L ⟨⟨s0, b0⟩, st0⟩) := by
  obtain ⟨e, s, b, st, hr, q⟩ := h
  obtain ⟨f1, _⟩ := lp_frame hp hr
  rw [hr]
  refine k e s b st q fun t ht => f1 t ?_
  rw [hW]
  intro hm
  rw [List.contains_iff_mem.2 hm] at ht
  cases ht
theorem Stops.frB {L : Ic} (hp : L.plain = true) {W WB : List Nat} (hW : L.wr = W) (hB : L.wrB = WB) {s0 : List D} {b0 : List (Nat × List D)} {st0 : St} {Q : Ex → List D → List (Nat × List D) → St → Prop} (h : Stops (lp T L ⟨⟨s0, b0⟩, st0⟩) Q)
    (F : Option (Ex × Cfg) → Prop) (k : ∀ e s b st, Q e s b st → (∀ t, W.contains t = false → get s t = get s0 t) → (∀ t, WB.contains t = false → getB b t = getB b0 t) → F (some (e, ⟨⟨s, b⟩, st⟩))) : F (lp T L ⟨⟨s0, b0⟩, st0⟩) := by
  obtain ⟨e, s, b, st, hr, q⟩ := h
  obtain ⟨f1, f2⟩ := lp_frame hp hr
  rw [hr]
  refine k e s b st q (fun t ht => f1 t ?_) fun t ht => f2 t ?_
  · rw [hW]
    intro hm
    rw [List.contains_iff_mem.2 hm] at ht
    cases ht
  · rw [hB]
    intro hm
    rw [List.contains_iff_mem.2 hm] at ht
    cases ht

end Go.Nt

/-
  SHORT NAMES for operations that come often in printed functions.
  No condition.
-/
namespace Go.Nt
open Go
abbrev zT : List D := [(.int .i64 0), (.int .i64 0), (.str []), .nils, (.int .i64 0), (.int .i64 0)]
abbrev kI (k : Int) : Opd := .c (.int .i64 k)
abbrev fA (d x o : Nat) : Gi := g0 (.fldA d (.t x) o none)
abbrev mV (d x : Nat) : Gi := g0 (.mv d (.t x))
abbrev mK (d : Nat) (k : Int) : Gi := g0 (.mv d (kI k))
abbrev lA (d x b : Nat) : Gi := g0 (.load d (.t x) none (some b) false)
abbrev lF (d x b : Nat) : Gi := g0 (.load d (.t x) (some 6) (some b) false)
abbrev lO (d x : Nat) : Gi := g0 (.load d (.t x) none none false)
abbrev lP (d x : Nat) : Gi := g0 (.load d (.t x) (some 6) none false)
abbrev eX (d x i : Nat) : Gi := g0 (.ext d (.t x) i)
abbrev bF (d x : Nat) : Gi := g0 (.boxL d 6 (some (.t x)) [])
abbrev bZ (d : Nat) : Gi := g0 (.boxL d 6 none zT)
abbrev sT (p x n b : Nat) : Gi := g0 (.store (.t p) (.t x) n (some b))
abbrev iX (d x i : Nat) : Gi := g0 (.idxA d (.t x) (.t i) 6 (some 6) none)
abbrev lN (d x : Nat) : Gi := g0 (.len d .slice (.t x) false)
abbrev nC (d x : Nat) : Gi := g0 (.nilc (some d) (.t x))
abbrev bT (d : Nat) (op : BinOp) (x y : Nat) : Gi := g0 (.bin d op (.t x) (.t y))
abbrev bK (d : Nat) (op : BinOp) (x : Nat) (k : Int) : Gi := g0 (.bin d op (.t x) (kI k))
abbrev pO (d c b : Nat) : Gi := g0 (.pick d (.t c) (.c (.bool true)) (.t b))
abbrev pA (d c a : Nat) : Gi := g0 (.pick d (.t c) (.t a) (.c (.bool false)))
abbrev cA (d f : Nat) (xs : List Opd) : Gi := g0 (.call (some d) f xs)

/-- Functions by their numbers. -/
inductive FTree where
  | e
  | n (l : FTree) (k : Nat) (F : IFunc) (r : FTree)
def lookT (f : Nat) : FTree → Option IFunc
  | .e => none
  | .n l k F r => bif Nat.ble (f + 1) k then lookT f l else bif Nat.beq f k then some F else lookT f r
def allF (P : Nat → IFunc → Prop) : FTree → Prop
  | .e => True
  | .n l k F r => allF P l ∧ (P k F ∧ allF P r)
theorem all_look {P : Nat → IFunc → Prop} {f : Nat} {ifn : IFunc} : ∀ (t : FTree), allF P t → lookT f t = some ifn → P f ifn
  | .e, _, h => by cases h
  | .n l k F r, h, q => by
    rw [lookT] at q
    cases h1 : Nat.ble (f + 1) k with
    | true => rw [h1] at q; exact all_look l h.1 q
    | false =>
      rw [h1] at q
      cases h2 : Nat.beq f k with
      | true => rw [h2] at q; rw [Nat.eq_of_beq_eq_true h2]; cases q; exact h.2.1
      | false => rw [h2] at q; exact all_look r h.2.2 q
end Go.Nt

/-
  THE FUNCTIONS OF THE SEAT as the abstract machine reads them (printed by a program of ours), and that they are the program's ('ok': FuncOK, by the kernel).
  No condition.
-/
namespace Go.Nt.Ty
open Go Go.Nt

/-- notary/notarylaw16.RightSettles -/
def F8 : IFunc := ⟨.pure, .seq (.ops [bF 1 0, g0 (.mv 2 (.c (.bool false)))])
  (.seq (.seq (.ops [lF 6 1 1, cA 7 18 [(.t 6)]])
  (.cond (.t 7) (.seq (.ops [cA 8 29 [], mV 2 8])
  (.ret))
  (.skip)))
  (.seq (.ops [lF 10 1 1, cA 11 30 [(.t 10)], mV 9 11, eX 12 9 0, eX 13 9 1, eX 14 9 2, bZ 3, sT 3 12 6 3, mV 4 13, mV 5 14])
  (.seq (.ops [mV 15 5, bK 16 .neq 15 0, mV 17 16, g1 17 false (.load 18 (.t 3) (some 6) (some 3) false), g1 17 false (.call (some 19) 31 [(.t 18)]), pO 20 17 19, mV 21 20, g1 21 true (.call (some 22) 29 []), pA 23 21 22, mV 2 23])
  (.ret)))),
  [.t 2]⟩
/-- notary/notarylaw16.RightLocals -/
def F9 : IFunc := ⟨.pure, .seq (.ops [bF 2 0, g0 (.mv 4 (.c (.bool false)))])
  (.seq (.seq (.ops [lF 8 2 2, cA 9 18 [(.t 8)], mV 10 9, g1 10 false (.mv 11 (.t 1)), g1 10 false (.len 12 .slice (.t 11) false), g1 10 false (.bin 13 .gtr (.t 12) (kI 100)), pO 14 10 13, mV 15 14, g1 15 false (.load 16 (.t 2) (some 6) (some 2) false), g1 15 false (.call (some 17) 32 [(.t 16)]), g1 15 false (.un 18 .not (.t 17)), pO 19 15 18])
  (.cond (.t 19) (.seq (.ops [cA 20 29 [], mV 4 20])
  (.ret))
  (.skip)))
  (.seq (.ops [lF 22 2 2, mV 23 1, cA 24 33 [(.t 22), (.t 23)], mV 21 24, eX 25 21 0, eX 26 21 1, mV 5 25, mV 6 26])
  (.seq (.seq (.ops [lF 27 2 2, mV 28 1, cA 29 34 [(.t 27), (.t 28)], g0 (.un 30 .not (.t 29))])
  (.cond (.t 30) (.seq (.ops [mV 31 6, g0 (.un 32 .not (.t 31)), mV 33 32, g1 33 true (.mv 34 (.t 5)), g1 33 true (.len 35 .slice (.t 34) false), g1 33 true (.bin 36 .eql (.t 35) (kI 0)), pA 37 33 36, mV 38 37, g1 38 true (.call (some 39) 29 []), pA 40 38 39, mV 4 40])
  (.ret))
  (.skip)))
  (.seq (.ops [lF 41 2 2, mV 42 1, cA 43 35 [(.t 41), (.t 42)], bZ 7, sT 7 43 6 7])
  (.seq (.seq (.ops [fA 44 7 0, lA 45 44 7, bK 46 .eql 45 7, mV 47 46, g1 47 true (.fldA 48 (.t 7) 1 none), g1 47 true (.load 49 (.t 48) none (some 7) false), g1 47 true (.mv 50 (.t 5)), g1 47 true (.len 51 .slice (.t 50) false), g1 47 true (.bin 52 .geq (.t 49) (.t 51)), pA 53 47 52])
  (.cond (.t 53) (.seq (.ops [g0 (.mv 4 (.c (.bool false)))])
  (.ret))
  (.skip)))
  (.seq (.ops [mV 54 6, mV 55 54, g1 55 true (.mv 56 (.t 5)), g1 55 true (.load 57 (.t 2) (some 6) (some 2) false), g1 55 true (.mv 58 (.t 1)), g1 55 true (.call (some 59) 37 [(.t 57), (.t 58)]), g1 55 true (.call (some 60) 36 [(.t 56), (.t 59)]), pA 61 55 60, mV 62 61, g1 62 true (.call (some 63) 29 []), pA 64 62 63, mV 4 64])
  (.ret))))))),
  [.t 4]⟩
/-- notary/notaryref06.Large -/
def F18 : IFunc := ⟨.pure, .seq (.ops [bF 1 0, g0 (.mv 2 (.c (.bool false)))])
  (.seq (.ops [lF 3 1 1, cA 4 49 [(.t 3), (kI 400), (kI 70)], bK 5 .lss 4 0, mV 6 5, g1 6 false (.load 7 (.t 1) (some 6) (some 1) false), g1 6 false (.call (some 8) 50 [(.t 7)]), pO 9 6 8, mV 2 9])
  (.ret)),
  [.t 2]⟩
/-- notary/notarylaw16.awake -/
def F29 : IFunc := ⟨.pure, .seq (.ops [g0 (.mv 0 (.c (.bool false)))])
  (.seq (.ops [g0 (.call (some 6) 68 [(.c (.str [118, 97, 114, 32, 97, 58, 32, 105, 110, 116, 59]))]), mV 5 6, eX 7 5 0, eX 8 5 1, eX 9 5 2, eX 10 5 3, bZ 1, bZ 2, sT 1 7 6 1, sT 2 8 6 2, mV 3 9, mV 4 10])
  (.seq (.ops [mV 11 4, bK 12 .eql 11 0, mV 13 12, g1 13 true (.fldA 14 (.t 1) 3 none), g1 13 true (.load 15 (.t 14) none (some 1) false), g1 13 true (.len 16 .slice (.t 15) false), g1 13 true (.bin 17 .eql (.t 16) (kI 1)), pA 18 13 17, mV 19 18, g1 19 true (.fldA 20 (.t 1) 3 none), g1 19 true (.load 21 (.t 20) none (some 1) false), g1 19 true (.idxA 22 (.t 21) (kI 0) 6 (some 6) none), g1 19 true (.fldA 23 (.t 22) 2 none), g1 19 true (.load 24 (.t 23) none none false), g1 19 true (.bin 25 .eql (.t 24) (.c (.str [97]))), pA 26 19 25, mV 27 26, g1 27 true (.fldA 28 (.t 2) 3 none), g1 27 true (.load 29 (.t 28) none (some 2) false), g1 27 true (.len 30 .slice (.t 29) false), g1 27 true (.bin 31 .eql (.t 30) (kI 1)), pA 32 27 31, mV 33 32, g1 33 true (.fldA 34 (.t 2) 3 none), g1 33 true (.load 35 (.t 34) none (some 2) false), g1 33 true (.idxA 36 (.t 35) (kI 0) 6 (some 6) none), g1 33 true (.fldA 37 (.t 36) 2 none), g1 33 true (.load 38 (.t 37) none none false), g1 33 true (.bin 39 .eql (.t 38) (.c (.str []))), pA 40 33 39, mV 41 40, g1 41 true (.load 42 (.t 2) (some 6) (some 2) false), g1 41 true (.call (some 43) 31 [(.t 42)]), pA 44 41 43, mV 0 44])
  (.ret))),
  [.t 0]⟩
def L30_0 : Ic := .seq (.ops [bT 27 .lss 26 25])
  (.seq (.cond (.t 27) (.skip)
  (.exit 0))
  (.seq (.block 1 (.seq (.ops [mV 28 26, iX 29 24 26, lP 30 29, bZ 8, mV 7 28, sT 8 30 6 8])
  (.seq (.ops [fA 31 6 3, lA 32 31 6, mV 33 5, mV 34 7, lF 35 8 8, cA 36 69 [(.t 33), (.t 34), (.t 35)], g0 (.bsl 37 6 true [(.t 36)]), g0 (.app 38 (.t 32) (.t 37) 6), fA 39 6 3, sT 39 38 1 6])
  (.seq (.ops [mV 40 5, nC 41 40, fA 42 41 14, lO 43 42, bK 44 .neq 43 0])
  (.cond (.t 44) (.seq (.ops [g0 (.build 45 zT []), mV 46 5, nC 47 46, fA 48 47 13, lO 49 48, mV 50 5, nC 51 50, fA 52 51 14, lO 53 52, sT 2 45 6 2, mV 3 49, mV 4 53])
  (.ret))
  (.skip))))))
  (.ops [bK 54 .add 26 1, mV 26 54])))
/-- notary/right.Module -/
def F30 : IFunc := ⟨.pure, .seq (.ops [bF 1 0, bZ 2, mK 3 0, mK 4 0])
  (.seq (.ops [lF 9 1 1, g0 (.build 10 [(.int .i64 0), (.int .i64 0), (.str []), .nils, (.int .i64 0), (.int .i64 0), .nils, (.int .i64 0), (.int .i64 0), (.str []), .nils, (.int .i64 0), (.int .i64 0), (.int .i64 0), (.int .i64 0)] [(0, 6, (.t 9))]), g0 (.boxH 11 (some 15) (.t 10)), mV 5 11])
  (.seq (.seq (.ops [fA 12 1 0, lA 13 12 1, bK 14 .neq 13 36])
  (.cond (.t 14) (.seq (.ops [g0 (.build 15 zT []), fA 16 1 4, lA 17 16 1, sT 2 15 6 2, mV 3 17, mK 4 12])
  (.ret))
  (.skip)))
  (.seq (.ops [fA 18 1 0, lA 19 18 1, fA 20 1 1, lA 21 20 1, g0 (.build 22 zT [(0, 1, (.t 19)), (1, 1, (.t 21))]), bZ 6, sT 6 22 6 6])
  (.seq (.seq (.ops [fA 23 1 3, lA 24 23 1, lN 25 24, mK 26 0])
  (.block 0 (.loop L30_0)))
  (.seq (.ops [lF 55 6 6, sT 2 55 6 2, mK 3 0, mK 4 0])
  (.ret)))))),
  [.cell 2 (some 6) (some 2), .t 3, .t 4]⟩
/-- notary/right.Right -/
def F31 : IFunc := ⟨.pure, .seq (.ops [bF 1 0, g0 (.mv 2 (.c (.bool false)))])
  (.seq (.ops [lF 7 1 1, cA 8 30 [(.t 7)], mV 6 8, eX 9 6 0, eX 10 6 1, eX 11 6 2, bZ 3, sT 3 9 6 3, mV 4 10, mV 5 11])
  (.seq (.ops [mV 12 5, bK 13 .eql 12 0, mV 14 13, g1 14 true (.load 15 (.t 3) (some 6) (some 3) false), g1 14 true (.load 16 (.t 1) (some 6) (some 1) false), g1 14 true (.call (some 17) 70 [(.t 15), (.t 16)]), pA 18 14 17, mV 2 18])
  (.ret))),
  [.t 2]⟩
/-- notary/notaryref16.Right -/
def F32 : IFunc := ⟨.pure, .seq (.ops [bF 1 0, g0 (.mv 2 (.c (.bool false)))])
  (.seq (.ops [lF 7 1 1, cA 8 40 [(.t 7)], mV 6 8, eX 9 6 0, eX 10 6 1, eX 11 6 2, bZ 3, sT 3 9 6 3, mV 4 10, mV 5 11])
  (.seq (.ops [mV 12 5, bK 13 .eql 12 0, mV 14 13, g1 14 true (.load 15 (.t 3) (some 6) (some 3) false), g1 14 true (.load 16 (.t 1) (some 6) (some 1) false), g1 14 true (.call (some 17) 66 [(.t 15), (.t 16)]), pA 18 14 17, mV 2 18])
  (.ret))),
  [.t 2]⟩
def L33_1 : Ic := .seq (.ops [bT 80 .lss 79 78])
  (.seq (.cond (.t 80) (.skip)
  (.exit 2))
  (.seq (.block 3 (.seq (.ops [iX 81 77 79, lP 82 81, bZ 13, sT 13 82 6 13])
  (.ops [mV 83 8, lF 84 13 13, cA 85 73 [(.t 83), (.t 84)]])))
  (.ops [bK 86 .add 79 1, mV 79 86])))
def L33_0 : Ic := .seq (.ops [bT 68 .lss 67 66])
  (.seq (.cond (.t 68) (.skip)
  (.exit 0))
  (.seq (.block 1 (.seq (.ops [g0 (.idxA 69 (.t 65) (.t 67) 1 none none), lO 70 69, mV 11 70])
  (.seq (.seq (.ops [fA 71 9 0, lA 72 71 9, bK 73 .eql 72 29])
  (.cond (.t 73) (.seq (.ops [fA 74 9 3, lA 75 74 9, mV 76 11, g0 (.slc 77 (some 6) (.t 75) none (some (.t 76)) none), lN 78 77, mK 79 0])
  (.block 2 (.loop L33_1)))
  (.skip)))
  (.seq (.seq (.ops [fA 87 9 0, lA 88 87 9, bK 89 .eql 88 25, mV 90 89, g1 90 true (.mv 91 (.t 11)), g1 90 true (.bin 92 .eql (.t 91) (kI 2)), pA 93 90 92])
  (.cond (.t 93) (.ops [mV 94 8, nC 95 94, fA 96 95 6, lO 97 96, g0 (.build 98 zT [(0, 1, (kI 1))]), lN 99 97, g0 (.bsl 100 6 true [(.c (.agg zT))]), g0 (.app 101 (.t 97) (.t 100) 6), iX 102 101 99, g0 (.storeX false (.t 102) (.t 98) 6), nC 103 94, fA 104 103 6, g0 (.storeX true (.t 104) (.t 101) 1)])
  (.skip)))
  (.ops [fA 105 9 3, lA 106 105 9, mV 107 11, iX 108 106 107, lP 109 108, sT 9 109 6 9])))))
  (.ops [bK 110 .add 67 1, mV 67 110])))
/-- notary/right.Locals -/
def F33 : IFunc := ⟨.pure, .seq (.ops [bF 2 0, g0 (.mv 4 (.c .nils)), g0 (.mv 5 (.c (.bool false)))])
  (.seq (.seq (.ops [lF 15 2 2, mV 16 1, cA 17 71 [(.t 15), (.t 16)], mV 14 17, eX 18 14 0, eX 19 14 1, bZ 6, sT 6 18 6 6, mV 7 19])
  (.seq (.ops [mV 20 7, g0 (.un 21 .not (.t 20))])
  (.cond (.t 21) (.seq (.ops [g0 (.mv 4 (.c .nils)), g0 (.mv 5 (.c (.bool false)))])
  (.ret))
  (.skip))))
  (.seq (.seq (.ops [mV 22 1, lN 23 22, bK 24 .lss 23 2, mV 25 24, g1 25 false (.fldA 26 (.t 2) 3 none), g1 25 false (.load 27 (.t 26) none (some 2) false), g1 25 false (.mv 28 (.t 1)), g1 25 false (.idxA 29 (.t 28) (kI 0) 1 none none), g1 25 false (.load 30 (.t 29) none none false), g1 25 false (.idxA 31 (.t 27) (.t 30) 6 (some 6) none), g1 25 false (.fldA 32 (.t 31) 0 none), g1 25 false (.load 33 (.t 32) none none false), g1 25 false (.bin 34 .neq (.t 33) (kI 33)), pO 35 25 34, mV 36 35, g1 36 false (.mv 37 (.t 1)), g1 36 false (.idxA 38 (.t 37) (kI 1) 1 none none), g1 36 false (.load 39 (.t 38) none none false), g1 36 false (.bin 40 .neq (.t 39) (kI 2)), pO 41 36 40])
  (.cond (.t 41) (.seq (.ops [g0 (.mv 4 (.c .nils)), g0 (.mv 5 (.c (.bool true)))])
  (.ret))
  (.skip)))
  (.seq (.ops [lF 42 2 2, g0 (.build 43 [(.int .i64 0), (.int .i64 0), (.str []), .nils, (.int .i64 0), (.int .i64 0), .nils, (.int .i64 0), (.int .i64 0), (.str []), .nils, (.int .i64 0), (.int .i64 0), (.int .i64 0), (.int .i64 0)] [(0, 6, (.t 42))]), g0 (.boxH 44 (some 15) (.t 43)), mV 8 44])
  (.seq (.ops [mV 45 8, fA 46 2 3, lA 47 46 2, mV 48 1, g0 (.idxA 49 (.t 48) (kI 0) 1 none none), lO 50 49, iX 51 47 50, lP 52 51, cA 53 72 [(.t 45), (.t 52)]])
  (.seq (.ops [fA 54 2 3, lA 55 54 2, mV 56 1, g0 (.idxA 57 (.t 56) (kI 0) 1 none none), lO 58 57, iX 59 55 58, fA 60 59 3, lO 61 60, g0 (.idxA 62 (.t 61) (kI 2) 6 (some 6) none), lP 63 62, bZ 9, sT 9 63 6 9])
  (.seq (.seq (.ops [mV 64 1, g0 (.slc 65 (some 1) (.t 64) (some (kI 2)) none none), lN 66 65, mK 67 0])
  (.block 0 (.loop L33_0)))
  (.seq (.ops [mV 111 8, nC 112 111, fA 113 112 6, lO 114 113, mV 4 114, g0 (.mv 5 (.c (.bool true)))])
  (.ret)))))))),
  [.t 4, .t 5]⟩
/-- notary/notaryref06.Leads -/
def F34 : IFunc := ⟨.pure, .seq (.ops [bF 2 0, g0 (.mv 4 (.c (.bool false)))])
  (.seq (.seq (.ops [mV 5 1, lN 6 5, bK 7 .eql 6 0])
  (.cond (.t 7) (.seq (.ops [g0 (.mv 4 (.c (.bool true)))])
  (.ret))
  (.skip)))
  (.seq (.ops [mV 8 1, g0 (.idxA 9 (.t 8) (kI 0) 1 none none), lO 10 9, bK 11 .geq 10 0, mV 12 11, g1 12 true (.mv 13 (.t 1)), g1 12 true (.idxA 14 (.t 13) (kI 0) 1 none none), g1 12 true (.load 15 (.t 14) none none false), g1 12 true (.fldA 16 (.t 2) 3 none), g1 12 true (.load 17 (.t 16) none (some 2) false), g1 12 true (.len 18 .slice (.t 17) false), g1 12 true (.bin 19 .lss (.t 15) (.t 18)), pA 20 12 19, mV 21 20, g1 21 true (.fldA 22 (.t 2) 3 none), g1 21 true (.load 23 (.t 22) none (some 2) false), g1 21 true (.mv 24 (.t 1)), g1 21 true (.idxA 25 (.t 24) (kI 0) 1 none none), g1 21 true (.load 26 (.t 25) none none false), g1 21 true (.idxA 27 (.t 23) (.t 26) 6 (some 6) none), g1 21 true (.load 28 (.t 27) (some 6) none false), g1 21 true (.mv 29 (.t 1)), g1 21 true (.slc 30 (some 1) (.t 29) (some (kI 1)) none none), g1 21 true (.call (some 31) 34 [(.t 28), (.t 30)]), pA 32 21 31, mV 4 32])
  (.ret))),
  [.t 4]⟩
/-- notary/notaryref06.At -/
def F35 : IFunc := ⟨.pure, .seq (.ops [bF 2 0, bZ 4])
  (.seq (.seq (.ops [mV 5 1, lN 6 5, bK 7 .eql 6 0])
  (.cond (.t 7) (.seq (.ops [lF 8 2 2, sT 4 8 6 4])
  (.ret))
  (.skip)))
  (.seq (.ops [fA 9 2 3, lA 10 9 2, mV 11 1, g0 (.idxA 12 (.t 11) (kI 0) 1 none none), lO 13 12, iX 14 10 13, lP 15 14, mV 16 1, g0 (.slc 17 (some 1) (.t 16) (some (kI 1)) none none), cA 18 35 [(.t 15), (.t 17)], sT 4 18 6 4])
  (.ret))),
  [.cell 4 (some 6) (some 4)]⟩
def L36_0 : Ic := .seq (.seq (.ops [mV 11 5, mV 12 0, lN 13 12, bT 14 .lss 11 13])
  (.cond (.t 14) (.skip)
  (.exit 0)))
  (.seq (.block 1 (.seq (.ops [mV 17 0, mV 18 5, iX 19 17 18, lP 20 19, mV 21 1, mV 22 5, iX 23 21 22, lP 24 23, cA 25 74 [(.t 20), (.t 24)], g0 (.un 26 .not (.t 25))])
  (.cond (.t 26) (.seq (.ops [g0 (.mv 4 (.c (.bool false)))])
  (.ret))
  (.skip))))
  (.ops [mV 15 5, bK 16 .add 15 1, mV 5 16]))
/-- notary/notaryref16.Alike -/
def F36 : IFunc := ⟨.pure, .seq (.ops [g0 (.mv 4 (.c (.bool false)))])
  (.seq (.seq (.ops [mV 6 0, lN 7 6, mV 8 1, lN 9 8, bT 10 .neq 7 9])
  (.cond (.t 10) (.seq (.ops [g0 (.mv 4 (.c (.bool false)))])
  (.ret))
  (.skip)))
  (.seq (.seq (.ops [mK 5 0])
  (.block 0 (.loop L36_0)))
  (.seq (.ops [g0 (.mv 4 (.c (.bool true)))])
  (.ret)))),
  [.t 4]⟩
/-- notary/notaryref16.Locals -/
def F37 : IFunc := ⟨.pure, .seq (.ops [bF 2 0, g0 (.mv 4 (.c .nils))])
  (.seq (.seq (.ops [mV 5 1, lN 6 5, bK 7 .lss 6 2, mV 8 7, g1 8 false (.fldA 9 (.t 2) 3 none), g1 8 false (.load 10 (.t 9) none (some 2) false), g1 8 false (.mv 11 (.t 1)), g1 8 false (.idxA 12 (.t 11) (kI 0) 1 none none), g1 8 false (.load 13 (.t 12) none none false), g1 8 false (.idxA 14 (.t 10) (.t 13) 6 (some 6) none), g1 8 false (.fldA 15 (.t 14) 0 none), g1 8 false (.load 16 (.t 15) none none false), g1 8 false (.bin 17 .neq (.t 16) (kI 33)), pO 18 8 17, mV 19 18, g1 19 false (.mv 20 (.t 1)), g1 19 false (.idxA 21 (.t 20) (kI 1) 1 none none), g1 19 false (.load 22 (.t 21) none none false), g1 19 false (.bin 23 .neq (.t 22) (kI 2)), pO 24 19 23])
  (.cond (.t 24) (.seq (.ops [g0 (.bsl 25 6 true []), mV 4 25])
  (.ret))
  (.skip)))
  (.seq (.ops [lF 26 2 2, fA 27 2 3, lA 28 27 2, mV 29 1, g0 (.idxA 30 (.t 29) (kI 0) 1 none none), lO 31 30, iX 32 28 31, lP 33 32, cA 34 59 [(.t 33)], fA 35 2 3, lA 36 35 2, mV 37 1, g0 (.idxA 38 (.t 37) (kI 0) 1 none none), g0 (.load 39 (.t 38) none none true), iX 40 36 39, fA 41 40 3, g0 (.load 42 (.t 41) none none true), g0 (.idxA 43 (.t 42) (kI 2) 6 (some 6) none), g0 (.load 44 (.t 43) (some 6) none true), mV 45 1, g0 (.slc 46 (some 1) (.t 45) (some (kI 2)) none none), cA 47 75 [(.t 26), (.t 34), (.t 44), (.t 46)], mV 4 47])
  (.ret))),
  [.t 4]⟩
def L40_0 : Ic := .seq (.seq (.ops [mV 20 6, fA 21 1 3, lA 22 21 1, lN 23 22, bT 24 .lss 20 23])
  (.cond (.t 24) (.skip)
  (.exit 0)))
  (.seq (.block 1 (.seq (.ops [lF 27 1 1, mV 28 6, cA 29 81 [(.t 27), (.t 28)], g0 (.boxL 7 8 none [(.int .i64 0), (.int .i64 0), (.str []), .nils, (.int .i64 0), (.int .i64 0), (.int .i64 0), (.int .i64 0)]), sT 7 29 8 7])
  (.seq (.seq (.ops [fA 30 7 7, lA 31 30 7, bK 32 .neq 31 0])
  (.cond (.t 32) (.seq (.ops [g0 (.build 33 zT []), fA 34 7 6, lA 35 34 7, fA 36 7 7, lA 37 36 7, sT 2 33 6 2, mV 3 35, mV 4 37])
  (.ret))
  (.skip)))
  (.ops [fA 38 5 3, lA 39 38 5, g0 (.fldA 40 (.t 7) 0 (some 6)), lF 41 40 7, g0 (.bsl 42 6 true [(.t 41)]), g0 (.app 43 (.t 39) (.t 42) 6), fA 44 5 3, sT 44 43 1 5]))))
  (.ops [mV 25 6, bK 26 .add 25 1, mV 6 26]))
/-- notary/notaryref16.Module -/
def F40 : IFunc := ⟨.pure, .seq (.ops [bF 1 0, bZ 2, mK 3 0, mK 4 0])
  (.seq (.seq (.ops [fA 8 1 0, lA 9 8 1, bK 10 .neq 9 36])
  (.cond (.t 10) (.seq (.ops [g0 (.build 11 zT []), fA 12 1 4, lA 13 12 1, sT 2 11 6 2, mV 3 13, mK 4 12])
  (.ret))
  (.skip)))
  (.seq (.ops [fA 14 1 0, lA 15 14 1, fA 16 1 1, lA 17 16 1, g0 (.bsl 18 6 true []), g0 (.build 19 zT [(0, 1, (.t 15)), (1, 1, (.t 17)), (3, 1, (.t 18))]), bZ 5, sT 5 19 6 5])
  (.seq (.seq (.ops [mK 6 0])
  (.block 0 (.loop L40_0)))
  (.seq (.ops [lF 45 5 5, sT 2 45 6 2, mK 3 0, mK 4 0])
  (.ret))))),
  [.cell 2 (some 6) (some 2), .t 3, .t 4]⟩
/-- notary/typ.Cells -/
def F46 : IFunc := ⟨.pure, .seq (.ops [bF 2 0, bF 3 1, mK 4 0])
  (.seq (.ops [lF 5 2 2, g0 (.build 6 [(.int .i64 0), (.int .i64 0), (.str []), .nils, (.int .i64 0), (.int .i64 0), (.int .i64 0)] [(0, 6, (.t 5))]), lF 7 3 3, cA 8 84 [(.t 6), (.t 7)], mV 4 8])
  (.ret)),
  [.t 4]⟩
def L49_0 : Ic := .seq (.seq (.ops [mV 12 7, fA 13 3 3, lA 14 13 3, lN 15 14, bT 16 .lss 12 15, mV 17 16, g1 17 true (.mv 18 (.t 1)), g1 17 true (.bin 19 .geq (.t 18) (kI 0)), pA 20 17 19])
  (.cond (.t 20) (.skip)
  (.exit 0)))
  (.seq (.block 1 (.ops [fA 23 3 3, lA 24 23 3, mV 25 7, iX 26 24 25, lP 27 26, mV 28 1, mV 29 2, bK 30 .sub 29 1, cA 31 49 [(.t 27), (.t 28), (.t 30)], mV 1 31]))
  (.ops [mV 21 7, bK 22 .add 21 1, mV 7 22]))
/-- notary/notaryref06.Count -/
def F49 : IFunc := ⟨.pure, .seq (.ops [bF 3 0, mK 6 0])
  (.seq (.seq (.ops [mV 8 2, bK 9 .leq 8 0])
  (.cond (.t 9) (.seq (.ops [g0 (.mv 6 (.c (.int .i64 (-1))))])
  (.ret))
  (.skip)))
  (.seq (.ops [mV 10 1, bK 11 .sub 10 1, mV 1 11])
  (.seq (.seq (.ops [mK 7 0])
  (.block 0 (.loop L49_0)))
  (.seq (.ops [mV 32 1, mV 6 32])
  (.ret))))),
  [.t 6]⟩
def L50_0 : Ic := .seq (.seq (.ops [mV 8 3, fA 9 1 3, lA 10 9 1, lN 11 10, bT 12 .lss 8 11])
  (.cond (.t 12) (.skip)
  (.exit 0)))
  (.seq (.block 1 (.seq (.ops [fA 15 1 3, lA 16 15 1, mV 17 3, iX 18 16 17, lP 19 18, cA 20 50 [(.t 19)]])
  (.cond (.t 20) (.seq (.ops [g0 (.mv 2 (.c (.bool true)))])
  (.ret))
  (.skip))))
  (.ops [mV 13 3, bK 14 .add 13 1, mV 3 14]))
/-- notary/notaryref06.Named -/
def F50 : IFunc := ⟨.pure, .seq (.ops [bF 1 0, g0 (.mv 2 (.c (.bool false)))])
  (.seq (.seq (.ops [fA 4 1 2, lA 5 4 1, g0 (.len 6 .str (.t 5) false), bK 7 .gtr 6 40])
  (.cond (.t 7) (.seq (.ops [g0 (.mv 2 (.c (.bool true)))])
  (.ret))
  (.skip)))
  (.seq (.seq (.ops [mK 3 0])
  (.block 0 (.loop L50_0)))
  (.seq (.ops [g0 (.mv 2 (.c (.bool false)))])
  (.ret)))),
  [.t 2]⟩
def L59_0 : Ic := .seq (.seq (.ops [mV 6 4, fA 7 1 3, lA 8 7 1, g0 (.idxA 9 (.t 8) (kI 0) 6 (some 6) none), fA 10 9 3, lO 11 10, lN 12 11, bT 13 .lss 6 12])
  (.cond (.t 13) (.skip)
  (.exit 0)))
  (.seq (.block 1 (.ops [mV 16 3, fA 17 1 3, lA 18 17 1, g0 (.idxA 19 (.t 18) (kI 0) 6 (some 6) none), fA 20 19 3, lO 21 20, mV 22 4, iX 23 21 22, fA 24 23 3, lO 25 24, g0 (.idxA 26 (.t 25) (kI 0) 6 (some 6) none), lP 27 26, g0 (.bsl 28 6 true [(.t 27)]), g0 (.app 29 (.t 16) (.t 28) 6), mV 3 29]))
  (.ops [mV 14 4, bK 15 .add 14 1, mV 4 15]))
/-- notary/notaryref16.Types -/
def F59 : IFunc := ⟨.raw, .seq (.ops [bF 1 0, g0 (.mv 2 (.c .nils))])
  (.seq (.ops [g0 (.bsl 5 6 true []), mV 3 5])
  (.seq (.seq (.ops [mK 4 0])
  (.block 0 (.loop L59_0)))
  (.seq (.ops [mV 30 3, mV 2 30])
  (.ret)))),
  [.t 2]⟩
/-- notary/notaryref12.Cells -/
def F60 : IFunc := ⟨.pure, .seq (.ops [bF 2 0, bF 3 1, mK 4 0])
  (.seq (.ops [lF 5 2 2, lF 6 3 3, g0 (.bsl 7 1 false []), cA 8 92 [(.t 5), (.t 6), (.t 7)], mV 4 8])
  (.ret)),
  [.t 4]⟩
/-- notary/typer.Of -/
def F62 : IFunc := ⟨.pop, .seq (.ops [bF 3 0, bF 5 2, bZ 6, bZ 7, mK 8 0, mK 9 0])
  (.seq (.ops [lF 13 3 3, mV 14 1, g0 (.build 15 [(.int .i64 0), (.int .i64 0), (.str []), .nils, (.int .i64 0), (.int .i64 0), .nils, (.int .i64 0), (.int .i64 0)] [(0, 6, (.t 13)), (6, 1, (.t 14))]), g0 (.boxH 16 (some 9) (.t 15)), mV 10 16])
  (.seq (.ops [mV 18 10, lF 19 5 5, cA 20 93 [(.t 18), (.t 19)], mV 17 20, eX 21 17 0, eX 22 17 1, bZ 11, bZ 12, sT 11 21 6 11, sT 12 22 6 12])
  (.seq (.seq (.ops [mV 23 10, nC 24 23, fA 25 24 8, lO 26 25, bK 27 .neq 26 0])
  (.cond (.t 27) (.seq (.ops [g0 (.build 28 zT []), g0 (.build 29 zT []), mV 30 10, nC 31 30, fA 32 31 7, lO 33 32, mV 34 10, nC 35 34, fA 36 35 8, lO 37 36, sT 6 28 6 6, sT 7 29 6 7, mV 8 33, mV 9 37])
  (.ret))
  (.skip)))
  (.seq (.ops [lF 38 11 11, lF 39 12 12, sT 6 38 6 6, sT 7 39 6 7, mK 8 0, mK 9 0])
  (.ret))))),
  [.cell 6 (some 6) (some 6), .cell 7 (some 6) (some 7), .t 8, .t 9]⟩
def L65_0 : Ic := .seq (.seq (.ops [mV 47 9, fA 48 5 3, lA 49 48 5, lN 50 49, bT 51 .lss 47 50])
  (.cond (.t 51) (.skip)
  (.exit 0)))
  (.seq (.block 1 (.seq (.ops [lF 54 3 3, mV 55 1, fA 56 5 3, lA 57 56 5, mV 58 9, iX 59 57 58, lP 60 59, cA 61 65 [(.t 54), (.t 55), (.t 60)], g0 (.boxL 10 14 none [(.int .i64 0), (.int .i64 0), (.str []), .nils, (.int .i64 0), (.int .i64 0), (.int .i64 0), (.int .i64 0), (.str []), .nils, (.int .i64 0), (.int .i64 0), (.int .i64 0), (.int .i64 0)]), sT 10 61 14 10])
  (.seq (.seq (.ops [fA 62 10 13, lA 63 62 10, bK 64 .neq 63 0])
  (.cond (.t 64) (.seq (.ops [g0 (.load 65 (.t 10) (some 14) (some 10) false), sT 6 65 14 6])
  (.ret))
  (.skip)))
  (.seq (.ops [mV 66 7, g0 (.fldA 67 (.t 10) 0 (some 6)), lF 68 67 10, g0 (.bsl 69 6 true [(.t 68)]), g0 (.app 70 (.t 66) (.t 69) 6), mV 7 70])
  (.ops [mV 71 8, g0 (.fldA 72 (.t 10) 6 (some 6)), lF 73 72 10, g0 (.bsl 74 6 true [(.t 73)]), g0 (.app 75 (.t 71) (.t 74) 6), mV 8 75])))))
  (.ops [mV 52 9, bK 53 .add 52 1, mV 9 53]))
/-- notary/notaryref15.Of -/
def F65 : IFunc := ⟨.pure, .seq (.ops [bF 3 0, bF 5 2, g0 (.boxL 6 14 none [(.int .i64 0), (.int .i64 0), (.str []), .nils, (.int .i64 0), (.int .i64 0), (.int .i64 0), (.int .i64 0), (.str []), .nils, (.int .i64 0), (.int .i64 0), (.int .i64 0), (.int .i64 0)])])
  (.seq (.seq (.ops [lF 14 5 5, cA 15 103 [(.t 14)], g0 (.un 16 .not (.t 15))])
  (.cond (.t 16) (.seq (.ops [lF 17 5 5, cA 18 104 [(.t 17), (kI 12)], sT 6 18 14 6])
  (.ret))
  (.skip)))
  (.seq (.seq (.ops [lF 19 3 3, mV 20 1, lF 21 5 5, cA 22 105 [(.t 19), (.t 20), (.t 21)], g0 (.un 23 .not (.t 22))])
  (.cond (.t 23) (.seq (.ops [lF 24 5 5, cA 25 104 [(.t 24), (kI 8)], sT 6 25 14 6])
  (.ret))
  (.skip)))
  (.seq (.seq (.ops [fA 26 5 3, lA 27 26 5, lN 28 27, bK 29 .eql 28 0, mV 30 29, g1 30 true (.fldA 31 (.t 5) 0 none), g1 30 true (.load 32 (.t 31) none (some 5) false), g1 30 true (.bin 33 .neq (.t 32) (kI 16)), pA 34 30 33])
  (.cond (.t 34) (.seq (.ops [lF 35 3 3, mV 36 1, lF 37 5 5, cA 38 106 [(.t 35), (.t 36), (.t 37)], fA 39 5 0, lA 40 39 5, fA 41 5 1, lA 42 41 5, g0 (.build 43 zT [(0, 1, (.t 40)), (1, 1, (.t 42))]), g0 (.build 44 [(.int .i64 0), (.int .i64 0), (.str []), .nils, (.int .i64 0), (.int .i64 0), (.int .i64 0), (.int .i64 0), (.str []), .nils, (.int .i64 0), (.int .i64 0), (.int .i64 0), (.int .i64 0)] [(0, 6, (.t 38)), (6, 6, (.t 43))]), sT 6 44 14 6])
  (.ret))
  (.skip)))
  (.seq (.ops [g0 (.bsl 45 6 true []), mV 7 45])
  (.seq (.ops [g0 (.bsl 46 6 true []), mV 8 46])
  (.seq (.seq (.ops [mK 9 0])
  (.block 0 (.loop L65_0)))
  (.seq (.ops [lF 77 3 3, lF 78 5 5, mV 79 7, cA 80 107 [(.t 77), (.t 78), (.t 79)], mV 76 80, eX 81 76 0, eX 82 76 1, eX 83 76 2, bZ 11, sT 11 81 6 11, mV 12 82, mV 13 83])
  (.seq (.seq (.ops [mV 84 13, bK 85 .neq 84 0])
  (.cond (.t 85) (.seq (.ops [lF 86 5 5, mV 87 13, cA 88 104 [(.t 86), (.t 87)], sT 6 88 14 6])
  (.ret))
  (.skip)))
  (.seq (.ops [lF 89 11 11, fA 90 5 0, lA 91 90 5, mV 92 12, mV 93 8, g0 (.build 94 zT [(0, 1, (.t 91)), (1, 1, (.t 92)), (3, 1, (.t 93))]), g0 (.build 95 [(.int .i64 0), (.int .i64 0), (.str []), .nils, (.int .i64 0), (.int .i64 0), (.int .i64 0), (.int .i64 0), (.str []), .nils, (.int .i64 0), (.int .i64 0), (.int .i64 0), (.int .i64 0)] [(0, 6, (.t 89)), (6, 6, (.t 94))]), sT 6 95 14 6])
  (.ret)))))))))),
  [.cell 6 (some 14) (some 6)]⟩
def L66_0 : Ic := .seq (.seq (.ops [mV 48 5, fA 49 2 3, lA 50 49 2, lN 51 50, bT 52 .lss 48 51])
  (.cond (.t 52) (.skip)
  (.exit 0)))
  (.seq (.block 1 (.seq (.ops [fA 55 2 3, lA 56 55 2, mV 57 5, iX 58 56 57, lP 59 58, fA 60 3 3, lA 61 60 3, mV 62 5, iX 63 61 62, lP 64 63, cA 65 66 [(.t 59), (.t 64)], g0 (.un 66 .not (.t 65))])
  (.cond (.t 66) (.seq (.ops [g0 (.mv 4 (.c (.bool false)))])
  (.ret))
  (.skip))))
  (.ops [mV 53 5, bK 54 .add 53 1, mV 5 54]))
/-- notary/notaryref06.Placed -/
def F66 : IFunc := ⟨.pure, .seq (.ops [bF 2 0, bF 3 1, g0 (.mv 4 (.c (.bool false)))])
  (.seq (.seq (.ops [fA 6 2 0, lA 7 6 2, fA 8 3 0, lA 9 8 3, bT 10 .neq 7 9, mV 11 10, g1 11 false (.fldA 12 (.t 2) 1 none), g1 11 false (.load 13 (.t 12) none (some 2) false), g1 11 false (.fldA 14 (.t 3) 1 none), g1 11 false (.load 15 (.t 14) none (some 3) false), g1 11 false (.bin 16 .neq (.t 13) (.t 15)), pO 17 11 16, mV 18 17, g1 18 false (.fldA 19 (.t 2) 2 none), g1 18 false (.load 20 (.t 19) none (some 2) false), g1 18 false (.fldA 21 (.t 3) 2 none), g1 18 false (.load 22 (.t 21) none (some 3) false), g1 18 false (.bin 23 .neq (.t 20) (.t 22)), pO 24 18 23, mV 25 24, g1 25 false (.fldA 26 (.t 2) 4 none), g1 25 false (.load 27 (.t 26) none (some 2) false), g1 25 false (.fldA 28 (.t 3) 4 none), g1 25 false (.load 29 (.t 28) none (some 3) false), g1 25 false (.bin 30 .neq (.t 27) (.t 29)), pO 31 25 30, mV 32 31, g1 32 false (.fldA 33 (.t 2) 5 none), g1 32 false (.load 34 (.t 33) none (some 2) false), g1 32 false (.fldA 35 (.t 3) 5 none), g1 32 false (.load 36 (.t 35) none (some 3) false), g1 32 false (.bin 37 .neq (.t 34) (.t 36)), pO 38 32 37, mV 39 38, g1 39 false (.fldA 40 (.t 2) 3 none), g1 39 false (.load 41 (.t 40) none (some 2) false), g1 39 false (.len 42 .slice (.t 41) false), g1 39 false (.fldA 43 (.t 3) 3 none), g1 39 false (.load 44 (.t 43) none (some 3) false), g1 39 false (.len 45 .slice (.t 44) false), g1 39 false (.bin 46 .neq (.t 42) (.t 45)), pO 47 39 46])
  (.cond (.t 47) (.seq (.ops [g0 (.mv 4 (.c (.bool false)))])
  (.ret))
  (.skip)))
  (.seq (.seq (.ops [mK 5 0])
  (.block 0 (.loop L66_0)))
  (.seq (.ops [g0 (.mv 4 (.c (.bool true)))])
  (.ret)))),
  [.t 4]⟩
/-- notary/right.Read -/
def F68 : IFunc := ⟨.pure, .seq (.ops [bZ 2, bZ 3, mK 4 0, mK 5 0])
  (.seq (.ops [mV 12 0, cA 13 114 [(.t 12)], mV 11 13, eX 14 11 0, eX 15 11 1, eX 16 11 2, bZ 6, sT 6 14 6 6, mV 7 15, mV 8 16])
  (.seq (.seq (.ops [mV 17 8, bK 18 .neq 17 0])
  (.cond (.t 18) (.seq (.ops [g0 (.build 19 zT []), g0 (.build 20 zT []), mV 21 7, mV 22 8, sT 2 19 6 2, sT 3 20 6 3, mV 4 21, mV 5 22])
  (.ret))
  (.skip)))
  (.seq (.ops [lF 24 6 6, cA 25 115 [(.t 24)], mV 23 25, eX 26 23 0, eX 27 23 1, eX 28 23 2, bZ 9, sT 9 26 6 9, mV 7 27, mV 8 28])
  (.seq (.seq (.ops [mV 29 8, bK 30 .neq 29 0])
  (.cond (.t 30) (.seq (.ops [g0 (.build 31 zT []), g0 (.build 32 zT []), mV 33 7, mV 34 8, sT 2 31 6 2, sT 3 32 6 3, mV 4 33, mV 5 34])
  (.ret))
  (.skip)))
  (.seq (.ops [lF 36 9 9, cA 37 30 [(.t 36)], mV 35 37, eX 38 35 0, eX 39 35 1, eX 40 35 2, bZ 10, sT 10 38 6 10, mV 7 39, mV 8 40])
  (.seq (.seq (.ops [mV 41 8, bK 42 .neq 41 0])
  (.cond (.t 42) (.seq (.ops [g0 (.build 43 zT []), g0 (.build 44 zT []), mV 45 7, mV 46 8, sT 2 43 6 2, sT 3 44 6 3, mV 4 45, mV 5 46])
  (.ret))
  (.skip)))
  (.seq (.ops [lF 47 6 6, lF 48 10 10, sT 2 47 6 2, sT 3 48 6 3, mK 4 0, mK 5 0])
  (.ret)))))))),
  [.cell 2 (some 6) (some 2), .cell 3 (some 6) (some 3), .t 4, .t 5]⟩
/-- (*notary/right.looker).decl -/
def F69 : IFunc := ⟨.fre, .seq (.ops [bF 5 2, bZ 6])
  (.seq (.ops [lF 8 5 5, cA 9 116 [(.t 8)], bZ 7, sT 7 9 6 7])
  (.seq (.block 0 (.seq (.ops [fA 14 5 0, lA 15 14 5, bK 16 .eql 15 30, mV 13 16])
  (.cond (.t 13) (.seq (.ops [fA 17 5 3, lA 18 17 5, lN 19 18, bK 20 .eql 19 0, mV 21 20, g1 21 false (.fldA 22 (.t 5) 3 none), g1 21 false (.load 23 (.t 22) none (some 5) false), g1 21 false (.call (some 24) 117 [(.t 23)]), g1 21 false (.un 25 .not (.t 24)), pO 26 21 25])
  (.cond (.t 26) (.ops [mV 27 0, lF 28 5 5, cA 29 118 [(.t 27), (.t 28), (kI 12)]])
  (.seq (.ops [mV 30 0, nC 31 30, g0 (.fldA 32 (.t 31) 0 (some 6)), lP 33 32, mV 34 1, g0 (.build 35 zT [(0, 1, (kI 4)), (1, 1, (.t 34))]), cA 36 46 [(.t 33), (.t 35)], bK 37 .eql 36 0])
  (.cond (.t 37) (.ops [mV 38 0, lF 39 5 5, cA 40 118 [(.t 38), (.t 39), (kI 11)]])
  (.skip)))))
  (.seq (.ops [fA 42 5 0, lA 43 42 5, bK 44 .eql 43 31, mV 41 44])
  (.cond (.t 41) (.seq (.ops [fA 45 5 3, lA 46 45 5, lN 47 46, bK 48 .neq 47 1, mV 49 48, g1 49 false (.fldA 50 (.t 5) 3 none), g1 49 false (.load 51 (.t 50) none (some 5) false), g1 49 false (.idxA 52 (.t 51) (kI 0) 6 (some 6) none), g1 49 false (.fldA 53 (.t 52) 3 none), g1 49 false (.load 54 (.t 53) none none false), g1 49 false (.len 55 .slice (.t 54) false), g1 49 false (.bin 56 .gtr (.t 55) (kI 0)), pO 57 49 56, mV 58 57, g1 58 false (.fldA 59 (.t 5) 3 none), g1 58 false (.load 60 (.t 59) none (some 5) false), g1 58 false (.idxA 61 (.t 60) (kI 0) 6 (some 6) none), g1 58 false (.fldA 62 (.t 61) 0 none), g1 58 false (.load 63 (.t 62) none none false), g1 58 false (.bin 64 .neq (.t 63) (kI 5)), g1 58 false (.mv 65 (.t 64)), g1 65 true (.fldA 66 (.t 5) 3 none), g1 65 true (.load 67 (.t 66) none (some 5) false), g1 65 true (.idxA 68 (.t 67) (kI 0) 6 (some 6) none), g1 65 true (.fldA 69 (.t 68) 0 none), g1 65 true (.load 70 (.t 69) none none false), g1 65 true (.bin 71 .neq (.t 70) (kI 6)), g1 65 true (.mv 72 (.t 71)), g1 72 false (.fldA 73 (.t 5) 3 none), g1 72 false (.load 74 (.t 73) none (some 5) false), g1 72 false (.idxA 75 (.t 74) (kI 0) 6 (some 6) none), g1 72 false (.fldA 76 (.t 75) 1 none), g1 72 false (.load 77 (.t 76) none none false), g1 72 false (.bin 78 .neq (.t 77) (kI 0)), g1 72 false (.mv 79 (.t 78)), g1 79 true (.fldA 80 (.t 5) 3 none), g1 79 true (.load 81 (.t 80) none (some 5) false), g1 79 true (.idxA 82 (.t 81) (kI 0) 6 (some 6) none), g1 79 true (.fldA 83 (.t 82) 1 none), g1 79 true (.load 84 (.t 83) none none false), g1 79 true (.bin 85 .neq (.t 84) (kI 1)), g1 72 false (.pick 86 (.t 79) (.t 85) (.c (.bool false))), g1 65 true (.pick 87 (.t 72) (.c (.bool true)) (.t 86)), g1 58 false (.pick 88 (.t 65) (.t 87) (.c (.bool false))), pO 89 58 88])
  (.cond (.t 89) (.ops [mV 90 0, lF 91 5 5, cA 92 118 [(.t 90), (.t 91), (kI 12)]])
  (.skip)))
  (.seq (.ops [fA 94 5 0, lA 95 94 5, bK 96 .eql 95 32, mV 97 96, g1 97 true (.fldA 98 (.t 5) 3 none), g1 97 true (.load 99 (.t 98) none (some 5) false), g1 97 true (.len 100 .slice (.t 99) false), g1 97 true (.bin 101 .eql (.t 100) (kI 1)), pA 102 97 101, mV 93 102])
  (.cond (.t 93) (.ops [mV 103 0, fA 104 5 3, lA 105 104 5, g0 (.idxA 106 (.t 105) (kI 0) 6 (some 6) none), lP 107 106, cA 108 119 [(.t 103), (.t 107)]])
  (.seq (.ops [fA 110 5 0, lA 111 110 5, bK 112 .eql 111 33, mV 109 112])
  (.cond (.t 109) (.seq (.ops [mV 113 0, lF 114 5 5, cA 115 72 [(.t 113), (.t 114)]])
  (.seq (.seq (.ops [mV 116 0, nC 117 116, fA 118 117 14, lO 119 118, bK 120 .eql 119 0])
  (.cond (.t 120) (.ops [fA 121 7 3, lA 122 121 7, mV 123 0, fA 124 5 3, lA 125 124 5, g0 (.idxA 126 (.t 125) (kI 2) 6 (some 6) none), lP 127 126, cA 128 120 [(.t 123), (.t 127)], g0 (.idxA 129 (.t 122) (kI 2) 6 (some 6) none), g0 (.store (.t 129) (.t 128) 6 none)])
  (.skip)))
  (.ops [mV 130 0, nC 131 130, fA 132 131 6, g0 (.store (.t 132) (.c .nils) 1 none)])))
  (.ops [mV 10 0, lF 11 5 5, cA 12 118 [(.t 10), (.t 11), (kI 12)]]))))))))))
  (.seq (.ops [lF 133 7 7, sT 6 133 6 6])
  (.ret)))),
  [.cell 6 (some 6) (some 6)]⟩
def L70_0 : Ic := .seq (.ops [bT 47 .lss 46 45])
  (.seq (.cond (.t 47) (.skip)
  (.exit 0))
  (.seq (.block 1 (.seq (.ops [mV 48 46, iX 49 44 46, lP 50 49, bZ 6, mV 5 48, sT 6 50 6 6])
  (.seq (.ops [lF 51 6 6, fA 52 3 3, lA 53 52 3, mV 54 5, iX 55 53 54, lP 56 55, cA 57 70 [(.t 51), (.t 56)], g0 (.un 58 .not (.t 57))])
  (.cond (.t 58) (.seq (.ops [g0 (.mv 4 (.c (.bool false)))])
  (.ret))
  (.skip)))))
  (.ops [bK 59 .add 46 1, mV 46 59])))
/-- notary/right.same -/
def F70 : IFunc := ⟨.pure, .seq (.ops [bF 2 0, bF 3 1, g0 (.mv 4 (.c (.bool false)))])
  (.seq (.seq (.ops [fA 7 2 0, lA 8 7 2, fA 9 3 0, lA 10 9 3, bT 11 .neq 8 10, mV 12 11, g1 12 false (.fldA 13 (.t 2) 1 none), g1 12 false (.load 14 (.t 13) none (some 2) false), g1 12 false (.fldA 15 (.t 3) 1 none), g1 12 false (.load 16 (.t 15) none (some 3) false), g1 12 false (.bin 17 .neq (.t 14) (.t 16)), pO 18 12 17, mV 19 18, g1 19 false (.fldA 20 (.t 3) 2 none), g1 19 false (.load 21 (.t 20) none (some 3) false), g1 19 false (.bin 22 .neq (.t 21) (.c (.str []))), pO 23 19 22, mV 24 23, g1 24 false (.fldA 25 (.t 3) 4 none), g1 24 false (.load 26 (.t 25) none (some 3) false), g1 24 false (.bin 27 .neq (.t 26) (kI 0)), pO 28 24 27, mV 29 28, g1 29 false (.fldA 30 (.t 3) 5 none), g1 29 false (.load 31 (.t 30) none (some 3) false), g1 29 false (.bin 32 .neq (.t 31) (kI 0)), pO 33 29 32, mV 34 33, g1 34 false (.fldA 35 (.t 2) 3 none), g1 34 false (.load 36 (.t 35) none (some 2) false), g1 34 false (.len 37 .slice (.t 36) false), g1 34 false (.fldA 38 (.t 3) 3 none), g1 34 false (.load 39 (.t 38) none (some 3) false), g1 34 false (.len 40 .slice (.t 39) false), g1 34 false (.bin 41 .neq (.t 37) (.t 40)), pO 42 34 41])
  (.cond (.t 42) (.seq (.ops [g0 (.mv 4 (.c (.bool false)))])
  (.ret))
  (.skip)))
  (.seq (.seq (.ops [fA 43 2 3, lA 44 43 2, lN 45 44, mK 46 0])
  (.block 0 (.loop L70_0)))
  (.seq (.ops [g0 (.mv 4 (.c (.bool true)))])
  (.ret)))),
  [.t 4]⟩
def L71_0 : Ic := .seq (.ops [bT 11 .lss 10 9])
  (.seq (.cond (.t 11) (.skip)
  (.exit 0))
  (.seq (.block 1 (.seq (.ops [g0 (.idxA 12 (.t 8) (.t 10) 1 none none), lO 13 12, mV 7 13])
  (.seq (.seq (.ops [mV 14 7, bK 15 .lss 14 0, mV 16 15, g1 16 false (.mv 17 (.t 7)), g1 16 false (.fldA 18 (.t 2) 3 none), g1 16 false (.load 19 (.t 18) none (some 2) false), g1 16 false (.len 20 .slice (.t 19) false), g1 16 false (.bin 21 .geq (.t 17) (.t 20)), pO 22 16 21])
  (.cond (.t 22) (.seq (.ops [g0 (.build 23 zT []), sT 4 23 6 4, g0 (.mv 5 (.c (.bool false)))])
  (.ret))
  (.skip)))
  (.ops [fA 24 2 3, lA 25 24 2, mV 26 7, iX 27 25 26, lP 28 27, sT 2 28 6 2]))))
  (.ops [bK 29 .add 10 1, mV 10 29])))
/-- notary/term.At -/
def F71 : IFunc := ⟨.pure, .seq (.ops [bF 2 0, bZ 4, g0 (.mv 5 (.c (.bool false)))])
  (.seq (.seq (.ops [mV 8 1, lN 9 8, mK 10 0])
  (.block 0 (.loop L71_0)))
  (.seq (.ops [lF 30 2 2, sT 4 30 6 4, g0 (.mv 5 (.c (.bool true)))])
  (.ret))),
  [.cell 4 (some 6) (some 4), .t 5]⟩
def L72_2 : Ic := .seq (.ops [bT 97 .lss 96 95])
  (.seq (.cond (.t 97) (.skip)
  (.exit 4))
  (.seq (.block 5 (.seq (.ops [iX 98 94 96, lP 99 98, bZ 11, sT 11 99 6 11])
  (.seq (.ops [mV 100 0, nC 101 100, fA 102 101 14, lO 103 102, bK 104 .eql 103 0, mV 105 104, g1 105 true (.fldA 106 (.t 3) 1 none), g1 105 true (.load 107 (.t 106) none (some 3) false), g1 105 true (.bin 108 .eql (.t 107) (kI 1)), pA 109 105 108, mV 110 109, g1 110 true (.mv 111 (.t 0)), g1 110 true (.nilc (some 112) (.t 111)), g1 110 true (.fldA 113 (.t 112) 0 (some 6)), g1 110 true (.load 114 (.t 113) (some 6) none false), g1 110 true (.load 115 (.t 11) (some 6) (some 11) false), g1 110 true (.call (some 116) 121 [(.t 114), (.t 115)]), g1 110 true (.un 117 .not (.t 116)), pA 118 110 117])
  (.cond (.t 118) (.ops [mV 119 0, lF 120 11 11, cA 121 118 [(.t 119), (.t 120), (kI 12)]])
  (.skip)))))
  (.ops [bK 122 .add 96 1, mV 96 122])))
def L72_1 : Ic := .seq (.ops [bT 87 .lss 86 85])
  (.seq (.cond (.t 87) (.skip)
  (.exit 2))
  (.seq (.block 3 (.seq (.ops [iX 88 84 86, lP 89 88, bZ 9, sT 9 89 6 9])
  (.ops [mV 90 0, lF 91 9 9, cA 92 119 [(.t 90), (.t 91)]])))
  (.ops [bK 93 .add 86 1, mV 86 93])))
def L72_0 : Ic := .seq (.ops [bT 61 .lss 60 59])
  (.seq (.cond (.t 61) (.skip)
  (.exit 0))
  (.seq (.block 1 (.seq (.ops [iX 62 58 60, lP 63 62, bZ 6, sT 6 63 6 6])
  (.ops [mV 64 4, fA 65 6 3, lA 66 65 6, g0 (.idxA 67 (.t 66) (kI 0) 6 (some 6) none), lP 68 67, g0 (.bsl 69 6 true [(.t 68)]), g0 (.app 70 (.t 64) (.t 69) 6), mV 4 70])))
  (.ops [bK 71 .add 60 1, mV 60 71])))
/-- (*notary/right.looker).function -/
def F72 : IFunc := ⟨.raw, .seq (.ops [bF 3 1])
  (.seq (.seq (.ops [fA 12 3 1, lA 13 12 3, bK 14 .neq 13 0, mV 15 14, g1 15 true (.fldA 16 (.t 3) 1 none), g1 15 true (.load 17 (.t 16) none (some 3) false), g1 15 true (.bin 18 .neq (.t 17) (kI 1)), pA 19 15 18, mV 20 19, g1 20 false (.fldA 21 (.t 3) 3 none), g1 20 false (.load 22 (.t 21) none (some 3) false), g1 20 false (.len 23 .slice (.t 22) false), g1 20 false (.bin 24 .neq (.t 23) (kI 3)), pO 25 20 24, mV 26 25, g1 26 false (.fldA 27 (.t 3) 3 none), g1 26 false (.load 28 (.t 27) none (some 3) false), g1 26 false (.idxA 29 (.t 28) (kI 0) 6 (some 6) none), g1 26 false (.fldA 30 (.t 29) 0 none), g1 26 false (.load 31 (.t 30) none none false), g1 26 false (.bin 32 .neq (.t 31) (kI 35)), pO 33 26 32, mV 34 33, g1 34 false (.fldA 35 (.t 3) 3 none), g1 34 false (.load 36 (.t 35) none (some 3) false), g1 34 false (.idxA 37 (.t 36) (kI 0) 6 (some 6) none), g1 34 false (.fldA 38 (.t 37) 3 none), g1 34 false (.load 39 (.t 38) none none false), g1 34 false (.call (some 40) 117 [(.t 39)]), g1 34 false (.un 41 .not (.t 40)), pO 42 34 41, mV 43 42, g1 43 false (.fldA 44 (.t 3) 3 none), g1 43 false (.load 45 (.t 44) none (some 3) false), g1 43 false (.idxA 46 (.t 45) (kI 2) 6 (some 6) none), g1 43 false (.fldA 47 (.t 46) 0 none), g1 43 false (.load 48 (.t 47) none none false), g1 43 false (.bin 49 .neq (.t 48) (kI 29)), pO 50 43 49])
  (.cond (.t 50) (.seq (.ops [mV 51 0, lF 52 3 3, cA 53 118 [(.t 51), (.t 52), (kI 12)]])
  (.ret))
  (.skip)))
  (.seq (.ops [g0 (.mv 4 (.c .nils))])
  (.seq (.seq (.ops [fA 54 3 3, lA 55 54 3, g0 (.idxA 56 (.t 55) (kI 0) 6 (some 6) none), fA 57 56 3, lO 58 57, lN 59 58, mK 60 0])
  (.block 0 (.loop L72_0)))
  (.seq (.ops [mV 72 4, mV 73 4, lN 74 73, mV 75 4, lN 76 75, g0 (.slc 77 (some 6) (.t 72) none (some (.t 74)) (some (.t 76))), fA 78 3 3, lA 79 78 3, g0 (.idxA 80 (.t 79) (kI 1) 6 (some 6) none), lP 81 80, g0 (.bsl 82 6 true [(.t 81)]), g0 (.app 83 (.t 77) (.t 82) 6), mV 7 83])
  (.seq (.seq (.ops [mV 84 7, lN 85 84, mK 86 0])
  (.block 2 (.loop L72_1)))
  (.seq (.seq (.ops [mV 94 7, lN 95 94, mK 96 0])
  (.block 4 (.loop L72_2)))
  (.ops [mV 123 0, mV 124 0, mV 125 4, fA 126 3 3, lA 127 126 3, g0 (.idxA 128 (.t 127) (kI 1) 6 (some 6) none), lP 129 128, nC 130 123, fA 131 130 6, g0 (.store (.t 131) (.t 125) 1 none), nC 132 124, g0 (.fldA 133 (.t 132) 7 (some 6)), g0 (.store (.t 133) (.t 129) 6 none)]))))))),
  []⟩
/-- (*notary/right.looker).bring -/
def F73 : IFunc := ⟨.raw, .seq (.ops [bF 3 1])
  (.seq (.seq (.ops [fA 8 3 3, lA 9 8 3, lN 10 9, bK 11 .eql 10 0])
  (.cond (.t 11) (.ret)
  (.skip)))
  (.seq (.ops [fA 12 3 0, lA 13 12 3])
  (.block 0 (.seq (.ops [bK 15 .eql 13 20, mV 14 15])
  (.cond (.t 14) (.seq (.ops [mV 17 0, nC 18 17, g0 (.fldA 19 (.t 18) 0 (some 6)), lP 20 19, mV 21 0, nC 22 21, fA 23 22 6, lO 24 23, fA 25 3 3, lA 26 25 3, g0 (.idxA 27 (.t 26) (kI 0) 6 (some 6) none), lP 28 27, cA 29 62 [(.t 20), (.t 24), (.t 28)], mV 16 29, eX 30 16 0, eX 31 16 1, eX 32 16 2, eX 33 16 3, bZ 4, bZ 5, sT 4 30 6 4, sT 5 31 6 5, mV 6 32, mV 7 33])
  (.ops [mV 34 0, nC 35 34, fA 36 35 6, lO 37 36, lF 38 4 4, lN 39 37, g0 (.bsl 40 6 true [(.c (.agg zT))]), g0 (.app 41 (.t 37) (.t 40) 6), iX 42 41 39, g0 (.storeX false (.t 42) (.t 38) 6), nC 43 34, fA 44 43 6, g0 (.storeX true (.t 44) (.t 41) 1)]))
  (.seq (.ops [bK 46 .eql 13 21, mV 45 46])
  (.cond (.t 45) (.ops [mV 47 0, nC 48 47, fA 49 48 6, lO 50 49, fA 51 3 3, lA 52 51 3, g0 (.idxA 53 (.t 52) (kI 0) 6 (some 6) none), lP 54 53, lN 55 50, g0 (.bsl 56 6 true [(.c (.agg zT))]), g0 (.app 57 (.t 50) (.t 56) 6), iX 58 57 55, g0 (.storeX false (.t 58) (.t 54) 6), nC 59 47, fA 60 59 6, g0 (.storeX true (.t 60) (.t 57) 1)])
  (.skip)))))))),
  []⟩
def L74_0 : Ic := .seq (.seq (.ops [mV 34 5, fA 35 2 3, lA 36 35 2, lN 37 36, bT 38 .lss 34 37])
  (.cond (.t 38) (.skip)
  (.exit 0)))
  (.seq (.block 1 (.seq (.ops [fA 41 2 3, lA 42 41 2, mV 43 5, iX 44 42 43, lP 45 44, fA 46 3 3, lA 47 46 3, mV 48 5, iX 49 47 48, lP 50 49, cA 51 74 [(.t 45), (.t 50)], g0 (.un 52 .not (.t 51))])
  (.cond (.t 52) (.seq (.ops [g0 (.mv 4 (.c (.bool false)))])
  (.ret))
  (.skip))))
  (.ops [mV 39 5, bK 40 .add 39 1, mV 5 40]))
/-- notary/notaryref06.Same -/
def F74 : IFunc := ⟨.pure, .seq (.ops [bF 2 0, bF 3 1, g0 (.mv 4 (.c (.bool false)))])
  (.seq (.seq (.ops [fA 6 2 0, lA 7 6 2, fA 8 3 0, lA 9 8 3, bT 10 .neq 7 9, mV 11 10, g1 11 false (.fldA 12 (.t 2) 1 none), g1 11 false (.load 13 (.t 12) none (some 2) false), g1 11 false (.fldA 14 (.t 3) 1 none), g1 11 false (.load 15 (.t 14) none (some 3) false), g1 11 false (.bin 16 .neq (.t 13) (.t 15)), pO 17 11 16, mV 18 17, g1 18 false (.fldA 19 (.t 2) 2 none), g1 18 false (.load 20 (.t 19) none (some 2) false), g1 18 false (.fldA 21 (.t 3) 2 none), g1 18 false (.load 22 (.t 21) none (some 3) false), g1 18 false (.bin 23 .neq (.t 20) (.t 22)), pO 24 18 23, mV 25 24, g1 25 false (.fldA 26 (.t 2) 3 none), g1 25 false (.load 27 (.t 26) none (some 2) false), g1 25 false (.len 28 .slice (.t 27) false), g1 25 false (.fldA 29 (.t 3) 3 none), g1 25 false (.load 30 (.t 29) none (some 3) false), g1 25 false (.len 31 .slice (.t 30) false), g1 25 false (.bin 32 .neq (.t 28) (.t 31)), pO 33 25 32])
  (.cond (.t 33) (.seq (.ops [g0 (.mv 4 (.c (.bool false)))])
  (.ret))
  (.skip)))
  (.seq (.seq (.ops [mK 5 0])
  (.block 0 (.loop L74_0)))
  (.seq (.ops [g0 (.mv 4 (.c (.bool true)))])
  (.ret)))),
  [.t 4]⟩
def L75_0 : Ic := .seq (.seq (.ops [mV 21 10, mV 22 9, bT 23 .lss 21 22])
  (.cond (.t 23) (.skip)
  (.exit 0)))
  (.seq (.block 1 (.ops [lF 26 4 4, mV 27 1, fA 28 6 3, lA 29 28 6, mV 30 10, iX 31 29 30, lP 32 31, cA 33 122 [(.t 26), (.t 27), (.t 32)], mV 1 33]))
  (.ops [mV 24 10, bK 25 .add 24 1, mV 10 25]))
/-- notary/notaryref16.Below -/
def F75 : IFunc := ⟨.pure, .seq (.ops [bF 4 0, bF 6 2, g0 (.mv 8 (.c .nils))])
  (.seq (.seq (.ops [mV 11 3, lN 12 11, bK 13 .eql 12 0])
  (.cond (.t 13) (.seq (.ops [mV 14 1, mV 8 14])
  (.ret))
  (.skip)))
  (.seq (.ops [mV 15 3, g0 (.idxA 16 (.t 15) (kI 0) 1 none none), lO 17 16, mV 9 17])
  (.seq (.seq (.ops [fA 18 6 0, lA 19 18 6, bK 20 .eql 19 29])
  (.cond (.t 20) (.seq (.ops [mK 10 0])
  (.block 0 (.loop L75_0)))
  (.skip)))
  (.seq (.seq (.ops [fA 34 6 0, lA 35 34 6, bK 36 .eql 35 25, mV 37 36, g1 37 true (.mv 38 (.t 9)), g1 37 true (.bin 39 .eql (.t 38) (kI 2)), pA 40 37 39])
  (.cond (.t 40) (.ops [g0 (.bsl 41 6 true []), mV 42 1, g0 (.app 43 (.t 41) (.t 42) 6), g0 (.build 44 zT [(0, 1, (kI 1))]), g0 (.bsl 45 6 true [(.t 44)]), g0 (.app 46 (.t 43) (.t 45) 6), mV 1 46])
  (.skip)))
  (.seq (.ops [lF 47 4 4, mV 48 1, fA 49 6 3, lA 50 49 6, mV 51 9, iX 52 50 51, lP 53 52, mV 54 3, g0 (.slc 55 (some 1) (.t 54) (some (kI 1)) none none), cA 56 75 [(.t 47), (.t 48), (.t 53), (.t 55)], mV 8 56])
  (.ret)))))),
  [.t 8]⟩
/-- notary/notaryref16.Decl -/
def F81 : IFunc := ⟨.pure, .seq (.ops [bF 2 0, g0 (.boxL 4 8 none [(.int .i64 0), (.int .i64 0), (.str []), .nils, (.int .i64 0), (.int .i64 0), (.int .i64 0), (.int .i64 0)])])
  (.seq (.ops [fA 6 2 3, lA 7 6 2, mV 8 1, iX 9 7 8, lP 10 9, bZ 5, sT 5 10 6 5])
  (.seq (.seq (.ops [fA 11 5 0, lA 12 11 5, bK 13 .eql 12 33])
  (.cond (.t 13) (.seq (.ops [lF 14 2 2, lF 15 5 5, cA 16 135 [(.t 14), (.t 15)], sT 4 16 8 4])
  (.ret))
  (.skip)))
  (.seq (.seq (.ops [fA 17 5 0, lA 18 17 5, bK 19 .eql 18 30])
  (.cond (.t 19) (.seq (.seq (.ops [lF 20 5 5, cA 21 136 [(.t 20)], g0 (.un 22 .not (.t 21))])
  (.cond (.t 22) (.seq (.ops [lF 23 5 5, cA 24 137 [(.t 23), (kI 12)], sT 4 24 8 4])
  (.ret))
  (.skip)))
  (.seq (.ops [lF 25 2 2, mV 26 1, g0 (.build 27 zT [(0, 1, (kI 4)), (1, 1, (.t 26))]), cA 28 60 [(.t 25), (.t 27)], bK 29 .eql 28 0])
  (.cond (.t 29) (.seq (.ops [lF 30 5 5, cA 31 137 [(.t 30), (kI 11)], sT 4 31 8 4])
  (.ret))
  (.skip))))
  (.seq (.ops [fA 32 5 0, lA 33 32 5, bK 34 .eql 33 32, mV 35 34, g1 35 true (.fldA 36 (.t 5) 3 none), g1 35 true (.load 37 (.t 36) none (some 5) false), g1 35 true (.len 38 .slice (.t 37) false), g1 35 true (.bin 39 .eql (.t 38) (kI 1)), pA 40 35 39])
  (.cond (.t 40) (.seq (.ops [lF 41 2 2, fA 42 5 3, lA 43 42 5, g0 (.idxA 44 (.t 43) (kI 0) 6 (some 6) none), lP 45 44, cA 46 60 [(.t 41), (.t 45)], bK 47 .eql 46 0])
  (.cond (.t 47) (.seq (.ops [fA 48 5 3, lA 49 48 5, g0 (.idxA 50 (.t 49) (kI 0) 6 (some 6) none), lP 51 50, cA 52 137 [(.t 51), (kI 11)], sT 4 52 8 4])
  (.ret))
  (.skip)))
  (.seq (.ops [fA 53 5 0, lA 54 53 5, bK 55 .neq 54 31, mV 56 55, g1 56 false (.fldA 57 (.t 5) 3 none), g1 56 false (.load 58 (.t 57) none (some 5) false), g1 56 false (.len 59 .slice (.t 58) false), g1 56 false (.bin 60 .neq (.t 59) (kI 1)), pO 61 56 60, mV 62 61, g1 62 false (.fldA 63 (.t 5) 3 none), g1 62 false (.load 64 (.t 63) none (some 5) false), g1 62 false (.idxA 65 (.t 64) (kI 0) 6 (some 6) none), g1 62 false (.fldA 66 (.t 65) 3 none), g1 62 false (.load 67 (.t 66) none none false), g1 62 false (.len 68 .slice (.t 67) false), g1 62 false (.bin 69 .gtr (.t 68) (kI 0)), pO 70 62 69, mV 71 70, g1 71 false (.fldA 72 (.t 5) 3 none), g1 71 false (.load 73 (.t 72) none (some 5) false), g1 71 false (.idxA 74 (.t 73) (kI 0) 6 (some 6) none), g1 71 false (.load 75 (.t 74) (some 6) none false), g1 71 false (.call (some 76) 138 [(.t 75)]), g1 71 false (.fld 77 (.t 76) 0 none), g1 71 false (.bin 78 .eql (.t 77) (kI 0)), pO 79 71 78, mV 80 79, g1 80 false (.fldA 81 (.t 5) 3 none), g1 80 false (.load 82 (.t 81) none (some 5) false), g1 80 false (.idxA 83 (.t 82) (kI 0) 6 (some 6) none), g1 80 false (.fldA 84 (.t 83) 0 none), g1 80 false (.load 85 (.t 84) none none false), g1 80 false (.bin 86 .eql (.t 85) (kI 6)), g1 80 false (.mv 87 (.t 86)), g1 87 true (.fldA 88 (.t 5) 3 none), g1 87 true (.load 89 (.t 88) none (some 5) false), g1 87 true (.idxA 90 (.t 89) (kI 0) 6 (some 6) none), g1 87 true (.fldA 91 (.t 90) 1 none), g1 87 true (.load 92 (.t 91) none none false), g1 87 true (.bin 93 .neq (.t 92) (kI 0)), g1 80 false (.pick 94 (.t 87) (.t 93) (.c (.bool false))), g1 80 false (.mv 95 (.t 94)), g1 95 true (.fldA 96 (.t 5) 3 none), g1 95 true (.load 97 (.t 96) none (some 5) false), g1 95 true (.idxA 98 (.t 97) (kI 0) 6 (some 6) none), g1 95 true (.fldA 99 (.t 98) 1 none), g1 95 true (.load 100 (.t 99) none none false), g1 95 true (.bin 101 .neq (.t 100) (kI 1)), g1 80 false (.pick 102 (.t 95) (.t 101) (.c (.bool false))), pO 103 80 102])
  (.cond (.t 103) (.seq (.ops [lF 104 5 5, cA 105 137 [(.t 104), (kI 12)], sT 4 105 8 4])
  (.ret))
  (.skip)))))))
  (.seq (.ops [lF 106 5 5, cA 107 139 [(.t 106)], g0 (.build 108 [(.int .i64 0), (.int .i64 0), (.str []), .nils, (.int .i64 0), (.int .i64 0), (.int .i64 0), (.int .i64 0)] [(0, 6, (.t 107))]), sT 4 108 8 4])
  (.ret))))),
  [.cell 4 (some 8) (some 4)]⟩
/-- (notary/typ.meter).cells -/
def F84 : IFunc := ⟨.pure, .seq (.ops [g0 (.boxL 2 7 (some (.t 0)) []), bF 3 1, mK 4 0])
  (.seq (.block 0 (.seq (.ops [fA 6 3 0, lA 7 6 3, bK 8 .eql 7 1, mV 9 8, g1 9 false (.fldA 10 (.t 3) 0 none), g1 9 false (.load 11 (.t 10) none (some 3) false), g1 9 false (.bin 12 .eql (.t 11) (kI 2)), pO 13 9 12, mV 14 13, g1 14 true (.fldA 15 (.t 3) 3 none), g1 14 true (.load 16 (.t 15) none (some 3) false), g1 14 true (.len 17 .slice (.t 16) false), g1 14 true (.bin 18 .eql (.t 17) (kI 0)), pA 19 14 18, mV 5 19])
  (.cond (.t 5) (.seq (.ops [mK 4 1])
  (.ret))
  (.seq (.ops [fA 21 3 0, lA 22 21 3, bK 23 .eql 22 3, mV 24 23, g1 24 true (.fldA 25 (.t 3) 3 none), g1 24 true (.load 26 (.t 25) none (some 3) false), g1 24 true (.len 27 .slice (.t 26) false), g1 24 true (.bin 28 .eql (.t 27) (kI 1)), pA 29 24 28, mV 20 29])
  (.cond (.t 20) (.seq (.ops [fA 30 3 1, lA 31 30 3, g0 (.load 32 (.t 2) (some 7) (some 2) false), fA 33 3 3, lA 34 33 3, g0 (.idxA 35 (.t 34) (kI 0) 6 (some 6) none), lP 36 35, cA 37 84 [(.t 32), (.t 36)], cA 38 145 [(.t 31), (.t 37)], mV 4 38])
  (.ret))
  (.seq (.ops [fA 40 3 0, lA 41 40 3, bK 42 .eql 41 4, mV 43 42, g1 43 true (.fldA 44 (.t 3) 3 none), g1 43 true (.load 45 (.t 44) none (some 3) false), g1 43 true (.len 46 .slice (.t 45) false), g1 43 true (.bin 47 .eql (.t 46) (kI 0)), pA 48 43 47, mV 39 48])
  (.cond (.t 39) (.seq (.ops [g0 (.load 49 (.t 2) (some 7) (some 2) false), fA 50 3 1, lA 51 50 3, cA 52 146 [(.t 49), (.t 51)], mV 4 52])
  (.ret))
  (.skip))))))))
  (.seq (.ops [mK 4 0])
  (.ret))),
  [.t 4]⟩
def L92_1 : Ic := .seq (.seq (.ops [mV 104 12, fA 105 10 3, lA 106 105 10, lN 107 106, bT 108 .lss 104 107])
  (.cond (.t 108) (.skip)
  (.exit 2)))
  (.seq (.block 3 (.seq (.ops [lF 111 3 3, fA 112 10 3, lA 113 112 10, mV 114 12, iX 115 113 114, fA 116 115 3, g0 (.load 117 (.t 116) none none true), g0 (.idxA 118 (.t 117) (kI 0) 6 (some 6) none), g0 (.load 119 (.t 118) (some 6) none true), g0 (.bsl 120 1 false []), mV 121 2, g0 (.app 122 (.t 120) (.t 121) 1), mV 123 8, g0 (.bsl 124 1 false [(.t 123)]), g0 (.app 125 (.t 122) (.t 124) 1), cA 126 92 [(.t 111), (.t 119), (.t 125)], mV 13 126])
  (.seq (.ops [mV 127 11, mV 128 13, bT 129 .add 127 128, mV 11 129])
  (.seq (.ops [mV 130 13, bK 131 .eql 130 0, mV 132 131, g1 132 false (.mv 133 (.t 11)), g1 132 false (.bin 134 .gtr (.t 133) (kI 64)), pO 135 132 134])
  (.cond (.t 135) (.seq (.ops [mK 6 0])
  (.ret))
  (.skip))))))
  (.ops [mV 109 12, bK 110 .add 109 1, mV 12 110]))
def L92_0 : Ic := .seq (.seq (.ops [mV 84 9, mV 85 2, lN 86 85, bT 87 .lss 84 86])
  (.cond (.t 87) (.skip)
  (.exit 0)))
  (.seq (.block 1 (.seq (.ops [mV 90 2, mV 91 9, g0 (.idxA 92 (.t 90) (.t 91) 1 none none), lO 93 92, mV 94 8, bT 95 .eql 93 94])
  (.cond (.t 95) (.seq (.ops [mK 6 0])
  (.ret))
  (.skip))))
  (.ops [mV 88 9, bK 89 .add 88 1, mV 9 89]))
/-- notary/notaryref12.Within -/
def F92 : IFunc := ⟨.pure, .seq (.ops [bF 3 0, bF 4 1, mK 6 0])
  (.seq (.seq (.ops [fA 14 4 0, lA 15 14 4, bK 16 .eql 15 1, mV 17 16, g1 17 false (.fldA 18 (.t 4) 0 none), g1 17 false (.load 19 (.t 18) none (some 4) false), g1 17 false (.bin 20 .eql (.t 19) (kI 2)), pO 21 17 20, mV 22 21, g1 22 true (.fldA 23 (.t 4) 3 none), g1 22 true (.load 24 (.t 23) none (some 4) false), g1 22 true (.len 25 .slice (.t 24) false), g1 22 true (.bin 26 .eql (.t 25) (kI 0)), pA 27 22 26])
  (.cond (.t 27) (.seq (.ops [mK 6 1])
  (.ret))
  (.skip)))
  (.seq (.seq (.ops [fA 28 4 0, lA 29 28 4, bK 30 .eql 29 3, mV 31 30, g1 31 true (.fldA 32 (.t 4) 3 none), g1 31 true (.load 33 (.t 32) none (some 4) false), g1 31 true (.len 34 .slice (.t 33) false), g1 31 true (.bin 35 .eql (.t 34) (kI 1)), pA 36 31 35, mV 37 36, g1 37 true (.fldA 38 (.t 4) 1 none), g1 37 true (.load 39 (.t 38) none (some 4) false), g1 37 true (.bin 40 .geq (.t 39) (kI 1)), pA 41 37 40, mV 42 41, g1 42 true (.fldA 43 (.t 4) 1 none), g1 42 true (.load 44 (.t 43) none (some 4) false), g1 42 true (.bin 45 .leq (.t 44) (kI 16)), pA 46 42 45])
  (.cond (.t 46) (.seq (.ops [lF 47 3 3, fA 48 4 3, lA 49 48 4, g0 (.idxA 50 (.t 49) (kI 0) 6 (some 6) none), lP 51 50, mV 52 2, cA 53 92 [(.t 47), (.t 51), (.t 52)], fA 54 4 1, lA 55 54 4, bT 56 .mul 53 55, mV 7 56])
  (.seq (.seq (.ops [mV 57 7, bK 58 .gtr 57 64])
  (.cond (.t 58) (.seq (.ops [mK 6 0])
  (.ret))
  (.skip)))
  (.seq (.ops [mV 59 7, mV 6 59])
  (.ret))))
  (.skip)))
  (.seq (.seq (.ops [fA 60 4 0, lA 61 60 4, bK 62 .neq 61 4, mV 63 62, g1 63 false (.fldA 64 (.t 4) 3 none), g1 63 false (.load 65 (.t 64) none (some 4) false), g1 63 false (.len 66 .slice (.t 65) false), g1 63 false (.bin 67 .neq (.t 66) (kI 0)), pO 68 63 67, mV 69 68, g1 69 false (.fldA 70 (.t 4) 1 none), g1 69 false (.load 71 (.t 70) none (some 4) false), g1 69 false (.bin 72 .lss (.t 71) (kI 0)), pO 73 69 72, mV 74 73, g1 74 false (.fldA 75 (.t 4) 1 none), g1 74 false (.load 76 (.t 75) none (some 4) false), g1 74 false (.fldA 77 (.t 3) 3 none), g1 74 false (.load 78 (.t 77) none (some 3) false), g1 74 false (.len 79 .slice (.t 78) false), g1 74 false (.bin 80 .geq (.t 76) (.t 79)), pO 81 74 80])
  (.cond (.t 81) (.seq (.ops [mK 6 0])
  (.ret))
  (.skip)))
  (.seq (.ops [fA 82 4 1, lA 83 82 4, mV 8 83])
  (.seq (.seq (.ops [mK 9 0])
  (.block 0 (.loop L92_0)))
  (.seq (.ops [fA 96 3 3, lA 97 96 3, mV 98 8, iX 99 97 98, lP 100 99, bZ 10, sT 10 100 6 10])
  (.seq (.seq (.ops [lF 101 10 10, cA 102 136 [(.t 101)], g0 (.un 103 .not (.t 102))])
  (.cond (.t 103) (.seq (.ops [mK 6 0])
  (.ret))
  (.skip)))
  (.seq (.ops [mK 11 0])
  (.seq (.seq (.ops [mK 12 0])
  (.block 2 (.loop L92_1)))
  (.seq (.ops [mV 136 11, mV 6 136])
  (.ret))))))))))),
  [.t 6]⟩
def L93_0 : Ic := .seq (.ops [bT 48 .lss 47 46])
  (.seq (.cond (.t 48) (.skip)
  (.exit 0))
  (.seq (.block 1 (.seq (.ops [iX 49 45 47, lP 50 49, bZ 12, sT 12 50 6 12])
  (.seq (.ops [mV 51 10, lF 52 12 12, g0 (.callV (some 53) (.t 51) [(.t 52)]), g0 (.un 54 .not (.t 53))])
  (.cond (.t 54) (.seq (.ops [g0 (.build 55 zT []), g0 (.build 56 zT []), sT 4 55 6 4, sT 5 56 6 5])
  (.ret))
  (.skip)))))
  (.ops [bK 57 .add 47 1, mV 47 57])))
/-- (*notary/typer.typer).of -/
def F93 : IFunc := ⟨.cut, .seq (.ops [g0 (.boxH 2 none (.t 0)), bF 3 1, bZ 4, bZ 5])
  (.seq (.seq (.ops [lF 15 3 3, cA 16 151 [(.t 15)], g0 (.un 17 .not (.t 16))])
  (.cond (.t 17) (.seq (.ops [lO 18 2, lF 19 3 3, cA 20 152 [(.t 18), (.t 19), (kI 12)], eX 21 20 0, eX 22 20 1, sT 4 21 6 4, sT 5 22 6 5])
  (.ret))
  (.skip)))
  (.seq (.ops [lO 24 2, lF 25 3 3, cA 26 153 [(.t 24), (.t 25)], mV 23 26, eX 27 23 0, eX 28 23 1, bZ 6, sT 6 27 6 6, mV 7 28])
  (.seq (.seq (.ops [mV 29 7, g0 (.un 30 .not (.t 29))])
  (.cond (.t 30) (.seq (.ops [lO 31 2, lF 32 3 3, cA 33 152 [(.t 31), (.t 32), (kI 8)], eX 34 33 0, eX 35 33 1, sT 4 34 6 4, sT 5 35 6 5])
  (.ret))
  (.skip)))
  (.seq (.ops [fA 36 3 0, lA 37 36 3, fA 38 3 1, lA 39 38 3, fA 40 3 2, lA 41 40 3, g0 (.build 42 zT [(0, 1, (.t 37)), (1, 1, (.t 39)), (2, 1, (.t 41))]), g0 (.boxH 8 (some 6) (.c (.agg zT))), g0 (.store (.t 8) (.t 42) 6 none)])
  (.seq (.ops [g0 (.boxH 9 none (.c .nils))])
  (.seq (.ops [g0 (.mkfn 43 154 [] [(.t 2), (.t 9), (.t 8)]), mV 10 43])
  (.seq (.seq (.ops [fA 44 3 3, lA 45 44 3, lN 46 45, mK 47 0])
  (.block 0 (.loop L93_0)))
  (.seq (.ops [lO 59 2, lF 60 6 6, lO 61 9, cA 62 155 [(.t 59), (.t 8), (.t 60), (.t 61)], mV 58 62, eX 63 58 0, eX 64 58 1, bZ 13, sT 13 63 6 13, mV 14 64])
  (.seq (.seq (.ops [mV 65 14, bK 66 .neq 65 0])
  (.cond (.t 66) (.seq (.ops [lO 67 2, lF 68 3 3, mV 69 14, cA 70 152 [(.t 67), (.t 68), (.t 69)], eX 71 70 0, eX 72 70 1, sT 4 71 6 4, sT 5 72 6 5])
  (.ret))
  (.skip)))
  (.seq (.ops [fA 73 8 2, g0 (.store (.t 73) (.c (.str [])) 1 none)])
  (.seq (.ops [lF 74 13 13, lP 75 8, sT 4 74 6 4, sT 5 75 6 5])
  (.ret)))))))))))),
  [.cell 4 (some 6) (some 4), .cell 5 (some 6) (some 5)]⟩
def L94_0 : Ic := .seq (.ops [bT 18 .lss 17 16])
  (.seq (.cond (.t 18) (.skip)
  (.exit 0))
  (.seq (.block 1 (.seq (.ops [mV 19 17, iX 20 15 17, lP 21 20, bZ 8, mV 7 19, sT 8 21 6 8])
  (.seq (.ops [mV 22 1, mV 23 7, iX 24 22 23, lP 25 24, bZ 9, sT 9 25 6 9])
  (.seq (.ops [mV 26 2, lF 27 8 8, lF 28 9 9, g0 (.callV (some 29) (.t 26) [(.t 27), (.t 28)]), g0 (.un 30 .not (.t 29))])
  (.cond (.t 30) (.seq (.ops [g0 (.mv 6 (.c (.bool false)))])
  (.ret))
  (.skip))))))
  (.ops [bK 31 .add 17 1, mV 17 31])))
/-- slices.EqualFunc[[]notary/api.Term,[]notary/api.Term,notary/api.Term,notary/api.Term] -/
def F94 : IFunc := ⟨.pure, .seq (.ops [g0 (.mv 6 (.c (.bool false)))])
  (.seq (.seq (.ops [mV 10 0, lN 11 10, mV 12 1, lN 13 12, bT 14 .neq 11 13])
  (.cond (.t 14) (.seq (.ops [g0 (.mv 6 (.c (.bool false)))])
  (.ret))
  (.skip)))
  (.seq (.seq (.ops [mV 15 0, lN 16 15, mK 17 0])
  (.block 0 (.loop L94_0)))
  (.seq (.ops [g0 (.mv 6 (.c (.bool true)))])
  (.ret)))),
  [.t 6]⟩
/-- notary/notaryref15.Shaped -/
def F103 : IFunc := ⟨.pure, .seq (.ops [bF 1 0, g0 (.mv 2 (.c (.bool false)))])
  (.seq (.ops [fA 4 1 3, lA 5 4 1, lN 6 5, mV 3 6])
  (.seq (.seq (.ops [fA 7 1 0, lA 8 7 1, bK 9 .eql 8 5, mV 10 9, g1 10 false (.fldA 11 (.t 1) 0 none), g1 10 false (.load 12 (.t 11) none (some 1) false), g1 10 false (.bin 13 .eql (.t 12) (kI 7)), pO 14 10 13, mV 15 14, g1 15 false (.fldA 16 (.t 1) 0 none), g1 15 false (.load 17 (.t 16) none (some 1) false), g1 15 false (.bin 18 .eql (.t 17) (kI 8)), pO 19 15 18, mV 20 19, g1 20 false (.fldA 21 (.t 1) 0 none), g1 20 false (.load 22 (.t 21) none (some 1) false), g1 20 false (.bin 23 .eql (.t 22) (kI 9)), pO 24 20 23, mV 25 24, g1 25 false (.fldA 26 (.t 1) 0 none), g1 25 false (.load 27 (.t 26) none (some 1) false), g1 25 false (.bin 28 .eql (.t 27) (kI 18)), pO 29 25 28])
  (.cond (.t 29) (.seq (.ops [mV 30 3, bK 31 .eql 30 0, mV 2 31])
  (.ret))
  (.skip)))
  (.seq (.seq (.ops [fA 32 1 0, lA 33 32 1, bK 34 .eql 33 6])
  (.cond (.t 34) (.seq (.ops [mV 35 3, bK 36 .eql 35 0, mV 37 36, g1 37 true (.fldA 38 (.t 1) 1 none), g1 37 true (.load 39 (.t 38) none (some 1) false), g1 37 true (.bin 40 .eql (.t 39) (kI 0)), g1 37 true (.mv 41 (.t 40)), g1 41 false (.fldA 42 (.t 1) 1 none), g1 41 false (.load 43 (.t 42) none (some 1) false), g1 41 false (.bin 44 .eql (.t 43) (kI 1)), g1 37 true (.pick 45 (.t 41) (.c (.bool true)) (.t 44)), pA 46 37 45, mV 2 46])
  (.ret))
  (.skip)))
  (.seq (.seq (.ops [fA 47 1 0, lA 48 47 1, bK 49 .eql 48 11])
  (.cond (.t 49) (.seq (.ops [mV 50 3, bK 51 .eql 50 1, mV 52 51, g1 52 true (.fldA 53 (.t 1) 1 none), g1 52 true (.load 54 (.t 53) none (some 1) false), g1 52 true (.bin 55 .eql (.t 54) (kI 1)), g1 52 true (.mv 56 (.t 55)), g1 56 false (.fldA 57 (.t 1) 1 none), g1 56 false (.load 58 (.t 57) none (some 1) false), g1 56 false (.bin 59 .eql (.t 58) (kI 2)), g1 52 true (.pick 60 (.t 56) (.c (.bool true)) (.t 59)), pA 61 52 60, mV 2 61])
  (.ret))
  (.skip)))
  (.seq (.seq (.ops [fA 62 1 0, lA 63 62 1, bK 64 .eql 63 10])
  (.cond (.t 64) (.seq (.ops [mV 65 3, bK 66 .eql 65 2, mV 67 66, g1 67 true (.fldA 68 (.t 1) 1 none), g1 67 true (.load 69 (.t 68) none (some 1) false), g1 67 true (.bin 70 .geq (.t 69) (kI 1)), pA 71 67 70, mV 72 71, g1 72 true (.fldA 73 (.t 1) 1 none), g1 72 true (.load 74 (.t 73) none (some 1) false), g1 72 true (.bin 75 .leq (.t 74) (kI 13)), pA 76 72 75, mV 2 76])
  (.ret))
  (.skip)))
  (.seq (.seq (.ops [fA 77 1 0, lA 78 77 1, bK 79 .eql 78 13])
  (.cond (.t 79) (.seq (.ops [mV 80 3, bK 81 .eql 80 1, mV 2 81])
  (.ret))
  (.skip)))
  (.seq (.seq (.ops [fA 82 1 0, lA 83 82 1, bK 84 .eql 83 12])
  (.cond (.t 84) (.seq (.ops [mV 85 3, bK 86 .eql 85 2, mV 2 86])
  (.ret))
  (.skip)))
  (.seq (.seq (.ops [fA 87 1 0, lA 88 87 1, bK 89 .eql 88 14, mV 90 89, g1 90 false (.fldA 91 (.t 1) 0 none), g1 90 false (.load 92 (.t 91) none (some 1) false), g1 90 false (.bin 93 .eql (.t 92) (kI 15)), pO 94 90 93])
  (.cond (.t 94) (.seq (.ops [mV 95 3, bK 96 .geq 95 1, mV 2 96])
  (.ret))
  (.skip)))
  (.seq (.ops [fA 97 1 0, lA 98 97 1, bK 99 .eql 98 16, mV 100 99, g1 100 false (.fldA 101 (.t 1) 0 none), g1 100 false (.load 102 (.t 101) none (some 1) false), g1 100 false (.bin 103 .eql (.t 102) (kI 17)), pO 104 100 103, mV 2 104])
  (.ret)))))))))),
  [.t 2]⟩
/-- notary/notaryref15.Bad -/
def F104 : IFunc := ⟨.pure, .seq (.ops [bF 2 0, g0 (.boxL 4 14 none [(.int .i64 0), (.int .i64 0), (.str []), .nils, (.int .i64 0), (.int .i64 0), (.int .i64 0), (.int .i64 0), (.str []), .nils, (.int .i64 0), (.int .i64 0), (.int .i64 0), (.int .i64 0)])])
  (.seq (.ops [fA 5 2 4, lA 6 5 2, mV 7 1, g0 (.build 8 [(.int .i64 0), (.int .i64 0), (.str []), .nils, (.int .i64 0), (.int .i64 0), (.int .i64 0), (.int .i64 0), (.str []), .nils, (.int .i64 0), (.int .i64 0), (.int .i64 0), (.int .i64 0)] [(12, 1, (.t 6)), (13, 1, (.t 7))]), sT 4 8 14 4])
  (.ret)),
  [.cell 4 (some 14) (some 4)]⟩
/-- notary/notaryref15.Named -/
def F105 : IFunc := ⟨.pure, .seq (.ops [bF 3 0, bF 5 2, g0 (.mv 6 (.c (.bool false)))])
  (.seq (.seq (.ops [fA 7 5 0, lA 8 7 5, bK 9 .eql 8 7])
  (.cond (.t 9) (.seq (.ops [fA 10 5 1, lA 11 10 5, bK 12 .geq 11 0, mV 13 12, g1 13 true (.fldA 14 (.t 5) 1 none), g1 13 true (.load 15 (.t 14) none (some 5) false), g1 13 true (.mv 16 (.t 1)), g1 13 true (.len 17 .slice (.t 16) false), g1 13 true (.bin 18 .lss (.t 15) (.t 17)), pA 19 13 18, mV 6 19])
  (.ret))
  (.skip)))
  (.seq (.seq (.ops [fA 20 5 0, lA 21 20 5, bK 22 .eql 21 8])
  (.cond (.t 22) (.seq (.ops [lF 23 3 3, fA 24 5 1, lA 25 24 5, cA 26 159 [(.t 23), (.t 25), (kI 31)], mV 6 26])
  (.ret))
  (.skip)))
  (.seq (.seq (.ops [fA 27 5 0, lA 28 27 5, bK 29 .eql 28 9])
  (.cond (.t 29) (.seq (.ops [lF 30 3 3, fA 31 5 1, lA 32 31 5, cA 33 159 [(.t 30), (.t 32), (kI 32)], mV 6 33])
  (.ret))
  (.skip)))
  (.seq (.seq (.ops [fA 34 5 0, lA 35 34 5, bK 36 .eql 35 15])
  (.cond (.t 36) (.seq (.ops [lF 37 3 3, fA 38 5 1, lA 39 38 5, cA 40 159 [(.t 37), (.t 39), (kI 30)], mV 6 40])
  (.ret))
  (.skip)))
  (.seq (.seq (.ops [fA 41 5 0, lA 42 41 5, bK 43 .eql 42 16])
  (.cond (.t 43) (.seq (.ops [lF 44 3 3, fA 45 5 1, lA 46 45 5, cA 47 159 [(.t 44), (.t 46), (kI 33)], mV 6 47])
  (.ret))
  (.skip)))
  (.seq (.ops [fA 48 5 0, lA 49 48 5, bK 50 .neq 49 17, mV 6 50])
  (.ret))))))),
  [.t 6]⟩
/-- notary/notaryref15.Alone -/
def F106 : IFunc := ⟨.pure, .seq (.ops [bF 3 0, bF 5 2, bZ 6])
  (.seq (.seq (.ops [fA 7 5 0, lA 8 7 5, bK 9 .eql 8 7])
  (.cond (.t 9) (.seq (.ops [mV 10 1, mV 11 1, lN 12 11, bK 13 .sub 12 1, fA 14 5 1, lA 15 14 5, bT 16 .sub 13 15, iX 17 10 16, lP 18 17, cA 19 160 [(.t 18)], sT 6 19 6 6])
  (.ret))
  (.skip)))
  (.seq (.seq (.ops [fA 20 5 0, lA 21 20 5, bK 22 .eql 21 8])
  (.cond (.t 22) (.seq (.ops [fA 23 3 3, lA 24 23 3, fA 25 5 1, lA 26 25 5, iX 27 24 26, fA 28 27 3, lO 29 28, g0 (.idxA 30 (.t 29) (kI 0) 6 (some 6) none), lP 31 30, cA 32 138 [(.t 31)], sT 6 32 6 6])
  (.ret))
  (.skip)))
  (.seq (.seq (.ops [fA 33 5 0, lA 34 33 5, bK 35 .eql 34 9])
  (.cond (.t 35) (.seq (.ops [fA 36 3 3, lA 37 36 3, fA 38 5 1, lA 39 38 5, iX 40 37 39, fA 41 40 3, lO 42 41, g0 (.idxA 43 (.t 42) (kI 0) 6 (some 6) none), lP 44 43, cA 45 160 [(.t 44)], sT 6 45 6 6])
  (.ret))
  (.skip)))
  (.seq (.seq (.ops [fA 46 5 0, lA 47 46 5, bK 48 .eql 47 18])
  (.cond (.t 48) (.seq (.ops [cA 49 161 [], sT 6 49 6 6])
  (.ret))
  (.skip)))
  (.seq (.ops [lF 50 5 5, cA 51 138 [(.t 50)], sT 6 51 6 6])
  (.ret)))))),
  [.cell 6 (some 6) (some 6)]⟩

theorem L30_0_w : L30_0.wr = [27, 28, 29, 30, 8, 7, 31, 32, 33, 34, 35, 36, 37, 38, 39, 40, 41, 42, 43, 44, 45, 46, 47, 48, 49, 50, 51, 52, 53, 3, 4, 54, 26] := by kernel_rfl
theorem L30_0_p : L30_0.plain = true := by kernel_rfl
theorem L33_1_w : L33_1.wr = [80, 81, 82, 13, 83, 84, 85, 86, 79] := by kernel_rfl
theorem L33_1_p : L33_1.plain = true := by kernel_rfl
theorem L33_0_w : L33_0.wr = [68, 69, 70, 11, 71, 72, 73, 74, 75, 76, 77, 78, 79, 80, 81, 82, 13, 83, 84, 85, 86, 79, 87, 88, 89, 90, 91, 92, 93, 94, 95, 96, 97, 98, 99, 100, 101, 102, 103, 104, 105, 106, 107, 108, 109, 110, 67] := by kernel_rfl
theorem L33_0_p : L33_0.plain = true := by kernel_rfl
theorem L36_0_w : L36_0.wr = [11, 12, 13, 14, 17, 18, 19, 20, 21, 22, 23, 24, 25, 26, 4, 15, 16, 5] := by kernel_rfl
theorem L36_0_p : L36_0.plain = true := by kernel_rfl
theorem L40_0_w : L40_0.wr = [20, 21, 22, 23, 24, 27, 28, 29, 7, 30, 31, 32, 33, 34, 35, 36, 37, 3, 4, 38, 39, 40, 41, 42, 43, 44, 25, 26, 6] := by kernel_rfl
theorem L40_0_p : L40_0.plain = true := by kernel_rfl
theorem L49_0_w : L49_0.wr = [12, 13, 14, 15, 16, 17, 18, 19, 20, 23, 24, 25, 26, 27, 28, 29, 30, 31, 1, 21, 22, 7] := by kernel_rfl
theorem L49_0_p : L49_0.plain = true := by kernel_rfl
theorem L50_0_w : L50_0.wr = [8, 9, 10, 11, 12, 15, 16, 17, 18, 19, 20, 2, 13, 14, 3] := by kernel_rfl
theorem L50_0_p : L50_0.plain = true := by kernel_rfl
theorem L59_0_w : L59_0.wr = [6, 7, 8, 9, 10, 11, 12, 13, 16, 17, 18, 19, 20, 21, 22, 23, 24, 25, 26, 27, 28, 29, 3, 14, 15, 4] := by kernel_rfl
theorem L59_0_p : L59_0.plain = true := by kernel_rfl
theorem L65_0_w : L65_0.wr = [47, 48, 49, 50, 51, 54, 55, 56, 57, 58, 59, 60, 61, 10, 62, 63, 64, 65, 66, 67, 68, 69, 70, 7, 71, 72, 73, 74, 75, 8, 52, 53, 9] := by kernel_rfl
theorem L65_0_p : L65_0.plain = true := by kernel_rfl
theorem L66_0_w : L66_0.wr = [48, 49, 50, 51, 52, 55, 56, 57, 58, 59, 60, 61, 62, 63, 64, 65, 66, 4, 53, 54, 5] := by kernel_rfl
theorem L66_0_p : L66_0.plain = true := by kernel_rfl
theorem L70_0_w : L70_0.wr = [47, 48, 49, 50, 6, 5, 51, 52, 53, 54, 55, 56, 57, 58, 4, 59, 46] := by kernel_rfl
theorem L70_0_p : L70_0.plain = true := by kernel_rfl
theorem L71_0_w : L71_0.wr = [11, 12, 13, 7, 14, 15, 16, 17, 18, 19, 20, 21, 22, 23, 5, 24, 25, 26, 27, 28, 29, 10] := by kernel_rfl
theorem L71_0_p : L71_0.plain = true := by kernel_rfl
theorem L72_2_w : L72_2.wr = [97, 98, 99, 11, 100, 101, 102, 103, 104, 105, 106, 107, 108, 109, 110, 111, 112, 113, 114, 115, 116, 117, 118, 119, 120, 121, 122, 96] := by kernel_rfl
theorem L72_2_p : L72_2.plain = true := by kernel_rfl
theorem L72_1_w : L72_1.wr = [87, 88, 89, 9, 90, 91, 92, 93, 86] := by kernel_rfl
theorem L72_1_p : L72_1.plain = true := by kernel_rfl
theorem L72_0_w : L72_0.wr = [61, 62, 63, 6, 64, 65, 66, 67, 68, 69, 70, 4, 71, 60] := by kernel_rfl
theorem L72_0_p : L72_0.plain = true := by kernel_rfl
theorem L74_0_w : L74_0.wr = [34, 35, 36, 37, 38, 41, 42, 43, 44, 45, 46, 47, 48, 49, 50, 51, 52, 4, 39, 40, 5] := by kernel_rfl
theorem L74_0_p : L74_0.plain = true := by kernel_rfl
theorem L75_0_w : L75_0.wr = [21, 22, 23, 26, 27, 28, 29, 30, 31, 32, 33, 1, 24, 25, 10] := by kernel_rfl
theorem L75_0_p : L75_0.plain = true := by kernel_rfl
theorem L92_1_w : L92_1.wr = [104, 105, 106, 107, 108, 111, 112, 113, 114, 115, 116, 117, 118, 119, 120, 121, 122, 123, 124, 125, 126, 13, 127, 128, 129, 11, 130, 131, 132, 133, 134, 135, 6, 109, 110, 12] := by kernel_rfl
theorem L92_1_p : L92_1.plain = true := by kernel_rfl
theorem L92_0_w : L92_0.wr = [84, 85, 86, 87, 90, 91, 92, 93, 94, 95, 6, 88, 89, 9] := by kernel_rfl
theorem L92_0_p : L92_0.plain = true := by kernel_rfl
theorem L93_0_w : L93_0.wr = [48, 49, 50, 12, 51, 52, 53, 54, 55, 56, 57, 47] := by kernel_rfl
theorem L93_0_p : L93_0.plain = true := by kernel_rfl
theorem L94_0_w : L94_0.wr = [18, 19, 20, 21, 8, 7, 22, 23, 24, 25, 9, 26, 27, 28, 29, 30, 6, 31, 17] := by kernel_rfl
theorem L94_0_p : L94_0.plain = true := by kernel_rfl

end Go.Nt.Ty

/-
  THE FUNCTIONS OF THE SEAT as the abstract machine reads them (printed by a program of ours), and that they are the program's ('ok': FuncOK, by the kernel).
  No condition.
-/
namespace Go.Nt.Ty
open Go Go.Nt

def L107_0 : Ic := .seq (.seq (.ops [mV 192 12, mV 193 2, lN 194 193, bT 195 .lss 192 194])
  (.cond (.t 195) (.skip)
  (.exit 0)))
  (.seq (.block 1 (.seq (.ops [mV 198 2, mV 199 12, iX 200 198 199, lP 201 200, mV 202 2, g0 (.idxA 203 (.t 202) (kI 0) 6 (some 6) none), lP 204 203, cA 205 74 [(.t 201), (.t 204)], g0 (.un 206 .not (.t 205))])
  (.cond (.t 206) (.seq (.ops [g0 (.build 207 zT []), sT 6 207 6 6, mK 7 0, mK 8 10])
  (.ret))
  (.skip))))
  (.ops [mV 196 12, bK 197 .add 196 1, mV 12 197]))
/-- notary/notaryref15.Rule -/
def F107 : IFunc := ⟨.pure, .seq (.ops [bF 3 0, bF 4 1, bZ 6, mK 7 0, mK 8 0])
  (.seq (.seq (.ops [fA 14 4 0, lA 15 14 4, bK 16 .eql 15 10, mV 17 16, g1 17 true (.fldA 18 (.t 4) 1 none), g1 17 true (.load 19 (.t 18) none (some 4) false), g1 17 true (.mv 20 (.t 2)), g1 17 true (.idxA 21 (.t 20) (kI 0) 6 (some 6) none), g1 17 true (.load 22 (.t 21) (some 6) none false), g1 17 true (.mv 23 (.t 2)), g1 17 true (.idxA 24 (.t 23) (kI 1) 6 (some 6) none), g1 17 true (.load 25 (.t 24) (some 6) none false), g1 17 true (.call (some 26) 162 [(.t 19), (.t 22), (.t 25)]), g1 17 true (.fld 27 (.t 26) 0 none), g1 17 true (.bin 28 .neq (.t 27) (kI 0)), pA 29 17 28])
  (.cond (.t 29) (.seq (.ops [fA 30 4 1, lA 31 30 4, mV 32 2, g0 (.idxA 33 (.t 32) (kI 0) 6 (some 6) none), lP 34 33, mV 35 2, g0 (.idxA 36 (.t 35) (kI 1) 6 (some 6) none), lP 37 36, cA 38 162 [(.t 31), (.t 34), (.t 37)], fA 39 4 1, lA 40 39 4, sT 6 38 6 6, mV 7 40, mK 8 0])
  (.ret))
  (.skip)))
  (.seq (.seq (.ops [fA 41 4 0, lA 42 41 4, bK 43 .eql 42 11, mV 44 43, g1 44 true (.fldA 45 (.t 4) 1 none), g1 44 true (.load 46 (.t 45) none (some 4) false), g1 44 true (.bin 47 .eql (.t 46) (kI 1)), g1 44 true (.mv 48 (.t 47)), g1 48 true (.mv 49 (.t 2)), g1 48 true (.idxA 50 (.t 49) (kI 0) 6 (some 6) none), g1 48 true (.load 51 (.t 50) (some 6) none false), g1 48 true (.call (some 52) 163 [(.t 51), (kI 1)]), g1 44 true (.pick 53 (.t 48) (.t 52) (.c (.bool false))), g1 44 true (.mv 54 (.t 53)), g1 54 false (.fldA 55 (.t 4) 1 none), g1 54 false (.load 56 (.t 55) none (some 4) false), g1 54 false (.bin 57 .eql (.t 56) (kI 2)), g1 54 false (.mv 58 (.t 57)), g1 58 true (.mv 59 (.t 2)), g1 58 true (.idxA 60 (.t 59) (kI 0) 6 (some 6) none), g1 58 true (.load 61 (.t 60) (some 6) none false), g1 58 true (.call (some 62) 163 [(.t 61), (kI 2)]), g1 54 false (.pick 63 (.t 58) (.t 62) (.c (.bool false))), g1 44 true (.pick 64 (.t 54) (.c (.bool true)) (.t 63)), pA 65 44 64])
  (.cond (.t 65) (.seq (.ops [mV 66 2, g0 (.idxA 67 (.t 66) (kI 0) 6 (some 6) none), lP 68 67, fA 69 4 1, lA 70 69 4, sT 6 68 6 6, mV 7 70, mK 8 0])
  (.ret))
  (.skip)))
  (.seq (.seq (.ops [fA 71 4 0, lA 72 71 4, bK 73 .eql 72 12, mV 74 73, g1 74 true (.mv 75 (.t 2)), g1 74 true (.idxA 76 (.t 75) (kI 0) 6 (some 6) none), g1 74 true (.fldA 77 (.t 76) 0 none), g1 74 true (.load 78 (.t 77) none none false), g1 74 true (.bin 79 .eql (.t 78) (kI 3)), pA 80 74 79, mV 81 80, g1 81 true (.mv 82 (.t 2)), g1 81 true (.idxA 83 (.t 82) (kI 0) 6 (some 6) none), g1 81 true (.fldA 84 (.t 83) 3 none), g1 81 true (.load 85 (.t 84) none none false), g1 81 true (.len 86 .slice (.t 85) false), g1 81 true (.bin 87 .eql (.t 86) (kI 1)), pA 88 81 87, mV 89 88, g1 89 true (.mv 90 (.t 2)), g1 89 true (.idxA 91 (.t 90) (kI 1) 6 (some 6) none), g1 89 true (.load 92 (.t 91) (some 6) none false), g1 89 true (.call (some 93) 163 [(.t 92), (kI 1)]), pA 94 89 93])
  (.cond (.t 94) (.seq (.ops [mV 95 2, g0 (.idxA 96 (.t 95) (kI 0) 6 (some 6) none), fA 97 96 3, lO 98 97, g0 (.idxA 99 (.t 98) (kI 0) 6 (some 6) none), lP 100 99, fA 101 4 1, lA 102 101 4, sT 6 100 6 6, mV 7 102, mK 8 0])
  (.ret))
  (.skip)))
  (.seq (.seq (.ops [fA 103 4 0, lA 104 103 4, bK 105 .eql 104 13, mV 106 105, g1 106 true (.mv 107 (.t 2)), g1 106 true (.idxA 108 (.t 107) (kI 0) 6 (some 6) none), g1 106 true (.fldA 109 (.t 108) 0 none), g1 106 true (.load 110 (.t 109) none none false), g1 106 true (.bin 111 .eql (.t 110) (kI 4)), pA 112 106 111, mV 113 112, g1 113 true (.mv 114 (.t 2)), g1 113 true (.idxA 115 (.t 114) (kI 0) 6 (some 6) none), g1 113 true (.fldA 116 (.t 115) 3 none), g1 113 true (.load 117 (.t 116) none none false), g1 113 true (.len 118 .slice (.t 117) false), g1 113 true (.bin 119 .eql (.t 118) (kI 0)), pA 120 113 119])
  (.cond (.t 120) (.seq (.ops [lF 121 3 3, lF 122 4 4, mV 123 2, g0 (.idxA 124 (.t 123) (kI 0) 6 (some 6) none), fA 125 124 1, lO 126 125, cA 127 164 [(.t 121), (.t 122), (.t 126)], mV 9 127])
  (.seq (.seq (.ops [mV 128 9, bK 129 .lss 128 0])
  (.cond (.t 129) (.seq (.ops [g0 (.build 130 zT []), sT 6 130 6 6, mK 7 0, mK 8 8])
  (.ret))
  (.skip)))
  (.seq (.ops [lF 132 3 3, mV 133 9, cA 134 165 [(.t 132), (.t 133)], mV 131 134, eX 135 131 0, eX 136 131 1, bZ 10, sT 10 135 6 10, mV 11 136])
  (.seq (.ops [lF 137 10 10, cA 138 160 [(.t 137)], mV 139 9, sT 6 138 6 6, mV 7 139, mK 8 0])
  (.ret)))))
  (.skip)))
  (.seq (.seq (.ops [fA 140 4 0, lA 141 140 4, bK 142 .eql 141 15, mV 143 142, g1 143 true (.mv 144 (.t 2)), g1 143 true (.fldA 145 (.t 3) 3 none), g1 143 true (.load 146 (.t 145) none (some 3) false), g1 143 true (.fldA 147 (.t 4) 1 none), g1 143 true (.load 148 (.t 147) none (some 4) false), g1 143 true (.idxA 149 (.t 146) (.t 148) 6 (some 6) none), g1 143 true (.fldA 150 (.t 149) 3 none), g1 143 true (.load 151 (.t 150) none none false), g1 143 true (.call (some 152) 166 [(.t 144), (.t 151)]), pA 153 143 152])
  (.cond (.t 153) (.seq (.ops [fA 154 4 1, lA 155 154 4, g0 (.build 156 zT [(0, 1, (kI 4)), (1, 1, (.t 155))]), fA 157 4 1, lA 158 157 4, sT 6 156 6 6, mV 7 158, mK 8 0])
  (.ret))
  (.skip)))
  (.seq (.seq (.ops [fA 159 4 0, lA 160 159 4, bK 161 .eql 160 16, mV 162 161, g1 162 true (.mv 163 (.t 2)), g1 162 true (.fldA 164 (.t 3) 3 none), g1 162 true (.load 165 (.t 164) none (some 3) false), g1 162 true (.fldA 166 (.t 4) 1 none), g1 162 true (.load 167 (.t 166) none (some 4) false), g1 162 true (.idxA 168 (.t 165) (.t 167) 6 (some 6) none), g1 162 true (.fldA 169 (.t 168) 3 none), g1 162 true (.load 170 (.t 169) none none false), g1 162 true (.idxA 171 (.t 170) (kI 0) 6 (some 6) none), g1 162 true (.fldA 172 (.t 171) 3 none), g1 162 true (.load 173 (.t 172) none none false), g1 162 true (.call (some 174) 166 [(.t 163), (.t 173)]), pA 175 162 174])
  (.cond (.t 175) (.seq (.ops [fA 176 3 3, lA 177 176 3, fA 178 4 1, lA 179 178 4, iX 180 177 179, fA 181 180 3, lO 182 181, g0 (.idxA 183 (.t 182) (kI 1) 6 (some 6) none), lP 184 183, cA 185 160 [(.t 184)], fA 186 4 1, lA 187 186 4, sT 6 185 6 6, mV 7 187, mK 8 0])
  (.ret))
  (.skip)))
  (.seq (.seq (.ops [fA 188 4 0, lA 189 188 4, bK 190 .neq 189 14])
  (.cond (.t 190) (.seq (.ops [g0 (.build 191 zT []), sT 6 191 6 6, mK 7 0, mK 8 10])
  (.ret))
  (.skip)))
  (.seq (.seq (.ops [mK 12 0])
  (.block 0 (.loop L107_0)))
  (.seq (.ops [mV 208 2, lN 209 208, mV 210 2, g0 (.idxA 211 (.t 210) (kI 0) 6 (some 6) none), lP 212 211, g0 (.bsl 213 6 true [(.t 212)]), g0 (.build 214 zT [(0, 1, (kI 3)), (1, 1, (.t 209)), (3, 1, (.t 213))]), bZ 13, sT 13 214 6 13])
  (.seq (.seq (.ops [lF 215 3 3, lF 216 13 13, cA 217 60 [(.t 215), (.t 216)], bK 218 .eql 217 0])
  (.cond (.t 218) (.seq (.ops [g0 (.build 219 zT []), sT 6 219 6 6, mK 7 0, mK 8 11])
  (.ret))
  (.skip)))
  (.seq (.ops [lF 220 13 13, fA 221 4 1, lA 222 221 4, sT 6 220 6 6, mV 7 222, mK 8 0])
  (.ret)))))))))))),
  [.cell 6 (some 6) (some 6), .t 7, .t 8]⟩
def L114_0 : Ic := .seq (.seq (.ops [mV 28 8, nC 29 28, fA 30 29 0, lO 31 30, mV 32 8, nC 33 32, fA 34 33 1, lO 35 34, g0 (.idxA 36 (.t 31) (.t 35) 5 (some 5) none), fA 37 36 0, lO 38 37, bK 39 .neq 38 5])
  (.cond (.t 39) (.skip)
  (.exit 0)))
  (.block 1 (.seq (.ops [mV 40 8, cA 41 170 [(.t 40)], bZ 10, sT 10 41 6 10])
  (.seq (.seq (.ops [mV 42 8, nC 43 42, fA 44 43 2, lO 45 44, bK 46 .neq 45 0])
  (.cond (.t 46) (.seq (.ops [g0 (.build 47 zT []), mV 48 8, nC 49 48, fA 50 49 0, lO 51 50, mV 52 8, nC 53 52, fA 54 53 1, lO 55 54, g0 (.idxA 56 (.t 51) (.t 55) 5 (some 5) none), fA 57 56 3, lO 58 57, mV 59 8, nC 60 59, fA 61 60 2, lO 62 61, sT 2 47 6 2, mV 3 58, mV 4 62])
  (.ret))
  (.skip)))
  (.ops [fA 63 9 3, lA 64 63 9, lF 65 10 10, g0 (.bsl 66 6 true [(.t 65)]), g0 (.app 67 (.t 64) (.t 66) 6), fA 68 9 3, sT 68 67 1 9]))))
/-- notary/unit.Parse -/
def F114 : IFunc := ⟨.pure, .seq (.ops [bZ 2, mK 3 0, mK 4 0])
  (.seq (.ops [mV 12 0, cA 13 169 [(.t 12)], mV 11 13, eX 14 11 0, eX 15 11 1, eX 16 11 2, mV 5 14, mV 6 15, mV 7 16])
  (.seq (.seq (.ops [mV 17 7, bK 18 .neq 17 0])
  (.cond (.t 18) (.seq (.ops [g0 (.build 19 zT []), mV 20 6, mV 21 7, sT 2 19 6 2, mV 3 20, mV 4 21])
  (.ret))
  (.skip)))
  (.seq (.ops [mV 22 5, g0 (.build 23 [.nils, (.int .i64 0), (.int .i64 0)] [(0, 1, (.t 22))]), g0 (.boxH 24 (some 3) (.t 23)), mV 8 24])
  (.seq (.ops [mV 25 0, g0 (.len 26 .str (.t 25) false), g0 (.build 27 zT [(0, 1, (kI 36)), (5, 1, (.t 26))]), bZ 9, sT 9 27 6 9])
  (.seq (.block 0 (.loop L114_0))
  (.seq (.seq (.ops [fA 69 9 3, lA 70 69 9, lN 71 70, bK 72 .gtr 71 64])
  (.cond (.t 72) (.seq (.ops [g0 (.build 73 zT []), sT 2 73 6 2, mK 3 0, mK 4 11])
  (.ret))
  (.skip)))
  (.seq (.seq (.ops [lF 74 9 9, cA 75 171 [(.t 74)], bK 76 .gtr 75 64])
  (.cond (.t 76) (.seq (.ops [g0 (.build 77 zT []), sT 2 77 6 2, mK 3 0, mK 4 7])
  (.ret))
  (.skip)))
  (.seq (.ops [lF 78 9 9, sT 2 78 6 2, mK 3 0, mK 4 0])
  (.ret))))))))),
  [.cell 2 (some 6) (some 2), .t 3, .t 4]⟩
def L115_0 : Ic := .seq (.ops [bT 19 .lss 18 17])
  (.seq (.cond (.t 19) (.skip)
  (.exit 0))
  (.seq (.block 1 (.seq (.ops [mV 20 18, iX 21 16 18, lP 22 21, bZ 7, mV 6 20, sT 7 22 6 7])
  (.seq (.seq (.ops [mV 24 5, nC 25 24, fA 26 25 0, lO 27 26, fA 28 7 2, lA 29 28 7, g0 (.look 30 .str (.t 27) (.t 29) (.int .i64 0) true), mV 23 30, eX 31 23 0, eX 32 23 1, mV 8 31, mV 9 32])
  (.seq (.ops [mV 33 9])
  (.cond (.t 33) (.seq (.ops [g0 (.build 34 zT []), fA 35 7 4, lA 36 35 7, sT 2 34 6 2, mV 3 36, mK 4 9])
  (.ret))
  (.skip))))
  (.ops [mV 37 5, nC 38 37, fA 39 38 0, lO 40 39, fA 41 7 2, lA 42 41 7, mV 43 6, g0 (.mupd .str (.t 40) (.t 42) (.t 43))]))))
  (.ops [bK 44 .add 18 1, mV 18 44])))
/-- notary/scope.Resolve -/
def F115 : IFunc := ⟨.pure, .seq (.ops [bF 1 0, bZ 2, mK 3 0, mK 4 0])
  (.seq (.ops [g0 (.mkmap 11), lF 12 1 1, g0 (.build 13 [.nilm, (.int .i64 0), (.int .i64 0), (.str []), .nils, (.int .i64 0), (.int .i64 0), .nils, (.int .i64 0), (.int .i64 0)] [(0, 1, (.t 11)), (1, 6, (.t 12))]), g0 (.boxH 14 (some 10) (.t 13)), mV 5 14])
  (.seq (.seq (.ops [fA 15 1 3, lA 16 15 1, lN 17 16, mK 18 0])
  (.block 0 (.loop L115_0)))
  (.seq (.ops [lF 45 1 1, bZ 10, sT 10 45 6 10])
  (.seq (.ops [fA 46 10 2, g0 (.store (.t 46) (.c (.str [])) 1 (some 10))])
  (.seq (.ops [mV 47 5, fA 48 1 3, lA 49 48 1, mV 50 5, g0 (.mkfn 51 173 [(.t 50)] []), cA 52 172 [(.t 47), (.t 49), (.t 51)], fA 53 10 3, sT 53 52 1 10])
  (.seq (.seq (.ops [mV 54 5, nC 55 54, fA 56 55 9, lO 57 56, bK 58 .neq 57 0])
  (.cond (.t 58) (.seq (.ops [g0 (.build 59 zT []), mV 60 5, nC 61 60, fA 62 61 8, lO 63 62, mV 64 5, nC 65 64, fA 66 65 9, lO 67 66, sT 2 59 6 2, mV 3 63, mV 4 67])
  (.ret))
  (.skip)))
  (.seq (.ops [lF 68 10 10, sT 2 68 6 2, mK 3 0, mK 4 0])
  (.ret)))))))),
  [.cell 2 (some 6) (some 2), .t 3, .t 4]⟩
def L116_0 : Ic := .seq (.ops [bT 15 .lss 14 13])
  (.seq (.cond (.t 15) (.skip)
  (.exit 0))
  (.seq (.block 1 (.seq (.ops [iX 16 12 14, lP 17 16, bZ 5, sT 5 17 6 5])
  (.ops [fA 18 3 3, lA 19 18 3, lF 20 5 5, cA 21 116 [(.t 20)], g0 (.bslF 22 6 true [(.t 21)]), g0 (.app 23 (.t 19) (.t 22) 6), fA 24 3 3, sT 24 23 1 3])))
  (.ops [bK 25 .add 14 1, mV 14 25])))
/-- notary/right.clean -/
def F116 : IFunc := ⟨.raw, .seq (.ops [bF 1 0, bZ 2])
  (.seq (.ops [fA 6 1 0, lA 7 6 1, fA 8 1 1, lA 9 8 1, g0 (.build 10 zT [(0, 1, (.t 7)), (1, 1, (.t 9))]), bZ 3, sT 3 10 6 3])
  (.seq (.seq (.ops [fA 11 1 3, lA 12 11 1, lN 13 12, mK 14 0])
  (.block 0 (.loop L116_0)))
  (.seq (.ops [lF 26 3 3, sT 2 26 6 2])
  (.ret)))),
  [.cell 2 (some 6) (some 2)]⟩
def L117_0 : Ic := .seq (.ops [bT 8 .lss 7 6])
  (.seq (.cond (.t 8) (.skip)
  (.exit 0))
  (.seq (.block 1 (.seq (.ops [iX 9 5 7, lP 10 9, bZ 4, sT 4 10 6 4])
  (.seq (.ops [fA 11 4 0, lA 12 11 4, bK 13 .neq 12 34, mV 14 13, g1 14 false (.fldA 15 (.t 4) 3 none), g1 14 false (.load 16 (.t 15) none (some 4) false), g1 14 false (.len 17 .slice (.t 16) false), g1 14 false (.bin 18 .neq (.t 17) (kI 1)), pO 19 14 18])
  (.cond (.t 19) (.seq (.ops [g0 (.mv 2 (.c (.bool false)))])
  (.ret))
  (.skip)))))
  (.ops [bK 20 .add 7 1, mV 7 20])))
/-- notary/right.parted -/
def F117 : IFunc := ⟨.pure, .seq (.ops [g0 (.mv 2 (.c (.bool false)))])
  (.seq (.seq (.ops [mV 5 0, lN 6 5, mK 7 0])
  (.block 0 (.loop L117_0)))
  (.seq (.ops [g0 (.mv 2 (.c (.bool true)))])
  (.ret))),
  [.t 2]⟩
/-- (*notary/right.looker).fail -/
def F118 : IFunc := ⟨.raw, .seq (.ops [bF 4 1])
  (.seq (.ops [mV 6 0, nC 7 6, fA 8 7 14, lO 9 8, bK 10 .eql 9 0])
  (.cond (.t 10) (.ops [mV 11 0, mV 12 0, fA 13 4 4, lA 14 13 4, mV 15 2, nC 16 11, fA 17 16 13, g0 (.store (.t 17) (.t 14) 1 none), nC 18 12, fA 19 18 14, g0 (.store (.t 19) (.t 15) 1 none)])
  (.skip))),
  []⟩
/-- (*notary/right.looker).kind -/
def F119 : IFunc := ⟨.fre, .seq (.ops [bF 3 1, bZ 4])
  (.seq (.seq (.ops [mV 5 0, nC 6 5, fA 7 6 14, lO 8 7, bK 9 .eql 8 0, mV 10 9, g1 10 true (.mv 11 (.t 0)), g1 10 true (.nilc (some 12) (.t 11)), g1 10 true (.fldA 13 (.t 12) 0 (some 6)), g1 10 true (.load 14 (.t 13) (some 6) none false), g1 10 true (.load 15 (.t 3) (some 6) (some 3) false), g1 10 true (.call (some 16) 46 [(.t 14), (.t 15)]), g1 10 true (.bin 17 .eql (.t 16) (kI 0)), pA 18 10 17])
  (.cond (.t 18) (.ops [mV 19 0, lF 20 3 3, cA 21 118 [(.t 19), (.t 20), (kI 11)]])
  (.skip)))
  (.seq (.ops [lF 22 3 3, cA 23 116 [(.t 22)], sT 4 23 6 4])
  (.ret))),
  [.cell 4 (some 6) (some 4)]⟩
/-- (*notary/right.looker).block -/
def F120 : IFunc := ⟨.fre, .seq (.ops [bF 3 1, bZ 4])
  (.seq (.ops [mV 7 0, nC 8 7, fA 9 8 6, lO 10 9, lN 11 10, mV 5 11])
  (.seq (.ops [fA 12 3 1, lA 13 12 3, mV 14 0, fA 15 3 3, lA 16 15 3, mV 17 0, g0 (.mkfn 18 175 [(.t 17)] []), cA 19 174 [(.t 14), (.t 16), (.t 18)], g0 (.build 20 zT [(0, 1, (kI 29)), (1, 1, (.t 13)), (3, 1, (.t 19))]), bZ 6, sT 6 20 6 6])
  (.seq (.ops [mV 21 0, mV 22 0, nC 23 22, fA 24 23 6, lO 25 24, mV 26 5, mV 27 5, g0 (.slc 28 (some 6) (.t 25) none (some (.t 26)) (some (.t 27))), nC 29 21, fA 30 29 6, g0 (.store (.t 30) (.t 28) 1 none)])
  (.seq (.ops [lF 31 6 6, sT 4 31 6 4])
  (.ret))))),
  [.cell 4 (some 6) (some 4)]⟩
def L121_0 : Ic := .seq (.seq (.ops [fA 9 3 0, lA 10 9 3, bK 11 .eql 10 3])
  (.cond (.t 11) (.skip)
  (.exit 0)))
  (.block 1 (.ops [fA 12 3 3, lA 13 12 3, g0 (.idxA 14 (.t 13) (kI 0) 6 (some 6) none), lP 15 14, sT 3 15 6 3]))
/-- notary/typ.Plain -/
def F121 : IFunc := ⟨.pure, .seq (.ops [bF 2 0, bF 3 1, g0 (.mv 4 (.c (.bool false)))])
  (.seq (.seq (.ops [lF 5 2 2, lF 6 3 3, cA 7 46 [(.t 5), (.t 6)], bK 8 .eql 7 0])
  (.cond (.t 8) (.seq (.ops [g0 (.mv 4 (.c (.bool false)))])
  (.ret))
  (.skip)))
  (.seq (.block 0 (.loop L121_0))
  (.seq (.ops [fA 16 3 0, lA 17 16 3, bK 18 .neq 17 4, mV 4 18])
  (.ret)))),
  [.t 4]⟩
/-- notary/notaryref16.Brings -/
def F122 : IFunc := ⟨.pure, .seq (.ops [bF 3 0, bF 5 2, g0 (.mv 6 (.c .nils))])
  (.seq (.seq (.ops [fA 7 5 0, lA 8 7 5, bK 9 .eql 8 20, mV 10 9, g1 10 true (.fldA 11 (.t 5) 3 none), g1 10 true (.load 12 (.t 11) none (some 5) false), g1 10 true (.len 13 .slice (.t 12) false), g1 10 true (.bin 14 .eql (.t 13) (kI 1)), pA 15 10 14])
  (.cond (.t 15) (.seq (.ops [g0 (.bsl 16 6 true []), mV 17 1, g0 (.app 18 (.t 16) (.t 17) 6), lF 19 3 3, mV 20 1, fA 21 5 3, lA 22 21 5, g0 (.idxA 23 (.t 22) (kI 0) 6 (some 6) none), g0 (.load 24 (.t 23) (some 6) none true), cA 25 65 [(.t 19), (.t 20), (.t 24)], g0 (.fld 26 (.t 25) 0 (some 6)), g0 (.bsl 27 6 true [(.t 26)]), g0 (.app 28 (.t 18) (.t 27) 6), mV 6 28])
  (.ret))
  (.skip)))
  (.seq (.seq (.ops [fA 29 5 0, lA 30 29 5, bK 31 .eql 30 21, mV 32 31, g1 32 true (.fldA 33 (.t 5) 3 none), g1 32 true (.load 34 (.t 33) none (some 5) false), g1 32 true (.len 35 .slice (.t 34) false), g1 32 true (.bin 36 .eql (.t 35) (kI 1)), pA 37 32 36])
  (.cond (.t 37) (.seq (.ops [g0 (.bsl 38 6 true []), mV 39 1, g0 (.app 40 (.t 38) (.t 39) 6), fA 41 5 3, lA 42 41 5, g0 (.idxA 43 (.t 42) (kI 0) 6 (some 6) none), g0 (.load 44 (.t 43) (some 6) none true), g0 (.bsl 45 6 true [(.t 44)]), g0 (.app 46 (.t 40) (.t 45) 6), mV 6 46])
  (.ret))
  (.skip)))
  (.seq (.ops [mV 47 1, mV 6 47])
  (.ret)))),
  [.t 6]⟩
def L135_1 : Ic := .seq (.seq (.ops [mV 77 7, mV 78 5, lN 79 78, bT 80 .lss 77 79])
  (.cond (.t 80) (.skip)
  (.exit 2)))
  (.seq (.block 3 (.seq (.ops [fA 83 3 1, lA 84 83 3, bK 85 .eql 84 1, mV 86 85, g1 86 true (.load 87 (.t 2) (some 6) (some 2) false), g1 86 true (.mv 88 (.t 5)), g1 86 true (.mv 89 (.t 7)), g1 86 true (.idxA 90 (.t 88) (.t 89) 6 (some 6) none), g1 86 true (.load 91 (.t 90) (some 6) none false), g1 86 true (.call (some 92) 194 [(.t 87), (.t 91)]), g1 86 true (.un 93 .not (.t 92)), pA 94 86 93])
  (.cond (.t 94) (.seq (.ops [mV 95 5, mV 96 7, iX 97 95 96, lP 98 97, cA 99 137 [(.t 98), (kI 12)], sT 4 99 8 4])
  (.ret))
  (.skip))))
  (.ops [mV 81 7, bK 82 .add 81 1, mV 7 82]))
def L135_0 : Ic := .seq (.seq (.ops [mV 59 6, mV 60 5, lN 61 60, bT 62 .lss 59 61])
  (.cond (.t 62) (.skip)
  (.exit 0)))
  (.seq (.block 1 (.seq (.ops [lF 65 2 2, mV 66 5, mV 67 6, iX 68 66 67, lP 69 68, cA 70 60 [(.t 65), (.t 69)], bK 71 .eql 70 0])
  (.cond (.t 71) (.seq (.ops [mV 72 5, mV 73 6, iX 74 72 73, lP 75 74, cA 76 137 [(.t 75), (kI 11)], sT 4 76 8 4])
  (.ret))
  (.skip))))
  (.ops [mV 63 6, bK 64 .add 63 1, mV 6 64]))
/-- notary/notaryref16.Fn -/
def F135 : IFunc := ⟨.pure, .seq (.ops [bF 2 0, bF 3 1, g0 (.boxL 4 8 none [(.int .i64 0), (.int .i64 0), (.str []), .nils, (.int .i64 0), (.int .i64 0), (.int .i64 0), (.int .i64 0)])])
  (.seq (.seq (.ops [fA 10 3 1, lA 11 10 3, bK 12 .neq 11 0, mV 13 12, g1 13 true (.fldA 14 (.t 3) 1 none), g1 13 true (.load 15 (.t 14) none (some 3) false), g1 13 true (.bin 16 .neq (.t 15) (kI 1)), pA 17 13 16, mV 18 17, g1 18 false (.fldA 19 (.t 3) 3 none), g1 18 false (.load 20 (.t 19) none (some 3) false), g1 18 false (.len 21 .slice (.t 20) false), g1 18 false (.bin 22 .neq (.t 21) (kI 3)), pO 23 18 22, mV 24 23, g1 24 false (.fldA 25 (.t 3) 3 none), g1 24 false (.load 26 (.t 25) none (some 3) false), g1 24 false (.idxA 27 (.t 26) (kI 0) 6 (some 6) none), g1 24 false (.fldA 28 (.t 27) 0 none), g1 24 false (.load 29 (.t 28) none none false), g1 24 false (.bin 30 .neq (.t 29) (kI 35)), pO 31 24 30, mV 32 31, g1 32 false (.fldA 33 (.t 3) 3 none), g1 32 false (.load 34 (.t 33) none (some 3) false), g1 32 false (.idxA 35 (.t 34) (kI 0) 6 (some 6) none), g1 32 false (.fldA 36 (.t 35) 3 none), g1 32 false (.load 37 (.t 36) none none false), g1 32 false (.call (some 38) 193 [(.t 37)]), g1 32 false (.un 39 .not (.t 38)), pO 40 32 39, mV 41 40, g1 41 false (.fldA 42 (.t 3) 3 none), g1 41 false (.load 43 (.t 42) none (some 3) false), g1 41 false (.idxA 44 (.t 43) (kI 2) 6 (some 6) none), g1 41 false (.fldA 45 (.t 44) 0 none), g1 41 false (.load 46 (.t 45) none none false), g1 41 false (.bin 47 .neq (.t 46) (kI 29)), pO 48 41 47])
  (.cond (.t 48) (.seq (.ops [lF 49 3 3, cA 50 137 [(.t 49), (kI 12)], sT 4 50 8 4])
  (.ret))
  (.skip)))
  (.seq (.ops [lF 51 3 3, cA 52 59 [(.t 51)], fA 53 3 3, lA 54 53 3, g0 (.idxA 55 (.t 54) (kI 1) 6 (some 6) none), g0 (.load 56 (.t 55) (some 6) none true), g0 (.bsl 57 6 true [(.t 56)]), g0 (.app 58 (.t 52) (.t 57) 6), mV 5 58])
  (.seq (.seq (.ops [mK 6 0])
  (.block 0 (.loop L135_0)))
  (.seq (.seq (.ops [mK 7 0])
  (.block 2 (.loop L135_1)))
  (.seq (.ops [lF 100 2 2, lF 101 3 3, cA 102 59 [(.t 101)], fA 103 3 3, lA 104 103 3, g0 (.idxA 105 (.t 104) (kI 1) 6 (some 6) none), g0 (.load 106 (.t 105) (some 6) none true), fA 107 3 3, lA 108 107 3, g0 (.idxA 109 (.t 108) (kI 2) 6 (some 6) none), g0 (.load 110 (.t 109) (some 6) none true), cA 111 195 [(.t 100), (.t 102), (.t 106), (.t 110)], g0 (.boxL 8 8 none [(.int .i64 0), (.int .i64 0), (.str []), .nils, (.int .i64 0), (.int .i64 0), (.int .i64 0), (.int .i64 0)]), sT 8 111 8 8])
  (.seq (.seq (.ops [fA 112 8 7, lA 113 112 8, bK 114 .neq 113 0])
  (.cond (.t 114) (.seq (.ops [g0 (.load 115 (.t 8) (some 8) (some 8) false), sT 4 115 8 4])
  (.ret))
  (.skip)))
  (.seq (.ops [lF 116 3 3, cA 117 139 [(.t 116)], bZ 9, sT 9 117 6 9])
  (.seq (.ops [fA 118 9 3, lA 119 118 9, g0 (.fldA 120 (.t 8) 0 (some 6)), lF 121 120 8, g0 (.idxA 122 (.t 119) (kI 2) 6 (some 6) none), g0 (.store (.t 122) (.t 121) 6 none)])
  (.seq (.ops [lF 123 9 9, g0 (.build 124 [(.int .i64 0), (.int .i64 0), (.str []), .nils, (.int .i64 0), (.int .i64 0), (.int .i64 0), (.int .i64 0)] [(0, 6, (.t 123))]), sT 4 124 8 4])
  (.ret)))))))))),
  [.cell 4 (some 8) (some 4)]⟩
def L136_0 : Ic := .seq (.seq (.ops [mV 13 3, fA 14 1 3, lA 15 14 1, lN 16 15, bT 17 .lss 13 16])
  (.cond (.t 17) (.skip)
  (.exit 0)))
  (.seq (.block 1 (.seq (.ops [fA 20 1 3, lA 21 20 1, mV 22 3, iX 23 21 22, fA 24 23 0, lO 25 24, bK 26 .neq 25 34, mV 27 26, g1 27 false (.fldA 28 (.t 1) 3 none), g1 27 false (.load 29 (.t 28) none (some 1) false), g1 27 false (.mv 30 (.t 3)), g1 27 false (.idxA 31 (.t 29) (.t 30) 6 (some 6) none), g1 27 false (.fldA 32 (.t 31) 3 none), g1 27 false (.load 33 (.t 32) none none false), g1 27 false (.len 34 .slice (.t 33) false), g1 27 false (.bin 35 .neq (.t 34) (kI 1)), pO 36 27 35])
  (.cond (.t 36) (.seq (.ops [g0 (.mv 2 (.c (.bool false)))])
  (.ret))
  (.skip))))
  (.ops [mV 18 3, bK 19 .add 18 1, mV 3 19]))
/-- notary/notaryref12.Shaped -/
def F136 : IFunc := ⟨.pure, .seq (.ops [bF 1 0, g0 (.mv 2 (.c (.bool false)))])
  (.seq (.seq (.ops [fA 4 1 0, lA 5 4 1, bK 6 .neq 5 30, mV 7 6, g1 7 false (.fldA 8 (.t 1) 3 none), g1 7 false (.load 9 (.t 8) none (some 1) false), g1 7 false (.len 10 .slice (.t 9) false), g1 7 false (.bin 11 .eql (.t 10) (kI 0)), pO 12 7 11])
  (.cond (.t 12) (.seq (.ops [g0 (.mv 2 (.c (.bool false)))])
  (.ret))
  (.skip)))
  (.seq (.seq (.ops [mK 3 0])
  (.block 0 (.loop L136_0)))
  (.seq (.ops [g0 (.mv 2 (.c (.bool true)))])
  (.ret)))),
  [.t 2]⟩
/-- notary/notaryref16.Bad -/
def F137 : IFunc := ⟨.pure, .seq (.ops [bF 2 0, g0 (.boxL 4 8 none [(.int .i64 0), (.int .i64 0), (.str []), .nils, (.int .i64 0), (.int .i64 0), (.int .i64 0), (.int .i64 0)])])
  (.seq (.ops [fA 5 2 4, lA 6 5 2, mV 7 1, g0 (.build 8 [(.int .i64 0), (.int .i64 0), (.str []), .nils, (.int .i64 0), (.int .i64 0), (.int .i64 0), (.int .i64 0)] [(6, 1, (.t 6)), (7, 1, (.t 7))]), sT 4 8 8 4])
  (.ret)),
  [.cell 4 (some 8) (some 4)]⟩
/-- notary/notaryref15.Literal -/
def F138 : IFunc := ⟨.pure, .seq (.ops [bF 1 0, bZ 2])
  (.seq (.seq (.ops [fA 3 1 0, lA 4 3 1, bK 5 .eql 4 5])
  (.cond (.t 5) (.seq (.ops [cA 6 161 [], sT 2 6 6 2])
  (.ret))
  (.skip)))
  (.seq (.seq (.ops [fA 7 1 0, lA 8 7 1, bK 9 .eql 8 6])
  (.cond (.t 9) (.seq (.ops [cA 10 196 [], sT 2 10 6 2])
  (.ret))
  (.skip)))
  (.seq (.ops [g0 (.build 11 zT []), sT 2 11 6 2])
  (.ret)))),
  [.cell 2 (some 6) (some 2)]⟩
def L139_0 : Ic := .seq (.seq (.ops [mV 10 4, fA 11 1 3, lA 12 11 1, lN 13 12, bT 14 .lss 10 13])
  (.cond (.t 14) (.skip)
  (.exit 0)))
  (.seq (.block 1 (.ops [fA 17 3 3, lA 18 17 3, fA 19 1 3, lA 20 19 1, mV 21 4, iX 22 20 21, lP 23 22, cA 24 139 [(.t 23)], g0 (.bslF 25 6 true [(.t 24)]), g0 (.app 26 (.t 18) (.t 25) 6), fA 27 3 3, sT 27 26 1 3]))
  (.ops [mV 15 4, bK 16 .add 15 1, mV 4 16]))
/-- notary/notaryref13.Nameless -/
def F139 : IFunc := ⟨.raw, .seq (.ops [bF 1 0, bZ 2])
  (.seq (.ops [fA 5 1 0, lA 6 5 1, fA 7 1 1, lA 8 7 1, g0 (.build 9 zT [(0, 1, (.t 6)), (1, 1, (.t 8))]), bZ 3, sT 3 9 6 3])
  (.seq (.seq (.ops [mK 4 0])
  (.block 0 (.loop L139_0)))
  (.seq (.ops [lF 28 3 3, sT 2 28 6 2])
  (.ret)))),
  [.cell 2 (some 6) (some 2)]⟩
/-- notary/typ.product -/
def F145 : IFunc := ⟨.pure, .seq (.ops [mK 4 0])
  (.seq (.seq (.ops [mV 5 0, bK 6 .lss 5 1, mV 7 6, g1 7 false (.mv 8 (.t 0)), g1 7 false (.bin 9 .gtr (.t 8) (kI 16)), pO 10 7 9, mV 11 10, g1 11 false (.mv 12 (.t 0)), g1 11 false (.mv 13 (.t 1)), g1 11 false (.bin 14 .mul (.t 12) (.t 13)), g1 11 false (.bin 15 .gtr (.t 14) (kI 64)), pO 16 11 15])
  (.cond (.t 16) (.seq (.ops [mK 4 0])
  (.ret))
  (.skip)))
  (.seq (.ops [mV 17 0, mV 18 1, bT 19 .mul 17 18, mV 4 19])
  (.ret))),
  [.t 4]⟩
def L146_0 : Ic := .seq (.ops [bT 46 .lss 45 44])
  (.seq (.cond (.t 46) (.skip)
  (.exit 0))
  (.seq (.block 1 (.seq (.ops [mV 47 45, mV 7 47])
  (.seq (.ops [fA 48 5 3, lA 49 48 5, mV 50 7, iX 51 49 50, lP 52 51, bZ 8, sT 8 52 6 8])
  (.seq (.seq (.ops [fA 53 8 0, lA 54 53 8, bK 55 .neq 54 34, mV 56 55, g1 56 false (.fldA 57 (.t 8) 3 none), g1 56 false (.load 58 (.t 57) none (some 8) false), g1 56 false (.len 59 .slice (.t 58) false), g1 56 false (.bin 60 .neq (.t 59) (kI 1)), pO 61 56 60])
  (.cond (.t 61) (.seq (.ops [mK 4 0])
  (.ret))
  (.skip)))
  (.seq (.ops [g0 (.load 62 (.t 2) (some 7) (some 2) false), fA 63 8 3, lA 64 63 8, g0 (.idxA 65 (.t 64) (kI 0) 6 (some 6) none), lP 66 65, cA 67 84 [(.t 62), (.t 66)], mV 9 67])
  (.seq (.ops [mV 68 6, mV 69 9, bT 70 .add 68 69, mV 6 70])
  (.seq (.ops [mV 71 9, bK 72 .eql 71 0, mV 73 72, g1 73 false (.mv 74 (.t 6)), g1 73 false (.bin 75 .gtr (.t 74) (kI 64)), pO 76 73 75])
  (.cond (.t 76) (.seq (.ops [mK 4 0])
  (.ret))
  (.skip)))))))))
  (.ops [bK 77 .add 45 1, mV 45 77])))
/-- (notary/typ.meter).record -/
def F146 : IFunc := ⟨.pure, .seq (.ops [g0 (.boxL 2 7 (some (.t 0)) []), mK 4 0])
  (.seq (.seq (.ops [mV 10 1, bK 11 .lss 10 0, mV 12 11, g1 12 false (.mv 13 (.t 1)), g1 12 false (.fldA 14 (.t 2) 0 (some 6)), g1 12 false (.fldA 15 (.t 14) 3 none), g1 12 false (.load 16 (.t 15) none (some 2) false), g1 12 false (.len 17 .slice (.t 16) false), g1 12 false (.bin 18 .geq (.t 13) (.t 17)), pO 19 12 18, mV 20 19, g1 20 false (.fldA 21 (.t 2) 6 none), g1 20 false (.load 22 (.t 21) none (some 2) false), g1 20 false (.fldA 23 (.t 2) 0 (some 6)), g1 20 false (.fldA 24 (.t 23) 3 none), g1 20 false (.load 25 (.t 24) none (some 2) false), g1 20 false (.len 26 .slice (.t 25) false), g1 20 false (.bin 27 .gtr (.t 22) (.t 26)), pO 28 20 27])
  (.cond (.t 28) (.seq (.ops [mK 4 0])
  (.ret))
  (.skip)))
  (.seq (.ops [g0 (.fldA 29 (.t 2) 0 (some 6)), fA 30 29 3, lA 31 30 2, mV 32 1, iX 33 31 32, lP 34 33, bZ 5, sT 5 34 6 5])
  (.seq (.seq (.ops [fA 35 5 0, lA 36 35 5, bK 37 .neq 36 30])
  (.cond (.t 37) (.seq (.ops [mK 4 0])
  (.ret))
  (.skip)))
  (.seq (.ops [fA 38 2 6, lA 39 38 2, bK 40 .add 39 1, fA 41 2 6, sT 41 40 1 2])
  (.seq (.ops [mK 6 0])
  (.seq (.seq (.ops [fA 42 5 3, lA 43 42 5, lN 44 43, mK 45 0])
  (.block 0 (.loop L146_0)))
  (.seq (.ops [mV 78 6, mV 4 78])
  (.ret)))))))),
  [.t 4]⟩
/-- notary/typer.shaped -/
def F151 : IFunc := ⟨.pure, .seq (.ops [bF 1 0, g0 (.mv 2 (.c (.bool false)))])
  (.seq (.ops [fA 4 1 3, lA 5 4 1, lN 6 5, mV 3 6])
  (.seq (.seq (.ops [fA 7 1 0, lA 8 7 1])
  (.block 0 (.seq (.seq (.ops [bK 10 .eql 8 5, mV 9 10])
  (.cond (.t 9) (.skip)
  (.seq (.ops [bK 11 .eql 8 7, mV 9 11])
  (.cond (.t 9) (.skip)
  (.seq (.ops [bK 12 .eql 8 8, mV 9 12])
  (.cond (.t 9) (.skip)
  (.seq (.ops [bK 13 .eql 8 9, mV 9 13])
  (.cond (.t 9) (.skip)
  (.ops [bK 14 .eql 8 18, mV 9 14])))))))))
  (.cond (.t 9) (.seq (.ops [mV 15 3, bK 16 .eql 15 0, mV 2 16])
  (.ret))
  (.seq (.ops [bK 18 .eql 8 6, mV 17 18])
  (.cond (.t 17) (.seq (.ops [mV 19 3, bK 20 .eql 19 0, mV 21 20, g1 21 true (.fldA 22 (.t 1) 1 none), g1 21 true (.load 23 (.t 22) none (some 1) false), g1 21 true (.bin 24 .eql (.t 23) (kI 0)), g1 21 true (.mv 25 (.t 24)), g1 25 false (.fldA 26 (.t 1) 1 none), g1 25 false (.load 27 (.t 26) none (some 1) false), g1 25 false (.bin 28 .eql (.t 27) (kI 1)), g1 21 true (.pick 29 (.t 25) (.c (.bool true)) (.t 28)), pA 30 21 29, mV 2 30])
  (.ret))
  (.seq (.ops [bK 32 .eql 8 11, mV 31 32])
  (.cond (.t 31) (.seq (.ops [mV 33 3, bK 34 .eql 33 1, mV 35 34, g1 35 true (.fldA 36 (.t 1) 1 none), g1 35 true (.load 37 (.t 36) none (some 1) false), g1 35 true (.bin 38 .eql (.t 37) (kI 1)), g1 35 true (.mv 39 (.t 38)), g1 39 false (.fldA 40 (.t 1) 1 none), g1 39 false (.load 41 (.t 40) none (some 1) false), g1 39 false (.bin 42 .eql (.t 41) (kI 2)), g1 35 true (.pick 43 (.t 39) (.c (.bool true)) (.t 42)), pA 44 35 43, mV 2 44])
  (.ret))
  (.seq (.ops [bK 46 .eql 8 10, mV 45 46])
  (.cond (.t 45) (.seq (.ops [mV 47 3, bK 48 .eql 47 2, mV 49 48, g1 49 true (.fldA 50 (.t 1) 1 none), g1 49 true (.load 51 (.t 50) none (some 1) false), g1 49 true (.bin 52 .geq (.t 51) (kI 1)), pA 53 49 52, mV 54 53, g1 54 true (.fldA 55 (.t 1) 1 none), g1 54 true (.load 56 (.t 55) none (some 1) false), g1 54 true (.bin 57 .leq (.t 56) (kI 13)), pA 58 54 57, mV 2 58])
  (.ret))
  (.seq (.ops [bK 60 .eql 8 13, mV 59 60])
  (.cond (.t 59) (.seq (.ops [mV 61 3, bK 62 .eql 61 1, mV 2 62])
  (.ret))
  (.seq (.ops [bK 64 .eql 8 12, mV 63 64])
  (.cond (.t 63) (.seq (.ops [mV 65 3, bK 66 .eql 65 2, mV 2 66])
  (.ret))
  (.seq (.seq (.ops [bK 68 .eql 8 14, mV 67 68])
  (.cond (.t 67) (.skip)
  (.ops [bK 69 .eql 8 15, mV 67 69])))
  (.cond (.t 67) (.seq (.ops [mV 70 3, bK 71 .gtr 70 0, mV 2 71])
  (.ret))
  (.seq (.seq (.ops [bK 73 .eql 8 16, mV 72 73])
  (.cond (.t 72) (.skip)
  (.ops [bK 74 .eql 8 17, mV 72 74])))
  (.cond (.t 72) (.seq (.ops [g0 (.mv 2 (.c (.bool true)))])
  (.ret))
  (.skip)))))))))))))))))))
  (.seq (.ops [g0 (.mv 2 (.c (.bool false)))])
  (.ret)))),
  [.t 2]⟩
/-- (*notary/typer.typer).fail -/
def F152 : IFunc := ⟨.cut, .seq (.ops [bF 4 1, bZ 6, bZ 7])
  (.seq (.seq (.ops [mV 8 0, nC 9 8, fA 10 9 8, lO 11 10, bK 12 .eql 11 0])
  (.cond (.t 12) (.ops [mV 13 0, mV 14 0, fA 15 4 4, lA 16 15 4, mV 17 2, nC 18 13, fA 19 18 7, g0 (.store (.t 19) (.t 16) 1 none), nC 20 14, fA 21 20 8, g0 (.store (.t 21) (.t 17) 1 none)])
  (.skip)))
  (.seq (.ops [g0 (.build 22 zT []), g0 (.build 23 zT []), sT 6 22 6 6, sT 7 23 6 7])
  (.ret))),
  [.cell 6 (some 6) (some 6), .cell 7 (some 6) (some 7)]⟩
/-- (*notary/typer.typer).named -/
def F153 : IFunc := ⟨.pop, .seq (.ops [bF 3 1, bZ 4, g0 (.mv 5 (.c (.bool false)))])
  (.seq (.seq (.ops [fA 10 3 0, lA 11 10 3])
  (.block 0 (.seq (.ops [bK 13 .eql 11 7, mV 12 13])
  (.cond (.t 12) (.seq (.seq (.ops [fA 14 3 1, lA 15 14 3, bK 16 .lss 15 0, mV 17 16, g1 17 false (.fldA 18 (.t 3) 1 none), g1 17 false (.load 19 (.t 18) none (some 3) false), g1 17 false (.mv 20 (.t 0)), g1 17 false (.nilc (some 21) (.t 20)), g1 17 false (.fldA 22 (.t 21) 6 none), g1 17 false (.load 23 (.t 22) none none false), g1 17 false (.len 24 .slice (.t 23) false), g1 17 false (.bin 25 .geq (.t 19) (.t 24)), pO 26 17 25])
  (.cond (.t 26) (.seq (.ops [g0 (.build 27 zT []), sT 4 27 6 4, g0 (.mv 5 (.c (.bool false)))])
  (.ret))
  (.skip)))
  (.seq (.ops [mV 28 0, nC 29 28, fA 30 29 6, lO 31 30, mV 32 0, nC 33 32, fA 34 33 6, lO 35 34, lN 36 35, bK 37 .sub 36 1, fA 38 3 1, lA 39 38 3, bT 40 .sub 37 39, iX 41 31 40, lP 42 41, sT 4 42 6 4, g0 (.mv 5 (.c (.bool true)))])
  (.ret)))
  (.seq (.ops [bK 44 .eql 11 8, mV 43 44])
  (.cond (.t 43) (.seq (.ops [mV 46 0, fA 47 3 1, lA 48 47 3, cA 49 204 [(.t 46), (.t 48), (kI 31)], mV 45 49, eX 50 45 0, eX 51 45 1, bZ 6, sT 6 50 6 6, mV 7 51])
  (.seq (.seq (.ops [mV 52 7, g0 (.un 53 .not (.t 52))])
  (.cond (.t 53) (.seq (.ops [g0 (.build 54 zT []), sT 4 54 6 4, g0 (.mv 5 (.c (.bool false)))])
  (.ret))
  (.skip)))
  (.seq (.ops [fA 55 6 3, lA 56 55 6, g0 (.idxA 57 (.t 56) (kI 0) 6 (some 6) none), lP 58 57, cA 59 205 [(.t 58)], sT 4 59 6 4, g0 (.mv 5 (.c (.bool true)))])
  (.ret))))
  (.seq (.ops [bK 61 .eql 11 9, mV 60 61])
  (.cond (.t 60) (.seq (.ops [mV 63 0, fA 64 3 1, lA 65 64 3, cA 66 204 [(.t 63), (.t 65), (kI 32)], mV 62 66, eX 67 62 0, eX 68 62 1, bZ 8, sT 8 67 6 8, mV 9 68])
  (.seq (.seq (.ops [mV 69 9, g0 (.un 70 .not (.t 69))])
  (.cond (.t 70) (.seq (.ops [g0 (.build 71 zT []), sT 4 71 6 4, g0 (.mv 5 (.c (.bool false)))])
  (.ret))
  (.skip)))
  (.seq (.ops [fA 72 8 3, lA 73 72 8, g0 (.idxA 74 (.t 73) (kI 0) 6 (some 6) none), lP 75 74, sT 4 75 6 4, g0 (.mv 5 (.c (.bool true)))])
  (.ret))))
  (.seq (.ops [bK 77 .eql 11 15, mV 76 77])
  (.cond (.t 76) (.seq (.ops [mV 78 0, fA 79 3 1, lA 80 79 3, cA 81 204 [(.t 78), (.t 80), (kI 30)], eX 82 81 0, eX 83 81 1, sT 4 82 6 4, mV 5 83])
  (.ret))
  (.seq (.ops [bK 85 .eql 11 16, mV 84 85])
  (.cond (.t 84) (.seq (.ops [mV 86 0, fA 87 3 1, lA 88 87 3, cA 89 204 [(.t 86), (.t 88), (kI 33)], eX 90 89 0, eX 91 89 1, sT 4 90 6 4, mV 5 91])
  (.ret))
  (.seq (.ops [bK 93 .eql 11 17, mV 92 93])
  (.cond (.t 92) (.seq (.ops [g0 (.build 94 zT []), sT 4 94 6 4, g0 (.mv 5 (.c (.bool false)))])
  (.ret))
  (.skip)))))))))))))))
  (.seq (.ops [g0 (.build 95 zT []), sT 4 95 6 4, g0 (.mv 5 (.c (.bool true)))])
  (.ret))),
  [.cell 4 (some 6) (some 4), .t 5]⟩
/-- (*notary/typer.typer).of$1 -/
def F154 : IFunc := ⟨.raw, .seq (.ops [bF 4 0, g0 (.mv 5 (.c (.bool false)))])
  (.seq (.ops [lO 9 1, lF 10 4 4, cA 11 93 [(.t 9), (.t 10)], mV 8 11, eX 12 8 0, eX 13 8 1, bZ 6, bZ 7, sT 6 12 6 6, sT 7 13 6 7])
  (.seq (.ops [lO 14 2, lF 15 6 6, lN 16 14, g0 (.bsl 17 6 true [(.c (.agg zT))]), g0 (.app 18 (.t 14) (.t 17) 6), iX 19 18 16, g0 (.storeX false (.t 19) (.t 15) 6), g0 (.storeX true (.t 2) (.t 18) 1)])
  (.seq (.ops [fA 20 3 3, lO 21 20, lF 22 7 7, lN 23 21, g0 (.bsl 24 6 true [(.c (.agg zT))]), g0 (.app 25 (.t 21) (.t 24) 6), iX 26 25 23, g0 (.storeX false (.t 26) (.t 22) 6), fA 27 3 3, g0 (.storeX true (.t 27) (.t 25) 1)])
  (.seq (.ops [lO 28 1, nC 29 28, fA 30 29 8, lO 31 30, bK 32 .eql 31 0, mV 5 32])
  (.ret))))),
  [.t 5]⟩
/-- (*notary/typer.typer).rule -/
def F155 : IFunc := ⟨.raw, .seq (.ops [bF 6 2, bZ 8, mK 9 0])
  (.seq (.ops [g0 (.build 15 zT []), bZ 10, sT 10 15 6 10, g0 (.mv 11 (.c (.bool false)))])
  (.seq (.seq (.ops [mV 16 1, nC 17 16, fA 18 17 0, lO 19 18])
  (.block 0 (.seq (.seq (.ops [bK 21 .eql 19 5, mV 20 21])
  (.cond (.t 20) (.skip)
  (.seq (.ops [bK 22 .eql 19 18, mV 20 22])
  (.cond (.t 20) (.skip)
  (.seq (.ops [bK 23 .eql 19 6, mV 20 23])
  (.cond (.t 20) (.skip)
  (.seq (.ops [bK 24 .eql 19 7, mV 20 24])
  (.cond (.t 20) (.skip)
  (.seq (.ops [bK 25 .eql 19 8, mV 20 25])
  (.cond (.t 20) (.skip)
  (.ops [bK 26 .eql 19 9, mV 20 26])))))))))))
  (.cond (.t 20) (.seq (.ops [mV 27 1, nC 28 27, lP 29 28, lF 30 6 6, cA 31 206 [(.t 29), (.t 30)], sT 8 31 6 8, mK 9 0])
  (.ret))
  (.seq (.ops [bK 33 .eql 19 10, mV 32 33])
  (.cond (.t 32) (.seq (.ops [mV 34 1, nC 35 34, fA 36 35 1, lO 37 36, mV 38 3, g0 (.idxA 39 (.t 38) (kI 0) 6 (some 6) none), lP 40 39, mV 41 3, g0 (.idxA 42 (.t 41) (kI 1) 6 (some 6) none), lP 43 42, cA 44 207 [(.t 37), (.t 40), (.t 43)], sT 10 44 6 10])
  (.ops [fA 45 10 0, lA 46 45 10, bK 47 .neq 46 0, mV 11 47]))
  (.seq (.ops [bK 49 .eql 19 11, mV 48 49])
  (.cond (.t 48) (.seq (.ops [mV 50 1, nC 51 50, fA 52 51 1, lO 53 52, bK 54 .eql 53 1, mV 55 54, g1 55 true (.mv 56 (.t 3)), g1 55 true (.idxA 57 (.t 56) (kI 0) 6 (some 6) none), g1 55 true (.load 58 (.t 57) (some 6) none false), g1 55 true (.call (some 59) 208 [(.t 58), (kI 1)]), pA 60 55 59, mV 61 60, g1 61 false (.mv 62 (.t 1)), g1 61 false (.nilc (some 63) (.t 62)), g1 61 false (.fldA 64 (.t 63) 1 none), g1 61 false (.load 65 (.t 64) none none false), g1 61 false (.bin 66 .eql (.t 65) (kI 2)), g1 61 false (.mv 67 (.t 66)), g1 67 true (.mv 68 (.t 3)), g1 67 true (.idxA 69 (.t 68) (kI 0) 6 (some 6) none), g1 67 true (.load 70 (.t 69) (some 6) none false), g1 67 true (.call (some 71) 208 [(.t 70), (kI 2)]), g1 61 false (.pick 72 (.t 67) (.t 71) (.c (.bool false))), pO 73 61 72])
  (.cond (.t 73) (.ops [mV 74 3, g0 (.idxA 75 (.t 74) (kI 0) 6 (some 6) none), lP 76 75, sT 10 76 6 10, g0 (.mv 11 (.c (.bool true)))])
  (.skip)))
  (.seq (.ops [bK 78 .eql 19 12, mV 77 78])
  (.cond (.t 77) (.seq (.ops [mV 79 3, g0 (.idxA 80 (.t 79) (kI 0) 6 (some 6) none), fA 81 80 0, lO 82 81, bK 83 .eql 82 3, mV 84 83, g1 84 true (.mv 85 (.t 3)), g1 84 true (.idxA 86 (.t 85) (kI 0) 6 (some 6) none), g1 84 true (.fldA 87 (.t 86) 3 none), g1 84 true (.load 88 (.t 87) none none false), g1 84 true (.len 89 .slice (.t 88) false), g1 84 true (.bin 90 .eql (.t 89) (kI 1)), pA 91 84 90, mV 92 91, g1 92 true (.mv 93 (.t 3)), g1 92 true (.idxA 94 (.t 93) (kI 1) 6 (some 6) none), g1 92 true (.load 95 (.t 94) (some 6) none false), g1 92 true (.call (some 96) 208 [(.t 95), (kI 1)]), pA 97 92 96])
  (.cond (.t 97) (.ops [mV 98 3, g0 (.idxA 99 (.t 98) (kI 0) 6 (some 6) none), fA 100 99 3, lO 101 100, g0 (.idxA 102 (.t 101) (kI 0) 6 (some 6) none), lP 103 102, sT 10 103 6 10, g0 (.mv 11 (.c (.bool true)))])
  (.skip)))
  (.seq (.ops [bK 105 .eql 19 13, mV 104 105])
  (.cond (.t 104) (.seq (.ops [mV 106 3, g0 (.idxA 107 (.t 106) (kI 0) 6 (some 6) none), fA 108 107 0, lO 109 108, bK 110 .eql 109 4, mV 111 110, g1 111 true (.mv 112 (.t 3)), g1 111 true (.idxA 113 (.t 112) (kI 0) 6 (some 6) none), g1 111 true (.fldA 114 (.t 113) 3 none), g1 111 true (.load 115 (.t 114) none none false), g1 111 true (.len 116 .slice (.t 115) false), g1 111 true (.bin 117 .eql (.t 116) (kI 0)), pA 118 111 117])
  (.cond (.t 118) (.seq (.ops [mV 120 0, mV 121 1, nC 122 121, lP 123 122, mV 124 3, g0 (.idxA 125 (.t 124) (kI 0) 6 (some 6) none), lP 126 125, cA 127 209 [(.t 120), (.t 123), (.t 126)], mV 119 127, eX 128 119 0, eX 129 119 1, eX 130 119 2, bZ 13, mV 12 128, sT 13 129 6 13, mV 14 130])
  (.seq (.seq (.ops [mV 131 14, g0 (.un 132 .not (.t 131))])
  (.cond (.t 132) (.seq (.ops [lF 133 10 10, sT 8 133 6 8, mK 9 8])
  (.ret))
  (.skip)))
  (.ops [mV 134 1, mV 135 12, lF 136 13 13, nC 137 134, fA 138 137 1, g0 (.store (.t 138) (.t 135) 1 none), sT 10 136 6 10, g0 (.mv 11 (.c (.bool true)))])))
  (.skip)))
  (.seq (.ops [bK 140 .eql 19 14, mV 139 140])
  (.cond (.t 139) (.seq (.ops [mV 141 0, mV 142 3, cA 143 210 [(.t 141), (.t 142)], eX 144 143 0, eX 145 143 1, sT 8 144 6 8, mV 9 145])
  (.ret))
  (.seq (.ops [bK 147 .eql 19 15, mV 146 147])
  (.cond (.t 146) (.seq (.ops [mV 148 3, fA 149 6 3, lA 150 149 6, cA 151 211 [(.t 148), (.t 150)]])
  (.cond (.t 151) (.ops [mV 152 1, nC 153 152, fA 154 153 1, lO 155 154, g0 (.build 156 zT [(0, 1, (kI 4)), (1, 1, (.t 155))]), sT 10 156 6 10, g0 (.mv 11 (.c (.bool true)))])
  (.skip)))
  (.seq (.ops [bK 158 .eql 19 16, mV 157 158])
  (.cond (.t 157) (.seq (.ops [mV 159 3, fA 160 6 3, lA 161 160 6, g0 (.idxA 162 (.t 161) (kI 0) 6 (some 6) none), fA 163 162 3, lO 164 163, cA 165 211 [(.t 159), (.t 164)]])
  (.cond (.t 165) (.ops [fA 166 6 3, lA 167 166 6, g0 (.idxA 168 (.t 167) (kI 1) 6 (some 6) none), lP 169 168, cA 170 212 [(.t 169)], sT 10 170 6 10, g0 (.mv 11 (.c (.bool true)))])
  (.skip)))
  (.skip)))))))))))))))))))
  (.seq (.seq (.ops [mV 171 11, g0 (.un 172 .not (.t 171))])
  (.cond (.t 172) (.seq (.ops [lF 173 10 10, sT 8 173 6 8, mK 9 10])
  (.ret))
  (.skip)))
  (.seq (.ops [lF 174 10 10, sT 8 174 6 8, mK 9 0])
  (.ret))))),
  [.cell 8 (some 6) (some 8), .t 9]⟩
/-- notary/notaryref15.Has -/
def F159 : IFunc := ⟨.pure, .seq (.ops [bF 3 0, g0 (.mv 6 (.c (.bool false)))])
  (.seq (.seq (.ops [mV 8 1, bK 9 .lss 8 0, mV 10 9, g1 10 false (.mv 11 (.t 1)), g1 10 false (.fldA 12 (.t 3) 3 none), g1 10 false (.load 13 (.t 12) none (some 3) false), g1 10 false (.len 14 .slice (.t 13) false), g1 10 false (.bin 15 .geq (.t 11) (.t 14)), pO 16 10 15])
  (.cond (.t 16) (.seq (.ops [g0 (.mv 6 (.c (.bool false)))])
  (.ret))
  (.skip)))
  (.seq (.ops [fA 17 3 3, lA 18 17 3, mV 19 1, iX 20 18 19, lP 21 20, bZ 7, sT 7 21 6 7])
  (.seq (.seq (.ops [fA 22 7 0, lA 23 22 7, mV 24 2, bT 25 .neq 23 24])
  (.cond (.t 25) (.seq (.ops [g0 (.mv 6 (.c (.bool false)))])
  (.ret))
  (.skip)))
  (.seq (.seq (.ops [mV 26 2, bK 27 .eql 26 31])
  (.cond (.t 27) (.seq (.ops [fA 28 7 3, lA 29 28 7, lN 30 29, bK 31 .eql 30 1, mV 32 31, g1 32 true (.fldA 33 (.t 7) 3 none), g1 32 true (.load 34 (.t 33) none (some 7) false), g1 32 true (.idxA 35 (.t 34) (kI 0) 6 (some 6) none), g1 32 true (.load 36 (.t 35) (some 6) none false), g1 32 true (.call (some 37) 138 [(.t 36)]), g1 32 true (.fld 38 (.t 37) 0 none), g1 32 true (.bin 39 .neq (.t 38) (kI 0)), pA 40 32 39, mV 6 40])
  (.ret))
  (.skip)))
  (.seq (.seq (.ops [mV 41 2, bK 42 .eql 41 32])
  (.cond (.t 42) (.seq (.ops [fA 43 7 3, lA 44 43 7, lN 45 44, bK 46 .eql 45 1, mV 6 46])
  (.ret))
  (.skip)))
  (.seq (.seq (.ops [mV 47 2, bK 48 .eql 47 33])
  (.cond (.t 48) (.seq (.ops [fA 49 7 3, lA 50 49 7, lN 51 50, bK 52 .eql 51 3, mV 6 52])
  (.ret))
  (.skip)))
  (.seq (.ops [lF 53 7 7, cA 54 136 [(.t 53)], mV 6 54])
  (.ret)))))))),
  [.t 6]⟩
def L160_0 : Ic := .seq (.seq (.ops [mV 6 4, fA 7 1 3, lA 8 7 1, lN 9 8, bT 10 .lss 6 9])
  (.cond (.t 10) (.skip)
  (.exit 0)))
  (.seq (.block 1 (.ops [mV 13 3, fA 14 1 3, lA 15 14 1, mV 16 4, iX 17 15 16, lP 18 17, cA 19 160 [(.t 18)], g0 (.bsl 20 6 true [(.t 19)]), g0 (.app 21 (.t 13) (.t 20) 6), mV 3 21]))
  (.ops [mV 11 4, bK 12 .add 11 1, mV 4 12]))
/-- notary/notaryref06.Bare -/
def F160 : IFunc := ⟨.pure, .seq (.ops [bF 1 0, bZ 2])
  (.seq (.ops [g0 (.bsl 5 6 true []), mV 3 5])
  (.seq (.seq (.ops [mK 4 0])
  (.block 0 (.loop L160_0)))
  (.seq (.ops [fA 22 1 0, lA 23 22 1, fA 24 1 1, lA 25 24 1, fA 26 1 2, lA 27 26 1, mV 28 3, g0 (.build 29 zT [(0, 1, (.t 23)), (1, 1, (.t 25)), (2, 1, (.t 27)), (3, 1, (.t 28))]), sT 2 29 6 2])
  (.ret)))),
  [.cell 2 (some 6) (some 2)]⟩
/-- notary/notaryref15.Int -/
def F161 : IFunc := ⟨.pure, .seq (.ops [bZ 0])
  (.seq (.ops [g0 (.build 1 zT [(0, 1, (kI 1))]), sT 0 1 6 0])
  (.ret)),
  [.cell 0 (some 6) (some 0)]⟩
/-- notary/notaryref15.Two -/
def F162 : IFunc := ⟨.pure, .seq (.ops [bF 4 1, bF 5 2, bZ 6])
  (.seq (.ops [lF 9 4 4, cA 10 163 [(.t 9), (kI 1)], mV 11 10, g1 11 true (.load 12 (.t 5) (some 6) (some 5) false), g1 11 true (.call (some 13) 163 [(.t 12), (kI 1)]), pA 14 11 13, mV 7 14])
  (.seq (.ops [lF 15 4 4, cA 16 163 [(.t 15), (kI 2)], mV 17 16, g1 17 true (.load 18 (.t 5) (some 6) (some 5) false), g1 17 true (.call (some 19) 163 [(.t 18), (kI 2)]), pA 20 17 19, mV 8 20])
  (.seq (.seq (.ops [mV 21 0, bK 22 .eql 21 1, mV 23 22, g1 23 false (.mv 24 (.t 0)), g1 23 false (.bin 25 .eql (.t 24) (kI 2)), pO 26 23 25, mV 27 26, g1 27 true (.mv 28 (.t 8)), pA 29 27 28, mV 30 29, g1 30 false (.mv 31 (.t 0)), g1 30 false (.bin 32 .eql (.t 31) (kI 3)), g1 30 false (.mv 33 (.t 32)), g1 33 false (.mv 34 (.t 0)), g1 33 false (.bin 35 .eql (.t 34) (kI 4)), g1 30 false (.pick 36 (.t 33) (.c (.bool true)) (.t 35)), g1 30 false (.mv 37 (.t 36)), g1 37 true (.mv 38 (.t 7)), g1 37 true (.mv 39 (.t 38)), g1 39 false (.mv 40 (.t 8)), g1 37 true (.pick 41 (.t 39) (.c (.bool true)) (.t 40)), g1 30 false (.pick 42 (.t 37) (.t 41) (.c (.bool false))), pO 43 30 42])
  (.cond (.t 43) (.seq (.ops [cA 44 196 [], sT 6 44 6 6])
  (.ret))
  (.skip)))
  (.seq (.seq (.ops [mV 45 0, bK 46 .eql 45 5, mV 47 46, g1 47 false (.mv 48 (.t 0)), g1 47 false (.bin 49 .eql (.t 48) (kI 6)), pO 50 47 49, mV 51 50, g1 51 false (.mv 52 (.t 0)), g1 51 false (.bin 53 .eql (.t 52) (kI 7)), pO 54 51 53, mV 55 54, g1 55 false (.mv 56 (.t 0)), g1 55 false (.bin 57 .eql (.t 56) (kI 8)), pO 58 55 57, mV 59 58, g1 59 true (.mv 60 (.t 7)), pA 61 59 60])
  (.cond (.t 61) (.seq (.ops [cA 62 196 [], sT 6 62 6 6])
  (.ret))
  (.skip)))
  (.seq (.seq (.ops [mV 63 0, bK 64 .geq 63 9, mV 65 64, g1 65 true (.mv 66 (.t 7)), pA 67 65 66])
  (.cond (.t 67) (.seq (.ops [cA 68 161 [], sT 6 68 6 6])
  (.ret))
  (.skip)))
  (.seq (.ops [g0 (.build 69 zT []), sT 6 69 6 6])
  (.ret))))))),
  [.cell 6 (some 6) (some 6)]⟩
/-- notary/notaryref15.Is -/
def F163 : IFunc := ⟨.pure, .seq (.ops [bF 2 0, g0 (.mv 4 (.c (.bool false)))])
  (.seq (.ops [fA 5 2 0, lA 6 5 2, mV 7 1, bT 8 .eql 6 7, mV 9 8, g1 9 true (.fldA 10 (.t 2) 3 none), g1 9 true (.load 11 (.t 10) none (some 2) false), g1 9 true (.len 12 .slice (.t 11) false), g1 9 true (.bin 13 .eql (.t 12) (kI 0)), pA 14 9 13, mV 4 14])
  (.ret)),
  [.t 4]⟩
def L164_0 : Ic := .seq (.seq (.ops [mV 41 10, fA 42 9 3, lA 43 42 9, lN 44 43, bT 45 .lss 41 44, mV 46 45, g1 46 true (.mv 47 (.t 10)), g1 46 true (.bin 48 .lss (.t 47) (kI 64)), pA 49 46 48])
  (.cond (.t 49) (.skip)
  (.exit 0)))
  (.seq (.block 1 (.seq (.ops [fA 52 9 3, lA 53 52 9, mV 54 10, iX 55 53 54, fA 56 55 2, lO 57 56, fA 58 4 2, lA 59 58 4, bT 60 .eql 57 59])
  (.cond (.t 60) (.seq (.ops [mV 61 2, bK 62 .mul 61 64, mV 63 10, bT 64 .add 62 63, mV 6 64])
  (.ret))
  (.skip))))
  (.ops [mV 50 10, bK 51 .add 50 1, mV 10 51]))
/-- notary/notaryref15.Field -/
def F164 : IFunc := ⟨.pure, .seq (.ops [bF 3 0, bF 4 1, mK 6 0])
  (.seq (.seq (.ops [lF 11 3 3, mV 12 2, cA 13 159 [(.t 11), (.t 12), (kI 30)], g0 (.un 14 .not (.t 13))])
  (.cond (.t 14) (.seq (.ops [g0 (.mv 6 (.c (.int .i64 (-1))))])
  (.ret))
  (.skip)))
  (.seq (.seq (.ops [fA 15 4 2, lA 16 15 4, g0 (.bin 17 .eql (.t 16) (.c (.str [])))])
  (.cond (.t 17) (.seq (.ops [lF 19 3 3, fA 20 4 1, lA 21 20 4, cA 22 165 [(.t 19), (.t 21)], mV 18 22, eX 23 18 0, eX 24 18 1, bZ 7, sT 7 23 6 7, mV 8 24])
  (.seq (.seq (.ops [mV 25 8, g0 (.un 26 .not (.t 25)), mV 27 26, g1 27 false (.fldA 28 (.t 4) 1 none), g1 27 false (.load 29 (.t 28) none (some 4) false), g1 27 false (.bin 30 .quo (.t 29) (kI 64)), g1 27 false (.mv 31 (.t 2)), g1 27 false (.bin 32 .neq (.t 30) (.t 31)), pO 33 27 32])
  (.cond (.t 33) (.seq (.ops [g0 (.mv 6 (.c (.int .i64 (-1))))])
  (.ret))
  (.skip)))
  (.seq (.ops [fA 34 4 1, lA 35 34 4, mV 6 35])
  (.ret))))
  (.skip)))
  (.seq (.ops [fA 36 3 3, lA 37 36 3, mV 38 2, iX 39 37 38, lP 40 39, bZ 9, sT 9 40 6 9])
  (.seq (.seq (.ops [mK 10 0])
  (.block 0 (.loop L164_0)))
  (.seq (.ops [g0 (.mv 6 (.c (.int .i64 (-1))))])
  (.ret)))))),
  [.t 6]⟩
/-- notary/notaryref12.Field -/
def F165 : IFunc := ⟨.pure, .seq (.ops [bF 2 0, bZ 4, g0 (.mv 5 (.c (.bool false)))])
  (.seq (.seq (.ops [mV 8 1, bK 9 .lss 8 0, mV 10 9, g1 10 false (.mv 11 (.t 1)), g1 10 false (.bin 12 .quo (.t 11) (kI 64)), g1 10 false (.fldA 13 (.t 2) 3 none), g1 10 false (.load 14 (.t 13) none (some 2) false), g1 10 false (.len 15 .slice (.t 14) false), g1 10 false (.bin 16 .geq (.t 12) (.t 15)), pO 17 10 16])
  (.cond (.t 17) (.seq (.ops [g0 (.build 18 zT []), sT 4 18 6 4, g0 (.mv 5 (.c (.bool false)))])
  (.ret))
  (.skip)))
  (.seq (.ops [fA 19 2 3, lA 20 19 2, mV 21 1, bK 22 .quo 21 64, iX 23 20 22, lP 24 23, bZ 6, sT 6 24 6 6])
  (.seq (.ops [mV 25 1, bK 26 .rem 25 64, mV 7 26])
  (.seq (.seq (.ops [fA 27 6 0, lA 28 27 6, bK 29 .neq 28 30, mV 30 29, g1 30 false (.mv 31 (.t 7)), g1 30 false (.fldA 32 (.t 6) 3 none), g1 30 false (.load 33 (.t 32) none (some 6) false), g1 30 false (.len 34 .slice (.t 33) false), g1 30 false (.bin 35 .geq (.t 31) (.t 34)), pO 36 30 35, mV 37 36, g1 37 false (.fldA 38 (.t 6) 3 none), g1 37 false (.load 39 (.t 38) none (some 6) false), g1 37 false (.mv 40 (.t 7)), g1 37 false (.idxA 41 (.t 39) (.t 40) 6 (some 6) none), g1 37 false (.fldA 42 (.t 41) 0 none), g1 37 false (.load 43 (.t 42) none none false), g1 37 false (.bin 44 .neq (.t 43) (kI 34)), pO 45 37 44, mV 46 45, g1 46 false (.fldA 47 (.t 6) 3 none), g1 46 false (.load 48 (.t 47) none (some 6) false), g1 46 false (.mv 49 (.t 7)), g1 46 false (.idxA 50 (.t 48) (.t 49) 6 (some 6) none), g1 46 false (.fldA 51 (.t 50) 3 none), g1 46 false (.load 52 (.t 51) none none false), g1 46 false (.len 53 .slice (.t 52) false), g1 46 false (.bin 54 .neq (.t 53) (kI 1)), pO 55 46 54])
  (.cond (.t 55) (.seq (.ops [g0 (.build 56 zT []), sT 4 56 6 4, g0 (.mv 5 (.c (.bool false)))])
  (.ret))
  (.skip)))
  (.seq (.ops [fA 57 6 3, lA 58 57 6, mV 59 7, iX 60 58 59, fA 61 60 3, lO 62 61, g0 (.idxA 63 (.t 62) (kI 0) 6 (some 6) none), lP 64 63, sT 4 64 6 4, g0 (.mv 5 (.c (.bool true)))])
  (.ret)))))),
  [.cell 4 (some 6) (some 4), .t 5]⟩
def L166_0 : Ic := .seq (.seq (.ops [mV 11 5, mV 12 1, lN 13 12, bT 14 .lss 11 13])
  (.cond (.t 14) (.skip)
  (.exit 0)))
  (.seq (.block 1 (.seq (.ops [mV 17 1, mV 18 5, iX 19 17 18, fA 20 19 3, lO 21 20, lN 22 21, bK 23 .neq 22 1, mV 24 23, g1 24 false (.mv 25 (.t 0)), g1 24 false (.mv 26 (.t 5)), g1 24 false (.idxA 27 (.t 25) (.t 26) 6 (some 6) none), g1 24 false (.load 28 (.t 27) (some 6) none true), g1 24 false (.mv 29 (.t 1)), g1 24 false (.mv 30 (.t 5)), g1 24 false (.idxA 31 (.t 29) (.t 30) 6 (some 6) none), g1 24 false (.fldA 32 (.t 31) 3 none), g1 24 false (.load 33 (.t 32) none none false), g1 24 false (.idxA 34 (.t 33) (kI 0) 6 (some 6) none), g1 24 false (.load 35 (.t 34) (some 6) none false), g1 24 false (.call (some 36) 160 [(.t 35)]), g1 24 false (.call (some 37) 74 [(.t 28), (.t 36)]), g1 24 false (.un 38 .not (.t 37)), pO 39 24 38])
  (.cond (.t 39) (.seq (.ops [g0 (.mv 4 (.c (.bool false)))])
  (.ret))
  (.skip))))
  (.ops [mV 15 5, bK 16 .add 15 1, mV 5 16]))
/-- notary/notaryref15.Fit -/
def F166 : IFunc := ⟨.pure, .seq (.ops [g0 (.mv 4 (.c (.bool false)))])
  (.seq (.seq (.ops [mV 6 0, lN 7 6, mV 8 1, lN 9 8, bT 10 .neq 7 9])
  (.cond (.t 10) (.seq (.ops [g0 (.mv 4 (.c (.bool false)))])
  (.ret))
  (.skip)))
  (.seq (.seq (.ops [mK 5 0])
  (.block 0 (.loop L166_0)))
  (.seq (.ops [g0 (.mv 4 (.c (.bool true)))])
  (.ret)))),
  [.t 4]⟩
def L169_0 : Ic := .seq (.seq (.ops [mV 16 5, nC 17 16, fA 18 17 1, lO 19 18, mV 20 0, g0 (.len 21 .str (.t 20) false), bT 22 .lss 19 21])
  (.cond (.t 22) (.skip)
  (.exit 0)))
  (.seq (.block 1 (.seq (.ops [mV 25 5, nC 26 25, fA 27 26 1, lO 28 27, mV 6 28])
  (.seq (.ops [mV 29 5, cA 30 219 [(.t 29)], mV 7 30])
  (.seq (.ops [mV 31 7, bK 32 .neq 31 0])
  (.cond (.t 32) (.seq (.ops [mV 33 6, mV 34 7, g0 (.mv 2 (.c .nils)), mV 3 33, mV 4 34])
  (.ret))
  (.skip))))))
  (.ops [mV 23 5, cA 24 218 [(.t 23)]]))
/-- notary/lex.Tokens -/
def F169 : IFunc := ⟨.pure, .seq (.ops [g0 (.mv 2 (.c .nils)), mK 3 0, mK 4 0])
  (.seq (.seq (.ops [mV 8 0, g0 (.len 9 .str (.t 8) false), bK 10 .gtr 9 8192])
  (.cond (.t 10) (.seq (.ops [g0 (.mv 2 (.c .nils)), mK 3 0, mK 4 3])
  (.ret))
  (.skip)))
  (.seq (.ops [mV 11 0, g0 (.build 12 [(.str []), (.int .i64 0), .nils] [(0, 1, (.t 11))]), g0 (.boxH 13 (some 3) (.t 12)), mV 5 13])
  (.seq (.seq (.ops [mV 14 5, cA 15 218 [(.t 14)]])
  (.block 0 (.loop L169_0)))
  (.seq (.ops [mV 35 5, mV 36 5, nC 37 36, fA 38 37 1, lO 39 38, g0 (.call (some 40) 220 [(.t 35), (kI 5), (kI 0), (.c (.str [])), (.t 39)])])
  (.seq (.ops [mV 41 5, nC 42 41, fA 43 42 2, lO 44 43, mV 2 44, mK 3 0, mK 4 0])
  (.ret)))))),
  [.t 2, .t 3, .t 4]⟩
/-- (*notary/unit.reader).decl -/
def F170 : IFunc := ⟨.fre, .seq (.ops [bZ 2])
  (.seq (.block 0 (.seq (.ops [mV 4 0, g0 (.callR (some 5) 221 [(.t 4), (kI 3), (.c (.str [114, 101, 99]))]), mV 3 5])
  (.cond (.t 3) (.seq (.ops [mV 6 0, cA 7 222 [(.t 6)], sT 2 7 6 2])
  (.ret))
  (.seq (.ops [mV 9 0, g0 (.callR (some 10) 221 [(.t 9), (kI 3), (.c (.str [99, 111, 110, 115, 116]))]), mV 8 10])
  (.cond (.t 8) (.seq (.ops [mV 11 0, cA 12 223 [(.t 11)], sT 2 12 6 2])
  (.ret))
  (.seq (.ops [mV 14 0, g0 (.callR (some 15) 221 [(.t 14), (kI 3), (.c (.str [118, 97, 114]))]), mV 13 15])
  (.cond (.t 13) (.seq (.ops [mV 16 0, cA 17 224 [(.t 16)], sT 2 17 6 2])
  (.ret))
  (.seq (.seq (.ops [mV 19 0, g0 (.callR (some 20) 221 [(.t 19), (kI 3), (.c (.str [112, 117, 98]))]), mV 18 20])
  (.cond (.t 18) (.skip)
  (.ops [mV 21 0, g0 (.callR (some 22) 221 [(.t 21), (kI 3), (.c (.str [102, 110]))]), mV 18 22])))
  (.cond (.t 18) (.seq (.ops [mV 23 0, cA 24 225 [(.t 23)], sT 2 24 6 2])
  (.ret))
  (.skip))))))))))
  (.seq (.ops [mV 25 0, nC 26 25, fA 27 26 2, g0 (.store (.t 27) (kI 6) 1 none)])
  (.seq (.ops [g0 (.build 28 zT []), sT 2 28 6 2])
  (.ret)))),
  [.cell 2 (some 6) (some 2)]⟩
/-- notary/term.Depth -/
def F171 : IFunc := ⟨.pure, .seq (.ops [bF 1 0, mK 2 0])
  (.seq (.ops [g0 (.boxH 3 (some 2) (.c (.agg [(.int .i64 0), (.int .i64 0)])))])
  (.seq (.ops [lF 4 1 1, g0 (.mkfn 5 227 [(.t 3)] []), cA 6 226 [(.t 4), (.c .nils), (.t 5)]])
  (.seq (.ops [fA 7 3 1, lO 8 7, mV 2 8])
  (.ret)))),
  [.t 2]⟩
def L172_0 : Ic := .seq (.ops [bT 13 .lss 12 11])
  (.seq (.cond (.t 13) (.skip)
  (.exit 0))
  (.seq (.block 1 (.seq (.ops [iX 14 10 12, lP 15 14, bZ 9, sT 9 15 6 9])
  (.seq (.seq (.ops [mV 16 0, nC 17 16, fA 18 17 9, lO 19 18, bK 20 .neq 19 0])
  (.cond (.t 20) (.seq (.ops [g0 (.mv 6 (.c .nils))])
  (.ret))
  (.skip)))
  (.ops [mV 21 7, mV 22 2, lF 23 9 9, g0 (.callV (some 24) (.t 22) [(.t 23)]), g0 (.bsl 25 6 true [(.t 24)]), g0 (.app 26 (.t 21) (.t 25) 6), mV 7 26]))))
  (.ops [bK 27 .add 12 1, mV 12 27])))
/-- (*notary/scope.scope).parts -/
def F172 : IFunc := ⟨.fre, .seq (.ops [g0 (.mv 6 (.c .nils))])
  (.seq (.ops [g0 (.mv 7 (.c .nils))])
  (.seq (.seq (.ops [mV 10 1, lN 11 10, mK 12 0])
  (.block 0 (.loop L172_0)))
  (.seq (.ops [mV 28 7, mV 6 28])
  (.ret)))),
  [.t 6]⟩
def L173_0 : Ic := .seq (.ops [bT 51 .lss 50 49])
  (.seq (.cond (.t 51) (.skip)
  (.exit 1))
  (.seq (.block 2 (.seq (.ops [iX 52 48 50, lP 53 52, bZ 8, sT 8 53 6 8])
  (.ops [mV 54 0, mV 55 0, nC 56 55, fA 57 56 7, lO 58 57, fA 59 8 2, lA 60 59 8, g0 (.bsl 61 1 false [(.t 60)]), g0 (.app 62 (.t 58) (.t 61) 1), nC 63 54, fA 64 63 7, g0 (.store (.t 64) (.t 62) 1 none)])))
  (.ops [bK 65 .add 50 1, mV 50 65])))
/-- (*notary/scope.scope).decl -/
def F173 : IFunc := ⟨.fre, .seq (.ops [bF 3 1, bZ 4])
  (.seq (.seq (.ops [fA 10 3 0, lA 11 10 3])
  (.block 0 (.seq (.ops [bK 13 .eql 11 30, mV 12 13])
  (.cond (.t 12) (.seq (.ops [fA 14 3 2, g0 (.store (.t 14) (.c (.str [])) 1 (some 3))])
  (.seq (.ops [mV 15 0, fA 16 3 3, lA 17 16 3, cA 18 228 [(.t 15), (.t 17), (.c (.bool true))], fA 19 3 3, sT 19 18 1 3])
  (.seq (.ops [lF 20 3 3, sT 4 20 6 4])
  (.ret))))
  (.seq (.ops [bK 22 .eql 11 33, mV 21 22])
  (.cond (.t 21) (.seq (.seq (.ops [fA 23 3 3, lA 24 23 3, lN 25 24, bK 26 .neq 25 3])
  (.cond (.t 26) (.seq (.ops [g0 (.build 27 zT []), sT 4 27 6 4])
  (.ret))
  (.skip)))
  (.seq (.ops [fA 28 3 2, g0 (.store (.t 28) (.c (.str [])) 1 (some 3))])
  (.seq (.ops [fA 29 3 3, lA 30 29 3, g0 (.idxA 31 (.t 30) (kI 0) 6 (some 6) none), lP 32 31, bZ 5, sT 5 32 6 5])
  (.seq (.ops [mV 33 0, fA 34 5 3, lA 35 34 5, cA 36 228 [(.t 33), (.t 35), (.c (.bool false))], fA 37 5 3, sT 37 36 1 5])
  (.seq (.ops [mV 38 0, fA 39 3 3, lA 40 39 3, g0 (.idxA 41 (.t 40) (kI 1) 6 (some 6) none), lP 42 41, cA 43 229 [(.t 38), (.t 42)], bZ 6, sT 6 43 6 6])
  (.seq (.seq (.ops [fA 44 3 3, lA 45 44 3, g0 (.idxA 46 (.t 45) (kI 0) 6 (some 6) none), fA 47 46 3, lO 48 47, lN 49 48, mK 50 0])
  (.block 1 (.loop L173_0)))
  (.seq (.ops [fA 66 3 3, lA 67 66 3, g0 (.idxA 68 (.t 67) (kI 2) 6 (some 6) none), lP 69 68, bZ 9, sT 9 69 6 9])
  (.seq (.seq (.ops [mV 70 0, nC 71 70, fA 72 71 9, lO 73 72, bK 74 .eql 73 0])
  (.cond (.t 74) (.ops [mV 75 0, lF 76 9 9, cA 77 230 [(.t 75), (.t 76)], sT 9 77 6 9])
  (.skip)))
  (.seq (.ops [mV 78 0, mV 79 0, nC 80 79, fA 81 80 7, lO 82 81, g0 (.slc 83 (some 1) (.t 82) none (some (kI 0)) none), nC 84 78, fA 85 84 7, g0 (.store (.t 85) (.t 83) 1 none)])
  (.seq (.ops [lF 86 5 5, lF 87 6 6, lF 88 9 9, g0 (.bsl 89 6 true [(.t 86), (.t 87), (.t 88)]), fA 90 3 3, sT 90 89 1 3])
  (.seq (.ops [lF 91 3 3, sT 4 91 6 4])
  (.ret))))))))))))
  (.skip)))))))
  (.seq (.ops [mV 92 0, lF 93 3 3, cA 94 229 [(.t 92), (.t 93)], sT 4 94 6 4])
  (.ret))),
  [.cell 4 (some 6) (some 4)]⟩
def L174_0 : Ic := .seq (.ops [bT 13 .lss 12 11])
  (.seq (.cond (.t 13) (.skip)
  (.exit 0))
  (.seq (.block 1 (.seq (.ops [iX 14 10 12, lP 15 14, bZ 9, sT 9 15 6 9])
  (.seq (.seq (.ops [mV 16 0, nC 17 16, fA 18 17 14, lO 19 18, bK 20 .neq 19 0])
  (.cond (.t 20) (.seq (.ops [g0 (.mv 6 (.c .nils))])
  (.ret))
  (.skip)))
  (.ops [mV 21 7, mV 22 2, lF 23 9 9, g0 (.callV (some 24) (.t 22) [(.t 23)]), g0 (.bsl 25 6 true [(.t 24)]), g0 (.app 26 (.t 21) (.t 25) 6), mV 7 26]))))
  (.ops [bK 27 .add 12 1, mV 12 27])))
/-- (*notary/right.looker).each -/
def F174 : IFunc := ⟨.fre, .seq (.ops [g0 (.mv 6 (.c .nils))])
  (.seq (.ops [g0 (.mv 7 (.c .nils))])
  (.seq (.seq (.ops [mV 10 1, lN 11 10, mK 12 0])
  (.block 0 (.loop L174_0)))
  (.seq (.ops [mV 28 7, mV 6 28])
  (.ret)))),
  [.t 6]⟩
/-- (*notary/right.looker).stmt -/
def F175 : IFunc := ⟨.fre, .seq (.ops [bF 3 1, bZ 4])
  (.seq (.seq (.ops [lF 12 3 3, cA 13 231 [(.t 12)], g0 (.un 14 .not (.t 13))])
  (.cond (.t 14) (.seq (.ops [mV 15 0, lF 16 3 3, cA 17 118 [(.t 15), (.t 16), (kI 12)]])
  (.seq (.ops [g0 (.build 18 zT []), sT 4 18 6 4])
  (.ret)))
  (.skip)))
  (.seq (.ops [fA 19 3 0, lA 20 19 3, fA 21 3 1, lA 22 21 3, g0 (.build 23 zT [(0, 1, (.t 20)), (1, 1, (.t 22))]), bZ 5, sT 5 23 6 5])
  (.seq (.seq (.ops [fA 24 3 0, lA 25 24 3])
  (.block 0 (.seq (.ops [bK 31 .eql 25 29, mV 30 31])
  (.cond (.t 30) (.seq (.ops [mV 32 0, lF 33 3 3, cA 34 120 [(.t 32), (.t 33)], sT 4 34 6 4])
  (.ret))
  (.seq (.ops [bK 36 .eql 25 20, mV 35 36])
  (.cond (.t 35) (.seq (.ops [mV 38 0, fA 39 3 3, lA 40 39 3, g0 (.idxA 41 (.t 40) (kI 0) 6 (some 6) none), lP 42 41, cA 43 232 [(.t 38), (.t 42)], mV 37 43, eX 44 37 0, eX 45 37 1, bZ 6, bZ 7, sT 6 44 6 6, sT 7 45 6 7])
  (.seq (.ops [lF 46 7 7, g0 (.bsl 47 6 true [(.t 46)]), fA 48 5 3, sT 48 47 1 5])
  (.ops [mV 49 0, nC 50 49, fA 51 50 6, lO 52 51, lF 53 6 6, lN 54 52, g0 (.bsl 55 6 true [(.c (.agg zT))]), g0 (.app 56 (.t 52) (.t 55) 6), iX 57 56 54, g0 (.storeX false (.t 57) (.t 53) 6), nC 58 49, fA 59 58 6, g0 (.storeX true (.t 59) (.t 56) 1)])))
  (.seq (.ops [bK 61 .eql 25 21, mV 60 61])
  (.cond (.t 60) (.seq (.ops [mV 62 0, fA 63 3 3, lA 64 63 3, g0 (.idxA 65 (.t 64) (kI 0) 6 (some 6) none), lP 66 65, cA 67 119 [(.t 62), (.t 66)], g0 (.bsl 68 6 true [(.t 67)]), fA 69 5 3, sT 69 68 1 5])
  (.ops [mV 70 0, nC 71 70, fA 72 71 6, lO 73 72, fA 74 3 3, lA 75 74 3, g0 (.idxA 76 (.t 75) (kI 0) 6 (some 6) none), lP 77 76, lN 78 73, g0 (.bsl 79 6 true [(.c (.agg zT))]), g0 (.app 80 (.t 73) (.t 79) 6), iX 81 80 78, g0 (.storeX false (.t 81) (.t 77) 6), nC 82 70, fA 83 82 6, g0 (.storeX true (.t 83) (.t 80) 1)]))
  (.seq (.ops [bK 85 .eql 25 22, mV 84 85])
  (.cond (.t 84) (.ops [mV 86 0, lF 87 3 3, cA 88 233 [(.t 86), (.t 87)], fA 89 5 3, sT 89 88 1 5])
  (.seq (.ops [bK 91 .eql 25 26, mV 90 91])
  (.cond (.t 90) (.ops [mV 92 0, fA 93 3 3, lA 94 93 3, g0 (.idxA 95 (.t 94) (kI 0) 6 (some 6) none), lP 96 95, g0 (.bsl 97 1 false [(kI 1), (kI 2)]), cA 98 234 [(.t 92), (.t 96), (.t 97)], g0 (.bsl 99 6 true [(.t 98)]), fA 100 5 3, sT 100 99 1 5])
  (.seq (.ops [bK 102 .eql 25 27, mV 101 102])
  (.cond (.t 101) (.seq (.ops [mV 104 0, fA 105 3 3, lA 106 105 3, g0 (.idxA 107 (.t 106) (kI 0) 6 (some 6) none), lP 108 107, cA 109 232 [(.t 104), (.t 108)], mV 103 109, eX 110 103 0, eX 111 103 1, bZ 8, bZ 9, sT 8 110 6 8, sT 9 111 6 9])
  (.seq (.seq (.ops [lF 112 8 8, mV 113 0, nC 114 113, g0 (.fldA 115 (.t 114) 7 (some 6)), lP 116 115, cA 117 212 [(.t 116)], cA 118 235 [(.t 112), (.t 117)], g0 (.un 119 .not (.t 118))])
  (.cond (.t 119) (.ops [mV 120 0, fA 121 3 3, lA 122 121 3, g0 (.idxA 123 (.t 122) (kI 0) 6 (some 6) none), lP 124 123, cA 125 118 [(.t 120), (.t 124), (kI 10)]])
  (.skip)))
  (.ops [lF 126 9 9, g0 (.bsl 127 6 true [(.t 126)]), fA 128 5 3, sT 128 127 1 5])))
  (.seq (.ops [bK 130 .eql 25 28, mV 129 130])
  (.cond (.t 129) (.seq (.seq (.ops [fA 131 3 3, lA 132 131 3, g0 (.idxA 133 (.t 132) (kI 0) 6 (some 6) none), fA 134 133 0, lO 135 134, bK 136 .neq 135 16])
  (.cond (.t 136) (.ops [mV 137 0, fA 138 3 3, lA 139 138 3, g0 (.idxA 140 (.t 139) (kI 0) 6 (some 6) none), lP 141 140, cA 142 118 [(.t 137), (.t 141), (kI 12)]])
  (.skip)))
  (.seq (.ops [mV 144 0, fA 145 3 3, lA 146 145 3, g0 (.idxA 147 (.t 146) (kI 0) 6 (some 6) none), lP 148 147, cA 149 232 [(.t 144), (.t 148)], mV 143 149, eX 150 143 0, eX 151 143 1, bZ 10, bZ 11, sT 10 150 6 10, sT 11 151 6 11])
  (.ops [lF 152 11 11, g0 (.bsl 153 6 true [(.t 152)]), fA 154 5 3, sT 154 153 1 5])))
  (.ops [mV 26 0, lF 27 3 3, cA 28 236 [(.t 26), (.t 27)], fA 29 5 3, sT 29 28 1 5])))))))))))))))))
  (.seq (.ops [lF 155 5 5, sT 4 155 6 4])
  (.ret))))),
  [.cell 4 (some 6) (some 4)]⟩
def L193_0 : Ic := .seq (.seq (.ops [mV 4 3, mV 5 0, lN 6 5, bT 7 .lss 4 6])
  (.cond (.t 7) (.skip)
  (.exit 0)))
  (.seq (.block 1 (.seq (.ops [mV 10 0, mV 11 3, iX 12 10 11, fA 13 12 0, lO 14 13, bK 15 .neq 14 34, mV 16 15, g1 16 false (.mv 17 (.t 0)), g1 16 false (.mv 18 (.t 3)), g1 16 false (.idxA 19 (.t 17) (.t 18) 6 (some 6) none), g1 16 false (.fldA 20 (.t 19) 3 none), g1 16 false (.load 21 (.t 20) none none false), g1 16 false (.len 22 .slice (.t 21) false), g1 16 false (.bin 23 .neq (.t 22) (kI 1)), pO 24 16 23])
  (.cond (.t 24) (.seq (.ops [g0 (.mv 2 (.c (.bool false)))])
  (.ret))
  (.skip))))
  (.ops [mV 8 3, bK 9 .add 8 1, mV 3 9]))
/-- notary/notaryref16.Parted -/
def F193 : IFunc := ⟨.pure, .seq (.ops [g0 (.mv 2 (.c (.bool false)))])
  (.seq (.seq (.ops [mK 3 0])
  (.block 0 (.loop L193_0)))
  (.seq (.ops [g0 (.mv 2 (.c (.bool true)))])
  (.ret))),
  [.t 2]⟩
/-- notary/notaryref12.Plain -/
def F194 : IFunc := ⟨.pure, .seq (.ops [bF 2 0, bF 3 1, g0 (.mv 4 (.c (.bool false)))])
  (.seq (.ops [lF 5 2 2, lF 6 3 3, cA 7 60 [(.t 5), (.t 6)], bK 8 .gtr 7 0, mV 9 8, g1 9 true (.load 10 (.t 3) (some 6) (some 3) false), g1 9 true (.call (some 11) 241 [(.t 10)]), pA 12 9 11, mV 4 12])
  (.ret)),
  [.t 4]⟩
def L195_0 : Ic := .seq (.seq (.ops [mV 18 10, fA 19 7 3, lA 20 19 7, lN 21 20, bT 22 .lss 18 21])
  (.cond (.t 22) (.skip)
  (.exit 0)))
  (.seq (.block 1 (.seq (.ops [lF 25 4 4, mV 26 1, lF 27 6 6, fA 28 7 3, lA 29 28 7, mV 30 10, iX 31 29 30, lP 32 31, cA 33 242 [(.t 25), (.t 26), (.t 27), (.t 32)], g0 (.boxL 11 8 none [(.int .i64 0), (.int .i64 0), (.str []), .nils, (.int .i64 0), (.int .i64 0), (.int .i64 0), (.int .i64 0)]), sT 11 33 8 11])
  (.seq (.seq (.ops [fA 34 11 7, lA 35 34 11, bK 36 .neq 35 0])
  (.cond (.t 36) (.seq (.ops [g0 (.load 37 (.t 11) (some 8) (some 11) false), sT 8 37 8 8])
  (.ret))
  (.skip)))
  (.seq (.ops [fA 38 9 3, lA 39 38 9, g0 (.fldA 40 (.t 11) 0 (some 6)), lF 41 40 11, g0 (.bsl 42 6 true [(.t 41)]), g0 (.app 43 (.t 39) (.t 42) 6), fA 44 9 3, sT 44 43 1 9])
  (.ops [lF 45 4 4, mV 46 1, fA 47 7 3, lA 48 47 7, mV 49 10, iX 50 48 49, lP 51 50, cA 52 122 [(.t 45), (.t 46), (.t 51)], mV 1 52])))))
  (.ops [mV 23 10, bK 24 .add 23 1, mV 10 24]))
/-- notary/notaryref16.Block -/
def F195 : IFunc := ⟨.pure, .seq (.ops [bF 4 0, bF 6 2, bF 7 3, g0 (.boxL 8 8 none [(.int .i64 0), (.int .i64 0), (.str []), .nils, (.int .i64 0), (.int .i64 0), (.int .i64 0), (.int .i64 0)])])
  (.seq (.ops [fA 12 7 0, lA 13 12 7, fA 14 7 1, lA 15 14 7, g0 (.bsl 16 6 true []), g0 (.build 17 zT [(0, 1, (.t 13)), (1, 1, (.t 15)), (3, 1, (.t 16))]), bZ 9, sT 9 17 6 9])
  (.seq (.seq (.ops [mK 10 0])
  (.block 0 (.loop L195_0)))
  (.seq (.ops [lF 53 9 9, g0 (.build 54 [(.int .i64 0), (.int .i64 0), (.str []), .nils, (.int .i64 0), (.int .i64 0), (.int .i64 0), (.int .i64 0)] [(0, 6, (.t 53))]), sT 8 54 8 8])
  (.ret)))),
  [.cell 8 (some 8) (some 8)]⟩
/-- notary/notaryref15.Bool -/
def F196 : IFunc := ⟨.pure, .seq (.ops [bZ 0])
  (.seq (.ops [g0 (.build 1 zT [(0, 1, (kI 2))]), sT 0 1 6 0])
  (.ret)),
  [.cell 0 (some 6) (some 0)]⟩

theorem L107_0_w : L107_0.wr = [192, 193, 194, 195, 198, 199, 200, 201, 202, 203, 204, 205, 206, 207, 7, 8, 196, 197, 12] := by kernel_rfl
theorem L107_0_p : L107_0.plain = true := by kernel_rfl
theorem L114_0_w : L114_0.wr = [28, 29, 30, 31, 32, 33, 34, 35, 36, 37, 38, 39, 40, 41, 10, 42, 43, 44, 45, 46, 47, 48, 49, 50, 51, 52, 53, 54, 55, 56, 57, 58, 59, 60, 61, 62, 3, 4, 63, 64, 65, 66, 67, 68] := by kernel_rfl
theorem L114_0_p : L114_0.plain = true := by kernel_rfl
theorem L115_0_w : L115_0.wr = [19, 20, 21, 22, 7, 6, 24, 25, 26, 27, 28, 29, 30, 23, 31, 32, 8, 9, 33, 34, 35, 36, 3, 4, 37, 38, 39, 40, 41, 42, 43, 44, 18] := by kernel_rfl
theorem L115_0_p : L115_0.plain = true := by kernel_rfl
theorem L116_0_w : L116_0.wr = [15, 16, 17, 5, 18, 19, 20, 21, 22, 23, 24, 25, 14] := by kernel_rfl
theorem L116_0_p : L116_0.plain = true := by kernel_rfl
theorem L117_0_w : L117_0.wr = [8, 9, 10, 4, 11, 12, 13, 14, 15, 16, 17, 18, 19, 2, 20, 7] := by kernel_rfl
theorem L117_0_p : L117_0.plain = true := by kernel_rfl
theorem L121_0_w : L121_0.wr = [9, 10, 11, 12, 13, 14, 15] := by kernel_rfl
theorem L121_0_p : L121_0.plain = true := by kernel_rfl
theorem L135_1_w : L135_1.wr = [77, 78, 79, 80, 83, 84, 85, 86, 87, 88, 89, 90, 91, 92, 93, 94, 95, 96, 97, 98, 99, 81, 82, 7] := by kernel_rfl
theorem L135_1_p : L135_1.plain = true := by kernel_rfl
theorem L135_0_w : L135_0.wr = [59, 60, 61, 62, 65, 66, 67, 68, 69, 70, 71, 72, 73, 74, 75, 76, 63, 64, 6] := by kernel_rfl
theorem L135_0_p : L135_0.plain = true := by kernel_rfl
theorem L136_0_w : L136_0.wr = [13, 14, 15, 16, 17, 20, 21, 22, 23, 24, 25, 26, 27, 28, 29, 30, 31, 32, 33, 34, 35, 36, 2, 18, 19, 3] := by kernel_rfl
theorem L136_0_p : L136_0.plain = true := by kernel_rfl
theorem L139_0_w : L139_0.wr = [10, 11, 12, 13, 14, 17, 18, 19, 20, 21, 22, 23, 24, 25, 26, 27, 15, 16, 4] := by kernel_rfl
theorem L139_0_p : L139_0.plain = true := by kernel_rfl
theorem L146_0_w : L146_0.wr = [46, 47, 7, 48, 49, 50, 51, 52, 8, 53, 54, 55, 56, 57, 58, 59, 60, 61, 4, 62, 63, 64, 65, 66, 67, 9, 68, 69, 70, 6, 71, 72, 73, 74, 75, 76, 4, 77, 45] := by kernel_rfl
theorem L146_0_p : L146_0.plain = true := by kernel_rfl
theorem L160_0_w : L160_0.wr = [6, 7, 8, 9, 10, 13, 14, 15, 16, 17, 18, 19, 20, 21, 3, 11, 12, 4] := by kernel_rfl
theorem L160_0_p : L160_0.plain = true := by kernel_rfl
theorem L164_0_w : L164_0.wr = [41, 42, 43, 44, 45, 46, 47, 48, 49, 52, 53, 54, 55, 56, 57, 58, 59, 60, 61, 62, 63, 64, 6, 50, 51, 10] := by kernel_rfl
theorem L164_0_p : L164_0.plain = true := by kernel_rfl
theorem L166_0_w : L166_0.wr = [11, 12, 13, 14, 17, 18, 19, 20, 21, 22, 23, 24, 25, 26, 27, 28, 29, 30, 31, 32, 33, 34, 35, 36, 37, 38, 39, 4, 15, 16, 5] := by kernel_rfl
theorem L166_0_p : L166_0.plain = true := by kernel_rfl
theorem L169_0_w : L169_0.wr = [16, 17, 18, 19, 20, 21, 22, 25, 26, 27, 28, 6, 29, 30, 7, 31, 32, 33, 34, 2, 3, 4, 23, 24] := by kernel_rfl
theorem L169_0_p : L169_0.plain = true := by kernel_rfl
theorem L172_0_w : L172_0.wr = [13, 14, 15, 9, 16, 17, 18, 19, 20, 6, 21, 22, 23, 24, 25, 26, 7, 27, 12] := by kernel_rfl
theorem L172_0_p : L172_0.plain = true := by kernel_rfl
theorem L173_0_w : L173_0.wr = [51, 52, 53, 8, 54, 55, 56, 57, 58, 59, 60, 61, 62, 63, 64, 65, 50] := by kernel_rfl
theorem L173_0_p : L173_0.plain = true := by kernel_rfl
theorem L174_0_w : L174_0.wr = [13, 14, 15, 9, 16, 17, 18, 19, 20, 6, 21, 22, 23, 24, 25, 26, 7, 27, 12] := by kernel_rfl
theorem L174_0_p : L174_0.plain = true := by kernel_rfl
theorem L193_0_w : L193_0.wr = [4, 5, 6, 7, 10, 11, 12, 13, 14, 15, 16, 17, 18, 19, 20, 21, 22, 23, 24, 2, 8, 9, 3] := by kernel_rfl
theorem L193_0_p : L193_0.plain = true := by kernel_rfl
theorem L195_0_w : L195_0.wr = [18, 19, 20, 21, 22, 25, 26, 27, 28, 29, 30, 31, 32, 33, 11, 34, 35, 36, 37, 38, 39, 40, 41, 42, 43, 44, 45, 46, 47, 48, 49, 50, 51, 52, 1, 23, 24, 10] := by kernel_rfl
theorem L195_0_p : L195_0.plain = true := by kernel_rfl

end Go.Nt.Ty
