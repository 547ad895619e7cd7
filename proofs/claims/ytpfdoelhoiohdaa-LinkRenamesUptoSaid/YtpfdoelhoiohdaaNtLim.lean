/-
  THE ABSTRACT MACHINE WITHOUT FUEL: 'ev' (what a function does), 'lp' (what a loop does), 'rn' (what code does, given these), and their equations.
  No condition.
-/
import Derived.Test.YtpfdoelhoiohdaaNtOk
namespace Go.Nt

def Le {α : Type} (a b : Option α) : Prop := ∀ r, a = some r → b = some r

theorem Le.rfl {α : Type} {a : Option α} : Le a a := fun _ h => h
theorem Le.none {α : Type} {a : Option α} : Le none a := fun _ h => by cases h
theorem Le.trans {α : Type} {a b c : Option α} (h : Le a b) (k : Le b c) : Le a c := fun r e => k r (h r e)

theorem Le.bind {α β : Type} {a a' : Option α} {f f' : α → Option β} (h : Le a a') (g : ∀ x, Le (f x) (f' x)) : Le (a.bind f) (a'.bind f') := by
  intro r e
  cases a with
  | none => cases e
  | some x => rw [h x (Eq.refl _)]; exact g x r e

theorem Le.map {α β : Type} {a a' : Option α} {f : α → β} (h : Le a a') : Le (a.map f) (a'.map f) := by
  intro r e
  cases a with
  | none => cases e
  | some x => rw [h x (Eq.refl _)]; exact e

def GoLe (go go' : GoF) : Prop := ∀ f args st, Le (go f args st) (go' f args st)

variable {T : Nat → Option IFunc} {go go' : GoF}

theorem callD_le (h : GoLe go go') (f : Nat) (args : List D) (st : St) : Le (callD T go f args st) (callD T go' f args st) := by
  unfold callD
  split
  · exact .rfl
  · split
    · exact .bind .rfl fun a => .bind (h f a.1 []) fun r => .rfl
    · split
      · exact .bind (h f args st) fun r => .rfl
      · exact .rfl
    · split
      · exact .bind (h f args st) fun r => .rfl
      · exact .rfl
    · split
      · exact h f args st
      · exact .rfl

theorem callQD_le (h : GoLe go go') (f : Nat) (args : List D) : Le (callQD T go f args) (callQD T go' f args) := by
  unfold callQD
  split
  · exact .rfl
  · split
    · split
      · exact .bind (h f args []) fun r => .rfl
      · exact .rfl
    · exact .rfl

theorem actO_le (h : GoLe go go') (rd : Opd → D) (rb : Nat → Nat × List D) (st : St) (io : Io) : Le (actO T go rd rb st io) (actO T go' rd rb st io) := by
  cases io with
  | call d f xs => exact .bind (callD_le h f _ st) fun r => .rfl
  | callQ d f xs => exact .bind (callQD_le h f _) fun r => .rfl
  | callV d f xs =>
    simp only [actO]
    split
    · exact .bind (callD_le h _ _ st) fun r => .rfl
    · exact .rfl
  | _ => exact .rfl

theorem step_le (h : GoLe go go') (c : Cfg) (o : Gi) : Le (step T go c o) (step T go' c o) := by
  unfold step
  split
  · exact .map (actO_le h _ _ _ _)
  · exact .rfl

theorem runOps_le (h : GoLe go go') : ∀ (l : List Gi) (c : Cfg), Le (runOps T go l c) (runOps T go' l c)
  | [], _ => .rfl
  | o :: os, c => .bind (step_le h c o) fun c' => runOps_le h os c'

theorem iter_le {f f' : Cfg → Option (Ex × Cfg)} (h : ∀ c, Le (f c) (f' c)) : ∀ (n m : Nat), n ≤ m → ∀ c, Le (iter f n c) (iter f' m c)
  | 0, _, _, _ => .none
  | n + 1, 0, h, _ => absurd h (by omega)
  | n + 1, m + 1, hn, c => by
    refine .bind (h c) fun r => ?_
    split
    · exact iter_le h n m (by omega) r.2
    · exact .rfl

theorem run_le (h : GoLe go go') {n m : Nat} (hn : n ≤ m) : ∀ (code : Ic) (c : Cfg), Le (run T go n code c) (run T go' m code c)
  | .skip, _ => .rfl
  | .ops l, c => .bind (runOps_le h l c) fun _ => .rfl
  | .seq a b, c => .bind (run_le h hn a c) fun r => by
      split
      · exact run_le h hn b r.2
      · exact .rfl
  | .cond x a b, c => by
      simp only [run]
      split
      · split
        · exact run_le h hn a c
        · exact run_le h hn b c
      · exact .rfl
  | .block id a, c => .bind (run_le h hn a c) fun r => .rfl
  | .loop a, c => iter_le (fun c => run_le h hn a c) n m hn c
  | .exit _, _ => .rfl
  | .ret, _ => .rfl
  | .prim _, _ => .rfl

theorem evT_le {n m : Nat} (hn : n ≤ m) : GoLe (evT T n) (evT T m) := by
  induction n generalizing m with
  | zero => exact fun f args st => .none
  | succ n ih =>
    obtain ⟨m, rfl⟩ : ∃ k, m = k + 1 := ⟨m - 1, by omega⟩
    intro f args st
    exact .bind .rfl fun fn => .bind (run_le (ih (by omega)) (by omega) _ _) fun r => .rfl

/-! ### Limits -/

open Classical in
noncomputable def lim {α : Type} (F : Nat → Option α) : Option α := if h : ∃ k r, F k = some r then some (Classical.choose (Classical.choose_spec h)) else none

def Mono {α : Type} (F : Nat → Option α) : Prop := ∀ n m, n ≤ m → Le (F n) (F m)

theorem lim_iff {α : Type} {F : Nat → Option α} (hF : Mono F) (r : α) : lim F = some r ↔ ∃ k, F k = some r := by
  unfold lim
  constructor
  · intro h
    split at h
    · next g => exact ⟨_, by rw [Classical.choose_spec (Classical.choose_spec g)]; exact h⟩
    · cases h
  · rintro ⟨k, h⟩
    have g : ∃ k r, F k = some r := ⟨k, r, h⟩
    rw [dif_pos g]
    have e := Classical.choose_spec (Classical.choose_spec g)
    rcases Nat.le_total k (Classical.choose g) with q | q
    · have := hF _ _ q r h; rw [e] at this; exact this
    · have := hF _ _ q _ e; rw [h] at this; exact this.symm

theorem lim_eq {α : Type} {F : Nat → Option α} (hF : Mono F) {x : Option α} (h : ∀ k, Le (F k) x) (h' : ∀ r, x = some r → ∃ k, F k = some r) : lim F = x := by
  cases e : lim F with
  | some r => obtain ⟨k, hk⟩ := (lim_iff hF r).1 e; exact (h k r hk).symm
  | none =>
    cases e' : x with
    | none => rfl
    | some r => rw [(lim_iff hF r).2 (h' r e')] at e; cases e

theorem lim_le {α : Type} {F : Nat → Option α} (hF : Mono F) (k : Nat) : Le (F k) (lim F) := fun r h => (lim_iff hF r).2 ⟨k, h⟩

/-- What a function does. -/
noncomputable def ev (T : Nat → Option IFunc) : GoF := fun f args st => lim fun k => evT T k f args st
/-- What a loop does. -/
noncomputable def lp (T : Nat → Option IFunc) (a : Ic) (c : Cfg) : Option (Ex × Cfg) := lim fun k => iter (run T (evT T k) k a) k c

def kseq (k : Cfg → Option (Ex × Cfg)) : Option (Ex × Cfg) → Option (Ex × Cfg)
  | some (.normal, c) => k c
  | r => r
def kblock (id : Nat) : Option (Ex × Cfg) → Option (Ex × Cfg)
  | some (.exit id', c) => some (if id' = id then .normal else .exit id', c)
  | r => r

/-- What code does, given calls and loops. -/
def rn (T : Nat → Option IFunc) (go : GoF) (lp : Ic → Cfg → Option (Ex × Cfg)) : Ic → Cfg → Option (Ex × Cfg)
  | .skip, c => some (.normal, c)
  | .ops l, c => (runOps T go l c).map fun c' => (.normal, c')
  | .seq a b, c => kseq (rn T go lp b) (rn T go lp a c)
  | .cond x a b, c => match x.ev c.1.s with
    | .bool t => if t then rn T go lp a c else rn T go lp b c
    | _ => none
  | .block id a, c => kblock id (rn T go lp a c)
  | .loop a, c => lp a c
  | .exit id, c => some (.exit id, c)
  | .ret, c => some (.ret, c)
  | .prim k, c => (primD k c.1.s c.2).map fun r => (.normal, (⟨r.1, c.1.b⟩, r.2))

theorem ev_mono (f : Nat) (args : List D) (st : St) : Mono fun k => evT T k f args st := fun _ _ h => evT_le h f args st
theorem run_mono (code : Ic) (c : Cfg) : Mono fun k => run T (evT T k) k code c := fun _ _ h => run_le (evT_le h) h code c
theorem lp_mono (a : Ic) (c : Cfg) : Mono fun k => iter (run T (evT T k) k a) k c := fun n m h => iter_le (fun c => run_le (evT_le h) h a c) n m h c
theorem ops_mono (l : List Gi) (c : Cfg) : Mono fun k => runOps T (evT T k) l c := fun _ _ h => runOps_le (evT_le h) l c

theorem evT_ev (k : Nat) : GoLe (evT T k) (ev T) := fun f args st => lim_le (ev_mono f args st) k

theorem callD_ev {f : Nat} {args : List D} {st : St} {r : D × St} (h : callD T (ev T) f args st = some r) : ∃ k, callD T (evT T k) f args st = some r := by
  revert h
  unfold callD
  split
  · intro h; cases h
  · split
    · intro h
      obtain ⟨a, h1, h⟩ := Option.bind_eq_some_iff.1 h
      obtain ⟨q, h2, h⟩ := Option.bind_eq_some_iff.1 h
      obtain ⟨k, hk⟩ := (lim_iff (ev_mono _ _ _) q).1 h2
      exact ⟨k, by rw [h1, Option.bind_some, hk]; exact h⟩
    · split
      · intro h
        obtain ⟨q, h2, h⟩ := Option.bind_eq_some_iff.1 h
        obtain ⟨k, hk⟩ := (lim_iff (ev_mono _ _ _) q).1 h2
        exact ⟨k, by rw [hk]; exact h⟩
      · intro h; cases h
    · split
      · intro h
        obtain ⟨q, h2, h⟩ := Option.bind_eq_some_iff.1 h
        obtain ⟨k, hk⟩ := (lim_iff (ev_mono _ _ _) q).1 h2
        exact ⟨k, by rw [hk]; exact h⟩
      · intro h; cases h
    · split
      · intro h; exact (lim_iff (ev_mono _ _ _) r).1 h
      · intro h; cases h

theorem callQD_ev {f : Nat} {args : List D} {r : D} (h : callQD T (ev T) f args = some r) : ∃ k, callQD T (evT T k) f args = some r := by
  revert h
  unfold callQD
  split
  · intro h; cases h
  · split
    · split
      · intro h
        obtain ⟨q, h2, h⟩ := Option.bind_eq_some_iff.1 h
        obtain ⟨k, hk⟩ := (lim_iff (ev_mono _ _ _) q).1 h2
        exact ⟨k, by rw [hk]; exact h⟩
      · intro h; cases h
    · intro h; cases h

theorem actO_ev {rd : Opd → D} {rb : Nat → Nat × List D} {st : St} {io : Io} {e : Eff} (h : actO T (ev T) rd rb st io = some e) : ∃ k, actO T (evT T k) rd rb st io = some e := by
  cases io with
  | call d f xs =>
    obtain ⟨q, h2, h⟩ := Option.bind_eq_some_iff.1 h
    obtain ⟨k, hk⟩ := callD_ev h2
    exact ⟨k, by simp only [actO]; rw [hk]; exact h⟩
  | callQ d f xs =>
    obtain ⟨q, h2, h⟩ := Option.bind_eq_some_iff.1 h
    obtain ⟨k, hk⟩ := callQD_ev h2
    exact ⟨k, by simp only [actO]; rw [hk]; exact h⟩
  | callV d f xs =>
    simp only [actO] at h ⊢
    split at h
    · obtain ⟨q, h2, h⟩ := Option.bind_eq_some_iff.1 h
      obtain ⟨k, hk⟩ := callD_ev h2
      exact ⟨k, by rw [hk]; exact h⟩
    · cases h
  | _ => exact ⟨0, h⟩

theorem step_ev {c c' : Cfg} {o : Gi} (h : step T (ev T) c o = some c') : ∃ k, step T (evT T k) c o = some c' := by
  unfold step at h ⊢
  split at h
  · next hw =>
    obtain ⟨e, h1, h2⟩ := Option.map_eq_some_iff.1 h
    obtain ⟨k, hk⟩ := actO_ev h1
    exact ⟨k, by rw [if_pos hw, hk, Option.map_some, h2]⟩
  · next hw => exact ⟨0, by rw [if_neg hw]; exact h⟩

theorem runOps_ev : ∀ {l : List Gi} {c c' : Cfg}, runOps T (ev T) l c = some c' → ∃ k, runOps T (evT T k) l c = some c'
  | [], _, _, h => ⟨0, h⟩
  | o :: os, c, c', h => by
    obtain ⟨d, h1, h2⟩ := Option.bind_eq_some_iff.1 h
    obtain ⟨k, hk⟩ := step_ev h1
    obtain ⟨m, hm⟩ := runOps_ev h2
    refine ⟨max k m, ?_⟩
    rw [runOps, step_le (evT_le (Nat.le_max_left k m)) c o _ hk, Option.bind_some]
    exact runOps_le (evT_le (Nat.le_max_right k m)) os d _ hm

theorem runOps_lim (l : List Gi) (c : Cfg) : lim (fun k => runOps T (evT T k) l c) = runOps T (ev T) l c :=
  lim_eq (ops_mono l c) (fun k => runOps_le (evT_ev k) l c) fun _ h => runOps_ev h

/-- Code by fuel comes to what it comes to without. -/
theorem run_lim : ∀ (code : Ic) (c : Cfg), lim (fun k => run T (evT T k) k code c) = rn T (ev T) (lp T) code c
  | .skip, c => lim_eq (run_mono .skip c) (fun _ => .rfl) fun _ h => ⟨0, h⟩
  | .ops l, c => by
    refine lim_eq (run_mono (.ops l) c) (fun k r h => ?_) fun r h => ?_
    · obtain ⟨d, h1, h2⟩ := Option.bind_eq_some_iff.1 h
      simp only [rn, runOps_le (evT_ev k) l c d h1, Option.map_some]
      exact h2
    · obtain ⟨d, h1, h2⟩ := Option.map_eq_some_iff.1 h
      obtain ⟨k, hk⟩ := runOps_ev h1
      exact ⟨k, by simp only [run, hk, Option.bind_some, h2]⟩
  | .seq a b, c => by
    refine lim_eq (run_mono (.seq a b) c) (fun k r h => ?_) fun r h => ?_
    · obtain ⟨⟨e, d⟩, h1, h2⟩ := Option.bind_eq_some_iff.1 h
      have h1' : rn T (ev T) (lp T) a c = some (e, d) := by rw [← run_lim a c]; exact lim_le (run_mono a c) k _ h1
      simp only [rn, h1']
      cases e with
      | normal => rw [show kseq (rn T (ev T) (lp T) b) (some (Ex.normal, d)) = rn T (ev T) (lp T) b d from rfl, ← run_lim b d]; exact lim_le (run_mono b d) k _ h2
      | ret => exact h2
      | exit id => exact h2
    · simp only [rn] at h
      cases h1 : rn T (ev T) (lp T) a c with
      | none => rw [h1] at h; cases h
      | some q =>
        obtain ⟨e, d⟩ := q
        rw [h1] at h
        obtain ⟨k, hk⟩ := (lim_iff (run_mono a c) _).1 ((run_lim a c).trans h1)
        cases e with
        | normal =>
          obtain ⟨m, hm⟩ := (lim_iff (run_mono b d) _).1 ((run_lim b d).trans h)
          refine ⟨max k m, ?_⟩
          have q : run T (evT T (max k m)) (max k m) a c = some (Ex.normal, d) := run_mono a c _ _ (Nat.le_max_left k m) _ hk
          simp only [run]
          rw [q, Option.bind_some]
          exact run_mono b d _ _ (Nat.le_max_right k m) _ hm
        | ret => exact ⟨k, by simp only [run]; rw [hk]; exact h⟩
        | exit id => exact ⟨k, by simp only [run]; rw [hk]; exact h⟩
  | .cond x a b, c => by
    cases hx : x.ev c.1.s with
    | bool t =>
      cases t with
      | true =>
        have e : (fun k => run T (evT T k) k (.cond x a b) c) = fun k => run T (evT T k) k a c := by funext k; simp only [run, hx, if_true]
        rw [e, run_lim a c]; simp only [rn, hx, if_true]
      | false =>
        have e : (fun k => run T (evT T k) k (.cond x a b) c) = fun k => run T (evT T k) k b c := by funext k; simp only [run, hx, Bool.false_eq_true, if_false]
        rw [e, run_lim b c]; simp only [rn, hx, Bool.false_eq_true, if_false]
    | _ =>
      refine lim_eq (run_mono (.cond x a b) c) (fun k r h => ?_) fun r h => ?_
      · simp only [run, hx] at h; cases h
      · simp only [rn, hx] at h; cases h
  | .block id a, c => by
    refine lim_eq (run_mono (.block id a) c) (fun k r h => ?_) fun r h => ?_
    · obtain ⟨⟨e, d⟩, h1, h2⟩ := Option.bind_eq_some_iff.1 h
      have h1' : rn T (ev T) (lp T) a c = some (e, d) := by rw [← run_lim a c]; exact lim_le (run_mono a c) k _ h1
      simp only [rn, h1']
      cases e <;> exact h2
    · simp only [rn] at h
      cases h1 : rn T (ev T) (lp T) a c with
      | none => rw [h1] at h; cases h
      | some q =>
        obtain ⟨e, d⟩ := q
        rw [h1] at h
        obtain ⟨k, hk⟩ := (lim_iff (run_mono a c) _).1 ((run_lim a c).trans h1)
        refine ⟨k, ?_⟩
        simp only [run, hk, Option.bind_some]
        cases e <;> exact h
  | .loop a, c => rfl
  | .exit _, c => lim_eq (run_mono (.exit _) c) (fun _ => .rfl) fun _ h => ⟨0, h⟩
  | .ret, c => lim_eq (run_mono .ret c) (fun _ => .rfl) fun _ h => ⟨0, h⟩
  | .prim k, c => lim_eq (run_mono (.prim k) c) (fun _ => .rfl) fun _ h => ⟨0, h⟩

/-- A round of a loop, and what is behind it. -/
theorem lp_eq (a : Ic) (c : Cfg) : lp T a c = match rn T (ev T) (lp T) a c with
    | some (.normal, d) => lp T a d
    | r => r := by
  refine lim_eq (lp_mono a c) (fun k r h => ?_) fun r h => ?_
  · cases k with
    | zero => cases h
    | succ k =>
      obtain ⟨⟨e, d⟩, h1, h2⟩ := Option.bind_eq_some_iff.1 h
      have h1' : rn T (ev T) (lp T) a c = some (e, d) := by rw [← run_lim a c]; exact lim_le (run_mono a c) (k + 1) _ h1
      rw [h1']
      cases e with
      | normal =>
        refine lim_le (lp_mono a d) (k + 1) _ ?_
        exact iter_le (fun _ => .rfl) k (k + 1) (by omega) d _ h2
      | ret => exact h2
      | exit id => exact h2
  · cases h1 : rn T (ev T) (lp T) a c with
    | none => rw [h1] at h; cases h
    | some q =>
      obtain ⟨e, d⟩ := q
      rw [h1] at h
      obtain ⟨k, hk⟩ := (lim_iff (run_mono a c) _).1 ((run_lim a c).trans h1)
      cases e with
      | normal =>
        obtain ⟨m, hm⟩ := (lim_iff (lp_mono a d) _).1 h
        refine ⟨max k m + 1, ?_⟩
        have q : run T (evT T (max k m + 1)) (max k m + 1) a c = some (Ex.normal, d) := run_mono a c k (max k m + 1) (by omega) _ hk
        simp only [iter]
        rw [q, Option.bind_some]
        exact iter_le (fun c => run_le (evT_le (by omega)) (by omega) a c) m (max k m) (by omega) d _ hm
      | ret => exact ⟨k + 1, by have q : run T (evT T (k + 1)) (k + 1) a c = _ := run_mono a c k (k + 1) (by omega) _ hk; simp only [iter]; rw [q]; exact h⟩
      | exit id => exact ⟨k + 1, by have q : run T (evT T (k + 1)) (k + 1) a c = _ := run_mono a c k (k + 1) (by omega) _ hk; simp only [iter]; rw [q]; exact h⟩

def kfin (res : List Rv) : Option (Ex × Cfg) → Option (D × St)
  | some (.normal, c) => finish res c
  | some (.ret, c) => finish res c
  | _ => none

/-- What a function does. -/
theorem ev_eq (f : Nat) (fn : IFunc) (hf : T f = some fn) (args : List D) (st : St) : ev T f args st = kfin fn.res (rn T (ev T) (lp T) fn.code ⟨⟨args, []⟩, st⟩) := by
  refine lim_eq (ev_mono f args st) (fun k r h => ?_) fun r h => ?_
  · cases k with
    | zero => cases h
    | succ k =>
      simp only [evT, hf, Option.bind_some] at h
      obtain ⟨⟨e, d⟩, h1, h2⟩ := Option.bind_eq_some_iff.1 h
      have h1' : rn T (ev T) (lp T) fn.code ⟨⟨args, []⟩, st⟩ = some (e, d) := by rw [← run_lim]; exact lim_le (run_mono _ _) k _ h1
      rw [h1']
      cases e <;> first | exact h2 | cases h2
  · cases h1 : rn T (ev T) (lp T) fn.code ⟨⟨args, []⟩, st⟩ with
    | none => rw [h1] at h; cases h
    | some q =>
      obtain ⟨e, d⟩ := q
      rw [h1] at h
      obtain ⟨k, hk⟩ := (lim_iff (run_mono _ _) _).1 ((run_lim _ _).trans h1)
      refine ⟨k + 1, ?_⟩
      simp only [evT, hf, Option.bind_some, hk]
      cases e <;> first | exact h | cases h

end Go.Nt
