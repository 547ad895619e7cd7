/-
  THE ORDER INSIDE A REGION: which operations may be exchanged, and that nothing hangs on it.
  No condition: definitions and lemmas.
-/
import Derived.Test.YtpfdoelhoiohdaaNtStep
namespace Go.Nt

def Io.opds : Io → List Opd
  | .mv _ x => [x]
  | .mvn => []
  | .pick _ c a b => [c, a, b]
  | .boxL _ _ x _ => x.toList
  | .boxH _ _ x | .boxI _ _ x => [x]
  | .build _ _ ps => ps.map (·.2.2)
  | .bsl _ _ _ xs | .bslH _ _ _ xs => xs
  | .load _ p _ _ _ => [p]
  | .store p x _ _ => [p, x]
  | .storeX _ p x _ => [p, x]
  | .nilc _ x => [x]
  | .bin _ _ x y | .eqn _ _ _ x y => [x, y]
  | .un _ _ x | .conv _ _ x => [x]
  | .mkfn _ _ first cap => first ++ cap
  | .fldA _ x _ _ | .fld _ x _ _ => [x]
  | .idxA _ x i _ _ _ | .idx _ x i _ _ _ => [x, i]
  | .slc _ _ x lo hi mx => x :: (lo.toList ++ hi.toList ++ mx.toList)
  | .ext _ x _ => [x]
  | .call _ _ xs | .callQ _ _ xs => xs
  | .callV _ f xs => f :: xs
  | .len _ _ x _ => [x]
  | .app _ s x _ => [s, x]
  | .appT _ s x _ _ => [s, x]
  | .boxT .. => []
  | .mkmap _ => []
  | .look _ _ m k _ _ => [m, k]
  | .mupd _ m k x => [m, k, x]
  | .mksl _ _ _ n c => [n, c]
  | .copy _ x y _ => [x, y]
  | .mm _ _ x y => [x, y]

/-- The frame's box that an operation reads. -/
def Io.rbox : Io → Option Nat
  | .boxL d _ _ _ => some d
  | .load _ _ _ l _ => l
  | .store _ _ _ l => l
  | _ => none
/-- The frame's box that an operation writes. -/
def Io.wbox : Io → Option Nat
  | .boxL d _ _ _ => some d
  | .store _ _ _ l => l
  | _ => none
/-- The heap: 0: not touched; 1: read; 2: turned. -/
def Io.hk : Io → Nat
  | .boxH .. | .bslH .. | .storeX .. | .call .. | .callV .. | .app .. | .appT .. | .boxT .. | .mkmap .. | .mupd .. | .mksl .. | .copy .. => 2
  | .load _ _ _ none false => 1
  | .store _ _ _ none => 2
  | .conv _ .strbytes _ => 2
  | .conv _ .bytesstr _ => 1
  | .len _ .map _ false => 1
  | .look .. => 1
  | _ => 0

theorem map_eq {rd rd' : Opd → D} {xs : List Opd} (h : ∀ x ∈ xs, rd x = rd' x) : xs.map rd = xs.map rd' := List.map_congr_left h

theorem act_congr {T : Nat → Option IFunc} {go : GoF} {rd rd' : Opd → D} {rb rb' : Nat → Nat × List D} {st st' : St} (io : Io) (h1 : ∀ x ∈ io.opds, rd x = rd' x) (h2 : ∀ b, io.rbox = some b → rb b = rb' b) (h3 : io.hk = 0 ∨ st = st') :
    actO T go rd rb st io = actO T go rd' rb' st' io := by
  cases io with
  | boxL d n x zero =>
    have := h2 d rfl
    cases x with
    | none => simp only [actO, this]
    | some x => simp only [actO, this, h1 x (by simp [Io.opds])]
  | build d zero ps =>
    have e : ps.map (fun p => (p.1, p.2.1, rd p.2.2)) = ps.map (fun p => (p.1, p.2.1, rd' p.2.2)) := List.map_congr_left fun p hp => by rw [h1 p.2.2 (List.mem_map.2 ⟨p, hp, rfl⟩)]
    have e2 : ps.all (fun p => (rd p.2.2).okv) = ps.all (fun p => (rd' p.2.2).okv) := by
      rw [Bool.eq_iff_iff, List.all_eq_true, List.all_eq_true]
      exact ⟨fun h p hp => by rw [← h1 p.2.2 (List.mem_map.2 ⟨p, hp, rfl⟩)]; exact h p hp, fun h p hp => by rw [h1 p.2.2 (List.mem_map.2 ⟨p, hp, rfl⟩)]; exact h p hp⟩
    simp only [actO, e, e2]
  | load d p n l q =>
    have hp := h1 p (by simp [Io.opds])
    cases l with
    | some b => simp only [actO, loadD, hp, h2 b rfl]
    | none => cases q with
      | true => simp only [actO, loadD, hp]; simp
      | false =>
        rcases h3 with h3 | rfl
        · simp [Io.hk] at h3
        · simp only [actO, loadD, hp]
  | store p x n l =>
    have hp := h1 p (by simp [Io.opds])
    have hx := h1 x (by simp [Io.opds])
    cases l with
    | some b => simp only [actO, storeD, hp, hx, h2 b rfl]
    | none =>
      rcases h3 with h3 | rfl
      · simp [Io.hk] at h3
      · simp only [actO, storeD, hp, hx]
  | conv d cv x =>
    have hx := h1 x (by simp [Io.opds])
    cases cv with
    | strbytes => rcases h3 with h3 | rfl
                  · simp [Io.hk] at h3
                  · simp only [actO, hx]
    | bytesstr => rcases h3 with h3 | rfl
                  · simp [Io.hk] at h3
                  · simp only [actO, hx]
    | int k => simp only [actO, hx]; cases rd' x <;> rfl
    | same => simp only [actO, hx]; cases rd' x <;> rfl
  | len d k x q =>
    have hx := h1 x (by simp [Io.opds])
    simp only [actO, hx]
    rcases h3 with h3 | rfl
    · cases k <;> cases q <;> first | (simp [Io.hk] at h3; done) | skip
      all_goals (cases rd' x <;> simp [lenD])
    · rfl
  | mkfn d f first cap =>
    have e1 : first.map rd = first.map rd' := map_eq fun x hx => h1 x (by simp [Io.opds, hx])
    have e2 : cap.map rd = cap.map rd' := map_eq fun x hx => h1 x (by simp [Io.opds, hx])
    simp only [actO, e1, e2]
  | slc d s x lo hi mx =>
    have hx := h1 x (by simp [Io.opds])
    have e1 : lo.map rd = lo.map rd' := by cases lo with | none => rfl | some y => simp [h1 y (by simp [Io.opds])]
    have e2 : hi.map rd = hi.map rd' := by cases hi with | none => rfl | some y => simp [h1 y (by simp [Io.opds])]
    have e3 : mx.map rd = mx.map rd' := by cases mx with | none => rfl | some y => simp [h1 y (by simp [Io.opds])]
    simp only [actO, hx, e1, e2, e3]
  | bsl d sz agg xs => have e : xs.map rd = xs.map rd' := map_eq h1
                       simp only [actO, e]
  | bslH d sz agg xs => have e : xs.map rd = xs.map rd' := map_eq h1
                        rcases h3 with h3 | rfl
                        · simp [Io.hk] at h3
                        · simp only [actO, e]
  | call d f xs => have e : xs.map rd = xs.map rd' := map_eq h1
                   rcases h3 with h3 | rfl
                   · simp [Io.hk] at h3
                   · simp only [actO, e]
  | callQ d f xs => have e : xs.map rd = xs.map rd' := map_eq h1
                    simp only [actO, e]
  | callV d f xs => have e : xs.map rd = xs.map rd' := map_eq fun x hx => h1 x (by simp [Io.opds, hx])
                    have e2 := h1 f (by simp [Io.opds])
                    rcases h3 with h3 | rfl
                    · simp [Io.hk] at h3
                    · simp only [actO, e, e2]
  | _ =>
    simp only [Io.opds, List.mem_cons, List.not_mem_nil, or_false, forall_eq_or_imp, forall_eq, false_imp_iff, implies_true] at h1
    rcases h3 with h3 | rfl
    · first
        | (simp [Io.hk] at h3; done)
        | simp only [actO, h1]
    · simp only [actO, h1]

def WrOK (io : Io) (e : Eff) : Prop := (∀ x, e.2.1 = some x → io.wbox = some x.1) ∧ (io.hk ≠ 2 → e.2.2 = none)
theorem w_val {io : Io} {e : Eff} {v : D} (h : val v = some e) : WrOK io e := by
  obtain rfl := val_some h; exact ⟨fun x hx => by simp at hx, fun _ => rfl⟩
theorem w_bv {io : Io} {e : Eff} {x : Option D} (h : x.bind val = some e) : WrOK io e := by
  obtain ⟨_, _, h⟩ := bind_some h; exact w_val h
theorem w_bind {α : Type} {io : Io} {e : Eff} {x : Option α} {f : α → Option Eff} (h : x.bind f = some e) (k : ∀ d, f d = some e → WrOK io e) : WrOK io e := by
  obtain ⟨d, _, h⟩ := bind_some h; exact k d h
theorem w_ite {p : Prop} [Decidable p] {io : Io} {e : Eff} {x : Option Eff} (h : (if p then x else none) = some e) (k : x = some e → WrOK io e) : WrOK io e := k (ite_some h).2
theorem w_heap {io : Io} {e : Eff} {v : D} {st : St} (hk : io.hk = 2) (h : some (v, (none : Option (Nat × Nat × List D)), some st) = some e) : WrOK io e := by
  simp only [Option.some.injEq] at h; subst h; exact ⟨fun x hx => by simp at hx, fun q => absurd hk q⟩

/-- What an operation may write. -/
theorem act_writes {T : Nat → Option IFunc} {go : GoF} {rd : Opd → D} {rb : Nat → Nat × List D} {st : St} {io : Io} {e : Eff} (h : actO T go rd rb st io = some e) : WrOK io e := by
  cases io with
  | boxL d n x zero =>
    obtain ⟨_, h⟩ := ite_some h
    simp only [Option.some.injEq] at h
    subst h
    exact ⟨fun x hx => by simp at hx; subst hx; rfl, fun _ => rfl⟩
  | store p x n l =>
    simp only [actO, storeD] at h
    obtain ⟨_, h⟩ := ite_some h
    cases l with
    | some b =>
      simp only at h
      split at h
      · obtain ⟨_, h⟩ := ite_some h
        obtain ⟨cs, _, h⟩ := bind_some h
        simp only [Option.some.injEq] at h
        subst h
        exact ⟨fun x hx => by simp at hx; subst hx; rfl, fun _ => rfl⟩
      · simp at h
    | none =>
      simp only at h
      split at h
      · split at h
        · exact w_ite h fun h => w_bind h fun _ h => w_bind h fun _ h => w_bind h fun _ h => w_heap rfl h
        · refine w_bind h fun _ h => w_ite h fun h => ?_
          split at h
          · exact w_ite h fun h => w_bind h fun _ h => w_bind h fun _ h => w_bind h fun _ h => w_heap rfl h
          · simp at h
        · simp at h
      · simp at h
  | storeX box p x n =>
    simp only [actO, storeXD] at h
    obtain ⟨_, h⟩ := ite_some h
    split at h
    · exact w_bind h fun _ h => w_heap rfl h
    · simp at h
  | mv d x => exact w_val h
  | mvn => exact w_val h
  | pick d x a b => simp only [actO] at h; split at h
                    · exact w_val h
                    · simp at h
  | boxH d n x => exact w_ite h fun h => w_heap rfl h
  | boxI d n x => exact w_ite h fun h => w_val h
  | build d zero ps => exact w_ite h fun h => w_bind h fun _ h => w_val h
  | bsl d sz agg xs => exact w_ite h fun h => w_val h
  | bslH d sz agg xs => exact w_bind h fun _ h => w_ite h fun h => w_heap rfl h
  | load d p n l q => exact w_bv h
  | nilc d x => simp only [actO] at h; split at h
                · exact w_val h
                · simp at h
  | bin d op x y => exact w_bv h
  | eqn d neg k x y => exact w_bind h fun _ h => w_val h
  | un d op x => exact w_bv h
  | conv d cv x =>
    simp only [actO] at h
    split at h
    · exact w_val h
    · exact w_val h
    · exact w_bind h fun _ h => w_bind h fun _ h => w_val h
    · exact w_ite h fun h => w_heap rfl h
    · simp at h
  | mkfn d f first cap => exact w_ite h fun h => w_val h
  | fldA d x off n => exact w_bv h
  | fld d x off n => simp only [actO] at h; split at h
                     · exact w_bv h
                     · simp at h
  | idxA d x i sz n arr =>
    simp only [actO] at h
    split at h
    · split at h
      · simp at h
      · exact w_bv h
    · simp at h
  | idx d x i n sz arr =>
    simp only [actO] at h
    split at h
    · split at h
      · simp at h
      · split at h
        · split at h
          · exact w_bind h fun _ h => w_val h
          · simp at h
        · split at h
          · exact w_ite h fun h => w_bv h
          · simp at h
    · simp at h
  | slc d s x lo hi mx => exact w_ite h fun h => w_bv h
  | ext d x i => simp only [actO] at h; split at h
                 · exact w_bv h
                 · simp at h
  | call d f xs => exact w_bind h fun _ h => w_heap rfl h
  | callQ d f xs => exact w_bv h
  | callV d f xs => simp only [actO] at h; split at h
                    · exact w_bind h fun _ h => w_heap rfl h
                    · simp at h
  | len d k x q => exact w_bv h
  | app d s x sz => exact w_bind h fun _ h => w_bind h fun _ h => w_heap rfl h
  | appT d s x sz ty => exact w_bind h fun _ h => w_bind h fun _ h => w_heap rfl h
  | boxT d n x ty => exact w_ite h fun h => w_heap rfl h
  | mkmap d => exact w_heap rfl h
  | look d kk m k zero ok => exact w_ite h fun h => w_bind h fun _ h => w_val h
  | mupd kk m k x =>
    simp only [actO] at h
    split at h
    · split at h
      · exact w_ite h fun h => w_bind h fun _ h => w_heap rfl h
      · simp at h
    · simp at h
  | mksl d sz zero n cp =>
    simp only [actO] at h
    split at h
    · exact w_ite h fun h => w_heap rfl h
    · simp at h
  | copy d x y sz =>
    simp only [actO] at h
    split at h
    · refine w_bind h fun _ h => ?_
      split at h
      · exact w_ite h fun h => w_heap rfl h
      · simp at h
    · exact w_val h
    · simp at h
  | mm d mx x y =>
    simp only [actO] at h
    split at h
    · exact w_ite h fun h => w_val h
    · simp at h

/-! ### Exchanging -/

theorem put_comm : ∀ (l : List D) (i j : Nat) (x y : D), i ≠ j → put (put l i x) j y = put (put l j y) i x
  | [], 0, 0, _, _, h => absurd rfl h
  | [], 0, j + 1, _, _, _ => by simp [put]
  | [], i + 1, 0, _, _, _ => by simp [put]
  | [], i + 1, j + 1, x, y, h => by simp [put, put_comm [] i j x y (by omega)]
  | _ :: _, 0, 0, _, _, h => absurd rfl h
  | _ :: l, 0, j + 1, _, _, _ => by simp [put]
  | _ :: l, i + 1, 0, _, _, _ => by simp [put]
  | _ :: l, i + 1, j + 1, x, y, h => by simp [put, put_comm l i j x y (by omega)]
theorem putB_comm : ∀ (l : List (Nat × List D)) (i j : Nat) (x y : Nat × List D), i ≠ j → putB (putB l i x) j y = putB (putB l j y) i x
  | [], 0, 0, _, _, h => absurd rfl h
  | [], 0, j + 1, _, _, _ => by simp [putB]
  | [], i + 1, 0, _, _, _ => by simp [putB]
  | [], i + 1, j + 1, x, y, h => by simp [putB, putB_comm [] i j x y (by omega)]
  | _ :: _, 0, 0, _, _, h => absurd rfl h
  | _ :: l, 0, j + 1, _, _, _ => by simp [putB]
  | _ :: l, i + 1, 0, _, _, _ => by simp [putB]
  | _ :: l, i + 1, j + 1, x, y, h => by simp [putB, putB_comm l i j x y (by omega)]

theorem apply_comm (c : Cfg) (dg dh : Option Nat) (eg eh : Eff) (h1 : ∀ d, dg = some d → dh ≠ some d) (h2 : ∀ x y, eg.2.1 = some x → eh.2.1 = some y → x.1 ≠ y.1) (h3 : eg.2.2 = none ∨ eh.2.2 = none) :
    apply (apply c dg eg) dh eh = apply (apply c dh eh) dg eg := by
  obtain ⟨vg, bg, sg⟩ := eg
  obtain ⟨vh, bh, sh⟩ := eh
  obtain ⟨⟨s, b⟩, st⟩ := c
  simp only [apply]
  congr 1
  · congr 1
    · cases dg with
      | none => simp [putO]
      | some i => cases dh with
        | none => simp [putO]
        | some j => simp only [putO]; exact put_comm s i j vg vh fun e => h1 i rfl (by rw [e])
    · cases bg with
      | none => cases bh <;> rfl
      | some x => cases bh with
        | none => rfl
        | some y => exact putB_comm b x.1 y.1 x.2 y.2 (h2 x y rfl rfl)
  · simp only at h3
    rcases h3 with rfl | rfl
    · simp
    · simp

def Opd.slot : Opd → Option Nat
  | .t n => some n
  | _ => none
def Gi.slots (g : Gi) : List Nat := g.io.opds.filterMap Opd.slot ++ (match g.g with | some (j, _) => [j] | none => [])

def notIn (d : Option Nat) (l : List Nat) : Bool :=
  match d with
  | some d => !l.contains d
  | none => true
def apartO (x y : Option Nat) : Bool :=
  match x, y with
  | some x, some y => x != y
  | _, _ => true

def indep (g h : Gi) : Bool :=
  notIn g.io.dst h.slots && (notIn h.io.dst g.slots && (apartO g.io.dst h.io.dst &&
  (apartO g.io.wbox h.io.wbox && (apartO g.io.wbox h.io.rbox && (apartO h.io.wbox g.io.rbox &&
  (!(g.io.hk == 2 && h.io.hk != 0) && !(h.io.hk == 2 && g.io.hk != 0)))))))

def effOf (T : Nat → Option IFunc) (go : GoF) (c : Cfg) (g : Gi) : Option Eff :=
  if g.wanted c.1.s then actO T go (Opd.ev c.1.s) (getB c.1.b) c.2 g.io else some (.undef, none, none)

theorem step_eff (T : Nat → Option IFunc) (go : GoF) (c : Cfg) (g : Gi) : step T go c g = (effOf T go c g).map (apply c g.io.dst) := by
  unfold step effOf; split <;> rfl

theorem eff_writes {T : Nat → Option IFunc} {go : GoF} {c : Cfg} {g : Gi} {e : Eff} (h : effOf T go c g = some e) : (∀ x, e.2.1 = some x → g.io.wbox = some x.1) ∧ (g.io.hk ≠ 2 → e.2.2 = none) := by
  unfold effOf at h
  split at h
  · exact act_writes h
  · simp only [Option.some.injEq] at h; subst h; exact ⟨fun x hx => by simp at hx, fun _ => rfl⟩

theorem eff_congr {T : Nat → Option IFunc} {go : GoF} {c c' : Cfg} {g : Gi} (h1 : ∀ n ∈ g.slots, get c.1.s n = get c'.1.s n) (h2 : ∀ b, g.io.rbox = some b → getB c.1.b b = getB c'.1.b b) (h3 : g.io.hk = 0 ∨ c.2 = c'.2) :
    effOf T go c g = effOf T go c' g := by
  unfold effOf
  have hw : g.wanted c.1.s = g.wanted c'.1.s := by
    unfold Gi.wanted
    cases hg : g.g with
    | none => rfl
    | some x => obtain ⟨j, want⟩ := x; simp only; rw [h1 j (by simp [Gi.slots, hg])]
  rw [hw]
  split
  · refine act_congr g.io (fun x hx => ?_) h2 h3
    cases x with
    | t n => exact h1 n (List.mem_append_left _ (List.mem_filterMap.2 ⟨.t n, hx, rfl⟩))
    | c d => rfl
    | f n => rfl
  · rfl

theorem eff_after {T : Nat → Option IFunc} {go : GoF} {c : Cfg} {g h : Gi} {e : Eff} (he : effOf T go c h = some e) (hi : indep g h = true) : effOf T go (apply c h.io.dst e) g = effOf T go c g := by
  simp only [indep, Bool.and_eq_true] at hi
  obtain ⟨i1, i2, i3, i4, i5, i6, i7, i8⟩ := hi
  obtain ⟨w1, w2⟩ := eff_writes he
  refine eff_congr (fun n hn => ?_) (fun b hb => ?_) ?_
  · simp only [apply]
    cases hd : h.io.dst with
    | none => rfl
    | some d =>
      simp only [putO, get_put]
      rw [hd] at i2
      simp only [notIn, Bool.not_eq_true', List.contains_eq_mem, decide_eq_false_iff_not] at i2
      rw [if_neg]
      intro q; subst q; exact i2 hn
  · simp only [apply]
    cases hx : e.2.1 with
    | none => rfl
    | some x =>
      simp only [getB_putB]
      have := w1 x hx
      rw [this, hb] at i6
      simp only [apartO, bne_iff_ne, ne_eq] at i6
      rw [if_neg (fun q => i6 q.symm)]
  · by_cases hk : g.io.hk = 0
    · exact .inl hk
    · right
      have : h.io.hk ≠ 2 := by
        intro q
        simp [q, hk] at i8
      simp [apply, w2 this]

theorem indep_symm {g h : Gi} (hi : indep g h = true) : indep h g = true := by
  simp only [indep, Bool.and_eq_true] at hi ⊢
  obtain ⟨i1, i2, i3, i4, i5, i6, i7, i8⟩ := hi
  have sw : ∀ x y, apartO x y = true → apartO y x = true := by
    intro x y h; cases x <;> cases y <;> simp_all [apartO]; exact fun e => h e.symm
  exact ⟨i2, i1, sw _ _ i3, sw _ _ i4, i6, i5, i8, i7⟩

theorem step_comm {T : Nat → Option IFunc} {go : GoF} {c : Cfg} {g h : Gi} (hi : indep g h = true) : (step T go c g).bind (fun c' => step T go c' h) = (step T go c h).bind fun c' => step T go c' g := by
  simp only [step_eff]
  cases hg : effOf T go c g with
  | none =>
    cases hh : effOf T go c h with
    | none => rfl
    | some eh => simp only [Option.map_none, Option.bind_none, Option.map_some, Option.bind_some]; rw [eff_after hh hi, hg]; rfl
  | some eg =>
    cases hh : effOf T go c h with
    | none => simp only [Option.map_none, Option.bind_none, Option.map_some, Option.bind_some]; rw [eff_after hg (indep_symm hi), hh]; rfl
    | some eh =>
      simp only [Option.map_some, Option.bind_some]
      rw [eff_after hh hi, hg, eff_after hg (indep_symm hi), hh]
      simp only [Option.map_some]
      congr 1
      obtain ⟨g1, g2⟩ := eff_writes hg
      obtain ⟨h1, h2⟩ := eff_writes hh
      simp only [indep, Bool.and_eq_true] at hi
      obtain ⟨i1, i2, i3, i4, i5, i6, i7, i8⟩ := hi
      refine apply_comm c _ _ _ _ (fun d hd hd' => ?_) (fun x y hx hy e => ?_) ?_
      · rw [hd, hd'] at i3; simp [apartO] at i3
      · rw [g1 x hx, h1 y hy, e] at i4; simp [apartO] at i4
      · by_cases hk : g.io.hk = 2
        · right; refine h2 fun q => ?_; simp [hk, q] at i7
        · exact .inl (g2 hk)

theorem locU_comm {i j : Nat} {f g : Ob → Option Ob} {st : St} (p : Ob → Bool) (hf : ∀ o o', f o = some o' → p o = true ∧ p o' = true) (hg : ∀ o o', g o = some o' → p o = false ∧ p o' = false)
    (f0 : f (.cells true 0 0 0 true []) = none) (g0 : g (.cells true 0 0 0 true []) = none) : (locU i f st).bind (locU j g) = (locU j g st).bind (locU i f) := by
  have out : ∀ k, ¬ k < st.length → St.at st k = .cells true 0 0 0 true [] := fun k hk => by
    simp only [St.at, List.getD_eq_getElem?_getD, List.getElem?_eq_none (Nat.le_of_not_lt hk)]; rfl
  unfold locU
  cases hi : f (St.at st i) with
  | none =>
    cases hj : g (St.at st j) with
    | none => rfl
    | some oj =>
      simp only [Option.bind_none, Option.bind_some]
      have hl : j < st.length := by
        refine Classical.byContradiction fun q => ?_
        rw [out j q, g0] at hj; cases hj
      rw [at_set _ _ _ _ hl]
      by_cases e : i = j
      · subst e
        rw [if_pos rfl]
        cases hq : f oj with
        | none => rfl
        | some o' =>
          have k1 := (hf _ _ hq).1
          have k2 := (hg _ _ hj).2
          rw [k1] at k2; cases k2
      · rw [if_neg e, hi]; rfl
  | some oi =>
    have hli : i < st.length := by
      refine Classical.byContradiction fun q => ?_
      rw [out i q, f0] at hi; cases hi
    simp only [Option.bind_some]
    rw [at_set _ _ _ _ hli]
    cases hj : g (St.at st j) with
    | none =>
      simp only [Option.bind_none]
      by_cases e : j = i
      · subst e
        rw [if_pos rfl]
        cases hq : g oi with
        | none => rfl
        | some o' =>
          have k1 := (hg _ _ hq).1
          have k2 := (hf _ _ hi).2
          rw [k1] at k2; cases k2
      · rw [if_neg e, hj]; rfl
    | some oj =>
      have hlj : j < st.length := by
        refine Classical.byContradiction fun q => ?_
        rw [out j q, g0] at hj; cases hj
      have e : j ≠ i := by
        intro e; subst e
        have k1 := (hg _ _ hj).1
        have k2 := (hf _ _ hi).1
        rw [k1] at k2; cases k2
      simp only [Option.bind_some]
      rw [if_neg e, hj, at_set _ _ _ _ hlj, if_neg (fun q => e q.symm), hi]
      simp only [Option.bind_some]
      rw [List.set_comm _ _ (fun q => e q.symm)]

def Ob.boxed : Ob → Bool
  | .cells b _ _ _ _ _ => b
  | .map .. => true

theorem cellU_box {box : Bool} {ver sz idx off : Nat} {x : D} {o o' : Ob} (h : cellU box ver sz idx off x o = some o') : o.boxed = box ∧ o'.boxed = box := by
  cases o with
  | map => simp [cellU] at h
  | cells b sz' ver' mod fr elems =>
    simp only [cellU] at h
    obtain ⟨⟨rfl, _⟩, h⟩ := ite_some h
    obtain ⟨_, _, h⟩ := bind_some h
    obtain ⟨_, _, h⟩ := bind_some h
    obtain ⟨_, _, h⟩ := bind_some h
    cases h
    exact ⟨rfl, rfl⟩

/-- A store into a slice's element and one into a box may be exchanged, if neither hangs on the other's slots. -/
def crossed (g h : Gi) : Bool :=
  match g.io, h.io with
  | .storeX b .., .storeX b' .. => b != b'
  | _, _ => false

theorem storeX_comm {box box' : Bool} (hb : box ≠ box') {st : St} {p x p' x' : D} {n n' : Nat} :
    ((storeXD box st p x n).bind fun e => storeXD box' (e.2.2.getD st) p' x' n') = ((storeXD box' st p' x' n').bind fun e => storeXD box (e.2.2.getD st) p x n) := by
  unfold storeXD
  by_cases h1 : x.cells.length = n ∧ x.okv = true ∧ (box = true ∨ x.pure = true)
  · by_cases h2 : x'.cells.length = n' ∧ x'.okv = true ∧ (box' = true ∨ x'.pure = true)
    · simp only [if_pos h1, if_pos h2]
      split
      · rename_i id ver sz idx off
        split
        · rename_i id' ver' sz' idx' off'
          have key := locU_comm (i := id) (j := id') (f := cellU box ver sz idx off x) (g := cellU box' ver' sz' idx' off' x') (st := st) (fun o => o.boxed == box)
            (fun o o' h => by obtain ⟨k1, k2⟩ := cellU_box h; simp [k1, k2]) (fun o o' h => by obtain ⟨k1, k2⟩ := cellU_box h; simp [k1, k2]; exact fun e => hb e.symm) (by simp [cellU]) (by simp [cellU])
          cases h3 : locU id (cellU box ver sz idx off x) st with
          | none =>
            rw [h3] at key
            cases h4 : locU id' (cellU box' ver' sz' idx' off' x') st with
            | none => rfl
            | some s2 =>
              rw [h4] at key
              simp only [Option.bind_none, Option.bind_some, Option.getD_some] at key ⊢
              rw [← key]; rfl
          | some s1 =>
            rw [h3] at key
            cases h4 : locU id' (cellU box' ver' sz' idx' off' x') st with
            | none =>
              rw [h4] at key
              simp only [Option.bind_none, Option.bind_some, Option.getD_some] at key ⊢
              rw [key]; rfl
            | some s2 =>
              rw [h4] at key
              simp only [Option.bind_some, Option.getD_some] at key ⊢
              rw [key]
        · cases locU id (cellU box ver sz idx off x) st <;> rfl
      · split
        · rename_i id' ver' sz' idx' off'
          cases locU id' (cellU box' ver' sz' idx' off' x') st <;> rfl
        · rfl
    · simp only [if_neg h2, if_pos h1]
      split
      · cases locU _ (cellU box _ _ _ _ x) st <;> rfl
      · rfl
  · simp only [if_neg h1]
    by_cases h2 : x'.cells.length = n' ∧ x'.okv = true ∧ (box' = true ∨ x'.pure = true)
    · simp only [if_pos h2]
      split
      · cases locU _ (cellU box' _ _ _ _ x') st <;> rfl
      · rfl
    · simp only [if_neg h2]

def indepX (g h : Gi) : Bool := indep g h || crossed g h

theorem storeXD_shape {box : Bool} {st : St} {p x : D} {n : Nat} {e : Eff} (h : storeXD box st p x n = some e) : ∃ s, e = (.undef, none, some s) := by
  unfold storeXD at h
  obtain ⟨_, h⟩ := ite_some h
  split at h
  · obtain ⟨s, _, h⟩ := bind_some h
    cases h; exact ⟨s, rfl⟩
  · cases h

theorem step_commX {T : Nat → Option IFunc} {go : GoF} {c : Cfg} {g h : Gi} (hi : indepX g h = true) : (step T go c g).bind (fun c' => step T go c' h) = (step T go c h).bind fun c' => step T go c' g := by
  unfold indepX at hi
  rw [Bool.or_eq_true] at hi
  rcases hi with hi | hi
  · exact step_comm hi
  · obtain ⟨gg, gio⟩ := g
    obtain ⟨hg, hio⟩ := h
    unfold crossed at hi
    split at hi
    · rename_i b p x n b' p' x' n' e1 e2
      simp only at e1 e2
      subst e1 e2
      have hb : b ≠ b' := by simpa using hi
      have hs : ∀ s, apply c none (.undef, none, some s) = (c.1, s) := fun s => rfl
      have hn : apply c none (.undef, none, none) = c := rfl
      have key := storeX_comm hb (st := c.2) (p := p.ev c.1.s) (x := x.ev c.1.s) (p' := p'.ev c.1.s) (x' := x'.ev c.1.s) (n := n) (n' := n')
      unfold step
      simp only [actO, Io.dst]
      by_cases w1 : (Gi.mk gg (.storeX b p x n)).wanted c.1.s = true
      · by_cases w2 : (Gi.mk hg (.storeX b' p' x' n')).wanted c.1.s = true
        · rw [if_pos w1, if_pos w2]
          cases h3 : storeXD b c.2 (p.ev c.1.s) (x.ev c.1.s) n with
          | none =>
            rw [h3] at key
            cases h4 : storeXD b' c.2 (p'.ev c.1.s) (x'.ev c.1.s) n' with
            | none => rfl
            | some e =>
              obtain ⟨s, rfl⟩ := storeXD_shape h4
              rw [h4] at key
              simp only [Option.bind_none, Option.bind_some, Option.getD_some, Option.map_none, Option.map_some, hs] at key ⊢
              have w1' : (Gi.mk gg (.storeX b p x n)).wanted c.1.s = true := w1
              rw [if_pos w1', ← key]; rfl
          | some e =>
            obtain ⟨s, rfl⟩ := storeXD_shape h3
            rw [h3] at key
            cases h4 : storeXD b' c.2 (p'.ev c.1.s) (x'.ev c.1.s) n' with
            | none =>
              rw [h4] at key
              simp only [Option.bind_none, Option.bind_some, Option.getD_some, Option.map_none, Option.map_some, hs] at key ⊢
              rw [if_pos w2, key]; rfl
            | some e2 =>
              obtain ⟨s2, rfl⟩ := storeXD_shape h4
              rw [h4] at key
              simp only [Option.bind_some, Option.getD_some, Option.map_some, hs] at key ⊢
              rw [if_pos w2, if_pos w1, key]
              cases h5 : storeXD b s2 (p.ev c.1.s) (x.ev c.1.s) n with
              | none => rfl
              | some e5 => obtain ⟨s5, rfl⟩ := storeXD_shape h5; rfl
        · rw [if_pos w1, if_neg w2]
          cases h3 : storeXD b c.2 (p.ev c.1.s) (x.ev c.1.s) n with
          | none => simp only [Option.map_none, Option.bind_none, Option.bind_some, hn]; rw [if_pos w1, h3]; rfl
          | some e =>
            obtain ⟨s, rfl⟩ := storeXD_shape h3
            simp only [Option.map_some, Option.bind_some, hs, hn]
            rw [if_neg w2, if_pos w1, h3]; rfl
      · by_cases w2 : (Gi.mk hg (.storeX b' p' x' n')).wanted c.1.s = true
        · rw [if_neg w1, if_pos w2]
          cases h4 : storeXD b' c.2 (p'.ev c.1.s) (x'.ev c.1.s) n' with
          | none => simp only [Option.map_none, Option.bind_none, Option.bind_some, hn]; rw [if_pos w2, h4]; rfl
          | some e =>
            obtain ⟨s, rfl⟩ := storeXD_shape h4
            simp only [Option.map_some, Option.bind_some, hs, hn]
            rw [if_neg w1, if_pos w2, h4]; rfl
        · rw [if_neg w1, if_neg w2]
          simp only [Option.bind_some, hn]
          rw [if_neg w1, if_neg w2]
    · cases hi

theorem runOps_append (T : Nat → Option IFunc) (go : GoF) : ∀ (l r : List Gi) (c : Cfg), runOps T go (l ++ r) c = (runOps T go l c).bind (runOps T go r)
  | [], r, c => rfl
  | g :: l, r, c => by
    simp only [List.cons_append, runOps]
    cases step T go c g with
    | none => rfl
    | some c' => simp only [Option.bind_some]; exact runOps_append T go l r c'

/-- What all ahead of it may be exchanged with can come first. -/
theorem runOps_first {T : Nat → Option IFunc} {go : GoF} {g : Gi} : ∀ (l r : List Gi) (c : Cfg), (∀ h ∈ l, indepX h g = true) → runOps T go (l ++ g :: r) c = runOps T go (g :: (l ++ r)) c
  | [], r, c, _ => rfl
  | h :: l, r, c, hi => by
    have ih := fun c' => runOps_first (T := T) (go := go) (g := g) l r c' fun x hx => hi x (List.mem_cons_of_mem _ hx)
    simp only [List.cons_append, runOps]
    have e : (step T go c h).bind (runOps T go (l ++ g :: r)) = (step T go c h).bind fun c' => (step T go c' g).bind (runOps T go (l ++ r)) := by
      congr 1; funext c'; rw [ih c']; rfl
    rw [e, ← Option.bind_assoc, step_commX (hi h (by simp)), Option.bind_assoc]

end Go.Nt
