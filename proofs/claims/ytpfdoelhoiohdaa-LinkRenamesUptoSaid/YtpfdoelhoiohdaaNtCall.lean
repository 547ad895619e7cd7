/-
  CALLS: what is asked of a called function, and the simulation of the operations that call.
  No condition: definitions and lemmas.
-/
import Derived.Test.YtpfdoelhoiohdaaNtOps10
namespace Go.Nt

variable {P : Program} {X : Cx} {c : Cfg} {bl : Bl} {lb : Nat → Nat} {a : Act} {w : World}

/-- THE CONTRACT OF A CALL: from whatever stands alike, the model's call returns, what it returns stands for the result, and the world and the heap have gone on. -/
def CallOK (P : Program) (f : Nat) (args : List D) (st : St) (r : D) (st' : St) : Prop :=
  ∀ (w : World) (L : Nat → Prop) (bl : Bl) (vs : Array Value), HRel w L st bl → (∀ b, L b → b < w.heap.size) → vs.size = args.length → (∀ (i : Nat) (v : Value) (d : D), vs[i]? = some v → args[i]? = some d → Rep w (NN L st bl) st bl v d) →
    Calls P f vs w fun e w' => ∃ v bl', e = .returned v ∧ HRel w' L st' bl' ∧ Rep w' (NN L st' bl') st' bl' v r ∧ Evo w st bl w' st' bl'

theorem pureArgs_ok (L : Nat → Prop) (bl : Bl) (hL : ∀ b, L b → b < w.heap.size) : ∀ (ds : List D) (st : St) (vs : Nat → Value) (ds' : List D) (st' : St), HRel w L st bl →
    (∀ (i : Nat) (d : D), ds[i]? = some d → Rep w (NN L st bl) st bl (vs i) d) → pureArgs st ds = some (ds', st') →
    Freed w L st bl st' ∧ ds'.length = ds.length ∧ ∀ (i : Nat) (d' : D), ds'[i]? = some d' → Rep w (NN L st' bl) st' bl (vs i) d' ∧ d'.pure = true
  | [], st, vs, ds', st', H, _, hf => by
    simp only [pureArgs, Option.some.injEq, Prod.mk.injEq] at hf
    obtain ⟨rfl, rfl⟩ := hf
    exact ⟨.refl H, rfl, fun i d' hd => by simp at hd⟩
  | d :: ds, st, vs, ds', st', H, hr, hf => by
    simp only [pureArgs] at hf
    cases h1 : fz1 st d with
    | none => simp [h1] at hf
    | some r =>
      obtain ⟨e, st1⟩ := r
      simp only [h1, Option.bind_some] at hf
      split at hf
      · rename_i hp
        cases h2 : pureArgs st1 ds with
        | none => simp [h2] at hf
        | some q =>
          obtain ⟨es, st2⟩ := q
          simp only [h2, Option.bind_some, Option.some.injEq, Prod.mk.injEq] at hf
          obtain ⟨rfl, rfl⟩ := hf
          obtain ⟨F1, r1, _⟩ := fz1_ok w L st bl (vs 0) d e st1 H hL (hr 0 d rfl) h1
          obtain ⟨F2, hl, k⟩ := pureArgs_ok L bl hL ds st1 (fun i => vs (i + 1)) es st2 F1.heap (fun i d hd => F1.rep (hr (i + 1) d hd)) h2
          refine ⟨F1.trans F2, by simp [hl], fun i d' hd' => ?_⟩
          cases i with
          | zero => simp at hd'; subst hd'; exact ⟨F2.rep r1, hp⟩
          | succ i => exact k i d' (by simpa using hd')
      · simp at hf

theorem HRel.nil (w : World) (L : Nat → Prop) (bl : Bl) : HRel w L [] bl := ⟨fun i j h => by simp at h, fun i h => by simp at h, fun i h => by simp at h⟩
theorem NN_nil {L : Nat → Prop} {bl : Bl} {b : Nat} : NN L [] bl b ↔ L b := by
  constructor
  · rintro (h | ⟨id, h, _⟩)
    · exact h
    · simp at h
  · exact .inl

/-- A call in an empty heap, of free arguments: nothing that was there turns. -/
theorem pure_call {L : Nat → Prop} {st : St} {f : Nat} {ds : List D} {r q : D} {st2 st3 : St} {vs : Array Value} (hgo : CallOK P f ds [] r st2) (hf : fz st2 r = some (q, st3)) (hq : q.pureT = true)
    (H : HRel w L st bl) (hL : ∀ b, L b → b < w.heap.size) (hl : vs.size = ds.length) (hr : ∀ (i : Nat) (v : Value) (d : D), vs[i]? = some v → ds[i]? = some d → Rep w (NN L st bl) st bl v d ∧ d.pure = true) :
    Calls P f vs w fun e w' => ∃ v, e = .returned v ∧ w'.os = w.os ∧ w'.tape = w.tape ∧ w'.output = w.output ∧ w.heap.size ≤ w'.heap.size ∧ (∀ k, k < w.heap.size → w'.heap[k]? = w.heap[k]?) ∧ Rep w' (NN L st bl) st bl v q := by
  have hL' : ∀ b, NN L st bl b → b < w.heap.size := by
    rintro b (h | ⟨id, h, _, rfl⟩)
    · exact hL b h
    · exact H.lt h
  refine Calls.mono (hgo w (NN L st bl) bl vs (HRel.nil _ _ _) hL' hl fun i v d hv hd => ?_) ?_
  · obtain ⟨h1, h2⟩ := hr i v d hv hd
    exact h1.free (fun b hb _ => ⟨rfl, fun g => hb (NN_nil.1 g)⟩) (Nat.le_refl _) (D.pT h2)
  · rintro e w' ⟨v, bl2, rfl, H2, R2, E⟩
    obtain ⟨F, R3, _⟩ := fz_ok w' _ st2 bl2 v r q st3 H2 (fun b hb => Nat.lt_of_lt_of_le (hL' b hb) E.size) R2 hf
    refine ⟨v, rfl, E.os, E.tape, E.output, E.size, fun k hk => E.same k hk (by rintro ⟨id, h, _⟩; simp at h), ?_⟩
    exact R3.free (fun b hb _ => ⟨rfl, fun g => hb (.inl g)⟩) (Nat.le_refl _) hq

theorem agree_at : ∀ {st st' : St}, agree st st' = true → ∀ i, i < st.length → (St.at st' i).mod = (St.at st i).mod
  | [], _, _, i, h => by simp at h
  | _ :: _, [], h, _, _ => by simp [agree] at h
  | o :: os, o' :: os', h, i, hi => by
    simp only [agree, Bool.and_eq_true, beq_iff_eq] at h
    cases i with
    | zero => exact h.1.symm
    | succ i => exact agree_at h.2 i (by simpa using hi)

theorem settled_at : ∀ {st st' : St}, settled st st' = true → ∀ i, i < st.length → (St.at st' i).mod = (St.at st i).mod ∨ (St.at st' i).pureO = true
  | [], _, _, i, h => by simp at h
  | _ :: _, [], h, _, _ => by simp [settled] at h
  | o :: os, o' :: os', h, i, hi => by
    simp only [settled, Bool.and_eq_true, Bool.or_eq_true, beq_iff_eq] at h
    cases i with
    | zero => exact h.1.elim (fun e => .inl e.symm) .inr
    | succ i => exact settled_at h.2 i (by simpa using hi)

theorem at_take {st : St} {n i : Nat} (hi : i < n) : St.at (st.take n) i = St.at st i := by
  simp only [St.at, List.getD_eq_getElem?_getD, List.getElem?_take, if_pos hi]

/-- What does not lead into the heap stands under any part of it. -/
theorem ObRel.free {N N' : Nat → Prop} {st st' : St} {bl' : Bl} {b : Nat} {o : Ob} (hN : ∀ b, ¬ N b → ¬ N' b) (hp : o.pureO = true) (h : ObRel w N st bl b o) : ObRel w N' st' bl' b o := by
  cases o with
  | cells box sz ver m fr elems =>
    obtain ⟨cs, e, lo, hi, h1, h2, h3, h4⟩ := h
    refine ⟨cs, e, lo, hi, h1, h2, h3, fun i d hd => ?_⟩
    obtain ⟨k1, k2, k3, k4⟩ := h4 i d hd
    refine ⟨k1, k2, k3, fun j x hx => ?_⟩
    obtain ⟨q1, v, q2, q3⟩ := k4 j x hx
    refine ⟨q1, v, q2, q3.free (fun b hb _ => ⟨rfl, hN b hb⟩) (Nat.le_refl _) ?_⟩
    have hdp : d.pure = true := all_get (show elems.all D.pure = true from hp) hd
    by_cases hg : ∃ cs, d = .agg cs
    · obtain ⟨ds, rfl⟩ := hg
      exact D.pT (D.p1 (all_get (show ds.all D.pure1 = true from hdp) hx))
    · have : d.cells = [d] := by cases d <;> first | rfl | exact absurd ⟨_, rfl⟩ hg
      rw [this] at hx
      cases j with
      | zero => simp at hx; subst hx; exact D.pT hdp
      | succ j => simp at hx
  | map m ents =>
    obtain ⟨es, clock, h1, h2, h3⟩ := h
    refine ⟨es, clock, h1, h2, fun i e x he hx => ?_⟩
    obtain ⟨k1, k2, k3⟩ := h3 i e x he hx
    have := all_get (show (ents.all fun x => x.1.pure && x.2.pure) = true from hp) hx
    simp only [Bool.and_eq_true] at this
    exact ⟨k1.free (fun b hb _ => ⟨rfl, hN b hb⟩) (Nat.le_refl _) (D.pT this.1), k2.free (fun b hb _ => ⟨rfl, hN b hb⟩) (Nat.le_refl _) (D.pT this.2), k3⟩

/-- The newer objects cut off. -/
theorem cut_ok {L : Nat → Prop} {st st3 : St} {bl3 : Bl} {w' : World} (H : HRel w L st bl) (H3 : HRel w' L st3 bl3) (E : Evo w st bl w' st3 bl3) (hs : settled st st3 = true) :
    Evo w st bl w' (st3.take st.length) bl3 ∧ HRel w' L (st3.take st.length) bl3 ∧ ∀ b, NN L (st3.take st.length) bl3 b → NN L st3 bl3 b := by
  have hlen := E.len
  have hl : (st3.take st.length).length = st.length := by rw [List.length_take]; omega
  have hlive : ∀ b, LiveB (st3.take st.length) bl3 b → LiveB st3 bl3 b := by
    rintro b ⟨id, h1, h2, h3⟩
    rw [hl] at h1
    rw [at_take h1] at h2
    exact ⟨id, by omega, h2, h3⟩
  have E4 : Evo w st bl w' (st3.take st.length) bl3 := by
    refine ⟨E.os, E.tape, E.output, E.size, E.same, fun b hb => E.live b (hlive b hb), by omega, fun id hid => ?_, fun id hid => ?_, fun id hid => ?_⟩
    · rw [at_take hid]; exact E.ver id hid
    · rw [at_take hid]; exact E.map id hid
    · rw [at_take hid]; exact E.mod id hid
  have hN : ∀ b, NN L (st3.take st.length) bl3 b → NN L st3 bl3 b := fun b hb => hb.elim .inl fun h => .inr (hlive b h)
  refine ⟨E4, ⟨fun i j hi hj h => ?_, fun i hi => ?_, fun i hi => ?_⟩, hN⟩
  · rw [hl] at hi hj; exact H3.inj i j (by omega) (by omega) h
  · rw [hl] at hi; exact H3.out i (by omega)
  · rw [hl] at hi
    rw [at_take hi]
    rcases settled_at hs i hi with h | h
    · obtain ⟨k1, k2, k3⟩ := (E.mod i hi).2 h
      rw [k1, k2]
      exact (H.obj i hi).ext (E4.ext (L := L)) E.size k3
    · exact (H3.obj i (by omega)).free (fun b hb g => hb (hN b g)) h

theorem wp_ent {o : Oper} {f : Nat} {vs : Array Value} {K : Act → World → Prop} {Q : Exit → Act → World → Prop} (h : (execOp a.eval o).run P w = .ok (.enter f vs) w) (hc : Calls P f vs w fun e w' => ∃ v, e = .returned v ∧ K (a.put o.dst v) w') : o.wp P a w K Q := by
  unfold Oper.wp; rw [h]
  refine Calls.mono hc ?_
  rintro e w' ⟨v, rfl, hk⟩
  exact hk

/-- What 'callD' comes to, in the model. -/
theorem sim_callD (C : CR X c bl lb a w) {T : Nat → Option IFunc} {go : GoF} (hgo : ∀ f args st r st', go f args st = some (r, st') → (T f).isSome = true → CallOK P f args st r st') {o : Oper} {f : Nat} {vs : Array Value} {ds : List D} {r : D × St}
    (hrun : (execOp a.eval o).run P w = .ok (.enter f vs) w) (hdn : ∀ d, o.dst = some d → d < X.n) (hl : vs.size = ds.length) (hr : ∀ (i : Nat) (v : Value) (d : D), vs[i]? = some v → ds[i]? = some d → SR X c bl lb w v d)
    (hd : callD T go f ds c.2 = some r) {K : Act → World → Prop} {Q : Exit → Act → World → Prop} (hK : ∀ a' w', RelC X (apply c o.dst (r.1, none, some r.2)) a' w' → K a' w') : o.wp P a w K Q := by
  refine wp_ent hrun ?_
  unfold callD at hd
  cases hT : T f with
  | none => simp [hT] at hd
  | some fn =>
    simp only [hT] at hd
    have hsome : (T f).isSome = true := by rw [hT]; rfl
    split at hd
    · cases hpa : pureArgs c.2 ds with
      | none => simp [hpa] at hd
      | some as =>
        obtain ⟨as, st1⟩ := as
        simp only [hpa, Option.bind_some] at hd
        cases hg : go f as [] with
        | none => simp [hg] at hd
        | some r2 =>
          obtain ⟨r2, st2⟩ := r2
          simp only [hg, Option.bind_some] at hd
          cases hz : fz st2 r2 with
          | none => simp [hz] at hd
          | some q =>
            obtain ⟨q, st3⟩ := q
            simp only [hz, Option.bind_some] at hd
            split at hd
            · rename_i hq
              simp only [Option.some.injEq] at hd
              subst hd
              have noLp : ∀ (i : Nat) (d : D), ds[i]? = some d → ∀ b g off, d ≠ .lp b g off := by
                have : ∀ (ds : List D) (st : St) (as : List D) (st1 : St), pureArgs st ds = some (as, st1) → ∀ (i : Nat) (d : D), ds[i]? = some d → ∀ b g off, d ≠ .lp b g off := by
                  intro ds
                  induction ds with
                  | nil => intro _ _ _ _ i d h; simp at h
                  | cons x ds ih =>
                    intro st as st1 hp i d hd b g off e
                    simp only [pureArgs] at hp
                    cases h1 : fz1 st x with
                    | none => simp [h1] at hp
                    | some r =>
                      simp only [h1, Option.bind_some] at hp
                      cases i with
                      | zero => simp at hd; subst hd; subst e; simp [fz1, fz0] at h1
                      | succ i =>
                        split at hp
                        · cases h2 : pureArgs r.2 ds with
                          | none => simp [h2] at hp
                          | some q => exact ih r.2 q.1 q.2 (by rw [h2]) i d (by simpa using hd) b g off e
                        · simp at hp
                exact this ds c.2 as st1 hpa
              obtain ⟨F, hal, har⟩ := pureArgs_ok (X.LL c.1.b lb) bl C.bound ds c.2 (fun i => vs.getD i undef) as st1 C.heap (fun i d hd => by
                have hi : i < vs.size := by rw [hl]; exact (List.getElem?_eq_some_iff.1 hd).1
                have := (hr i vs[i] d (by simp [hi]) hd).rep (noLp i d hd)
                simpa [Array.getD_eq_getD_getElem?, hi] using this) hpa
              refine Calls.mono (pure_call (hgo _ _ _ _ _ hg hsome) hz hq F.heap C.bound (by omega) fun i v d hv hd => ?_) ?_
              · have := har i d hd
                simpa [Array.getD_eq_getD_getElem?, hv] using this
              · rintro e w' ⟨v, rfl, e1, e2, e3, e4, e5, e6⟩
                refine ⟨v, rfl, hK _ _ ?_⟩
                have C1 := (C.go F.evo F.heap).grown e1 e2 e3 e4 e5
                rw [apply_heap]
                exact ⟨bl, lb, C1.put hdn fun _ => Rep.slot _ _ e6⟩
            · simp at hd
    · split at hd
      · rename_i hok
        cases hg : go f ds c.2 with
        | none => simp [hg] at hd
        | some r2 =>
          obtain ⟨r2, st2⟩ := r2
          simp only [hg, Option.bind_some] at hd
          cases hz : fz st2 r2 with
          | none => simp [hz] at hd
          | some q =>
            obtain ⟨q, st3⟩ := q
            simp only [hz, Option.bind_some] at hd
            split at hd
            · rename_i hq
              simp only [Bool.and_eq_true] at hq
              simp only [Option.some.injEq] at hd
              subst hd
              refine Calls.mono (hgo _ _ _ _ _ hg hsome w (X.LL c.1.b lb) bl vs C.heap C.bound hl fun i v d hv hd => (hr i v d hv hd).okv (all_get hok hd)) ?_
              rintro e w' ⟨v, bl2, rfl, H2, R2, E⟩
              obtain ⟨F, R3, _⟩ := fz_ok w' _ st2 bl2 v r2 q st3 H2 (fun b hb => Nat.lt_of_lt_of_le (C.bound b hb) E.size) R2 hz
              have E3 := E.trans F.evo
              have hmod := agree_at hq.2
              have hsame : ∀ k, k < w.heap.size → w'.heap[k]? = w.heap[k]? := by
                intro k hk
                by_cases hlv : LiveB c.2 bl k
                · obtain ⟨id, hid, _, rfl⟩ := hlv
                  exact ((E3.mod id hid).2 (hmod id hid)).2.2
                · exact E3.same k hk hlv
              refine ⟨v, rfl, hK _ _ ?_⟩
              have C1 := C.grown E3.os E3.tape E3.output E3.size hsame
              rw [apply_heap]
              refine ⟨bl, lb, C1.put hdn fun _ => Rep.slot _ _ ?_⟩
              refine R3.free (fun b hb _ => ⟨rfl, fun g => hb ?_⟩) (Nat.le_refl _) hq.1
              rcases g with g | ⟨id, hid, hlv, rfl⟩
              · exact .inl g
              · obtain ⟨k1, k2, _⟩ := (E3.mod id hid).2 (hmod id hid)
                exact .inr ⟨id, Nat.lt_of_lt_of_le hid E3.len, by rw [k1]; exact hlv, k2⟩
            · simp at hd
      · simp at hd
    · split at hd
      · rename_i hok
        cases hg : go f ds c.2 with
        | none => simp [hg] at hd
        | some r2 =>
          obtain ⟨r2, st2⟩ := r2
          simp only [hg, Option.bind_some] at hd
          cases hz : fz st2 r2 with
          | none => simp [hz] at hd
          | some q =>
            obtain ⟨q, st3⟩ := q
            simp only [hz, Option.bind_some] at hd
            split at hd
            · rename_i hq
              simp only [Bool.and_eq_true] at hq
              simp only [Option.some.injEq] at hd
              subst hd
              refine Calls.mono (hgo _ _ _ _ _ hg hsome w (X.LL c.1.b lb) bl vs C.heap C.bound hl fun i v d hv hd => (hr i v d hv hd).okv (all_get hok hd)) ?_
              rintro e w' ⟨v, bl2, rfl, H2, R2, E⟩
              obtain ⟨F, R3, _⟩ := fz_ok w' _ st2 bl2 v r2 q st3 H2 (fun b hb => Nat.lt_of_lt_of_le (C.bound b hb) E.size) R2 hz
              obtain ⟨E4, H4, hN⟩ := cut_ok C.heap F.heap (E.trans F.evo) hq.2
              refine ⟨v, rfl, hK _ _ ?_⟩
              rw [apply_heap]
              exact ⟨bl2, lb, (C.go E4 H4).put hdn fun _ => Rep.slot _ _ (R3.free (fun b hb _ => ⟨rfl, fun g => hb (hN b g)⟩) (Nat.le_refl _) hq.1)⟩
            · simp at hd
      · simp at hd
    · split at hd
      · rename_i hok
        refine Calls.mono (hgo _ _ _ _ _ hd hsome w (X.LL c.1.b lb) bl vs C.heap C.bound hl fun i v d hv hd => (hr i v d hv hd).okv (all_get hok hd)) ?_
        rintro e w' ⟨v, bl2, rfl, H2, R2, E⟩
        refine ⟨v, rfl, hK _ _ ?_⟩
        rw [apply_heap]
        exact ⟨bl2, lb, (C.go E H2).put hdn fun _ => Rep.slot _ _ R2⟩
      · simp at hd

theorem sim_callQ (C : CR X c bl lb a w) {T : Nat → Option IFunc} {go : GoF} (hgo : ∀ f args st r st', go f args st = some (r, st') → (T f).isSome = true → CallOK P f args st r st') {o : Oper} {f : Nat} {vs : Array Value} {ds : List D} {r : D}
    (hrun : (execOp a.eval o).run P w = .ok (.enter f vs) w) (hdn : ∀ d, o.dst = some d → d < X.n) (hl : vs.size = ds.length) (hr : ∀ (i : Nat) (v : Value) (d : D), vs[i]? = some v → ds[i]? = some d → SR X c bl lb w v d)
    (hd : callQD T go f ds = some r) {K : Act → World → Prop} {Q : Exit → Act → World → Prop} (hK : ∀ a' w', RelC X (apply c o.dst (r, none, none)) a' w' → K a' w') : o.wp P a w K Q := by
  refine wp_ent hrun ?_
  unfold callQD at hd
  cases hT : T f with
  | none => simp [hT] at hd
  | some fn =>
    simp only [hT] at hd
    have hsome : (T f).isSome = true := by rw [hT]; rfl
    split at hd
    · split at hd
      · rename_i hok
        cases hg : go f ds [] with
        | none => simp [hg] at hd
        | some r2 =>
          obtain ⟨r2, st2⟩ := r2
          simp only [hg, Option.bind_some] at hd
          cases hz : fz st2 r2 with
          | none => simp [hz] at hd
          | some q =>
            obtain ⟨q, st3⟩ := q
            simp only [hz, Option.bind_some] at hd
            split at hd
            · rename_i hq
              simp only [Option.some.injEq] at hd
              subst hd
              refine Calls.mono (pure_call (hgo _ _ _ _ _ hg hsome) hz hq C.heap C.bound hl fun i v d hv hd => ?_) ?_
              · have hp := all_get hok hd
                exact ⟨(hr i v d hv hd).okv (pure_okv hp), hp⟩
              · rintro e w' ⟨v, rfl, e1, e2, e3, e4, e5, e6⟩
                refine ⟨v, rfl, hK _ _ ?_⟩
                exact ⟨bl, lb, (C.grown e1 e2 e3 e4 e5).put hdn fun _ => Rep.slot _ _ e6⟩
            · simp at hd
      · simp at hd
    · simp at hd

end Go.Nt
